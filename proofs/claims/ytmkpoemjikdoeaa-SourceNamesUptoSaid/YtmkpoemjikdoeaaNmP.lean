/- SourceNames: the line that names make, and how names are read out of it (lists alone). -/
import Derived.Test.YtmkpoemjikdoeaaSrcPcs
namespace Go.Proofs.Ytmkpoemjikdoeaa
open Go Go.RowKit
set_option linter.unusedVariables false

/-- k blanks, spaces and tabs by turns. -/
def blankL (k : Nat) : List Int := (List.range k).map fun j => 9 * ((j % 2 : Nat) : Int) + 32 * (1 - ((j % 2 : Nat) : Int))
theorem blankL_succ (k : Nat) : blankL (k + 1) = blankL k ++ [9 * ((k % 2 : Nat) : Int) + 32 * (1 - ((k % 2 : Nat) : Int))] := by simp [blankL, List.range_succ]
theorem blankL_len (k : Nat) : (blankL k).length = k := by simp [blankL]
theorem blankL_le {k : Nat} {x : Int} (hx : x ∈ blankL k) : 0 ≤ x ∧ x ≤ 32 := by
  obtain ⟨j, _, rfl⟩ := List.mem_map.1 hx
  have : j % 2 < 2 := Nat.mod_lt _ (by omega)
  omega
/-- How many blanks stand ahead of the i-th name. -/
def cntB (bl : List Int) (i : Nat) : Nat := match bl[i]? with
  | some b => if b < 5 then b.toNat else 5
  | none => 0
theorem cntB_le (bl : List Int) (i : Nat) : cntB bl i ≤ 5 := by
  unfold cntB
  split
  · split <;> omega
  · omega
def segN (bl : List Int) (i : Nat) (nm : List Int) : List Int := 32 :: (blankL (cntB bl i) ++ nm)
/-- The line behind the first names. -/
def lineN (ns : List (List Int)) (bl : List Int) : Nat → List Int
  | 0 => []
  | i + 1 => lineN ns bl i ++ segN bl i (ns.getD i [])
theorem lineN_pre (ns : List (List Int)) (bl : List Int) (i : Nat) : ∀ d, ∃ rest, lineN ns bl (i + d) = lineN ns bl i ++ rest
  | 0 => ⟨[], by simp⟩
  | d + 1 => by
    obtain ⟨rest, h⟩ := lineN_pre ns bl i d
    refine ⟨rest ++ segN bl (i + d) (ns.getD (i + d) []), ?_⟩
    rw [← Nat.add_assoc, lineN, h, List.append_assoc]
theorem segN_len (bl : List Int) (i : Nat) (nm : List Int) : (segN bl i nm).length = 1 + cntB bl i + nm.length := by
  simp [segN, blankL_len]
  omega
/-- Where the reading of the i-th name begins. -/
def innN (ns : List (List Int)) (bl : List Int) (N : Nat) : Nat → Nat
  | 0 => 0
  | i + 1 => nextP (lineN ns bl N).length (lineN ns bl (i + 1)).length

/-- A name, read. -/
theorem read_name {pre bs nm rest : List Int} {k : Nat} {L : List Int} (hL : L = pre ++ (32 :: (bs ++ nm)) ++ rest) (hb : ∀ x ∈ bs, x ≤ 32) (hn : nm ≠ []) (hg : ∀ x ∈ nm, 32 < x) (hr : rest = [] ∨ ∃ r, rest = 32 :: r)
    (hk : k = 0 ∧ pre = [] ∨ k = pre.length + 1) : skipP 32 L k = pre.length + 1 + bs.length ∧ wordP 32 L k = pre.length + 1 + bs.length + nm.length := by
  have hat : ∀ j, L[pre.length + j]? = ((32 :: (bs ++ nm)) ++ rest)[j]? := fun j => by
    rw [hL, List.append_assoc, List.getElem?_append_right (by omega), Nat.add_sub_cancel_left]
  have hb2 : ∀ j, j < bs.length → ∃ x, L[pre.length + 1 + j]? = some x ∧ x ≤ 32 := fun j hj => by
    refine ⟨bs[j], ?_, hb _ (List.getElem_mem hj)⟩
    rw [Nat.add_assoc, hat, List.cons_append, Nat.add_comm 1 j, List.getElem?_cons_succ, List.append_assoc, List.getElem?_append_left hj, List.getElem?_eq_getElem hj]
  have hn2 : ∀ j, j < nm.length → ∃ x, L[pre.length + 1 + bs.length + j]? = some x ∧ 32 < x := fun j hj => by
    refine ⟨nm[j], ?_, hg _ (List.getElem_mem hj)⟩
    rw [show pre.length + 1 + bs.length + j = pre.length + (bs.length + j + 1) by omega, hat, List.cons_append, List.getElem?_cons_succ, List.append_assoc, List.getElem?_append_right (by omega), Nat.add_sub_cancel_left, List.getElem?_append_left hj, List.getElem?_eq_getElem hj]
  have h0 : L[pre.length]? = some 32 := by
    have := hat 0
    simpa using this
  have hnl : 0 < nm.length := List.length_pos_iff.2 hn
  have hlen : L.length = pre.length + 1 + bs.length + nm.length + rest.length := by rw [hL]; simp; omega
  have hs : skipP 32 L k = pre.length + 1 + bs.length := by
    obtain ⟨x, hx, hx2⟩ := hn2 0 hnl
    unfold skipP
    have := findP_hit (P := fun b => !isD 32 b) (L := L) (i := k) (k := pre.length + 1 + bs.length - k) (x := x) (fun j y hj hy => by
      have hle : y ≤ 32 := by
        rcases Nat.lt_or_ge (k + j) (pre.length + 1) with h | h
        · have e : k + j = pre.length := by
            rcases hk with ⟨rfl, rfl⟩ | rfl
            · simp at h ⊢; omega
            · omega
          rw [e, h0] at hy
          injection hy with hy
          omega
        · obtain ⟨z, hz, hz2⟩ := hb2 (k + j - (pre.length + 1)) (by omega)
          rw [show pre.length + 1 + (k + j - (pre.length + 1)) = k + j by omega, hy] at hz
          injection hz with hz
          omega
      unfold isD
      simp
      omega) (by rw [show k + (pre.length + 1 + bs.length - k) = pre.length + 1 + bs.length + 0 by rcases hk with ⟨rfl, rfl⟩ | rfl <;> omega]; exact hx) (by
      unfold isD
      simp
      omega)
    rw [this]
    rcases hk with ⟨rfl, rfl⟩ | rfl <;> omega
  refine ⟨hs, ?_⟩
  unfold wordP
  rw [hs]
  have hw : ∀ j y, j < nm.length → L[pre.length + 1 + bs.length + j]? = some y → isD 32 y = false := fun j y hj hy => by
    obtain ⟨z, hz, hz2⟩ := hn2 j hj
    rw [hy] at hz
    injection hz with hz
    unfold isD
    simp
    omega
  rcases hr with rfl | ⟨r, rfl⟩
  · rw [findP_miss (by simp at hlen; omega) (fun j y hy => hw j y (by have := (List.getElem?_eq_some_iff.1 hy).1; simp at hlen; omega) hy)]
    simp at hlen
    omega
  · refine findP_hit (x := 32) hw ?_ rfl
    rw [show pre.length + 1 + bs.length + nm.length = pre.length + (bs.length + nm.length + 1) by omega, hat, List.cons_append, List.getElem?_cons_succ, List.append_assoc, List.getElem?_append_right (by omega), Nat.add_sub_cancel_left, List.getElem?_append_right (by omega), Nat.sub_self]
    rfl

/-- The i-th name is read out of the line. -/
theorem line_name (ns : List (List Int)) (bl : List Int) (hg : ∀ nm ∈ ns, nm ≠ [] ∧ ∀ x ∈ nm, 32 < x) {i : Nat} {nm : List Int} (hi : ns[i]? = some nm) :
    ∃ s, skipP 32 (lineN ns bl ns.length) (innN ns bl ns.length i) = s ∧ wordP 32 (lineN ns bl ns.length) (innN ns bl ns.length i) = s + nm.length ∧ ((lineN ns bl ns.length).drop s).take nm.length = nm ∧ s + nm.length = (lineN ns bl (i + 1)).length ∧ s + nm.length ≤ (lineN ns bl ns.length).length := by
  have hil := (List.getElem?_eq_some_iff.1 hi).1
  have hd : ns.getD i [] = nm := by rw [List.getD_eq_getElem?_getD, hi]; rfl
  obtain ⟨rest, hrest⟩ := lineN_pre ns bl (i + 1) (ns.length - (i + 1))
  rw [show i + 1 + (ns.length - (i + 1)) = ns.length by omega] at hrest
  have hr : rest = [] ∨ ∃ r, rest = 32 :: r := by
    rcases Nat.lt_or_ge (i + 1) ns.length with h | h
    · obtain ⟨r2, hr2⟩ := lineN_pre ns bl (i + 2) (ns.length - (i + 2))
      rw [show i + 2 + (ns.length - (i + 2)) = ns.length by omega, lineN, List.append_assoc, hrest] at hr2
      have := List.append_cancel_left hr2
      exact .inr ⟨_, this.trans (by rw [segN, List.cons_append])⟩
    · rw [show ns.length = i + 1 by omega] at hrest
      have : lineN ns bl (i + 1) ++ [] = lineN ns bl (i + 1) ++ rest := by rw [List.append_nil]; exact hrest
      exact .inl (List.append_cancel_left this).symm
  have hL : lineN ns bl ns.length = lineN ns bl i ++ (32 :: (blankL (cntB bl i) ++ nm)) ++ rest := by
    rw [hrest, lineN, hd, segN]
  obtain ⟨hn1, hn2⟩ := hg nm (List.mem_of_getElem? hi)
  have hlen : (lineN ns bl ns.length).length = (lineN ns bl i).length + 1 + cntB bl i + nm.length + rest.length := by
    rw [hL]
    simp [blankL_len]
    omega
  have hnl : 0 < nm.length := List.length_pos_iff.2 hn1
  obtain ⟨h1, h2⟩ := read_name (k := innN ns bl ns.length i) hL (fun x hx => (blankL_le hx).2) hn1 hn2 hr (by
    cases i with
    | zero => exact .inl ⟨rfl, rfl⟩
    | succ i =>
      refine .inr ?_
      rw [innN]
      unfold nextP
      rw [if_pos (by omega)])
  rw [blankL_len] at h1 h2
  refine ⟨_, h1, h2, ?_, ?_, by omega⟩
  · rw [hL, List.append_assoc, show (lineN ns bl i).length + 1 + cntB bl i = (lineN ns bl i).length + (1 + cntB bl i) by omega, ← List.drop_drop, List.drop_left, List.cons_append, show 1 + cntB bl i = cntB bl i + 1 by omega, List.drop_succ_cons, List.append_assoc]
    have e : ∀ (l : List Int) (m : Nat), l.length = m → ((l ++ (nm ++ rest)).drop m).take nm.length = nm := fun l m h => by rw [← h, List.drop_left, List.take_left]
    exact e _ _ (blankL_len _)
  · rw [lineN, hd, List.length_append, segN_len]
    omega
end Go.Proofs.Ytmkpoemjikdoeaa
