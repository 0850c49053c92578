/- The table of words: what is counted and found (lists alone). -/
import Derived.Test.YtoliidlaahhcpaaWrow
namespace Go.Proofs.Ytoliidlaahhcpaa
open Go Go.RowKit
set_option linter.unusedVariables false

/-- How many of the first n rows stand in layers up to one. -/
def cntW (layer : Int) : Nat → Nat
  | 0 => 0
  | n + 1 => match tab[n]? with
    | some r => if r.2.1 ≤ layer then cntW layer n + 1 else cntW layer n
    | none => cntW layer n
/-- The number of the i-th of these among the first n rows. -/
def outW (layer i : Int) : Nat → Int
  | 0 => 0
  | n + 1 => match tab[n]? with
    | some r => if r.2.1 ≤ layer then (if i - (cntW layer n + 1 : Int) = 0 then (n : Int) + 1 else outW layer i n) else outW layer i n
    | none => outW layer i n

theorem cntW_le (layer : Int) : ∀ n, cntW layer n ≤ n
  | 0 => Nat.le_refl _
  | n + 1 => by
    have := cntW_le layer n
    unfold cntW
    split
    · split <;> omega
    · omega
/-- What Of tells. -/
theorem outW_spec (layer i : Int) : ∀ n, (i ≤ 0 ∨ (cntW layer n : Int) < i → outW layer i n = 0) ∧ (1 ≤ i → i ≤ cntW layer n → i ≤ outW layer i n ∧ outW layer i n ≤ n) ∧ (i = cntW layer n → 1 ≤ i → ∀ j r, j < n → tab[j]? = some r → r.2.1 ≤ layer → (j : Int) + 1 ≤ outW layer i n)
  | 0 => ⟨fun _ => rfl, fun h1 h2 => by simp [cntW] at h2; omega, fun h1 h2 => by simp [cntW] at h1; omega⟩
  | n + 1 => by
    obtain ⟨a1, a2, a3⟩ := outW_spec layer i n
    have hle := cntW_le layer n
    have ec : cntW layer (n + 1) = match tab[n]? with
      | some r => if r.2.1 ≤ layer then cntW layer n + 1 else cntW layer n
      | none => cntW layer n := rfl
    have eo : outW layer i (n + 1) = match tab[n]? with
      | some r => if r.2.1 ≤ layer then (if i - (cntW layer n + 1 : Int) = 0 then (n : Int) + 1 else outW layer i n) else outW layer i n
      | none => outW layer i n := rfl
    rw [ec, eo]
    cases ht : tab[n]? with
    | none =>
      dsimp only
      refine ⟨a1, fun h1 h2 => by have := a2 h1 h2; omega, fun h1 h2 j r hj hr hl => ?_⟩
      rcases Nat.lt_or_ge j n with h | h
      · exact a3 h1 h2 j r h hr hl
      · obtain rfl : j = n := by omega
        rw [ht] at hr; cases hr
    | some r0 =>
      by_cases hl0 : r0.2.1 ≤ layer
      · simp only [if_pos hl0]
        by_cases he : i - (cntW layer n + 1 : Int) = 0
        · simp only [if_pos he]
          refine ⟨fun h => by omega, fun h1 h2 => by omega, fun h1 h2 j r hj hr hl => by omega⟩
        · simp only [if_neg he]
          refine ⟨fun h => a1 (by omega), fun h1 h2 => by have := a2 h1 (by omega); omega, fun h1 h2 => by omega⟩
      · simp only [if_neg hl0]
        refine ⟨a1, fun h1 h2 => by have := a2 h1 h2; omega, fun h1 h2 j r hj hr hl => ?_⟩
        rcases Nat.lt_or_ge j n with h | h
        · exact a3 h1 h2 j r h hr hl
        · obtain rfl : j = n := by omega
          rw [ht] at hr; injection hr with hr; subst hr; exact absurd hl hl0

/-- A name with small letters. -/
def low (b : Int) : Int := if 65 ≤ b ∧ b ≤ 90 then b + 32 else b
def lowL (l : List Int) : List Int := l.map low
/-- What the map of names holds behind n rows. -/
def mapW : Nat → ByteArray → Option Value
  | 0 => fun _ => none
  | n + 1 => match tab[n]? with
    | some r => fun s => if s = strOfNums (lowL r.1) then some (.int .i64 ((n : Int) + 1)) else mapW n s
    | none => mapW n

def bytesB (l : List Int) : Bool := l.all fun x => decide (0 ≤ x) && decide (x ≤ 255)
theorem tab_bytes : tab.all (fun r => bytesB r.1 && bytesB (lowL r.1)) = true := by decide +kernel
theorem tab_nodup : (tab.map fun r => lowL r.1).Nodup := by decide +kernel
theorem tab_counts : tab.all (fun r => decide (0 ≤ r.2.2.2.1) && decide (0 ≤ r.2.2.2.2.1)) = true := by decide +kernel

theorem strW_inj {a b : List Int} (ha : bytesB a = true) (hb : bytesB b = true) (h : strOfNums a = strOfNums b) : a = b := by
  have h2 : a.map (fun n => UInt8.ofNat n.toNat) = b.map (fun n => UInt8.ofNat n.toNat) := by rw [← strOfNums_data, ← strOfNums_data, h]
  simp only [bytesB, List.all_eq_true, Bool.and_eq_true, decide_eq_true_eq] at ha hb
  apply List.ext_getElem?
  intro i
  have h3 := congrArg (fun l : List UInt8 => l[i]?) h2
  simp only [List.getElem?_map] at h3
  cases h4 : a[i]? with
  | none =>
    cases h5 : b[i]? with
    | none => rfl
    | some y => rw [h4, h5] at h3; cases h3
  | some x =>
    cases h5 : b[i]? with
    | none => rw [h4, h5] at h3; cases h3
    | some y =>
      rw [h4, h5] at h3
      simp only [Option.map_some, Option.some.injEq] at h3
      have h6 := congrArg UInt8.toNat h3
      have k1 := ha x (List.mem_of_getElem? h4)
      have k2 := hb y (List.mem_of_getElem? h5)
      simp only [UInt8.toNat_ofNat'] at h6
      rw [Nat.mod_eq_of_lt (by omega), Nat.mod_eq_of_lt (by omega)] at h6
      congr 1
      omega
/-- Each name leads back to its row. -/
theorem mapW_back {k : Nat} {r : WRow} (hr : tab[k]? = some r) : ∀ n, k < n → n ≤ 421 → mapW n (strOfNums (lowL r.1)) = some (.int .i64 ((k : Int) + 1))
  | 0, h, _ => by omega
  | n + 1, h, hn => by
    have hl : n < tab.length := by rw [tab_len]; omega
    have hrn := List.getElem?_eq_getElem hl
    have em : mapW (n + 1) = match tab[n]? with
      | some r => fun s => if s = strOfNums (lowL r.1) then some (.int .i64 ((n : Int) + 1)) else mapW n s
      | none => mapW n := rfl
    rw [em, hrn]
    dsimp only
    by_cases hkn : k = n
    · subst hkn
      rw [hrn] at hr
      injection hr with hr
      rw [hr, if_pos rfl]
    · rw [if_neg ?_]
      · exact mapW_back hr n (by omega) (by omega)
      · intro e
        have hb := tab_bytes
        simp only [List.all_eq_true, Bool.and_eq_true] at hb
        have e2 := strW_inj (hb r (List.mem_of_getElem? hr)).2 (hb _ (List.getElem_mem hl)).2 e
        have i1 : (tab.map fun r => lowL r.1)[k]? = some (lowL r.1) := by rw [List.getElem?_map, hr]; rfl
        have i2 : (tab.map fun r => lowL r.1)[n]? = some (lowL r.1) := by rw [List.getElem?_map, hrn, e2]; rfl
        have hk : k < (tab.map fun r => lowL r.1).length := (List.getElem?_eq_some_iff.1 i1).1
        exact hkn ((List.getElem?_inj hk tab_nodup).1 (i1.trans i2.symm))
end Go.Proofs.Ytoliidlaahhcpaa
