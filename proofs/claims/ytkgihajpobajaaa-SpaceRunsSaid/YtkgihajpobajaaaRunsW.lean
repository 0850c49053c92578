/- SpaceRuns: the walk. -/
import Derived.Test.YtkgihajpobajaaaMovesW
import Derived.Test.YtkgihajpobajaaaUp
namespace Go.Proofs.Ytkgihajpobajaaa
open Go Go.RowKit

theorem cpy_get {fo to : Nat} {c : List Int} {i : Nat} (h : to + i < c.length) (j : Nat) : (cpy fo to c i)[j]? = if j = to + i then some (c.getD (fo + i) 0) else c[j]? := by
  unfold cpy
  rw [List.getElem?_set]
  by_cases e : to + i = j
  · subst e; simp [h]
  · rw [if_neg e, if_neg (fun x => e x.symm)]

theorem up_spread {c : List Int} {fo m : Nat} {x : Int} (h0 : c[fo]? = some x) (hm : fo + m < c.length) (k : Nat) (hk : k ≤ m) : ∀ i, i ≤ k → (cpys fo (fo + 1) c (List.range k))[fo + i]? = some x := by
  induction k with
  | zero => intro i hi; rw [show i = 0 by omega]; exact h0
  | succ k ih =>
    intro i hi
    rw [List.range_succ, cpys_snoc, cpy_get (by rw [cpys_length]; omega)]
    by_cases e : i = k + 1
    · rw [if_pos (by omega), List.getD_eq_getElem?_getD, ih (by omega) k (by omega)]
      rfl
    · rw [if_neg (by omega)]
      exact ih (by omega) i (by omega)

theorem down_shift {c : List Int} {fo m : Nat} (hm : fo + m < c.length) (k : Nat) (hk : k ≤ m) : ∀ j, (cpys fo (fo + 1) c ((List.range k).map fun i => m - 1 - i))[j]? = if fo + 1 + (m - k) ≤ j ∧ j < fo + 1 + m then c[j - 1]? else c[j]? := by
  induction k with
  | zero => intro j; rw [if_neg (by omega)]; rfl
  | succ k ih =>
    intro j
    rw [List.range_succ, List.map_append, List.map_cons, List.map_nil, cpys_snoc, cpy_get (by rw [cpys_length]; omega)]
    by_cases e : j = fo + 1 + (m - 1 - k)
    · rw [if_pos e, if_pos (by omega), List.getD_eq_getElem?_getD, ih (by omega) (fo + (m - 1 - k)), if_neg (by omega), show j - 1 = fo + (m - 1 - k) by omega]
      rw [List.getElem?_eq_getElem (by omega)]
      rfl
    · rw [if_neg e, ih (by omega) j]
      by_cases e2 : fo + 1 + (m - k) ≤ j ∧ j < fo + 1 + m
      · rw [if_pos e2, if_pos (by omega)]
      · rw [if_neg e2, if_neg (by omega)]

theorem runs_up {bs zs : List Int} {fo m : Nat} {x : Int} (hx : zs[0]? = some x) (hm : m < zs.length) (hl : fo + zs.length ≤ bs.length) :
    ((cpys fo (fo + 1) (poke bs fo zs) (List.range m)).drop fo).take (m + 1) = List.replicate (m + 1) x := by
  have hpl := poke_length bs fo zs hl
  have h0 : (poke bs fo zs)[fo]? = some x := by rw [poke_get hl, if_pos (by omega), Nat.sub_self, hx]
  apply List.ext_getElem?
  intro i
  rw [List.getElem?_take, List.getElem?_replicate]
  by_cases hi : i < m + 1
  · rw [if_pos hi, if_pos hi, List.getElem?_drop]
    exact up_spread h0 (by omega) m (Nat.le_refl _) i (by omega)
  · rw [if_neg hi, if_neg hi]

theorem runs_down {bs zs : List Int} {fo m : Nat} (hm : m < zs.length) (hl : fo + zs.length ≤ bs.length) :
    ((cpys fo (fo + 1) (poke bs fo zs) ((List.range m).map fun i => m - 1 - i)).drop (fo + 1)).take m = zs.take m := by
  have hpl := poke_length bs fo zs hl
  apply List.ext_getElem?
  intro i
  rw [List.getElem?_take, List.getElem?_take]
  by_cases hi : i < m
  · rw [if_pos hi, if_pos hi, List.getElem?_drop, down_shift (by omega) m (Nat.le_refl _), if_pos (by omega), show fo + 1 + i - 1 = fo + i by omega, poke_get hl, if_pos (by omega)]
    congr 1; omega
  · rw [if_neg hi, if_neg hi]

set_option maxRecDepth 100000 in
set_option maxHeartbeats 4000000 in
theorem runs_walk (sv : Value) (zs : List Int) (n : Int) (w : World) (hs : Row8 w w.heap.size sv zs) (_hn : i64 n) :
    Calls Try.prog 7 #[sv, .int .i64 n] w fun e w' => e = .returned (.bool true) ∧ Fr0 w w' := by
  have hs0 := hs
  have hzl := hs.len
  obtain ⟨A, cap, rfl, hcap, hcap2, hrest⟩ := hs
  obtain ⟨hcap2, _⟩ := hcap2
  by_cases hg : 1 ≤ zs.length ∧ zs.length ≤ 3000 ∧ 1 ≤ n ∧ n < zs.length
  · obtain ⟨g1, g2, g3, g4⟩ := hg
    obtain ⟨b, off, rfl, hbl, hbc⟩ := hrest.2 (by omega)
    clear hrest
    have g0 : ((zs.length : Int) == 0) = false := by simp only [beq_eq_false_iff_ne, ne_eq]; omega
    have hN := New_ok 8192 0 w (by unfold newOk; decide)
    rw [show (12288 + (8192 : Int) + 0).toNat = 20480 from rfl] at hN
    have HN := Lib.hid hN
    clear hN
    obtain ⟨m, rfl⟩ : ∃ m : Nat, n = (m : Int) := ⟨n.toNat, by omega⟩
    obtain ⟨x, hx⟩ : ∃ x, zs[0]? = some x := ⟨zs[0], List.getElem?_eq_getElem (by omega)⟩
    have hxb : 0 ≤ x ∧ x ≤ 255 := hs0.bytes x (List.mem_of_getElem? hx)
    have hb0 : w.cell? ⟨b, off, none⟩ = some (.int .u8 x) := by have := hbc 0 x hx; simpa using this
    have HX := Lib.hid hx
    clear hx hbc
    have hP := fun W bs (hl : List.length bs = 20480) (hW : Sp W (w.heap.size + 1) w.heap.size bs 8192 77824) (hf : Fr0 w W) => Put_any 77824 _ zs W hW ⟨by omega, by omega⟩ _ (hs0.below hf.below0) hf.size
    have eT : ∀ bs : List Int, bs.length = 20480 → putT bs.length 77824 zs.length = 0 := fun bs hl => putT_far (by omega) (by rw [hl]; omega)
    have eB : ∀ bs : List Int, bs.length = 20480 → bothT bs.length 77824 77825 m = 0 := fun bs hl => by
      unfold bothT
      rw [reachT_far (n := (m : Int)) (by omega) (by omega) (by rw [hl]; omega), if_pos rfl]
      exact putT_far (m := m) (by omega) (by rw [hl]; omega)
    have ef : (77824 - 65536 : Int).toNat = 12288 := rfl
    have et : (77825 - 65536 : Int).toNat = 12289 := rfl
    have HeT := Lib.hid eT
    have HeB := Lib.hid eB
    clear eT eB
    go_enter Try.func7, Try.ntmps7
    go_wp2_with (go_at_call 10; refine HN.out.mono ?_; rintro e w1 ⟨rfl, hf1, hs1, h1⟩)
    have hz1 := hf1.size
    -- the first row, spread upwards
    have hl1 : (noughts 20480).length = 20480 := noughts_length _
    have hP1 := hP w1 _ hl1 h1 hf1
    rw [HeT.out _ hl1, if_pos rfl, ef] at hP1
    have HP1 := Lib.hid hP1
    clear hP1
    refine HP1.out.mono ?_
    rintro e w2 ⟨rfl, hf2, h2⟩
    have hl2 : (poke (noughts 20480) 12288 zs).length = 20480 := by rw [poke_length _ _ _ (by rw [noughts_length]; omega), noughts_length]
    have hU := Up_any 77824 77825 m w2 h2 ⟨by omega, by omega⟩ ⟨by omega, by omega⟩ ⟨by omega, by omega⟩
    unfold upB at hU
    rw [HeB.out _ hl2, if_pos rfl, ef, et, Int.toNat_natCast] at hU
    have HU := Lib.hid hU
    clear hU
    go_wp2_with fail
    refine HU.out.mono ?_
    rintro e w3 ⟨rfl, hf3, h3⟩
    have hl3 : (cpys 12288 12289 (poke (noughts 20480) 12288 zs) (List.range m)).length = 20480 := (cpys_length _ _ _ _).trans hl2
    have hC := Bytes_any 77824 (m + 1) w3 h3 ⟨by omega, by omega⟩ ⟨by omega, by omega⟩
    have eR : reachT (cpys 12288 12289 (poke (noughts 20480) 12288 zs) (List.range m)).length 77824 (m + 1) 0 = 0 := reachT_far (by omega) (by omega) (by rw [hl3]; omega)
    rw [eR] at hC
    unfold bytesV at hC
    rw [if_pos eR, ef, show ((m : Int) + 1).toNat = m + 1 by omega, runs_up HX.out (by omega) (by rw [noughts_length]; omega)] at hC
    have HC := Lib.hid hC
    clear hC eR
    have hf03 : Fr0 w w3 := (hf1.then hf2 (fun k hk e => by omega)).then hf3 (fun k hk e => by omega)
    have hm3 : m ≤ 3000 := by omega
    clear hP
    go_wp2_with fail
    refine HC.out.mono ?_
    rintro e w4 ⟨_, rfl, u, rfl, ho, hf4⟩
    obtain ⟨gu, cu, rfl, hgu, hgl, hcu, hcm⟩ := ho.form (by simp)
    simp only [List.length_replicate] at hcu ho ⊢
    have h4 := h3.fr0 hf4
    go_wp2_with fail
    go_loopw [9] (fun i wr => ∃ k : Nat, k ≤ m + 1 ∧ i = .int .i64 k ∧ ∃ q, wr = w4.drewN q) (fun i _ => m + 1 - (intOf i).toNat)
    case atStart => exact ⟨0, by omega, rfl, 0, rfl⟩
    case round =>
      obtain ⟨k, hk, rfl, q, rfl⟩ := hrel
      by_cases hlt : k < m + 1
      · have hc : w4.cell? ⟨gu, k, none⟩ = some (.int .u8 x) := by rw [Own8.cell ho (by simp) (j := k) (by simpa using hlt)]; simp
        have hc0 : w4.cell? ⟨b, off, none⟩ = some (.int .u8 x) := ((hf03.trans hf4).cell (p := ⟨b, off, none⟩) hbl (fun x => x)).trans hb0
        have hk1 : (0 : Int) ≤ (k : Int) := by omega
        have hk2 : (k : Int) < ((m + 1 : Nat) : Int) := by omega
        have hx0 : (x != x) = false := by simp
        go_wp2_with fail
        go_quiet (fail)
        go_wp2
        go_roundw
        case rel => exact ⟨k + 1, by omega, by go_num, _, rfl⟩
        case measure => simp [intOf]; omega
      · obtain rfl : k = m + 1 := by omega
        have hfq : Fr0 w (w4.drewN q) := (hf03.trans hf4).drewN q
        have hq4 : Sp (w4.drewN q) (w.heap.size + 1) w.heap.size _ 8192 77824 := h4.fr0 ((Fr.refl _ _).drewN q)
        have hP1 := Put_any 77824 _ zs _ hq4 ⟨by omega, by omega⟩ _ (hs0.below hfq.below0) hfq.size
        rw [HeT.out _ hl3, if_pos rfl, ef] at hP1
        have HP2 := Lib.hid hP1
        clear hP1
        go_wp2_with (go_at_call 15; refine HP2.out.mono ?_; rintro e w5 ⟨rfl, hf5, h5⟩)
        have hl5 : (poke (cpys 12288 12289 (poke (noughts 20480) 12288 zs) (List.range m)) 12288 zs).length = 20480 := by rw [poke_length _ _ _ (by rw [hl3]; omega), hl3]
        have hD := Down_any 77824 77825 m w5 h5 ⟨by omega, by omega⟩ ⟨by omega, by omega⟩ ⟨by omega, by omega⟩
        unfold dnB at hD
        rw [HeB.out _ hl5, if_pos rfl, ef, et, Int.toNat_natCast] at hD
        have HD := Lib.hid hD
        clear hD
        refine HD.out.mono ?_
        rintro e w6 ⟨rfl, hf6, h6⟩
        have hl6 : (cpys 12288 12289 (poke (cpys 12288 12289 (poke (noughts 20480) 12288 zs) (List.range m)) 12288 zs) ((List.range m).map fun i => m - 1 - i)).length = 20480 := (cpys_length _ _ _ _).trans hl5
        have hC := Bytes_any 77825 m w6 h6 ⟨by omega, by omega⟩ ⟨by omega, by omega⟩
        have eR : reachT (cpys 12288 12289 (poke (cpys 12288 12289 (poke (noughts 20480) 12288 zs) (List.range m)) 12288 zs) ((List.range m).map fun i => m - 1 - i)).length 77825 m 0 = 0 := reachT_far (by omega) (by omega) (by rw [hl6]; omega)
        rw [eR] at hC
        unfold bytesV at hC
        rw [if_pos eR, et, Int.toNat_natCast, runs_down (by omega) (by rw [hl3]; omega)] at hC
        have HC2 := Lib.hid hC
        clear hC eR
        go_wp2_with fail
        refine HC2.out.mono ?_
        rintro e w7 ⟨_, rfl, v, rfl, ho7, hf7⟩
        have hf07 : Fr0 w w7 := ((hfq.then hf5 (fun k hk e => by omega)).then hf6 (fun k hk e => by omega)).trans hf7
        have hr := ho7.row (hs0.bytes.take _) (by simp; omega)
        have hfr := (hs0.below hf07.below0).front (k := m) (by omega)
        go_wp2_with (go_at_call 16; refine (same_any _ _ _ _ _ _ _ hr hfr).mono ?_; rintro e w8 ⟨rfl, rfl⟩; simp only [decide_true])
        refine (awake9 _).mono ?_
        rintro e w8 ⟨rfl, hf8⟩
        go_wp2_with fail
        go_ret
        exact ⟨rfl, hf07.trans hf8⟩
  · go_enter Try.func7, Try.ntmps7
    go_wp2_with (go_at_call 13; refine (awake9 _).mono ?_; rintro e w1 ⟨rfl, hf1⟩)
    all_goals (go_ret; exact ⟨rfl, hf1⟩)

end Go.Proofs.Ytkgihajpobajaaa
