/- The walk of FlowCross. -/
import Derived.Test.YtoldegajbonliaaFr11b
import Derived.Test.YtoldegajbonliaaFr11c
import Derived.Test.YtoldegajbonliaaFr12
import Derived.Test.YtoldegajbonliaaFdeep
import Derived.Test.YtoldegajbonliaaFr6b
import Derived.Test.YtoldegajbonliaaFargs
import Derived.Test.YtoldegajbonliaaFidle
import Derived.Test.YtoldegajbonliaaFdoes5
namespace Go.Proofs.Ytoldegajbonliaa
open Go Go.RowKit
set_option linter.unusedVariables false
attribute [local go_sem] Oper.semAt_some

/-- The program's flow: its kinds; its jumps lead to places. -/
def PrS (B f p : Nat) (ks : List Int) (N : Nat) (w : World) (S : Nat → Prop) : Prop := ∃ st g scap ts q cap tv, Fl w B f p st g scap ts q cap tv ∧ st.map Th.kind = ks ∧ Good st ts ∧ ts.length ≤ N ∧ S = FlIn f p q tv g st
section
variable {w w' : World} {B f p : Nat} {ks kj : List Int} {N : Nat} {S : Nat → Prop} {k : Int}
theorem PrS.lo (h : PrS B f p ks N w S) {i : Nat} (hi : S i) : B ≤ i ∧ i < w.heap.size := by
  obtain ⟨st, g, scap, ts, q, cap, tv, hf, _, _, _, rfl⟩ := h
  exact hf.in_lo hi
theorem PrS.no (h : PrS B f p ks N w S) {i : Nat} {t : TypeId} {cs : Array Value} (hb : Blk w i t cs) (h1 : t ≠ PP) (h2 : t ≠ 75) (h3 : t ≠ 39) (h4 : t ≠ 67) (h5 : t ≠ 64) (h6 : t ≠ 3) : ¬ S i := by
  obtain ⟨st, g, scap, ts, q, cap, tv, hf, _, _, _, rfl⟩ := h
  exact hf.no hb h1 h2 h3 h4 h5 h6
theorem PrS.fr0 (h : PrS B f p ks N w S) (hf : Fr0 w w') : PrS B f p ks N w' S := by
  obtain ⟨st, g, scap, ts, q, cap, tv, h, e1, e2, e3, e4⟩ := h
  exact ⟨st, g, scap, ts, q, cap, tv, h.fr0 hf, e1, e2, e3, e4⟩
theorem prDo (h : PrS B f p ks N w S) (hs : stepB k ks = some kj) (hN : N < 50000) (hne : ks ≠ []) : Calls Try.prog 12 #[.pointer (some ⟨f, 0, none⟩), .int .i64 k] w fun e w' => e = .returned (.int .i64 0) ∧ ∃ S', PrS B f p kj (N + 1) w' S' ∧ Turn S S' w w' := by
  obtain ⟨st, g, scap, ts, q, cap, tv, h, rfl, hg, hn, rfl⟩ := h
  unfold stepB at hs
  split at hs
  · rename_i hl
    rw [List.length_map] at hl
    rcases do_prog k w h (fun e => hne (by rw [e]; rfl)) (by omega) (by omega) (fun x hx => by have := (hg.1 x hx).2.2.1; omega) with ⟨pre, l, K, M, rfl, hr, hK, hd⟩ | ⟨h0, _⟩
    · refine Calls.mono hd ?_
      rintro e w' ⟨rfl, pre', news, ts', g', scap', tv', hst, hf, ht⟩
      obtain ⟨g1, g2, g3⟩ := good_step hst K M hr hK hg
      have hk := hst.step K M hr hK
      rw [hs] at hk
      exact ⟨rfl, _, ⟨_, _, _, _, _, _, _, hf, (Option.some.inj hk).symm, g1, by omega, rfl⟩, ht⟩
    · rw [hs] at h0
      cases h0
  · cases hs
end
theorem row_no6 {k : Int} {K N : List Int} (h : rowOf k = some (K, N)) : (6 : Int) ∉ K := by
  unfold rowOf at h
  by_cases h1 : k = 1
  · rw [if_pos h1] at h
    cases h
    decide
  rw [if_neg h1] at h
  by_cases h2 : k = 2
  · rw [if_pos h2] at h
    cases h
    decide
  rw [if_neg h2] at h
  by_cases h3 : k = 3
  · rw [if_pos h3] at h
    cases h
    decide
  rw [if_neg h3] at h
  by_cases h4 : k = 4
  · rw [if_pos h4] at h
    cases h
    decide
  rw [if_neg h4] at h
  by_cases h5 : k = 5
  · rw [if_pos h5] at h
    cases h
    decide
  rw [if_neg h5] at h
  by_cases h6 : k = 6
  · rw [if_pos h6] at h
    cases h
    decide
  rw [if_neg h6] at h
  by_cases h7 : k = 7
  · rw [if_pos h7] at h
    cases h
    decide
  rw [if_neg h7] at h
  by_cases h8 : k = 8
  · rw [if_pos h8] at h
    cases h
    decide
  rw [if_neg h8] at h
  by_cases h9 : k = 9
  · rw [if_pos h9] at h
    cases h
    decide
  rw [if_neg h9] at h
  by_cases h10 : k = 10
  · rw [if_pos h10] at h
    cases h
    decide
  rw [if_neg h10] at h
  by_cases h11 : k = 11
  · rw [if_pos h11] at h
    cases h
    decide
  rw [if_neg h11] at h
  by_cases h12 : k = 12
  · rw [if_pos h12] at h
    cases h
    decide
  rw [if_neg h12] at h
  by_cases h13 : k = 13
  · rw [if_pos h13] at h
    cases h
    decide
  rw [if_neg h13] at h
  by_cases h14 : k = 14
  · rw [if_pos h14] at h
    cases h
    decide
  rw [if_neg h14] at h
  by_cases h15 : k = 15
  · rw [if_pos h15] at h
    cases h
    decide
  rw [if_neg h15] at h
  by_cases h16 : k = 16
  · rw [if_pos h16] at h
    cases h
    decide
  rw [if_neg h16] at h
  by_cases h17 : k = 17
  · rw [if_pos h17] at h
    cases h
    decide
  rw [if_neg h17] at h
  by_cases h18 : k = 18
  · rw [if_pos h18] at h
    cases h
    decide
  rw [if_neg h18] at h
  cases h
theorem step_head {k : Int} {t ks : List Int} (h : stepK k (6 :: t) = some ks) : ∃ t', ks = 6 :: t' := by
  unfold stepK at h
  split at h
  · cases h
  · rename_i K N hr
    split at h
    · rename_i hc
      have hv := hc.1
      unfold isV at hv
      obtain ⟨h1, h2⟩ := of_decide_eq_true hv
      have hne : K.length ≠ (6 :: t).length := fun e => by
        rw [e, Nat.sub_self, List.drop_zero] at h2
        exact row_no6 hr (h2 ▸ List.mem_cons_self)
      obtain ⟨m, hm⟩ : ∃ m, (6 :: t).length - K.length = m + 1 := ⟨(6 :: t).length - K.length - 1, by omega⟩
      rw [hm, List.take_succ_cons] at h
      exact ⟨_, (Option.some.inj h).symm⟩
    · cases h
set_option maxRecDepth 100000 in
set_option maxHeartbeats 4000000 in
theorem Kinds_f {B f p g scap q cap : Nat} {tv : Value} {ts : List Tk} {st : List Th} (w : World) (h : Fl w B f p st g scap ts q cap tv) : Calls Try.prog 26 #[.pointer (some ⟨f, 0, none⟩)] w fun e w' => ∃ v, e = .returned v ∧ OwnI w' w.heap.size v (st.map Th.kind) ∧ Fr0 w w' := by
  have HDE := Lib.hid (Depth_f w h)
  have HH := Lib.hid (fun V (hV : Fr0 w V) => h.fr0 hV)
  have hdeep := h.deep
  obtain ⟨n, hn⟩ : ∃ n, st.length = n := ⟨_, rfl⟩
  have HN := Lib.hid hn
  rw [hn] at HDE hdeep
  obtain ⟨i0, hi0⟩ := info_parts3 infoI
  have HI0 := Lib.hid hi0
  obtain ⟨Bz, hBz⟩ : ∃ Bz, w.heap.size = Bz := ⟨_, rfl⟩
  have HBZ := Lib.hid hBz
  rw [hBz]
  clear h hn hi0 hBz
  go_enter Try.func26, Try.ntmps26
  go_wp2_with (go_at_call 14; refine HDE.out.mono ?_; rintro e w1 ⟨rfl, rfl⟩)
  go_loopw [3, 7] (fun o i wr => ∃ j : Nat, j ≤ n ∧ i = .int .i64 j ∧ OwnI wr Bz o ((st.map Th.kind).take j) ∧ Fr0 w wr) (fun _ i _ => n - (intOf i).toNat)
  case atStart => exact ⟨0, by omega, rfl, OwnI.nil _ _, Fr.refl _ _⟩
  case round =>
    obtain ⟨j, hj, rfl, ho, hf⟩ := hrel
    obtain ⟨A1, c1, rfl⟩ := ho.src
    have hlj : ((st.map Th.kind).take j).length = j := by rw [List.length_take, List.length_map, HN.out]; omega
    have ho' := ho
    unfold OwnI at ho'
    rw [hlj] at ho' ⊢
    have HO := Lib.hid ho'
    have HF := Lib.hid hf
    clear ho ho' hf
    by_cases hlt : j < n
    · have hltI : (j : Int) < (n : Int) := by omega
      have hj0 : (0 : Int) ≤ (j : Int) := by omega
      obtain ⟨x, hx⟩ : ∃ x, st[j]? = some x := ⟨_, List.getElem?_eq_getElem (by rw [HN.out]; exact hlt)⟩
      have hh := HH.out _ HF.out
      have e1 := (hh.things hx).1
      have c2 := hh.cells.2.2
      rw [HN.out] at c2
      have htk : (st.map Th.kind).take (j + 1) = (st.map Th.kind).take j ++ [x.kind] := by
        rw [List.take_add_one, List.getElem?_map, hx]
        rfl
      have HTK := Lib.hid htk
      have hlm : j + 1 ≤ maxLen := by unfold maxLen; omega
      have hlm2 : (j + 1) * 8 ≤ 140737488355328 := by omega
      have HLM := Lib.hid (And.intro hlm hlm2)
      have HBW := Lib.hid (show Bz ≤ wr.heap.size from by rw [← HBZ.out]; exact HF.out.size)
      obtain ⟨xk, hxk⟩ : ∃ xk, x.kind = xk := ⟨_, rfl⟩
      rw [hxk] at e1 HTK
      clear hh hx htk hlm hlm2 hxk
      go_wp2_with (at_builtin; refine wpList_append_src (P := Try.prog) (t := 22) (e := 3) (size := 1) (n := j) (m := 1) (base := Bz) (i := i0) (bytes := 8) (v := .slice A1 j c1) (xs := ((st.map Th.kind).take j).map (Value.int .i64)) (news := [.int .i64 xk]) rfl (.tmp 10) (.tmp 19) rfl Try.underlying22 HI0.out.1 HI0.out.2.1 HI0.out.2.2.1 HI0.out.2.2.2 rfl (by decide) rfl rfl (own_fr HO.out ((Fr.refl (fun _ => False) wr).alloc (.cells #[.int .i64 xk] 3)) (fun _ _ h => h)) (Rd.new wr #[.int .i64 xk] rfl 1) (fun u hu => by simp at hu; subst hu; rfl) HLM.out.1 HLM.out.2 (Nat.le_trans HBW.out ((Fr.refl (fun _ => False) wr).alloc _).size) ?_; intro v4 w4 ho4 hg4 hk4; have HO4 := Lib.hid ho4; have HG4 := Lib.hid hg4; obtain ⟨_, A5, c5, rfl, _⟩ := own_src ho4; clear ho4 hg4 hk4)
      go_roundw
      case rel =>
        refine ⟨j + 1, by omega, by push_cast; rfl, ?_, (HF.out.alloc _).grown HG4.out (fun k hk => .inr (by have := (own_lo HO.out k hk).1; rw [HBZ.out]; exact this))⟩
        rw [HTK.out]
        unfold OwnI
        rw [List.length_append, List.map_append, hlj]
        exact HO4.out
      case measure => first | omega | (simp [intOf]; omega)
    · obtain rfl : j = n := by omega
      have HLJ := Lib.hid hlj
      clear hlj
      go_wp2_with fail
      go_ret
      refine ⟨_, rfl, ?_, HF.out⟩
      have h := HO.out
      rw [List.take_of_length_le (by rw [List.length_map, HN.out]; exact Nat.le_refl _)] at h
      unfold OwnI
      rw [List.length_map, HN.out]
      exact h
set_option maxRecDepth 100000 in
set_option maxHeartbeats 4000000 in
theorem Kinds_r {B r p q cap : Nat} {tv lv : Value} {ts : List Tk} {xs : List RT} (w : World) (h : RF w B r p xs lv ts q cap tv) : Calls Try.prog 29 #[.pointer (some ⟨r, 0, none⟩)] w fun e w' => ∃ v, e = .returned v ∧ OwnI w' w.heap.size v (xs.map RT.kind) ∧ Fr0 w w' := by
  have HH := Lib.hid (fun V (hV : Fr0 w V) => h.fr0 hV)
  have hdeep := h.few
  obtain ⟨n, hn⟩ : ∃ n, xs.length = n := ⟨_, rfl⟩
  have HN := Lib.hid hn
  rw [hn] at hdeep
  obtain ⟨i0, hi0⟩ := info_parts3 infoI
  have HI0 := Lib.hid hi0
  obtain ⟨Bz, hBz⟩ : ∃ Bz, w.heap.size = Bz := ⟨_, rfl⟩
  have HBZ := Lib.hid hBz
  rw [hBz]
  obtain ⟨LA, lc, hlv⟩ := h.form
  rw [hn] at hlv
  have HLV := Lib.hid hlv
  clear h hn hi0 hBz hlv
  go_enter Try.func29, Try.ntmps29
  go_wp2_with fail
  go_loopw [3, 4] (fun o i wr => ∃ j : Nat, j ≤ n ∧ i = .int .i64 j ∧ OwnI wr Bz o ((xs.map RT.kind).take j) ∧ Fr0 w wr) (fun _ i _ => n - (intOf i).toNat)
  case atStart => exact ⟨0, by omega, rfl, OwnI.nil _ _, Fr.refl _ _⟩
  case round =>
    obtain ⟨j, hj, rfl, ho, hf⟩ := hrel
    obtain ⟨A1, c1, rfl⟩ := ho.src
    have hlj : ((xs.map RT.kind).take j).length = j := by rw [List.length_take, List.length_map, HN.out]; omega
    have ho' := ho
    unfold OwnI at ho'
    rw [hlj] at ho' ⊢
    have HO := Lib.hid ho'
    have HF := Lib.hid hf
    have c2 := (HH.out _ hf).cells.2.2
    rw [HLV.out] at c2
    clear ho ho' hf
    by_cases hlt : j < n
    · have hltI : (j : Int) < (n : Int) := by omega
      have hj0 : (0 : Int) ≤ (j : Int) := by omega
      obtain ⟨x, hx⟩ : ∃ x, xs[j]? = some x := ⟨_, List.getElem?_eq_getElem (by rw [HN.out]; exact hlt)⟩
      obtain ⟨g', c', e, e1, _⟩ := (HH.out _ HF.out).things hx
      rw [HLV.out] at e
      injection e with e e3 e4
      subst e
      have htk : (xs.map RT.kind).take (j + 1) = (xs.map RT.kind).take j ++ [x.kind] := by
        rw [List.take_add_one, List.getElem?_map, hx]
        rfl
      have HTK := Lib.hid htk
      have hlm : j + 1 ≤ maxLen := by unfold maxLen; omega
      have hlm2 : (j + 1) * 8 ≤ 140737488355328 := by omega
      have HLM := Lib.hid (And.intro hlm hlm2)
      have HBW := Lib.hid (show Bz ≤ wr.heap.size from by rw [← HBZ.out]; exact HF.out.size)
      obtain ⟨xk, hxk⟩ : ∃ xk, x.kind = xk := ⟨_, rfl⟩
      rw [hxk] at e1 HTK
      clear hx htk hlm hlm2 hxk e3 e4
      go_wp2_with (at_builtin; refine wpList_append_src (P := Try.prog) (t := 22) (e := 3) (size := 1) (n := j) (m := 1) (base := Bz) (i := i0) (bytes := 8) (v := .slice A1 j c1) (xs := ((xs.map RT.kind).take j).map (Value.int .i64)) (news := [.int .i64 xk]) rfl (.tmp 14) (.tmp 23) rfl Try.underlying22 HI0.out.1 HI0.out.2.1 HI0.out.2.2.1 HI0.out.2.2.2 rfl (by decide) rfl rfl (own_fr HO.out ((Fr.refl (fun _ => False) wr).alloc (.cells #[.int .i64 xk] 3)) (fun _ _ h => h)) (Rd.new wr #[.int .i64 xk] rfl 1) (fun u hu => by simp at hu; subst hu; rfl) HLM.out.1 HLM.out.2 (Nat.le_trans HBW.out ((Fr.refl (fun _ => False) wr).alloc _).size) ?_; intro v4 w4 ho4 hg4 hk4; have HO4 := Lib.hid ho4; have HG4 := Lib.hid hg4; obtain ⟨_, A5, c5, rfl, _⟩ := own_src ho4; clear ho4 hg4 hk4)
      go_roundw
      case rel =>
        refine ⟨j + 1, by omega, by push_cast; rfl, ?_, (HF.out.alloc _).grown HG4.out (fun k hk => .inr (by have := (own_lo HO.out k hk).1; rw [HBZ.out]; exact this))⟩
        rw [HTK.out]
        unfold OwnI
        rw [List.length_append, List.map_append, hlj]
        exact HO4.out
      case measure => first | omega | (simp [intOf]; omega)
    · obtain rfl : j = n := by omega
      have HLJ := Lib.hid hlj
      clear hlj
      go_wp2_with fail
      go_ret
      refine ⟨_, rfl, ?_, HF.out⟩
      have h := HO.out
      rw [List.take_of_length_le (by rw [List.length_map, HN.out]; exact Nat.le_refl _)] at h
      unfold OwnI
      rw [List.length_map, HN.out]
      exact h
set_option maxRecDepth 100000 in
set_option maxHeartbeats 4000000 in
theorem ints_eq (va vb : Value) (xs : List Int) (w : World) (ha : RdI w va xs) (hb : RdI w vb xs) (hl : xs.length ≤ 1000) : Calls Try.prog 27 #[va, vb] w fun e w' => e = .returned (.bool true) ∧ Fr0 w w' := by
  obtain ⟨AA, ca, rfl⟩ := ha.form
  obtain ⟨AB, cb, rfl⟩ := hb.form
  obtain ⟨n, hn⟩ : ∃ n, xs.length = n := ⟨_, rfl⟩
  have HN := Lib.hid hn
  have HA := Lib.hid (fun V (hV : Fr0 w V) => ha.fr0 hV)
  have HB := Lib.hid (fun V (hV : Fr0 w V) => hb.fr0 hV)
  rw [hn] at hl HA HB ⊢
  clear ha hb hn
  go_enter Try.func27, Try.ntmps27
  go_wp2_with fail
  go_loopw [5] (fun i wr => ∃ j : Nat, j ≤ n ∧ i = .int .i64 j ∧ Fr0 w wr) (fun i _ => n - (intOf i).toNat)
  case atStart => exact ⟨0, by omega, rfl, Fr.refl _ _⟩
  case round =>
    obtain ⟨j, hj, rfl, hf⟩ := hrel
    have HF := Lib.hid hf
    clear hf
    by_cases hlt : j < n
    · have hltI : (j : Int) < (n : Int) := by omega
      have hj0 : (0 : Int) ≤ (j : Int) := by omega
      obtain ⟨x, hx⟩ : ∃ x, xs[j]? = some x := ⟨_, List.getElem?_eq_getElem (by rw [HN.out]; exact hlt)⟩
      obtain ⟨_, A', c', e, hkc⟩ := HA.out _ HF.out
      injection e with e e5 e6
      subst e
      obtain ⟨ba, oa, eA, hka⟩ := hkc (by omega)
      subst eA
      obtain ⟨_, A'', c'', e, hkd⟩ := HB.out _ HF.out
      injection e with e e7 e8
      subst e
      obtain ⟨bb, ob, eB, hkb⟩ := hkd (by omega)
      subst eB
      have e1 := hka j (.int .i64 x) (by rw [List.getElem?_map, hx]; rfl)
      have e2 := hkb j (.int .i64 x) (by rw [List.getElem?_map, hx]; rfl)
      clear hkc hkd hka hkb e5 e6 e7 e8 hx
      go_wp2_with fail
      go_quiet (fail)
      have HF2 := Lib.hid (HF.out.drewN nq)
      go_wp2_with fail
      go_roundw
      case rel => exact ⟨j + 1, by omega, by push_cast; rfl, HF2.out⟩
      case measure => first | omega | (simp [intOf]; omega)
    · obtain rfl : j = n := by omega
      go_wp2_with fail
      go_ret
      exact ⟨rfl, HF.out⟩
/-- The document's flow: its kinds; so many tokens at most, and so long rows. -/
def RFK (B r p : Nat) (ks : List Int) (N : Nat) (w : World) (R : Nat → Prop) : Prop := ∃ xs lv ts q cap tv, RF w B r p xs lv ts q cap tv ∧ xs.map RT.kind = ks ∧ ts.length ≤ N ∧ (∀ x ∈ xs, x.to_.length ≤ N) ∧ R = RFIn r p q tv lv xs
section
variable {w w' : World} {B r p q cap N : Nat} {tv tv' lv lv' : Value} {ts ts' : List Tk} {xs : List RT} {T : Nat → Prop} {ks : List Int} {R : Nat → Prop}
/-- What a word's Do answers and leaves, where it is taken. -/
def DoneR (k : Int) (w : World) (B r p : Nat) (ks' : List Int) (N : Nat) (R : Nat → Prop) : Prop :=
  Calls Try.prog 28 #[.pointer (some ⟨r, 0, none⟩), .int .i64 k] w fun e w' => e = .returned (.int .i64 0) ∧ ∃ R', RFK B r p ks' (N + 1) w' R' ∧ Turn R R' w w'
theorem isV_map {xs : List RT} {l : List RT} {K : List Int} (h : l.map RT.kind = K) : isV (RT.ks (xs ++ l)) K = true := by
  unfold RT.ks
  rw [List.map_append, h]
  exact isV_of
theorem one_R {l : List RT} {a : Int} (h : l.map RT.kind = [a]) : ∃ x, l = [x] ∧ x.kind = a := by
  match l, h with
  | [x], h => exact ⟨x, rfl, by simpa using h⟩
theorem two_R {l : List RT} {a b : Int} (h : l.map RT.kind = [a, b]) : ∃ x y, l = [x, y] ∧ x.kind = a ∧ y.kind = b := by
  match l, h with
  | [x, y], h => exact ⟨x, y, rfl, by simpa using h⟩
set_option maxRecDepth 100000 in
set_option maxHeartbeats 8000000 in
theorem doR_3 (x : RT) (M : Nat) (w : World) (h : RF w B r p (xs ++ [x]) lv ts q cap tv) (hx : x.kind = 1) (hM : ∀ z ∈ xs ++ [x], z.to_.length ≤ M) (hM2 : M < 1000) (hl : ts.length < 50000) : Calls Try.prog 28 #[.pointer (some ⟨r, 0, none⟩), .int .i64 3] w fun e w' => e = .returned (.int .i64 0) ∧ ∃ xs' lv' ts' tv', RF w' B r p xs' lv' ts' q cap tv' ∧ xs'.map RT.kind = xs.map RT.kind ∧ ts'.length ≤ ts.length + 1 ∧ (∀ x ∈ xs', x.to_.length ≤ M + 1) ∧ Turn (RFIn r p q tv lv (xs ++ [x])) (RFIn r p q tv' lv' xs') w w' := by
  have HN := Lib.hid (fun V => needs_3 V)
  have HH := Lib.hid (fun V (hV : Fr0 w V) => h.fr0 hV)
  have hv : isV (RT.ks (xs ++ [x])) [1] = true := (isV_map (xs := xs) (l := [x]) (by simp [hx]))
  have HIS := Lib.hid (fun V kv (hV : Fr0 w V) (hk : Rd V kv 1 1 (([1] : List Int).map (Value.int .i64))) => isk_r [1] kv V (h.fr0 hV) hk (by decide))
  rw [hv] at HIS
  obtain ⟨A, c, hlv⟩ := h.form
  obtain ⟨n, hnn⟩ : ∃ n, (xs ++ [x]).length = n := ⟨_, rfl⟩
  rw [hnn] at hlv
  have HNN := Lib.hid (And.intro hnn hlv)
  have HM := Lib.hid (And.intro hM hM2)
  clear h hnn hv hM hM2 hlv
  go_enter Try.func28, Try.ntmps28
  go_wp2_with (first | (go_at_call 48; refine (HN.out _).mono ?_; rintro e w1 ⟨kv, rfl, hf1, hk1⟩; have HK1 := Lib.hid hk1; have HF1 := Lib.hid hf1; have c1 := (HH.out _ hf1).cells.2.1; clear hk1 hf1) | (go_at_call 49; refine (HIS.out _ _ HF1.out HK1.out).mono ?_; rintro e w2 ⟨rfl, hf2⟩; have HF2 := Lib.hid (HF1.out.trans hf2); have c2 := (HH.out _ HF2.out).cells.2.2; rw [HNN.out.2] at c2; clear hf2) | (go_at_call 52; refine (turn_3 _ x M _ (HH.out _ HF2.out) HM.out.1).mono ?_; rintro e w4 ⟨⟨v, rfl⟩, hT4⟩; have HT4 := Lib.hid hT4; clear hT4))
  go_ret
  obtain ⟨xs', lv', ts', g1, g2, g3, g4, g5⟩ := HT4.out
  exact ⟨rfl, xs', lv', ts', _, g1, g2, by rw [g3]; exact Nat.le_succ _, g4, (Turn.of0 HF2.out).trans g5⟩
set_option maxRecDepth 100000 in
set_option maxHeartbeats 8000000 in
theorem doR_4 (x : RT) (M : Nat) (w : World) (h : RF w B r p (xs ++ [x]) lv ts q cap tv) (hx : x.kind = 1) (hM : ∀ z ∈ xs ++ [x], z.to_.length ≤ M) (hM2 : M < 1000) (hl : ts.length < 50000) : Calls Try.prog 28 #[.pointer (some ⟨r, 0, none⟩), .int .i64 4] w fun e w' => e = .returned (.int .i64 0) ∧ ∃ xs' lv' ts' tv', RF w' B r p xs' lv' ts' q cap tv' ∧ xs'.map RT.kind = xs.map RT.kind ++ [1] ∧ ts'.length ≤ ts.length + 1 ∧ (∀ x ∈ xs', x.to_.length ≤ M + 1) ∧ Turn (RFIn r p q tv lv (xs ++ [x])) (RFIn r p q tv' lv' xs') w w' := by
  have HN := Lib.hid (fun V => needs_4 V)
  have HH := Lib.hid (fun V (hV : Fr0 w V) => h.fr0 hV)
  have hv : isV (RT.ks (xs ++ [x])) [1] = true := (isV_map (xs := xs) (l := [x]) (by simp [hx]))
  have HIS := Lib.hid (fun V kv (hV : Fr0 w V) (hk : Rd V kv 1 1 (([1] : List Int).map (Value.int .i64))) => isk_r [1] kv V (h.fr0 hV) hk (by decide))
  rw [hv] at HIS
  obtain ⟨A, c, hlv⟩ := h.form
  obtain ⟨n, hnn⟩ : ∃ n, (xs ++ [x]).length = n := ⟨_, rfl⟩
  rw [hnn] at hlv
  have HNN := Lib.hid (And.intro hnn hlv)
  have HM := Lib.hid (And.intro hM hM2)
  clear h hnn hv hM hM2 hlv
  go_enter Try.func28, Try.ntmps28
  go_wp2_with (first | (go_at_call 48; refine (HN.out _).mono ?_; rintro e w1 ⟨kv, rfl, hf1, hk1⟩; have HK1 := Lib.hid hk1; have HF1 := Lib.hid hf1; have c1 := (HH.out _ hf1).cells.2.1; clear hk1 hf1) | (go_at_call 49; refine (HIS.out _ _ HF1.out HK1.out).mono ?_; rintro e w2 ⟨rfl, hf2⟩; have HF2 := Lib.hid (HF1.out.trans hf2); have c2 := (HH.out _ HF2.out).cells.2.2; rw [HNN.out.2] at c2; clear hf2) | (go_at_call 51; refine (emit_r _ _ _ (HH.out _ HF2.out) hl).mono ?_; rintro e w3 ⟨rfl, tv3, h3, t3⟩; have H3 := Lib.hid h3; have T3 := Lib.hid t3; clear h3 t3) | (go_at_call 52; refine (turn_4 _ x M _ H3.out HM.out.1).mono ?_; rintro e w4 ⟨⟨v, rfl⟩, hT4⟩; have HT4 := Lib.hid hT4; clear hT4))
  go_ret
  obtain ⟨xs', lv', ts', g1, g2, g3, g4, g5⟩ := HT4.out
  exact ⟨rfl, xs', lv', ts', _, g1, g2, by rw [g3, List.length_append, List.length_singleton]; exact Nat.le_refl _, g4, (Turn.of0 HF2.out).trans (T3.out.trans g5)⟩
set_option maxRecDepth 100000 in
set_option maxHeartbeats 8000000 in
theorem doR_6 (x : RT) (M : Nat) (w : World) (h : RF w B r p (xs ++ [x]) lv ts q cap tv) (hx : x.kind = 2) (hM : ∀ z ∈ xs ++ [x], z.to_.length ≤ M) (hM2 : M < 1000) (hl : ts.length < 50000) : Calls Try.prog 28 #[.pointer (some ⟨r, 0, none⟩), .int .i64 6] w fun e w' => e = .returned (.int .i64 0) ∧ ∃ xs' lv' ts' tv', RF w' B r p xs' lv' ts' q cap tv' ∧ xs'.map RT.kind = xs.map RT.kind ∧ ts'.length ≤ ts.length + 1 ∧ (∀ x ∈ xs', x.to_.length ≤ M + 1) ∧ Turn (RFIn r p q tv lv (xs ++ [x])) (RFIn r p q tv' lv' xs') w w' := by
  have HN := Lib.hid (fun V => needs_6 V)
  have HH := Lib.hid (fun V (hV : Fr0 w V) => h.fr0 hV)
  have hv : isV (RT.ks (xs ++ [x])) [2] = true := (isV_map (xs := xs) (l := [x]) (by simp [hx]))
  have HIS := Lib.hid (fun V kv (hV : Fr0 w V) (hk : Rd V kv 1 1 (([2] : List Int).map (Value.int .i64))) => isk_r [2] kv V (h.fr0 hV) hk (by decide))
  rw [hv] at HIS
  obtain ⟨A, c, hlv⟩ := h.form
  obtain ⟨n, hnn⟩ : ∃ n, (xs ++ [x]).length = n := ⟨_, rfl⟩
  rw [hnn] at hlv
  have HNN := Lib.hid (And.intro hnn hlv)
  have HM := Lib.hid (And.intro hM hM2)
  clear h hnn hv hM hM2 hlv
  go_enter Try.func28, Try.ntmps28
  go_wp2_with (first | (go_at_call 48; refine (HN.out _).mono ?_; rintro e w1 ⟨kv, rfl, hf1, hk1⟩; have HK1 := Lib.hid hk1; have HF1 := Lib.hid hf1; have c1 := (HH.out _ hf1).cells.2.1; clear hk1 hf1) | (go_at_call 49; refine (HIS.out _ _ HF1.out HK1.out).mono ?_; rintro e w2 ⟨rfl, hf2⟩; have HF2 := Lib.hid (HF1.out.trans hf2); have c2 := (HH.out _ HF2.out).cells.2.2; rw [HNN.out.2] at c2; clear hf2) | (go_at_call 51; refine (emit_r _ _ _ (HH.out _ HF2.out) hl).mono ?_; rintro e w3 ⟨rfl, tv3, h3, t3⟩; have H3 := Lib.hid h3; have T3 := Lib.hid t3; clear h3 t3) | (go_at_call 52; refine (turn_6 _ x M _ H3.out HM.out.1).mono ?_; rintro e w4 ⟨⟨v, rfl⟩, hT4⟩; have HT4 := Lib.hid hT4; clear hT4))
  go_ret
  obtain ⟨xs', lv', ts', g1, g2, g3, g4, g5⟩ := HT4.out
  exact ⟨rfl, xs', lv', ts', _, g1, g2, by rw [g3, List.length_append, List.length_singleton]; exact Nat.le_refl _, g4, (Turn.of0 HF2.out).trans (T3.out.trans g5)⟩
set_option maxRecDepth 100000 in
set_option maxHeartbeats 8000000 in
theorem doR_7 (x : RT) (M : Nat) (w : World) (h : RF w B r p (xs ++ [x]) lv ts q cap tv) (hx : x.kind = 2) (hM : ∀ z ∈ xs ++ [x], z.to_.length ≤ M) (hM2 : M < 1000) (hl : ts.length < 50000) : Calls Try.prog 28 #[.pointer (some ⟨r, 0, none⟩), .int .i64 7] w fun e w' => e = .returned (.int .i64 0) ∧ ∃ xs' lv' ts' tv', RF w' B r p xs' lv' ts' q cap tv' ∧ xs'.map RT.kind = xs.map RT.kind ∧ ts'.length ≤ ts.length + 1 ∧ (∀ x ∈ xs', x.to_.length ≤ M + 1) ∧ Turn (RFIn r p q tv lv (xs ++ [x])) (RFIn r p q tv' lv' xs') w w' := by
  have HN := Lib.hid (fun V => needs_7 V)
  have HH := Lib.hid (fun V (hV : Fr0 w V) => h.fr0 hV)
  have hv : isV (RT.ks (xs ++ [x])) [2] = true := (isV_map (xs := xs) (l := [x]) (by simp [hx]))
  have HIS := Lib.hid (fun V kv (hV : Fr0 w V) (hk : Rd V kv 1 1 (([2] : List Int).map (Value.int .i64))) => isk_r [2] kv V (h.fr0 hV) hk (by decide))
  rw [hv] at HIS
  obtain ⟨A, c, hlv⟩ := h.form
  obtain ⟨n, hnn⟩ : ∃ n, (xs ++ [x]).length = n := ⟨_, rfl⟩
  rw [hnn] at hlv
  have HNN := Lib.hid (And.intro hnn hlv)
  have HM := Lib.hid (And.intro hM hM2)
  clear h hnn hv hM hM2 hlv
  go_enter Try.func28, Try.ntmps28
  go_wp2_with (first | (go_at_call 48; refine (HN.out _).mono ?_; rintro e w1 ⟨kv, rfl, hf1, hk1⟩; have HK1 := Lib.hid hk1; have HF1 := Lib.hid hf1; have c1 := (HH.out _ hf1).cells.2.1; clear hk1 hf1) | (go_at_call 49; refine (HIS.out _ _ HF1.out HK1.out).mono ?_; rintro e w2 ⟨rfl, hf2⟩; have HF2 := Lib.hid (HF1.out.trans hf2); have c2 := (HH.out _ HF2.out).cells.2.2; rw [HNN.out.2] at c2; clear hf2) | (go_at_call 51; refine (emit_r _ _ _ (HH.out _ HF2.out) hl).mono ?_; rintro e w3 ⟨rfl, tv3, h3, t3⟩; have H3 := Lib.hid h3; have T3 := Lib.hid t3; clear h3 t3) | (go_at_call 52; refine (turn_7 _ x M _ H3.out HM.out.1).mono ?_; rintro e w4 ⟨⟨v, rfl⟩, hT4⟩; have HT4 := Lib.hid hT4; clear hT4))
  go_ret
  obtain ⟨xs', lv', ts', g1, g2, g3, g4, g5⟩ := HT4.out
  exact ⟨rfl, xs', lv', ts', _, g1, g2, by rw [g3, List.length_append, List.length_singleton]; exact Nat.le_refl _, g4, (Turn.of0 HF2.out).trans (T3.out.trans g5)⟩
set_option maxRecDepth 100000 in
set_option maxHeartbeats 8000000 in
theorem doR_8 (x : RT) (M : Nat) (w : World) (h : RF w B r p (xs ++ [x]) lv ts q cap tv) (hx : x.kind = 2)  (hn : (xs ++ [x]).length < 64)(hM : ∀ z ∈ xs ++ [x], z.to_.length ≤ M) (hM2 : M < 1000) (hl : ts.length < 50000) : Calls Try.prog 28 #[.pointer (some ⟨r, 0, none⟩), .int .i64 8] w fun e w' => e = .returned (.int .i64 0) ∧ ∃ xs' lv' ts' tv', RF w' B r p xs' lv' ts' q cap tv' ∧ xs'.map RT.kind = xs.map RT.kind ++ [1, x.kind] ∧ ts'.length ≤ ts.length + 1 ∧ (∀ x ∈ xs', x.to_.length ≤ M + 1) ∧ Turn (RFIn r p q tv lv (xs ++ [x])) (RFIn r p q tv' lv' xs') w w' := by
  have HN := Lib.hid (fun V => needs_8 V)
  have HH := Lib.hid (fun V (hV : Fr0 w V) => h.fr0 hV)
  have hv : isV (RT.ks (xs ++ [x])) [2] = true := (isV_map (xs := xs) (l := [x]) (by simp [hx]))
  have HIS := Lib.hid (fun V kv (hV : Fr0 w V) (hk : Rd V kv 1 1 (([2] : List Int).map (Value.int .i64))) => isk_r [2] kv V (h.fr0 hV) hk (by decide))
  rw [hv] at HIS
  obtain ⟨A, c, hlv⟩ := h.form
  obtain ⟨n, hnn⟩ : ∃ n, (xs ++ [x]).length = n := ⟨_, rfl⟩
  rw [hnn] at hlv
  have HNN := Lib.hid (And.intro hnn hlv)
  have HM := Lib.hid (And.intro hM hM2)
  have HL := Lib.hid hn
  rw [hnn] at hn
  clear h hnn hv hM hM2 hlv
  go_enter Try.func28, Try.ntmps28
  go_wp2_with (first | (go_at_call 48; refine (HN.out _).mono ?_; rintro e w1 ⟨kv, rfl, hf1, hk1⟩; have HK1 := Lib.hid hk1; have HF1 := Lib.hid hf1; have c1 := (HH.out _ hf1).cells.2.1; clear hk1 hf1) | (go_at_call 49; refine (HIS.out _ _ HF1.out HK1.out).mono ?_; rintro e w2 ⟨rfl, hf2⟩; have HF2 := Lib.hid (HF1.out.trans hf2); have c2 := (HH.out _ HF2.out).cells.2.2; rw [HNN.out.2] at c2; clear hf2) | (go_at_call 51; refine (emit_r _ _ _ (HH.out _ HF2.out) hl).mono ?_; rintro e w3 ⟨rfl, tv3, h3, t3⟩; have H3 := Lib.hid h3; have T3 := Lib.hid t3; clear h3 t3) | (go_at_call 52; refine (turn_8 _ x M _ H3.out HL.out HM.out.1).mono ?_; rintro e w4 ⟨⟨v, rfl⟩, hT4⟩; have HT4 := Lib.hid hT4; clear hT4))
  go_ret
  obtain ⟨xs', lv', ts', g1, g2, g3, g4, g5⟩ := HT4.out
  exact ⟨rfl, xs', lv', ts', _, g1, g2, by rw [g3, List.length_append, List.length_singleton]; exact Nat.le_refl _, g4, (Turn.of0 HF2.out).trans (T3.out.trans g5)⟩
set_option maxRecDepth 100000 in
set_option maxHeartbeats 8000000 in
theorem doR_9 (x y : RT) (M : Nat) (w : World) (h : RF w B r p ((xs ++ [x]) ++ [y]) lv ts q cap tv) (hx : x.kind = 1) (hy : y.kind = 2) (hM : ∀ z ∈ (xs ++ [x]) ++ [y], z.to_.length ≤ M) (hM2 : M < 1000) (hl : ts.length < 50000) : Calls Try.prog 28 #[.pointer (some ⟨r, 0, none⟩), .int .i64 9] w fun e w' => e = .returned (.int .i64 0) ∧ ∃ xs' lv' ts' tv', RF w' B r p xs' lv' ts' q cap tv' ∧ xs'.map RT.kind = xs.map RT.kind ∧ ts'.length ≤ ts.length + 1 ∧ (∀ x ∈ xs', x.to_.length ≤ M + 1) ∧ Turn (RFIn r p q tv lv ((xs ++ [x]) ++ [y])) (RFIn r p q tv' lv' xs') w w' := by
  have HN := Lib.hid (fun V => needs_9 V)
  have HH := Lib.hid (fun V (hV : Fr0 w V) => h.fr0 hV)
  have hv : isV (RT.ks ((xs ++ [x]) ++ [y])) [1, 2] = true := (by rw [show (xs ++ [x]) ++ [y] = xs ++ [x, y] by simp]; exact isV_map (by simp [hx, hy]))
  have HIS := Lib.hid (fun V kv (hV : Fr0 w V) (hk : Rd V kv 2 1 (([1, 2] : List Int).map (Value.int .i64))) => isk_r [1, 2] kv V (h.fr0 hV) hk (by decide))
  rw [hv] at HIS
  obtain ⟨A, c, hlv⟩ := h.form
  obtain ⟨n, hnn⟩ : ∃ n, ((xs ++ [x]) ++ [y]).length = n := ⟨_, rfl⟩
  rw [hnn] at hlv
  have HNN := Lib.hid (And.intro hnn hlv)
  have HM := Lib.hid (And.intro hM hM2)
  clear h hnn hv hM hM2 hlv
  go_enter Try.func28, Try.ntmps28
  go_wp2_with (first | (go_at_call 48; refine (HN.out _).mono ?_; rintro e w1 ⟨kv, rfl, hf1, hk1⟩; have HK1 := Lib.hid hk1; have HF1 := Lib.hid hf1; have c1 := (HH.out _ hf1).cells.2.1; clear hk1 hf1) | (go_at_call 49; refine (HIS.out _ _ HF1.out HK1.out).mono ?_; rintro e w2 ⟨rfl, hf2⟩; have HF2 := Lib.hid (HF1.out.trans hf2); have c2 := (HH.out _ HF2.out).cells.2.2; rw [HNN.out.2] at c2; clear hf2) | (go_at_call 51; refine (emit_r _ _ _ (HH.out _ HF2.out) hl).mono ?_; rintro e w3 ⟨rfl, tv3, h3, t3⟩; have H3 := Lib.hid h3; have T3 := Lib.hid t3; clear h3 t3) | (go_at_call 52; refine (turn_9 _ x y M _ H3.out HM.out.1).mono ?_; rintro e w4 ⟨⟨v, rfl⟩, hT4⟩; have HT4 := Lib.hid hT4; clear hT4))
  go_ret
  obtain ⟨xs', lv', ts', g1, g2, g3, g4, g5⟩ := HT4.out
  exact ⟨rfl, xs', lv', ts', _, g1, g2, by rw [g3, List.length_append, List.length_singleton]; exact Nat.le_refl _, g4, (Turn.of0 HF2.out).trans (T3.out.trans g5)⟩
set_option maxRecDepth 100000 in
set_option maxHeartbeats 8000000 in
theorem doR_12 (x : RT) (M : Nat) (w : World) (h : RF w B r p (xs ++ [x]) lv ts q cap tv) (hx : x.kind = 3) (hM : ∀ z ∈ xs ++ [x], z.to_.length ≤ M) (hM2 : M < 1000) (hl : ts.length < 50000) : Calls Try.prog 28 #[.pointer (some ⟨r, 0, none⟩), .int .i64 12] w fun e w' => e = .returned (.int .i64 0) ∧ ∃ xs' lv' ts' tv', RF w' B r p xs' lv' ts' q cap tv' ∧ xs'.map RT.kind = xs.map RT.kind ∧ ts'.length ≤ ts.length + 1 ∧ (∀ x ∈ xs', x.to_.length ≤ M + 1) ∧ Turn (RFIn r p q tv lv (xs ++ [x])) (RFIn r p q tv' lv' xs') w w' := by
  have HN := Lib.hid (fun V => needs_12 V)
  have HH := Lib.hid (fun V (hV : Fr0 w V) => h.fr0 hV)
  have hv : isV (RT.ks (xs ++ [x])) [3] = true := (isV_map (xs := xs) (l := [x]) (by simp [hx]))
  have HIS := Lib.hid (fun V kv (hV : Fr0 w V) (hk : Rd V kv 1 1 (([3] : List Int).map (Value.int .i64))) => isk_r [3] kv V (h.fr0 hV) hk (by decide))
  rw [hv] at HIS
  obtain ⟨A, c, hlv⟩ := h.form
  obtain ⟨n, hnn⟩ : ∃ n, (xs ++ [x]).length = n := ⟨_, rfl⟩
  rw [hnn] at hlv
  have HNN := Lib.hid (And.intro hnn hlv)
  have HM := Lib.hid (And.intro hM hM2)
  clear h hnn hv hM hM2 hlv
  go_enter Try.func28, Try.ntmps28
  go_wp2_with (first | (go_at_call 48; refine (HN.out _).mono ?_; rintro e w1 ⟨kv, rfl, hf1, hk1⟩; have HK1 := Lib.hid hk1; have HF1 := Lib.hid hf1; have c1 := (HH.out _ hf1).cells.2.1; clear hk1 hf1) | (go_at_call 49; refine (HIS.out _ _ HF1.out HK1.out).mono ?_; rintro e w2 ⟨rfl, hf2⟩; have HF2 := Lib.hid (HF1.out.trans hf2); have c2 := (HH.out _ HF2.out).cells.2.2; rw [HNN.out.2] at c2; clear hf2) | (go_at_call 51; refine (emit_r _ _ _ (HH.out _ HF2.out) hl).mono ?_; rintro e w3 ⟨rfl, tv3, h3, t3⟩; have H3 := Lib.hid h3; have T3 := Lib.hid t3; clear h3 t3) | (go_at_call 52; refine (turn_12 _ x M _ H3.out HM.out.1).mono ?_; rintro e w4 ⟨⟨v, rfl⟩, hT4⟩; have HT4 := Lib.hid hT4; clear hT4))
  go_ret
  obtain ⟨xs', lv', ts', g1, g2, g3, g4, g5⟩ := HT4.out
  exact ⟨rfl, xs', lv', ts', _, g1, g2, by rw [g3, List.length_append, List.length_singleton]; exact Nat.le_refl _, g4, (Turn.of0 HF2.out).trans (T3.out.trans g5)⟩
set_option maxRecDepth 100000 in
set_option maxHeartbeats 8000000 in
theorem doR_13 (x : RT) (M : Nat) (w : World) (h : RF w B r p (xs ++ [x]) lv ts q cap tv) (hx : x.kind = 3) (hM : ∀ z ∈ xs ++ [x], z.to_.length ≤ M) (hM2 : M < 1000) (hl : ts.length < 50000) : Calls Try.prog 28 #[.pointer (some ⟨r, 0, none⟩), .int .i64 13] w fun e w' => e = .returned (.int .i64 0) ∧ ∃ xs' lv' ts' tv', RF w' B r p xs' lv' ts' q cap tv' ∧ xs'.map RT.kind = xs.map RT.kind ∧ ts'.length ≤ ts.length + 1 ∧ (∀ x ∈ xs', x.to_.length ≤ M + 1) ∧ Turn (RFIn r p q tv lv (xs ++ [x])) (RFIn r p q tv' lv' xs') w w' := by
  have HN := Lib.hid (fun V => needs_13 V)
  have HH := Lib.hid (fun V (hV : Fr0 w V) => h.fr0 hV)
  have hv : isV (RT.ks (xs ++ [x])) [3] = true := (isV_map (xs := xs) (l := [x]) (by simp [hx]))
  have HIS := Lib.hid (fun V kv (hV : Fr0 w V) (hk : Rd V kv 1 1 (([3] : List Int).map (Value.int .i64))) => isk_r [3] kv V (h.fr0 hV) hk (by decide))
  rw [hv] at HIS
  obtain ⟨A, c, hlv⟩ := h.form
  obtain ⟨n, hnn⟩ : ∃ n, (xs ++ [x]).length = n := ⟨_, rfl⟩
  rw [hnn] at hlv
  have HNN := Lib.hid (And.intro hnn hlv)
  have HM := Lib.hid (And.intro hM hM2)
  clear h hnn hv hM hM2 hlv
  go_enter Try.func28, Try.ntmps28
  go_wp2_with (first | (go_at_call 48; refine (HN.out _).mono ?_; rintro e w1 ⟨kv, rfl, hf1, hk1⟩; have HK1 := Lib.hid hk1; have HF1 := Lib.hid hf1; have c1 := (HH.out _ hf1).cells.2.1; clear hk1 hf1) | (go_at_call 49; refine (HIS.out _ _ HF1.out HK1.out).mono ?_; rintro e w2 ⟨rfl, hf2⟩; have HF2 := Lib.hid (HF1.out.trans hf2); have c2 := (HH.out _ HF2.out).cells.2.2; rw [HNN.out.2] at c2; clear hf2) | (go_at_call 51; refine (emit_r _ _ _ (HH.out _ HF2.out) hl).mono ?_; rintro e w3 ⟨rfl, tv3, h3, t3⟩; have H3 := Lib.hid h3; have T3 := Lib.hid t3; clear h3 t3) | (go_at_call 52; refine (turn_13 _ x M _ H3.out HM.out.1).mono ?_; rintro e w4 ⟨⟨v, rfl⟩, hT4⟩; have HT4 := Lib.hid hT4; clear hT4))
  go_ret
  obtain ⟨xs', lv', ts', g1, g2, g3, g4, g5⟩ := HT4.out
  exact ⟨rfl, xs', lv', ts', _, g1, g2, by rw [g3, List.length_append, List.length_singleton]; exact Nat.le_refl _, g4, (Turn.of0 HF2.out).trans (T3.out.trans g5)⟩
set_option maxRecDepth 100000 in
set_option maxHeartbeats 8000000 in
theorem doR_14 (M : Nat) (w : World) (h : RF w B r p (xs) lv ts q cap tv)  (hs : ∃ x ∈ xs, x.kind = 3)(hM : ∀ z ∈ xs, z.to_.length ≤ M) (hM2 : M < 1000) (hl : ts.length < 50000) : Calls Try.prog 28 #[.pointer (some ⟨r, 0, none⟩), .int .i64 14] w fun e w' => e = .returned (.int .i64 0) ∧ ∃ xs' lv' ts' tv', RF w' B r p xs' lv' ts' q cap tv' ∧ xs'.map RT.kind = xs.map RT.kind ∧ ts'.length ≤ ts.length + 1 ∧ (∀ x ∈ xs', x.to_.length ≤ M + 1) ∧ Turn (RFIn r p q tv lv (xs)) (RFIn r p q tv' lv' xs') w w' := by
  have HN := Lib.hid (fun V => needs_14 V)
  have HH := Lib.hid (fun V (hV : Fr0 w V) => h.fr0 hV)
  have hv : isV (RT.ks (xs)) [] = true := (List.append_nil xs ▸ isV_map (xs := xs) (l := []) rfl)
  have HIS := Lib.hid (fun V kv (hV : Fr0 w V) (hk : Rd V kv 0 1 (([] : List Int).map (Value.int .i64))) => isk_r [] kv V (h.fr0 hV) hk (by decide))
  rw [hv] at HIS
  have HLA := Lib.hid (fun V (hV : Fr0 w V) => last_r V (h.fr0 hV))
  have HS := Lib.hid hs
  obtain ⟨A, c, hlv⟩ := h.form
  obtain ⟨n, hnn⟩ : ∃ n, (xs).length = n := ⟨_, rfl⟩
  rw [hnn] at hlv
  have HNN := Lib.hid (And.intro hnn hlv)
  have HM := Lib.hid (And.intro hM hM2)
  clear h hnn hv hM hM2 hlv hs
  go_enter Try.func28, Try.ntmps28
  go_wp2_with (first | (go_at_call 48; refine (HN.out _).mono ?_; rintro e w1 ⟨kv, rfl, hf1, hk1⟩; have HK1 := Lib.hid hk1; have HF1 := Lib.hid hf1; have c1 := (HH.out _ hf1).cells.2.1; clear hk1 hf1) | (go_at_call 49; refine (HIS.out _ _ HF1.out HK1.out).mono ?_; rintro e w2 ⟨rfl, hf2⟩; have HF2 := Lib.hid (HF1.out.trans hf2); have c2 := (HH.out _ HF2.out).cells.2.2; rw [HNN.out.2] at c2; clear hf2) | (go_at_call 50; refine (HLA.out _ HF2.out).mono ?_; rintro e w3 ⟨i, rfl, hi, rfl⟩; have hi0 : ¬ (i < 0) := (by rcases hi with ⟨_, h2⟩ | ⟨pre, x, suf, _, _, _, e⟩; obtain ⟨z, hz, hz3⟩ := HS.out; exact absurd hz3 (h2 z hz); omega); have hi0' : decide (i < 0) = false := decide_eq_false hi0; clear hi) | (go_at_call 51; refine (emit_r _ _ _ (HH.out _ HF2.out) hl).mono ?_; rintro e w3 ⟨rfl, tv3, h3, t3⟩; have H3 := Lib.hid h3; have T3 := Lib.hid t3; clear h3 t3) | (go_at_call 52; refine (turn_14 _ M _ H3.out HS.out HM.out.1 HM.out.2).mono ?_; rintro e w4 ⟨⟨v, rfl⟩, hT4⟩; have HT4 := Lib.hid hT4; clear hT4))
  go_ret
  obtain ⟨xs', lv', ts', g1, g2, g3, g4, g5⟩ := HT4.out
  exact ⟨rfl, xs', lv', ts', _, g1, g2, by rw [g3, List.length_append, List.length_singleton]; exact Nat.le_refl _, g4, (Turn.of0 HF2.out).trans (T3.out.trans g5)⟩
set_option maxRecDepth 100000 in
set_option maxHeartbeats 8000000 in
theorem doR_16 (x : RT) (M : Nat) (w : World) (h : RF w B r p (xs ++ [x]) lv ts q cap tv) (hx : x.kind = 4)  (hn : (xs ++ [x]).length < 64)(hM : ∀ z ∈ xs ++ [x], z.to_.length ≤ M) (hM2 : M < 1000) (hl : ts.length < 50000) : Calls Try.prog 28 #[.pointer (some ⟨r, 0, none⟩), .int .i64 16] w fun e w' => e = .returned (.int .i64 0) ∧ ∃ xs' lv' ts' tv', RF w' B r p xs' lv' ts' q cap tv' ∧ xs'.map RT.kind = (xs ++ [x]).map RT.kind ++ [5] ∧ ts'.length ≤ ts.length + 1 ∧ (∀ x ∈ xs', x.to_.length ≤ M + 1) ∧ Turn (RFIn r p q tv lv (xs ++ [x])) (RFIn r p q tv' lv' xs') w w' := by
  have HN := Lib.hid (fun V => needs_16 V)
  have HH := Lib.hid (fun V (hV : Fr0 w V) => h.fr0 hV)
  have hv : isV (RT.ks (xs ++ [x])) [4] = true := (isV_map (xs := xs) (l := [x]) (by simp [hx]))
  have HIS := Lib.hid (fun V kv (hV : Fr0 w V) (hk : Rd V kv 1 1 (([4] : List Int).map (Value.int .i64))) => isk_r [4] kv V (h.fr0 hV) hk (by decide))
  rw [hv] at HIS
  obtain ⟨A, c, hlv⟩ := h.form
  obtain ⟨n, hnn⟩ : ∃ n, (xs ++ [x]).length = n := ⟨_, rfl⟩
  rw [hnn] at hlv
  have HNN := Lib.hid (And.intro hnn hlv)
  have HM := Lib.hid (And.intro hM hM2)
  have HL := Lib.hid hn
  rw [hnn] at hn
  clear h hnn hv hM hM2 hlv
  go_enter Try.func28, Try.ntmps28
  go_wp2_with (first | (go_at_call 48; refine (HN.out _).mono ?_; rintro e w1 ⟨kv, rfl, hf1, hk1⟩; have HK1 := Lib.hid hk1; have HF1 := Lib.hid hf1; have c1 := (HH.out _ hf1).cells.2.1; clear hk1 hf1) | (go_at_call 49; refine (HIS.out _ _ HF1.out HK1.out).mono ?_; rintro e w2 ⟨rfl, hf2⟩; have HF2 := Lib.hid (HF1.out.trans hf2); have c2 := (HH.out _ HF2.out).cells.2.2; rw [HNN.out.2] at c2; clear hf2) | (go_at_call 51; refine (emit_r _ _ _ (HH.out _ HF2.out) hl).mono ?_; rintro e w3 ⟨rfl, tv3, h3, t3⟩; have H3 := Lib.hid h3; have T3 := Lib.hid t3; clear h3 t3) | (go_at_call 52; refine (turn_16 _ M _ H3.out HL.out HM.out.1).mono ?_; rintro e w4 ⟨⟨v, rfl⟩, hT4⟩; have HT4 := Lib.hid hT4; clear hT4))
  go_ret
  obtain ⟨xs', lv', ts', g1, g2, g3, g4, g5⟩ := HT4.out
  exact ⟨rfl, xs', lv', ts', _, g1, g2, by rw [g3, List.length_append, List.length_singleton]; exact Nat.le_refl _, g4, (Turn.of0 HF2.out).trans (T3.out.trans g5)⟩
set_option maxRecDepth 100000 in
set_option maxHeartbeats 8000000 in
theorem doR_17 (x y : RT) (M : Nat) (w : World) (h : RF w B r p ((xs ++ [x]) ++ [y]) lv ts q cap tv) (hx : x.kind = 4) (hy : y.kind = 5) (hM : ∀ z ∈ (xs ++ [x]) ++ [y], z.to_.length ≤ M) (hM2 : M < 1000) (hl : ts.length < 50000) : Calls Try.prog 28 #[.pointer (some ⟨r, 0, none⟩), .int .i64 17] w fun e w' => e = .returned (.int .i64 0) ∧ ∃ xs' lv' ts' tv', RF w' B r p xs' lv' ts' q cap tv' ∧ xs'.map RT.kind = xs.map RT.kind ++ [x.kind] ∧ ts'.length ≤ ts.length + 1 ∧ (∀ x ∈ xs', x.to_.length ≤ M + 1) ∧ Turn (RFIn r p q tv lv ((xs ++ [x]) ++ [y])) (RFIn r p q tv' lv' xs') w w' := by
  have HN := Lib.hid (fun V => needs_17 V)
  have HH := Lib.hid (fun V (hV : Fr0 w V) => h.fr0 hV)
  have hv : isV (RT.ks ((xs ++ [x]) ++ [y])) [4, 5] = true := (by rw [show (xs ++ [x]) ++ [y] = xs ++ [x, y] by simp]; exact isV_map (by simp [hx, hy]))
  have HIS := Lib.hid (fun V kv (hV : Fr0 w V) (hk : Rd V kv 2 1 (([4, 5] : List Int).map (Value.int .i64))) => isk_r [4, 5] kv V (h.fr0 hV) hk (by decide))
  rw [hv] at HIS
  obtain ⟨A, c, hlv⟩ := h.form
  obtain ⟨n, hnn⟩ : ∃ n, ((xs ++ [x]) ++ [y]).length = n := ⟨_, rfl⟩
  rw [hnn] at hlv
  have HNN := Lib.hid (And.intro hnn hlv)
  have HM := Lib.hid (And.intro hM hM2)
  clear h hnn hv hM hM2 hlv
  go_enter Try.func28, Try.ntmps28
  go_wp2_with (first | (go_at_call 48; refine (HN.out _).mono ?_; rintro e w1 ⟨kv, rfl, hf1, hk1⟩; have HK1 := Lib.hid hk1; have HF1 := Lib.hid hf1; have c1 := (HH.out _ hf1).cells.2.1; clear hk1 hf1) | (go_at_call 49; refine (HIS.out _ _ HF1.out HK1.out).mono ?_; rintro e w2 ⟨rfl, hf2⟩; have HF2 := Lib.hid (HF1.out.trans hf2); have c2 := (HH.out _ HF2.out).cells.2.2; rw [HNN.out.2] at c2; clear hf2) | (go_at_call 51; refine (emit_r _ _ _ (HH.out _ HF2.out) hl).mono ?_; rintro e w3 ⟨rfl, tv3, h3, t3⟩; have H3 := Lib.hid h3; have T3 := Lib.hid t3; clear h3 t3) | (go_at_call 52; refine (turn_17 _ x y M _ H3.out HM.out.1 HM.out.2).mono ?_; rintro e w4 ⟨⟨v, rfl⟩, hT4⟩; have HT4 := Lib.hid hT4; clear hT4))
  go_ret
  obtain ⟨xs', lv', ts', g1, g2, g3, g4, g5⟩ := HT4.out
  exact ⟨rfl, xs', lv', ts', _, g1, g2, by rw [g3, List.length_append, List.length_singleton]; exact Nat.le_refl _, g4, (Turn.of0 HF2.out).trans (T3.out.trans g5)⟩
set_option maxRecDepth 100000 in
set_option maxHeartbeats 8000000 in
theorem doR_18 (x : RT) (M : Nat) (w : World) (h : RF w B r p (xs ++ [x]) lv ts q cap tv) (hx : x.kind = 4) (hM : ∀ z ∈ xs ++ [x], z.to_.length ≤ M) (hM2 : M < 1000) (hl : ts.length < 50000) : Calls Try.prog 28 #[.pointer (some ⟨r, 0, none⟩), .int .i64 18] w fun e w' => e = .returned (.int .i64 0) ∧ ∃ xs' lv' ts' tv', RF w' B r p xs' lv' ts' q cap tv' ∧ xs'.map RT.kind = xs.map RT.kind ∧ ts'.length ≤ ts.length + 1 ∧ (∀ x ∈ xs', x.to_.length ≤ M + 1) ∧ Turn (RFIn r p q tv lv (xs ++ [x])) (RFIn r p q tv' lv' xs') w w' := by
  have HN := Lib.hid (fun V => needs_18 V)
  have HH := Lib.hid (fun V (hV : Fr0 w V) => h.fr0 hV)
  have hv : isV (RT.ks (xs ++ [x])) [4] = true := (isV_map (xs := xs) (l := [x]) (by simp [hx]))
  have HIS := Lib.hid (fun V kv (hV : Fr0 w V) (hk : Rd V kv 1 1 (([4] : List Int).map (Value.int .i64))) => isk_r [4] kv V (h.fr0 hV) hk (by decide))
  rw [hv] at HIS
  obtain ⟨A, c, hlv⟩ := h.form
  obtain ⟨n, hnn⟩ : ∃ n, (xs ++ [x]).length = n := ⟨_, rfl⟩
  rw [hnn] at hlv
  have HNN := Lib.hid (And.intro hnn hlv)
  have HM := Lib.hid (And.intro hM hM2)
  clear h hnn hv hM hM2 hlv
  go_enter Try.func28, Try.ntmps28
  go_wp2_with (first | (go_at_call 48; refine (HN.out _).mono ?_; rintro e w1 ⟨kv, rfl, hf1, hk1⟩; have HK1 := Lib.hid hk1; have HF1 := Lib.hid hf1; have c1 := (HH.out _ hf1).cells.2.1; clear hk1 hf1) | (go_at_call 49; refine (HIS.out _ _ HF1.out HK1.out).mono ?_; rintro e w2 ⟨rfl, hf2⟩; have HF2 := Lib.hid (HF1.out.trans hf2); have c2 := (HH.out _ HF2.out).cells.2.2; rw [HNN.out.2] at c2; clear hf2) | (go_at_call 51; refine (emit_r _ _ _ (HH.out _ HF2.out) hl).mono ?_; rintro e w3 ⟨rfl, tv3, h3, t3⟩; have H3 := Lib.hid h3; have T3 := Lib.hid t3; clear h3 t3) | (go_at_call 52; refine (turn_18 _ x M _ H3.out HM.out.1).mono ?_; rintro e w4 ⟨⟨v, rfl⟩, hT4⟩; have HT4 := Lib.hid hT4; clear hT4))
  go_ret
  obtain ⟨xs', lv', ts', g1, g2, g3, g4, g5⟩ := HT4.out
  exact ⟨rfl, xs', lv', ts', _, g1, g2, by rw [g3, List.length_append, List.length_singleton]; exact Nat.le_refl _, g4, (Turn.of0 HF2.out).trans (T3.out.trans g5)⟩
end
section
variable {w w' : World} {B x f p q r N : Nat} {ks : List Int} {S R : Nat → Prop} {k : Int}
theorem PrS.fr {T : Nat → Prop} (h : PrS B f p ks N w S) (hf : Fr T w w') (hT : ∀ k, S k → ¬ T k) : PrS B f p ks N w' S := by
  obtain ⟨st, g, scap, ts, q, cap, tv, h, e1, e2, e3, rfl⟩ := h
  exact ⟨st, g, scap, ts, q, cap, tv, h.fr hf hT, e1, e2, e3, rfl⟩
theorem PrS.side (B f p : Nat) (ks : List Int) (N : Nat) : Side B (PrS B f p ks N) :=
  ⟨fun h hf hT => h.fr hf hT, fun h hk => h.lo hk, fun h hb => h.no hb (by decide) (by decide) (by decide) (by decide) (by decide) (by decide), fun h hb => h.no hb (by decide) (by decide) (by decide) (by decide) (by decide) (by decide)⟩
theorem RFK.side (B r p : Nat) (ks : List Int) (N : Nat) : Side B (RFK B r p ks N) :=
  ⟨fun ⟨xs, lv, ts, q, cap, tv, h, e1, e2, e3, e4⟩ hf hT => ⟨xs, lv, ts, q, cap, tv, h.fr hf (fun k hk => hT k (e4 ▸ hk)), e1, e2, e3, e4⟩,
   fun ⟨xs, lv, ts, q, cap, tv, h, e1, e2, e3, e4⟩ hk => h.in_lo (e4 ▸ hk),
   fun ⟨xs, lv, ts, q, cap, tv, h, e1, e2, e3, e4⟩ hb hk => h.no hb (by decide) (by decide) (by decide) (by decide) (by decide) (by decide) (e4 ▸ hk),
   fun ⟨xs, lv, ts, q, cap, tv, h, e1, e2, e3, e4⟩ hb hk => h.no hb (by decide) (by decide) (by decide) (by decide) (by decide) (by decide) (e4 ▸ hk)⟩
theorem RFK.more (h : RFK B r p ks N w R) : RFK B r p ks (N + 1) w R := by
  obtain ⟨xs, lv, ts, q, cap, tv, h, e1, e2, e3, e4⟩ := h
  exact ⟨xs, lv, ts, q, cap, tv, h, e1, by omega, fun x hx => Nat.le_succ_of_le (e3 x hx), e4⟩
theorem PrS.more (h : PrS B f p ks N w S) : PrS B f p ks (N + 1) w S := by
  obtain ⟨st, g, scap, ts, q, cap, tv, h, e1, e2, e3, e4⟩ := h
  exact ⟨st, g, scap, ts, q, cap, tv, h, e1, e2, by omega, e4⟩
theorem take_R {xs : List RT} {K : List Int} (h : isV (xs.map RT.kind) K = true) : ∃ pre l, xs = pre ++ l ∧ l.map RT.kind = K := by
  unfold isV at h
  obtain ⟨h1, h2⟩ := of_decide_eq_true h
  refine ⟨xs.take (xs.length - K.length), xs.drop (xs.length - K.length), (List.take_append_drop _ _).symm, ?_⟩
  rw [List.map_drop]
  rwa [List.length_map] at h2
theorem stepK_app {k : Int} {K M : List Int} (hr : rowOf k = some (K, M)) (h14 : k ≠ 14) (ks : List Int) : stepK k (ks ++ K) = some (ks ++ M) := by
  unfold stepK
  rw [hr]
  dsimp only
  rw [if_pos ⟨isV_of, fun h => h14 h.1⟩, List.length_append, Nat.add_sub_cancel, List.take_left' rfl]
theorem stepK_none {k : Int} {K M : List Int} (hr : rowOf k = some (K, M)) (h : isV ks K = false) : stepK k ks = none := by
  unfold stepK
  rw [hr]
  dsimp only
  rw [if_neg (fun hh => by rw [h] at hh; cases hh.1)]
/-- The program's side: taken, or refused. -/
theorem crossP1 {V : World} (h : PrS B f p ks N V S) (hl : ks.length < 64) (hN : N < 1000) (hne : ks ≠ []) : (Calls Try.prog 12 #[.pointer (some ⟨f, 0, none⟩), .int .i64 k] V fun e V' => e = .returned (.int .i64 0) ∧ ∃ ks' S', stepK k ks = some ks' ∧ PrS B f p ks' (N + 1) V' S' ∧ Turn S S' V V') ∨ (stepK k ks = none ∧ Calls Try.prog 12 #[.pointer (some ⟨f, 0, none⟩), .int .i64 k] V fun e V' => e = .returned (.int .i64 (-22)) ∧ Fr0 V V') := by
  obtain ⟨st, g, scap, ts, q1, cap, tv, h, rfl, hg, hn, rfl⟩ := h
  rw [List.length_map] at hl
  rcases do_prog k V h (fun e => hne (by rw [e]; rfl)) hl (by omega) (fun x hx => by have := (hg.1 x hx).2.2.1; omega) with ⟨pre, l, K, M, rfl, hr, hK, hd⟩ | h0
  · refine .inl (Calls.mono hd ?_)
    rintro e w' ⟨rfl, pre', news, ts', g', scap', tv', hst, hf, ht⟩
    obtain ⟨g1, g2, g3⟩ := good_step hst K M hr hK hg
    exact ⟨rfl, _, _, hst.step K M hr hK, ⟨_, _, _, _, _, _, _, hf, rfl, g1, by omega, rfl⟩, ht⟩
  · exact .inr h0
/-- The document's side: taken, or refused. -/
theorem crossR1 {V : World} (h : RFK B r q ks N V R) (hl : ks.length < 64) (hN : N < 900) : (∃ ks', stepK k ks = some ks' ∧ Calls Try.prog 28 #[.pointer (some ⟨r, 0, none⟩), .int .i64 k] V fun e V' => e = .returned (.int .i64 0) ∧ ∃ R', RFK B r q ks' (N + 1) V' R' ∧ Turn R R' V V') ∨ (stepK k ks = none ∧ Calls Try.prog 28 #[.pointer (some ⟨r, 0, none⟩), .int .i64 k] V fun e V' => e = .returned (.int .i64 (-22)) ∧ Fr0 V V') := by
  obtain ⟨xs, lv, ts, q1, cap, tv, h, rfl, hn, hj, rfl⟩ := h
  rw [List.length_map] at hl
  have hlt : ts.length < 50000 := by omega
  by_cases h1 : k = 1
  · subst h1
    refine .inl ⟨xs.map RT.kind ++ [1], ?_, ?_⟩
    · have := stepK_app (k := 1) (K := []) (M := [1]) rfl (by decide) (xs.map RT.kind)
      rwa [List.append_nil] at this
    · refine (doRb_1 V h hl hlt).mono ?_
      rintro e w' ⟨rfl, lv', tv', x, hx, ⟨hxk, hxt⟩, ht⟩
      refine ⟨rfl, _, ⟨_, _, _, _, _, _, hx, by simp [hxk], by rw [List.length_append, List.length_singleton]; omega, fun y hy => ?_, rfl⟩, ht⟩
      rcases List.mem_append.1 hy with hy | hy
      · exact Nat.le_succ_of_le (hj y hy)
      · rw [List.mem_singleton.1 hy]; omega
  by_cases h2 : k = 2
  · subst h2
    refine .inl ⟨xs.map RT.kind ++ [1], ?_, ?_⟩
    · have := stepK_app (k := 2) (K := []) (M := [1]) rfl (by decide) (xs.map RT.kind)
      rwa [List.append_nil] at this
    · refine (doRb_2 V h hl hlt).mono ?_
      rintro e w' ⟨rfl, lv', tv', x, hx, ⟨hxk, hxt⟩, ht⟩
      refine ⟨rfl, _, ⟨_, _, _, _, _, _, hx, by simp [hxk], by rw [List.length_append, List.length_singleton]; omega, fun y hy => ?_, rfl⟩, ht⟩
      rcases List.mem_append.1 hy with hy | hy
      · exact Nat.le_succ_of_le (hj y hy)
      · rw [List.mem_singleton.1 hy]; omega
  by_cases h3 : k = 3
  · subst h3
    by_cases hv : isV (xs.map RT.kind) [1] = true
    · obtain ⟨pre, l, rfl, hK⟩ := take_R hv
      obtain ⟨x, rfl, hx⟩ := one_R hK
      refine .inl ⟨pre.map RT.kind ++ [], ?_, ?_⟩
      · have := stepK_app (k := 3) (K := [1]) (M := []) rfl (by decide) (pre.map RT.kind)
        rw [List.map_append, hK]
        exact this
      · refine (doR_3 x N V h hx hj (by omega) hlt).mono ?_
        rintro e w' ⟨rfl, xs', lv', ts', tv', g1, g2, g3, g4, g5⟩
        refine ⟨rfl, _, ⟨xs', lv', ts', _, _, tv', g1, ?_, by omega, g4, rfl⟩, g5⟩
        rw [g2, List.append_nil]
    · have hv' : isV (xs.map RT.kind) [1] = false := by simpa using hv
      exact .inr ⟨stepK_none rfl hv', doR_kind 3 [1] 0 needs_3 (by decide) V h hv'⟩
  by_cases h4 : k = 4
  · subst h4
    by_cases hv : isV (xs.map RT.kind) [1] = true
    · obtain ⟨pre, l, rfl, hK⟩ := take_R hv
      obtain ⟨x, rfl, hx⟩ := one_R hK
      refine .inl ⟨pre.map RT.kind ++ [1], ?_, ?_⟩
      · have := stepK_app (k := 4) (K := [1]) (M := [1]) rfl (by decide) (pre.map RT.kind)
        rw [List.map_append, hK]
        exact this
      · refine (doR_4 x N V h hx hj (by omega) hlt).mono ?_
        rintro e w' ⟨rfl, xs', lv', ts', tv', g1, g2, g3, g4, g5⟩
        refine ⟨rfl, _, ⟨xs', lv', ts', _, _, tv', g1, ?_, by omega, g4, rfl⟩, g5⟩
        rw [g2]
    · have hv' : isV (xs.map RT.kind) [1] = false := by simpa using hv
      exact .inr ⟨stepK_none rfl hv', doR_kind 4 [1] 0 needs_4 (by decide) V h hv'⟩
  by_cases h5 : k = 5
  · subst h5
    refine .inl ⟨xs.map RT.kind ++ [2], ?_, ?_⟩
    · have := stepK_app (k := 5) (K := []) (M := [2]) rfl (by decide) (xs.map RT.kind)
      rwa [List.append_nil] at this
    · refine (doRb_5 V h hl).mono ?_
      rintro e w' ⟨rfl, lv', tv', x, hx, ⟨hxk, hxt⟩, ht⟩
      refine ⟨rfl, _, ⟨_, _, _, _, _, _, hx, by simp [hxk], by omega, fun y hy => ?_, rfl⟩, ht⟩
      rcases List.mem_append.1 hy with hy | hy
      · exact Nat.le_succ_of_le (hj y hy)
      · rw [List.mem_singleton.1 hy]; omega
  by_cases h6 : k = 6
  · subst h6
    by_cases hv : isV (xs.map RT.kind) [2] = true
    · obtain ⟨pre, l, rfl, hK⟩ := take_R hv
      obtain ⟨x, rfl, hx⟩ := one_R hK
      refine .inl ⟨pre.map RT.kind ++ [], ?_, ?_⟩
      · have := stepK_app (k := 6) (K := [2]) (M := []) rfl (by decide) (pre.map RT.kind)
        rw [List.map_append, hK]
        exact this
      · refine (doR_6 x N V h hx hj (by omega) hlt).mono ?_
        rintro e w' ⟨rfl, xs', lv', ts', tv', g1, g2, g3, g4, g5⟩
        refine ⟨rfl, _, ⟨xs', lv', ts', _, _, tv', g1, ?_, by omega, g4, rfl⟩, g5⟩
        rw [g2, List.append_nil]
    · have hv' : isV (xs.map RT.kind) [2] = false := by simpa using hv
      exact .inr ⟨stepK_none rfl hv', doR_kind 6 [2] 0 needs_6 (by decide) V h hv'⟩
  by_cases h7 : k = 7
  · subst h7
    by_cases hv : isV (xs.map RT.kind) [2] = true
    · obtain ⟨pre, l, rfl, hK⟩ := take_R hv
      obtain ⟨x, rfl, hx⟩ := one_R hK
      refine .inl ⟨pre.map RT.kind ++ [], ?_, ?_⟩
      · have := stepK_app (k := 7) (K := [2]) (M := []) rfl (by decide) (pre.map RT.kind)
        rw [List.map_append, hK]
        exact this
      · refine (doR_7 x N V h hx hj (by omega) hlt).mono ?_
        rintro e w' ⟨rfl, xs', lv', ts', tv', g1, g2, g3, g4, g5⟩
        refine ⟨rfl, _, ⟨xs', lv', ts', _, _, tv', g1, ?_, by omega, g4, rfl⟩, g5⟩
        rw [g2, List.append_nil]
    · have hv' : isV (xs.map RT.kind) [2] = false := by simpa using hv
      exact .inr ⟨stepK_none rfl hv', doR_kind 7 [2] 0 needs_7 (by decide) V h hv'⟩
  by_cases h8 : k = 8
  · subst h8
    by_cases hv : isV (xs.map RT.kind) [2] = true
    · obtain ⟨pre, l, rfl, hK⟩ := take_R hv
      obtain ⟨x, rfl, hx⟩ := one_R hK
      refine .inl ⟨pre.map RT.kind ++ [1, 2], ?_, ?_⟩
      · have := stepK_app (k := 8) (K := [2]) (M := [1, 2]) rfl (by decide) (pre.map RT.kind)
        rw [List.map_append, hK]
        exact this
      · refine (doR_8 x N V h hx hl hj (by omega) hlt).mono ?_
        rintro e w' ⟨rfl, xs', lv', ts', tv', g1, g2, g3, g4, g5⟩
        refine ⟨rfl, _, ⟨xs', lv', ts', _, _, tv', g1, ?_, by omega, g4, rfl⟩, g5⟩
        rw [g2]; simp [hx]
    · have hv' : isV (xs.map RT.kind) [2] = false := by simpa using hv
      exact .inr ⟨stepK_none rfl hv', doR_kind 8 [2] 1 needs_8 (by decide) V h hv'⟩
  by_cases h9 : k = 9
  · subst h9
    by_cases hv : isV (xs.map RT.kind) [1, 2] = true
    · obtain ⟨pre, l, rfl, hK⟩ := take_R hv
      obtain ⟨x, y, rfl, hx, hy⟩ := two_R hK
      refine .inl ⟨pre.map RT.kind ++ [], ?_, ?_⟩
      · have := stepK_app (k := 9) (K := [1, 2]) (M := []) rfl (by decide) (pre.map RT.kind)
        rw [List.map_append, hK]
        exact this
      · have h' : RF V B r q ((pre ++ [x]) ++ [y]) lv ts q1 cap tv := by rw [show (pre ++ [x]) ++ [y] = pre ++ [x, y] by simp]; exact h
        have hj' : ∀ z ∈ (pre ++ [x]) ++ [y], z.to_.length ≤ N := fun z hz => hj z (by simpa using hz)
        refine (doR_9 x y N V h' hx hy hj' (by omega) hlt).mono ?_
        rintro e w' ⟨rfl, xs', lv', ts', tv', g1, g2, g3, g4, g5⟩
        refine ⟨rfl, _, ⟨xs', lv', ts', _, _, tv', g1, ?_, by omega, g4, rfl⟩, ?_⟩
        · rw [g2]; simp
        · rw [show (pre ++ [x]) ++ [y] = pre ++ [x, y] by simp] at g5; exact g5
    · have hv' : isV (xs.map RT.kind) [1, 2] = false := by simpa using hv
      exact .inr ⟨stepK_none rfl hv', doR_kind 9 [1, 2] 0 needs_9 (by decide) V h hv'⟩
  by_cases h10 : k = 10
  · subst h10
    refine .inl ⟨xs.map RT.kind ++ [3], ?_, ?_⟩
    · have := stepK_app (k := 10) (K := []) (M := [3]) rfl (by decide) (xs.map RT.kind)
      rwa [List.append_nil] at this
    · refine (doRb_10 V h hl hlt).mono ?_
      rintro e w' ⟨rfl, lv', tv', x, hx, ⟨hxk, hxt⟩, ht⟩
      refine ⟨rfl, _, ⟨_, _, _, _, _, _, hx, by simp [hxk], by rw [List.length_append, List.length_singleton]; omega, fun y hy => ?_, rfl⟩, ht⟩
      rcases List.mem_append.1 hy with hy | hy
      · exact Nat.le_succ_of_le (hj y hy)
      · rw [List.mem_singleton.1 hy]; omega
  by_cases h11 : k = 11
  · subst h11
    refine .inl ⟨xs.map RT.kind ++ [3], ?_, ?_⟩
    · have := stepK_app (k := 11) (K := []) (M := [3]) rfl (by decide) (xs.map RT.kind)
      rwa [List.append_nil] at this
    · refine (doRb_11 V h hl hlt).mono ?_
      rintro e w' ⟨rfl, lv', tv', x, hx, ⟨hxk, hxt⟩, ht⟩
      refine ⟨rfl, _, ⟨_, _, _, _, _, _, hx, by simp [hxk], by rw [List.length_append, List.length_singleton]; omega, fun y hy => ?_, rfl⟩, ht⟩
      rcases List.mem_append.1 hy with hy | hy
      · exact Nat.le_succ_of_le (hj y hy)
      · rw [List.mem_singleton.1 hy]; omega
  by_cases h12 : k = 12
  · subst h12
    by_cases hv : isV (xs.map RT.kind) [3] = true
    · obtain ⟨pre, l, rfl, hK⟩ := take_R hv
      obtain ⟨x, rfl, hx⟩ := one_R hK
      refine .inl ⟨pre.map RT.kind ++ [], ?_, ?_⟩
      · have := stepK_app (k := 12) (K := [3]) (M := []) rfl (by decide) (pre.map RT.kind)
        rw [List.map_append, hK]
        exact this
      · refine (doR_12 x N V h hx hj (by omega) hlt).mono ?_
        rintro e w' ⟨rfl, xs', lv', ts', tv', g1, g2, g3, g4, g5⟩
        refine ⟨rfl, _, ⟨xs', lv', ts', _, _, tv', g1, ?_, by omega, g4, rfl⟩, g5⟩
        rw [g2, List.append_nil]
    · have hv' : isV (xs.map RT.kind) [3] = false := by simpa using hv
      exact .inr ⟨stepK_none rfl hv', doR_kind 12 [3] 0 needs_12 (by decide) V h hv'⟩
  by_cases h13 : k = 13
  · subst h13
    by_cases hv : isV (xs.map RT.kind) [3] = true
    · obtain ⟨pre, l, rfl, hK⟩ := take_R hv
      obtain ⟨x, rfl, hx⟩ := one_R hK
      refine .inl ⟨pre.map RT.kind ++ [], ?_, ?_⟩
      · have := stepK_app (k := 13) (K := [3]) (M := []) rfl (by decide) (pre.map RT.kind)
        rw [List.map_append, hK]
        exact this
      · refine (doR_13 x N V h hx hj (by omega) hlt).mono ?_
        rintro e w' ⟨rfl, xs', lv', ts', tv', g1, g2, g3, g4, g5⟩
        refine ⟨rfl, _, ⟨xs', lv', ts', _, _, tv', g1, ?_, by omega, g4, rfl⟩, g5⟩
        rw [g2, List.append_nil]
    · have hv' : isV (xs.map RT.kind) [3] = false := by simpa using hv
      exact .inr ⟨stepK_none rfl hv', doR_kind 13 [3] 0 needs_13 (by decide) V h hv'⟩
  by_cases h14 : k = 14
  · subst h14
    by_cases hs : ∃ x ∈ xs, x.kind = 3
    · refine .inl ⟨xs.map RT.kind, ?_, ?_⟩
      · obtain ⟨x, hx, h3⟩ := hs
        exact step_leave (List.mem_map.2 ⟨x, hx, h3⟩)
      · refine (doR_14 N V h hs hj (by omega) hlt).mono ?_
        rintro e w' ⟨rfl, xs', lv', ts', tv', g1, g2, g3, g4, g5⟩
        exact ⟨rfl, _, ⟨xs', lv', ts', _, _, tv', g1, g2, by omega, g4, rfl⟩, g5⟩
    · have hno : ∀ x ∈ xs, x.kind ≠ 3 := fun x hx e => hs ⟨x, hx, e⟩
      refine .inr ⟨?_, doR_leave V h hno⟩
      have : (3 : Int) ∉ xs.map RT.kind := fun hm => by
        obtain ⟨x, hx, e⟩ := List.mem_map.1 hm
        exact hno x hx e
      unfold stepK
      rw [show rowOf 14 = some ([], []) from rfl]
      exact if_neg (fun hh => hh.2 ⟨rfl, this⟩)
  by_cases h15 : k = 15
  · subst h15
    refine .inl ⟨xs.map RT.kind ++ [4], ?_, ?_⟩
    · have := stepK_app (k := 15) (K := []) (M := [4]) rfl (by decide) (xs.map RT.kind)
      rwa [List.append_nil] at this
    · refine (doRb_15 V h hl).mono ?_
      rintro e w' ⟨rfl, lv', tv', x, hx, ⟨hxk, hxt⟩, ht⟩
      refine ⟨rfl, _, ⟨_, _, _, _, _, _, hx, by simp [hxk], by omega, fun y hy => ?_, rfl⟩, ht⟩
      rcases List.mem_append.1 hy with hy | hy
      · exact Nat.le_succ_of_le (hj y hy)
      · rw [List.mem_singleton.1 hy]; omega
  by_cases h16 : k = 16
  · subst h16
    by_cases hv : isV (xs.map RT.kind) [4] = true
    · obtain ⟨pre, l, rfl, hK⟩ := take_R hv
      obtain ⟨x, rfl, hx⟩ := one_R hK
      refine .inl ⟨pre.map RT.kind ++ [4, 5], ?_, ?_⟩
      · have := stepK_app (k := 16) (K := [4]) (M := [4, 5]) rfl (by decide) (pre.map RT.kind)
        rw [List.map_append, hK]
        exact this
      · refine (doR_16 x N V h hx hl hj (by omega) hlt).mono ?_
        rintro e w' ⟨rfl, xs', lv', ts', tv', g1, g2, g3, g4, g5⟩
        refine ⟨rfl, _, ⟨xs', lv', ts', _, _, tv', g1, ?_, by omega, g4, rfl⟩, g5⟩
        rw [g2]; simp [hx]
    · have hv' : isV (xs.map RT.kind) [4] = false := by simpa using hv
      exact .inr ⟨stepK_none rfl hv', doR_kind 16 [4] 1 needs_16 (by decide) V h hv'⟩
  by_cases h17 : k = 17
  · subst h17
    by_cases hv : isV (xs.map RT.kind) [4, 5] = true
    · obtain ⟨pre, l, rfl, hK⟩ := take_R hv
      obtain ⟨x, y, rfl, hx, hy⟩ := two_R hK
      refine .inl ⟨pre.map RT.kind ++ [4], ?_, ?_⟩
      · have := stepK_app (k := 17) (K := [4, 5]) (M := [4]) rfl (by decide) (pre.map RT.kind)
        rw [List.map_append, hK]
        exact this
      · have h' : RF V B r q ((pre ++ [x]) ++ [y]) lv ts q1 cap tv := by rw [show (pre ++ [x]) ++ [y] = pre ++ [x, y] by simp]; exact h
        have hj' : ∀ z ∈ (pre ++ [x]) ++ [y], z.to_.length ≤ N := fun z hz => hj z (by simpa using hz)
        refine (doR_17 x y N V h' hx hy hj' (by omega) hlt).mono ?_
        rintro e w' ⟨rfl, xs', lv', ts', tv', g1, g2, g3, g4, g5⟩
        refine ⟨rfl, _, ⟨xs', lv', ts', _, _, tv', g1, ?_, by omega, g4, rfl⟩, ?_⟩
        · rw [g2]; simp [hx]
        · rw [show (pre ++ [x]) ++ [y] = pre ++ [x, y] by simp] at g5; exact g5
    · have hv' : isV (xs.map RT.kind) [4, 5] = false := by simpa using hv
      exact .inr ⟨stepK_none rfl hv', doR_kind 17 [4, 5] 0 needs_17 (by decide) V h hv'⟩
  by_cases h18 : k = 18
  · subst h18
    by_cases hv : isV (xs.map RT.kind) [4] = true
    · obtain ⟨pre, l, rfl, hK⟩ := take_R hv
      obtain ⟨x, rfl, hx⟩ := one_R hK
      refine .inl ⟨pre.map RT.kind ++ [], ?_, ?_⟩
      · have := stepK_app (k := 18) (K := [4]) (M := []) rfl (by decide) (pre.map RT.kind)
        rw [List.map_append, hK]
        exact this
      · refine (doR_18 x N V h hx hj (by omega) hlt).mono ?_
        rintro e w' ⟨rfl, xs', lv', ts', tv', g1, g2, g3, g4, g5⟩
        refine ⟨rfl, _, ⟨xs', lv', ts', _, _, tv', g1, ?_, by omega, g4, rfl⟩, g5⟩
        rw [g2, List.append_nil]
    · have hv' : isV (xs.map RT.kind) [4] = false := by simpa using hv
      exact .inr ⟨stepK_none rfl hv', doR_kind 18 [4] 0 needs_18 (by decide) V h hv'⟩
  have hn' : ∀ j : Int, 1 ≤ j → j ≤ 18 → (k == j) = false := fun j hj1 hj2 => by
    have : k ≠ j := by omega
    simpa using this
  refine .inr ⟨?_, doR_noword k hn' V h⟩
  have hro : rowOf k = none := by unfold rowOf; simp [*]
  unfold stepK
  rw [hro]
/-- The kinds behind a word that may have been refused. -/
def nextK (k : Int) (ks : List Int) : List Int := (stepK k ks).getD ks
theorem row_len {k : Int} {K M : List Int} (h : rowOf k = some (K, M)) : M.length ≤ K.length + 1 := by
  unfold rowOf at h
  by_cases h1 : k = 1
  · rw [if_pos h1] at h
    cases h
    decide
  rw [if_neg h1] at h
  by_cases h2 : k = 2
  · rw [if_pos h2] at h
    cases h
    decide
  rw [if_neg h2] at h
  by_cases h3 : k = 3
  · rw [if_pos h3] at h
    cases h
    decide
  rw [if_neg h3] at h
  by_cases h4 : k = 4
  · rw [if_pos h4] at h
    cases h
    decide
  rw [if_neg h4] at h
  by_cases h5 : k = 5
  · rw [if_pos h5] at h
    cases h
    decide
  rw [if_neg h5] at h
  by_cases h6 : k = 6
  · rw [if_pos h6] at h
    cases h
    decide
  rw [if_neg h6] at h
  by_cases h7 : k = 7
  · rw [if_pos h7] at h
    cases h
    decide
  rw [if_neg h7] at h
  by_cases h8 : k = 8
  · rw [if_pos h8] at h
    cases h
    decide
  rw [if_neg h8] at h
  by_cases h9 : k = 9
  · rw [if_pos h9] at h
    cases h
    decide
  rw [if_neg h9] at h
  by_cases h10 : k = 10
  · rw [if_pos h10] at h
    cases h
    decide
  rw [if_neg h10] at h
  by_cases h11 : k = 11
  · rw [if_pos h11] at h
    cases h
    decide
  rw [if_neg h11] at h
  by_cases h12 : k = 12
  · rw [if_pos h12] at h
    cases h
    decide
  rw [if_neg h12] at h
  by_cases h13 : k = 13
  · rw [if_pos h13] at h
    cases h
    decide
  rw [if_neg h13] at h
  by_cases h14 : k = 14
  · rw [if_pos h14] at h
    cases h
    decide
  rw [if_neg h14] at h
  by_cases h15 : k = 15
  · rw [if_pos h15] at h
    cases h
    decide
  rw [if_neg h15] at h
  by_cases h16 : k = 16
  · rw [if_pos h16] at h
    cases h
    decide
  rw [if_neg h16] at h
  by_cases h17 : k = 17
  · rw [if_pos h17] at h
    cases h
    decide
  rw [if_neg h17] at h
  by_cases h18 : k = 18
  · rw [if_pos h18] at h
    cases h
    decide
  rw [if_neg h18] at h
  cases h
theorem stepK_len {k : Int} {ks ks' : List Int} (h : stepK k ks = some ks') : ks'.length ≤ ks.length + 1 := by
  unfold stepK at h
  split at h
  · cases h
  · rename_i K M hr
    split at h
    · rename_i hc
      have hv := hc.1
      unfold isV at hv
      have hle := (of_decide_eq_true hv).1
      have hm := row_len hr
      rw [← Option.some.inj h, List.length_append, List.length_take]
      omega
    · cases h
theorem nextK_len (k : Int) (ks : List Int) : (nextK k ks).length ≤ ks.length + 1 := by
  unfold nextK
  cases h : stepK k ks with
  | none => simp
  | some ks' => exact stepK_len h
theorem cross_step (h : Bo w x p f q r (PrS B f p ks N) (RFK B r q ks N) S R) (hl : ks.length < 64) (hN : N < 900) (hne : ks ≠ []) :
    Calls Try.prog 20 #[.pointer (some ⟨x, 0, none⟩), .agg #[.int .i64 1, .int .i64 k]] w fun e w' => (∃ v, e = .returned v) ∧ ∃ S' R', Bo w' x p f q r (PrS B f p (nextK k ks) (N + 1)) (RFK B r q (nextK k ks) (N + 1)) S' R' ∧ Turn (fun k => S k ∨ R k) (fun k => S' k ∨ R' k) w w' := by
  cases hs : stepK k ks with
  | none =>
    have e1 : nextK k ks = ks := by unfold nextK; rw [hs]; rfl
    rw [e1]
    refine (does_1 k (-22) (-22) w h (PrS.side _ _ _ _ _) (RFK.side _ _ _ _ _) (PrS.side _ _ _ _ _) (RFK.side _ _ _ _ _) (A' := PrS B f p ks (N + 1)) (C' := RFK B r q ks (N + 1)) (fun V hV => ?_) (fun V hV => ?_)).mono ?_
    · rcases crossP1 (k := k) hV hl (by omega) hne with h1 | ⟨_, h1⟩
      · refine h1.mono ?_
        rintro e w' ⟨rfl, ks', S', h2, _⟩
        rw [hs] at h2
        cases h2
      · refine h1.mono ?_
        rintro e w' ⟨rfl, hf⟩
        exact ⟨rfl, still0 (PrS.side _ _ _ _ _) hV.more hf⟩
    · rcases crossR1 (k := k) hV hl hN with ⟨ks', h2, _⟩ | ⟨_, h1⟩
      · rw [hs] at h2
        cases h2
      · refine h1.mono ?_
        rintro e w' ⟨rfl, hf⟩
        exact ⟨rfl, still0 (RFK.side _ _ _ _ _) hV.more hf⟩
    · rintro e w' ⟨rfl, S', R', hb, ht⟩
      exact ⟨⟨_, rfl⟩, S', R', hb, ht⟩
  | some kn =>
    have e1 : nextK k ks = kn := by unfold nextK; rw [hs]; rfl
    rw [e1]
    refine (does_1 k 0 0 w h (PrS.side _ _ _ _ _) (RFK.side _ _ _ _ _) (PrS.side _ _ _ _ _) (RFK.side _ _ _ _ _) (A' := PrS B f p kn (N + 1)) (C' := RFK B r q kn (N + 1)) (fun V hV => ?_) (fun V hV => ?_)).mono ?_
    · rcases crossP1 (k := k) hV hl (by omega) hne with h1 | ⟨h0, _⟩
      · refine h1.mono ?_
        rintro e w' ⟨rfl, ks', S', h2, h3, h4⟩
        rw [hs] at h2
        obtain rfl := Option.some.inj h2
        exact ⟨rfl, S', h3, h4⟩
      · rw [hs] at h0
        cases h0
    · rcases crossR1 (k := k) hV hl hN with ⟨ks', h2, h1⟩ | ⟨h0, _⟩
      · rw [hs] at h2
        obtain rfl := Option.some.inj h2
        exact h1
      · rw [hs] at h0
        cases h0
    · rintro e w' ⟨rfl, S', R', hb, ht⟩
      exact ⟨⟨_, rfl⟩, S', R', hb, ht⟩
end
section
variable {w w' : World} {B x p f q r : Nat}
set_option maxRecDepth 100000 in
set_option maxHeartbeats 8000000 in
theorem does_5b (w : World) (hx : Blk w x 31 #[.pointer (some ⟨p, 0, none⟩), .pointer (some ⟨f, 0, none⟩), .pointer (some ⟨q, 0, none⟩), .pointer (some ⟨r, 0, none⟩)]) (hp : Blk w p PP #[.slice none 0 0, .int .i64 0]) (hf : Blk w f 67 #[.pointer (some ⟨p, 0, none⟩), .int .i64 0, .slice none 0 0]) (hq : Blk w q RP #[.slice none 0 0, .int .i64 0]) (hr : Blk w r 50 #[.pointer (some ⟨q, 0, none⟩), .int .i64 0, .slice none 0 0])
    (hB : B ≤ x ∧ B ≤ p ∧ B ≤ f ∧ B ≤ q ∧ B ≤ r) :
    Calls Try.prog 20 #[.pointer (some ⟨x, 0, none⟩), .agg #[.int .i64 5, .int .i64 0]] w fun e w' => e = .returned (.bool true) ∧ ∃ S R, Bo w' x p f q r (PrS B f p [6] 0) (RFK B r q [6] 0) S R ∧ Fr (fun k => B ≤ k) w w' := by
  obtain ⟨hBx, hBp, hBf, hBq, hBr⟩ := hB
  have hBw : B ≤ w.heap.size := Nat.le_of_lt (Nat.lt_of_le_of_lt hBx hx.lt)
  have ha := (Fr.refl (fun _ => False) w).alloc (.cells #[.int .i64 5, .int .i64 0] 47)
  have hbs := Blk.new w 47 #[.int .i64 5, .int .i64 0]
  have HA := Lib.hid (ha.of0 (S := fun k => B ≤ k))
  have hx1 := hx.fr0 ha
  have hp1 := hp.fr0 ha
  have hf1 := hf.fr0 ha
  have hq1 := hq.fr0 ha
  have hr1 := hr.fr0 ha
  have hB1 : B ≤ (w.alloc (.cells #[.int .i64 5, .int .i64 0] 47)).heap.size := Nat.le_trans hBw ha.size
  have s0 := hbs.cell 0
  have x0 := hx1.cell 0
  clear hx hp hf hq hr ha hbs
  go_enter Try.func20, Try.ntmps20
  go_wp2_with fail
  obtain ⟨W, hW⟩ : ∃ W, w.alloc (.cells #[.int .i64 5, .int .i64 0] 47) = W := ⟨_, rfl⟩
  obtain ⟨b, hb⟩ : ∃ b, w.heap.size = b := ⟨_, rfl⟩
  rw [hW] at HA hx1 hp1 hf1 hq1 hr1 s0 x0 hB1 ⊢
  rw [hb] at s0 ⊢
  clear hW hb
  go_at_call 9
  refine (Open_p (B := B) _ hp1 ⟨hBp, hB1⟩).mono ?_
  rintro e w1 ⟨rfl, q1, cap1, hpl, f1, hl1⟩
  have hx2 := hx1.fr f1 (fun e => Blk.ne_ hx1 hp1 (by decide) e)
  have hf2 := hf1.fr f1 (fun e => Blk.ne_ hf1 hp1 (by decide) e)
  have hq2 := hq1.fr f1 (fun e => Blk.ne_ hq1 hp1 (by decide) e)
  have hr2 := hr1.fr f1 (fun e => Blk.ne_ hr1 hp1 (by decide) e)
  have x2 := hx2.cell 2
  clear x0
  go_wp2_with fail
  go_at_call 40
  refine (Open_r (B := B) _ hq2 ⟨hBq, Nat.le_trans hB1 f1.size⟩).mono ?_
  rintro e w2 ⟨rfl, q2, cap2, hrl, f2, hl2⟩
  have hx3 := hx2.fr f2 (fun e => Blk.ne_ hx2 hq2 (by decide) e)
  have hf3 := hf2.fr f2 (fun e => Blk.ne_ hf2 hq2 (by decide) e)
  have hr3 := hr2.fr f2 (fun e => Blk.ne_ hr2 hq2 (by decide) e)
  have hpl3 := hpl.fr f2 (fun k hk he => hpl.no hq2 (by decide) (by decide) (by decide) (he ▸ hk))
  have hap : ∀ k, PlIn p q1 (.slice none 0 0) k → ¬ PlIn q q2 (.slice none 0 0) k := fun k hk hr => by
    rcases hr with rfl | rfl | h
    · exact hpl.no hq2 (by decide) (by decide) (by decide) hk
    · have := (hpl.in_lo hk).2
      omega
    · cases h
  have x1 := hx3.cell 1
  have x3 := hx3.cell 3
  have HAP := Lib.hid hap
  clear x2 hap hx1 hx2
  go_wp2_with fail
  have HST := Lib.hid (And.intro hf3 (And.intro hr3 (And.intro hpl3 (And.intro hrl hx3))))
  have HFF := Lib.hid ((HA.out.then f1 (fun k _ hk => by rw [hk]; exact hBp)).then f2 (fun k _ hk => by rw [hk]; exact hBq))
  clear hf1 hf2 hf3 hr1 hr2 hr3 hpl hpl3 hrl hq1 hq2 hp1 f1 f2 s0
  go_region_held3 (fun V => V.cell? ⟨x, 1, none⟩ = some (.pointer (some ⟨f, 0, none⟩)) ∧ V.cell? ⟨x, 3, none⟩ = some (.pointer (some ⟨r, 0, none⟩))) (first | exact ⟨x1, x3⟩ | exact kk2 | exact kk1) (first | (go_at_call 10; refine (Start_f _ HST.out.1.drew (HST.out.2.2.1.fr (Fr.refl (fun _ => False) w2).drew (fun _ _ h => h)) hBf).mono ?_; rintro e w3 ⟨rfl, g, a1, t1, l1⟩; have HA1 := Lib.hid a1; have HT1 := Lib.hid t1; have HX1 := Lib.hid (HST.out.2.2.2.2.drew.fr t1 (fun e => Blk.ne_ HST.out.2.2.2.2 HST.out.1 (by decide) e)); have HR1 := Lib.hid (HST.out.2.1.drew.fr t1 (fun e => Blk.ne_ HST.out.2.1 HST.out.1 (by decide) e)); have HP1 := Lib.hid ((HST.out.2.2.2.1.fr (Fr.refl (fun _ => False) w2).drew (fun _ _ h => h)).fr t1 (fun k hk he => HST.out.2.2.2.1.no HST.out.1 (by decide) (by decide) (by decide) (he ▸ hk))); have kk1 := (And.intro (HX1.out.cell 1) (HX1.out.cell 3))) | (go_at_call 41; refine (Start_r _ HR1.out HP1.out hBr).mono ?_; rintro e w4 ⟨rfl, lv, c2, t2, l2⟩; have HC2 := Lib.hid c2; have HA2 := Lib.hid (HA1.out.fr t2 (fun k hk he => HA1.out.no HR1.out (by decide) (by decide) (by decide) (by decide) (by decide) (by decide) (he ▸ hk))); have HX2 := Lib.hid (HX1.out.fr t2 (fun e => Blk.ne_ HX1.out HR1.out (by decide) e)); have HT2 := Lib.hid ((HFF.out.drew.then HT1.out (fun k _ hk => by rw [hk]; exact hBf)).then t2 (fun k _ hk => by rw [hk]; exact hBr)); have kk2 := (And.intro (HX2.out.cell 1) (HX2.out.cell 3))) | (go_at_call 41; refine (Start_r _ HST.out.2.1.drew (HST.out.2.2.2.1.fr (Fr.refl (fun _ => False) w2).drew (fun _ _ h => h)) hBr).mono ?_; rintro e w3 ⟨rfl, lv, c1, t1, l1⟩; have HC1 := Lib.hid c1; have HT1 := Lib.hid t1; have HX1 := Lib.hid (HST.out.2.2.2.2.drew.fr t1 (fun e => Blk.ne_ HST.out.2.2.2.2 HST.out.2.1 (by decide) e)); have HF1 := Lib.hid (HST.out.1.drew.fr t1 (fun e => Blk.ne_ HST.out.1 HST.out.2.1 (by decide) e)); have HP1 := Lib.hid ((HST.out.2.2.1.fr (Fr.refl (fun _ => False) w2).drew (fun _ _ h => h)).fr t1 (fun k hk he => HST.out.2.2.1.no HST.out.2.1 (by decide) (by decide) (by decide) (he ▸ hk))); have kk1 := (And.intro (HX1.out.cell 1) (HX1.out.cell 3))) | (go_at_call 10; refine (Start_f _ HF1.out HP1.out hBf).mono ?_; rintro e w4 ⟨rfl, g, a2, t2, l2⟩; have HA2 := Lib.hid a2; have HC2 := Lib.hid (HC1.out.fr t2 (fun k hk he => HC1.out.no HF1.out (by decide) (by decide) (by decide) (by decide) (by decide) (by decide) (he ▸ hk))); have HX2 := Lib.hid (HX1.out.fr t2 (fun e => Blk.ne_ HX1.out HF1.out (by decide) e)); have HT2 := Lib.hid ((HFF.out.drew.then HT1.out (fun k _ hk => by rw [hk]; exact hBr)).then t2 (fun k _ hk => by rw [hk]; exact hBf)); have kk2 := (And.intro (HX2.out.cell 1) (HX2.out.cell 3))))
  all_goals
    go_wp2_with fail
    go_ret
    exact ⟨rfl, _, _, ⟨HX2.out, ⟨_, _, _, _, _, _, _, HA2.out, rfl, ⟨fun y hy => (by obtain rfl : y = colonT := (by simpa using hy); exact ⟨Int.le_refl 0, by simp [colonT], by simp [colonT], fun j hj => by cases hj⟩), fun i t ht => by simp at ht⟩, Nat.le_refl _, rfl⟩, ⟨_, _, _, _, _, _, HC2.out, rfl, Nat.le_refl _, (fun y hy => by rw [List.mem_singleton.1 hy]; simp), rfl⟩, apart_of HA2.out HC2.out HAP.out (fun a ha b hb k h1 h2 => by
      obtain rfl : a = colonT := by simpa using ha
      cases h1)⟩, HT2.out⟩
end
section
variable {w w' : World} {B x f p q r N : Nat} {ks : List Int} {S R : Nat → Prop} {k : Int}
theorem KindsP {V : World} (h : PrS B f p ks N V S) : Calls Try.prog 26 #[.pointer (some ⟨f, 0, none⟩)] V fun e w' => ∃ v, e = .returned v ∧ OwnI w' V.heap.size v ks ∧ Fr0 V w' := by
  obtain ⟨st, g, scap, ts, q1, cap, tv, h, rfl, _⟩ := h
  exact Kinds_f V h
theorem KindsR {V : World} (h : RFK B r p ks N V R) : Calls Try.prog 29 #[.pointer (some ⟨r, 0, none⟩)] V fun e w' => ∃ v, e = .returned v ∧ OwnI w' V.heap.size v ks ∧ Fr0 V w' := by
  obtain ⟨xs, lv, ts, q1, cap, tv, h, rfl, _⟩ := h
  exact Kinds_r V h
theorem RdI.fr0 {w w' : World} {v : Value} {xs : List Int} (h : RdI w v xs) (hf : Fr0 w w') : RdI w' v xs := Rd.fr0 h hf
theorem OwnI.rd {w : World} {B : Nat} {v : Value} {xs : List Int} (h : OwnI w B v xs) : RdI w v xs := own_src h
theorem nextK_head (k : Int) (t : List Int) : ∃ t', nextK k (6 :: t) = 6 :: t' := by
  unfold nextK
  cases h : stepK k (6 :: t) with
  | none => exact ⟨t, rfl⟩
  | some ks => exact step_head h
set_option maxRecDepth 100000 in
set_option maxHeartbeats 16000000 in
theorem cross_walk (v1 : Value) (l : List Int) (word : Int) (w : World) (h1 : RowI w w.heap.size v1 l) (hw : -9223372036854775808 ≤ word ∧ word ≤ 9223372036854775807) : Calls Try.prog 6 #[v1, .int .i64 word] w fun e w' => e = .returned (.bool true) ∧ Fr0 w w' := by
  have hrd := h1.rd
  obtain ⟨LA, lc, rfl⟩ := hrd.form
  obtain ⟨n, hn⟩ : ∃ n, l.length = n := ⟨_, rfl⟩
  have HN := Lib.hid hn
  have H1 := Lib.hid h1
  have hlmax : n ≤ 9223372036854775807 := by
    obtain ⟨A, cap, e, h2, h3, _⟩ := h1
    omega
  rw [hn] at H1 ⊢
  clear h1 hrd hn hw
  by_cases hbig : 60 < n
  · have hbI : (60 : Int) < (n : Int) := by omega
    go_enter Try.func6, Try.ntmps6
    go_wp2_with (go_at_call 7; refine (awake16 _).mono ?_; rintro e w2 ⟨rfl, hf2⟩)
    go_ret
    exact ⟨rfl, hf2⟩
  have hbI : ¬ ((60 : Int) < (n : Int)) := by omega
  by_cases hw1 : word < 1
  · go_enter Try.func6, Try.ntmps6
    go_wp2_with (go_at_call 7; refine (awake16 _).mono ?_; rintro e w2 ⟨rfl, hf2⟩)
    go_ret
    exact ⟨rfl, hf2⟩
  by_cases hw18 : 18 < word
  · have hw1' : 1 ≤ word := by omega
    go_enter Try.func6, Try.ntmps6
    go_wp2_with (go_at_call 7; refine (awake16 _).mono ?_; rintro e w2 ⟨rfl, hf2⟩)
    go_ret
    exact ⟨rfl, hf2⟩
  have hdb : decide (60 < n) = false := decide_eq_false hbig
  have hd1 : decide (word < 1) = false := decide_eq_false hw1
  have hd18 : decide (18 < word) = false := decide_eq_false hw18
  have HBG := Lib.hid hbig
  go_enter Try.func6, Try.ntmps6
  go_wp2_with fail
  go_at_call 8
  refine (begun_16 _).mono ?_
  rintro e w1 ⟨x, p, f, q, r, rfl, hx, hp, hf, hq, hr, ⟨hlx, hlp, hlf, hlq, hlr⟩, hfr⟩
  have HF1 := Lib.hid hfr
  have x0 := hx.cell 0
  have x1 := hx.cell 1
  have HBE := Lib.hid (does_5b (B := w.heap.size) w1 hx hp hf hq hr ⟨hlx, hlp, hlf, hlq, hlr⟩)
  clear hx hp hf hq hr hlx hlp hlf hlq hlr hfr hbig hbI hw1 hw18 hdb hd1 hd18
  go_wp2_with (go_at_call 20; refine HBE.out.mono ?_; rintro e w2 ⟨rfl, S, R, hb, hf2⟩)
  have HB := Lib.hid hb
  have HF2 := Lib.hid ((HF1.out.of0 (S := fun k => w.heap.size ≤ k)).then hf2 (fun k _ hk => hk))
  clear hb hf2 x0 x1
  go_loopw [6] (fun i wr => ∃ j : Nat, j ≤ n ∧ i = .int .i64 j ∧ ∃ t S R, Bo wr x p f q r (PrS w.heap.size f p (6 :: t) j) (RFK w.heap.size r q (6 :: t) j) S R ∧ t.length ≤ j ∧ Fr (fun k => w.heap.size ≤ k) w wr) (fun i _ => n - (intOf i).toNat)
  case atStart => exact ⟨0, by omega, rfl, [], _, _, HB.out, Nat.le_refl _, HF2.out⟩
  case round =>
    obtain ⟨j, hj, rfl, t, S1, R1, hb, htl, hfr⟩ := hrel
    have HB1 := Lib.hid hb
    have HFR := Lib.hid hfr
    have HTL := Lib.hid htl
    have HIN := Lib.hid (fun k (hk : S1 k ∨ R1 k) => hk.elim (fun h => ((PrS.side _ _ _ _ _).lo hb.a h).1) (fun h => ((RFK.side _ _ _ _ _).lo hb.c h).1))
    have hn60 : n ≤ 60 := by have := HBG.out; omega
    clear hb hfr htl
    by_cases hlt : j < n
    · have hltI : (j : Int) < (n : Int) := by omega
      have hj0 : (0 : Int) ≤ (j : Int) := by omega
      obtain ⟨b, off, a, e1, hbw, hla, _, hc⟩ := H1.out.at_ (k := j) (by rw [HN.out]; exact hlt)
      subst e1
      have e2 := (HFR.out.cell (p := ⟨b, off + j, none⟩) hbw (fun h => by dsimp only at h; omega)).trans hc
      have HST := Lib.hid (cross_step (k := a) HB1.out (by have := HTL.out; rw [List.length_cons]; omega) (by omega) (fun e => by cases e))
      have HLA := Lib.hid hla
      clear hc hla hbw
      go_wp2_with (go_at_call 20; refine HST.out.mono ?_; rintro e w3 ⟨⟨v, rfl⟩, S', R', hb3, t3⟩)
      have hnl := nextK_len a (6 :: t)
      obtain ⟨t', ht'⟩ := nextK_head a t
      rw [ht'] at hb3 hnl
      rw [List.length_cons, List.length_cons] at hnl
      go_roundw
      case rel => exact ⟨j + 1, by omega, by push_cast; rfl, t', S', R', hb3, by have := HTL.out; omega, HFR.out.then t3.1 (fun k _ hk => HIN.out k hk)⟩
      case measure => first | omega | (simp [intOf]; omega)
    · obtain rfl : j = n := by omega
      have x1 := HB1.out.tw.cell 1
      go_wp2_with fail
      go_at_call 26
      refine (KindsP HB1.out.a).mono ?_
      rintro e w3 ⟨v3, rfl, hv3, hf3⟩
      obtain ⟨K3, kc3, rfl⟩ := hv3.src
      obtain ⟨nk, hnk⟩ : ∃ nk, (6 :: t : List Int).length = nk := ⟨_, rfl⟩
      rw [hnk]
      have HNK := Lib.hid hnk
      have HV3 := Lib.hid hv3
      have HB3 := Lib.hid (HB1.out.fr0 (PrS.side _ _ _ _ _) (RFK.side _ _ _ _ _) hf3)
      have HF3 := Lib.hid (HFR.out.trans hf3.of0)
      clear hv3 hf3 x1 hnk
      have x0 := HB3.out.tw.cell 0
      have x1 := HB3.out.tw.cell 1
      obtain ⟨st, g, scap, ts, q1, cap1, tv1, hfl, hks, hg, htn, hS⟩ := HB3.out.a
      have HLE := Lib.hid (fun V (hV : Fr0 w3 V) => Len_p V (hfl.pl.fr hV (fun _ _ h => h)))
      obtain ⟨tn, htn'⟩ : ∃ tn, ts.length = tn := ⟨_, rfl⟩
      rw [htn'] at HLE
      clear hfl hks hg htn hS htn'
      go_wp2_with (go_at_call 17; refine (HLE.out _ (Fr.refl _ _)).mono ?_; rintro e w4 ⟨rfl, rfl⟩)
      have hP := crossP1 (k := word) HB3.out.a (by rw [HNK.out]; have := HTL.out; have := HNK.out; rw [List.length_cons] at this; omega) (by omega) (fun e => by cases e)
      rcases hP with hP | ⟨hnone, hP⟩
      · have HPP := Lib.hid hP
        clear hP
        go_at_call 12
        refine HPP.out.mono ?_
        rintro e w5 ⟨rfl, ks', S5, hst, hp5, t5⟩
        have HST := Lib.hid hst
        have HB5 := Lib.hid (HB3.out.left (PrS.side _ _ _ _ _) (RFK.side _ _ _ _ _) hp5 t5)
        have HF5 := Lib.hid (HF3.out.then t5.1 (fun k _ hk => HIN.out k (.inl hk)))
        have HLK := Lib.hid (show ks'.length ≤ 1000 from by
          have h1 := stepK_len hst
          have := HTL.out
          rw [List.length_cons] at h1
          omega)
        clear x0 x1 hst hp5 t5
        have HDR := Lib.hid (show ∀ V, Fr0 w5 V → Calls Try.prog 28 #[.pointer (some ⟨r, 0, none⟩), .int .i64 word] V (fun e V' => e = .returned (.int .i64 0) ∧ ∃ R', RFK w.heap.size r q ks' (j + 1) V' R' ∧ Turn R1 R' V V') from fun V hV => by
          rcases crossR1 (k := word) (HB5.out.fr0 (PrS.side _ _ _ _ _) (RFK.side _ _ _ _ _) hV).c (by have := HTL.out; rw [List.length_cons]; omega) (by omega) with ⟨k2, h2, h3⟩ | ⟨h0, _⟩
          · rw [HST.out] at h2
            obtain rfl := Option.some.inj h2
            exact h3
          · rw [HST.out] at h0
            cases h0)
        have HB5d := Lib.hid (HB5.out.fr0 (PrS.side _ _ _ _ _) (RFK.side _ _ _ _ _) (Fr.refl (fun _ => False) w5).drew)
        have k00 := And.intro (HB5d.out.tw.cell 1) (HB5d.out.tw.cell 3)
        go_wp2_with fail
        go_region_held3 (fun V => V.cell? ⟨x, 1, none⟩ = some (.pointer (some ⟨f, 0, none⟩)) ∧ V.cell? ⟨x, 3, none⟩ = some (.pointer (some ⟨r, 0, none⟩))) (first | exact k00 | exact kk5 | exact kk4 | exact kk3 | exact kk2 | exact kk1) (first | (go_at_call 28; refine (HDR.out _ (Fr.refl (fun _ => False) w5).drew).mono ?_; rintro e w6 ⟨rfl, R6, hc6, t6⟩; have HB6 := Lib.hid (HB5d.out.right (PrS.side _ _ _ _ _) (RFK.side _ _ _ _ _) hc6 t6); have HF6 := Lib.hid (HF5.out.drew.then t6.1 (fun k _ hk => HIN.out k (.inr hk))); have kk1 := And.intro (HB6.out.tw.cell 1) (HB6.out.tw.cell 3); clear hc6 t6) | (go_at_call 26; refine (KindsP HB6.out.a).mono ?_; rintro e w7 ⟨va, rfl, hva, hf7⟩; obtain ⟨Ka, kca, rfl⟩ := hva.src; have HVA7 := Lib.hid hva; have HF7 := Lib.hid hf7; have hx7 := HB6.out.tw.fr0 hf7; have kk2 := And.intro (hx7.cell 1) (hx7.cell 3); clear hva hf7 hx7) | (go_at_call 29; refine (KindsR (HB6.out.fr0 (PrS.side _ _ _ _ _) (RFK.side _ _ _ _ _) HF7.out).c).mono ?_; rintro e w8 ⟨vb, rfl, hvb, hf8⟩; obtain ⟨Kb, kcb, rfl⟩ := hvb.src; have HRA := Lib.hid ((show RdI w7 _ ks' from own_src HVA7.out).fr0 hf8); have HRB := Lib.hid (show RdI w8 _ ks' from own_src hvb); have HF8 := Lib.hid (HF7.out.trans hf8); have hx8 := HB6.out.tw.fr0 HF8.out; have kk3 := And.intro (hx8.cell 1) (hx8.cell 3); clear hvb hf8 hx8) | (go_at_call 29; refine (KindsR HB6.out.c).mono ?_; rintro e w7 ⟨vb, rfl, hvb, hf7⟩; obtain ⟨Kb, kcb, rfl⟩ := hvb.src; have HVB7 := Lib.hid hvb; have HG7 := Lib.hid hf7; have hx7 := HB6.out.tw.fr0 hf7; have kk2 := And.intro (hx7.cell 1) (hx7.cell 3); clear hvb hf7 hx7) | (go_at_call 26; refine (KindsP (HB6.out.fr0 (PrS.side _ _ _ _ _) (RFK.side _ _ _ _ _) HG7.out).a).mono ?_; rintro e w8 ⟨va, rfl, hva, hf8⟩; obtain ⟨Ka, kca, rfl⟩ := hva.src; have HRB := Lib.hid ((show RdI w7 _ ks' from own_src HVB7.out).fr0 hf8); have HRA := Lib.hid (show RdI w8 _ ks' from own_src hva); have HF8 := Lib.hid (HG7.out.trans hf8); have hx8 := HB6.out.tw.fr0 HF8.out; have kk3 := And.intro (hx8.cell 1) (hx8.cell 3); clear hva hf8 hx8) | (go_at_call 27; refine (ints_eq _ _ ks' _ HRA.out HRB.out HLK.out).mono ?_; rintro e w9 ⟨rfl, hf9⟩; have HF9 := Lib.hid (HF8.out.trans hf9); have hx9 := HB6.out.tw.fr0 HF9.out; have kk4 := And.intro (hx9.cell 1) (hx9.cell 3); clear hf9 hx9) | (go_at_call 7; refine (awake16 _).mono ?_; rintro e w10 ⟨rfl, hf10⟩; have HF10 := Lib.hid (HF9.out.trans hf10); have hx10 := HB6.out.tw.fr0 HF10.out; have kk5 := And.intro (hx10.cell 1) (hx10.cell 3); clear hf10 hx10))
        all_goals
          go_wp2_with fail
          go_ret
          exact ⟨rfl, (HF6.out.then HF10.out (fun k _ hk => hk.elim)).mono (fun k hk h => by omega)⟩
      · have HPP := Lib.hid hP
        clear hP hnone
        go_at_call 12
        refine HPP.out.mono ?_
        rintro e w5 ⟨rfl, hf5⟩
        have HF5 := Lib.hid hf5
        have HB5 := Lib.hid (HB3.out.fr0 (PrS.side _ _ _ _ _) (RFK.side _ _ _ _ _) hf5)
        clear x0 x1 hf5
        have x0 := HB5.out.tw.cell 0
        have x1 := HB5.out.tw.cell 1
        have HV5 := Lib.hid (own_fr HV3.out HF5.out (fun _ _ h => h))
        go_wp2_with fail
        go_at_call 26
        refine (KindsP HB5.out.a).mono ?_
        rintro e w6 ⟨v6, rfl, hv6, hf6⟩
        have HF6 := Lib.hid (HF5.out.trans hf6)
        have HV56 := Lib.hid (own_fr HV5.out hf6 (fun _ _ h => h))
        have HV6 := Lib.hid hv6
        obtain ⟨K6, kc6, rfl⟩ := hv6.src
        rw [HNK.out]
        have HB6 := Lib.hid (HB5.out.fr0 (PrS.side _ _ _ _ _) (RFK.side _ _ _ _ _) hf6)
        clear x0 x1 hf6 hv6
        have x0 := HB6.out.tw.cell 0
        have x1 := HB6.out.tw.cell 1
        have hra := (show OwnI w6 w5.heap.size (.slice K6 (6 :: t : List Int).length kc6) (6 :: t) from HV6.out).rd
        have hrb := (show OwnI w6 wr.heap.size (.slice K3 (6 :: t : List Int).length kc3) (6 :: t) from HV56.out).rd
        have HIE := Lib.hid (ints_eq _ _ (6 :: t) w6 hra hrb (by have := HTL.out; rw [List.length_cons]; omega))
        rw [HNK.out] at HIE
        clear hra hrb
        go_wp2_with (first | (go_at_call 27; refine HIE.out.mono ?_; rintro e w7 ⟨rfl, hf7⟩; have HF7 := Lib.hid (HF6.out.trans hf7); have HX7 := Lib.hid (HB6.out.tw.fr0 hf7); clear x0 x1 hf7; have x0 := HX7.out.cell 0) | (go_at_call 17; refine (HLE.out _ HF7.out).mono ?_; rintro e w8 ⟨rfl, rfl⟩) | (go_at_call 7; refine (awake16 _).mono ?_; rintro e w9 ⟨rfl, hf9⟩))
        go_ret
        exact ⟨rfl, (HF3.out.then (HF7.out.trans hf9) (fun k _ hk => hk.elim)).mono (fun k hk h => by omega)⟩
end
end Go.Proofs.Ytoldegajbonliaa
