/- The law of chapter 14: a step on both: Mark. -/
import Derived.Test.YtmhjnbolngdijaaQ2
import Derived.Deep.Cut
import Derived.Deep.CutRange
import Derived.Deep.RegionLaw
import Derived.BigQuiet
import Derived.Test.YtmhjnbolngdijaaNawake
namespace Go.Proofs.Ytmhjnbolngdijaa
open Go Go.RowKit
set_option linter.unusedVariables false
attribute [local go_sem] Oper.semAt_some

theorem infoPM : (Try.prog.info? 58).map (fun i => (i.zero, i.size, i.bytes)) = some (some (.pointer none), 1, 8) := by kernel_rfl
theorem infoPN : (Try.prog.info? 52).map (fun i => (i.zero, i.size, i.bytes)) = some (some (.pointer none), 1, 8) := by kernel_rfl
theorem info3 {P : Program} {t : TypeId} {z : Value} {a b : Nat} (h : (P.info? t).map (fun i => (i.zero, i.size, i.bytes)) = some (some z, a, b)) : ∃ i, P.info? t = some i ∧ i.zero = some z ∧ i.size = a ∧ i.bytes = b := by
  cases hi : P.info? t with
  | none => rw [hi] at h; cases h
  | some i =>
    rw [hi] at h
    simp only [Option.map_some, Option.some.injEq, Prod.mk.injEq] at h
    exact ⟨i, rfl, h.1, h.2.1, h.2.2⟩
section
variable {B x c d : Nat} {s : St} {S R M K : Nat → Prop} {l1 l2 : List (Nat × St)} {mv kv : Value}
/-- What a step leaves of the marks. -/
def Grows (s : St) (l1 l2 l1' l2' : List (Nat × St)) : Prop := (l1' = l1 ∧ l2' = l2) ∨ ∃ p q, l1' = l1 ++ [(p, s)] ∧ l2' = l2 ++ [(q, s)]
set_option maxRecDepth 100000 in
set_option maxHeartbeats 8000000 in
theorem does10 (t : Stp) (hk : t.kind = 10) (w : World) (hv : ∃ A n cap, t.l = .slice A n cap) (h : All w B x c d s S R l1 M l2 K mv kv) (hol : s.order.length ≤ 1000) (hl2 : l2.length = l1.length) :
    Calls Try.prog 28 #[.pointer (some ⟨x, 0, none⟩), t.val] w fun e w' => e = .returned (.bool true) ∧ ∃ S' R' l1' M' l2' K' mv' kv', All w' B x c d s S' R' l1' M' l2' K' mv' kv' ∧ Grows s l1 l2 l1' l2' ∧ Turn (AllIn x S R M K) (AllIn x S' R' M' K') w w' := by
  have hf0 := (((Fr.refl (fun _ => False) w).alloc (.cells #[.int .i64 t.kind, .string (strOfNums t.name), .int .i64 t.xt, .int .i64 t.list, .bool t.imm, .bool t.only, .int .i64 t.n, t.l] 61)).alloc (.cells #[.string (strOfNums t.name), .int .i64 t.xt, .int .i64 t.list, .bool t.imm, .bool t.only] 30)).alloc (.cells #[.string (strOfNums t.name), .int .i64 t.xt, .int .i64 t.list, .bool t.imm, .bool t.only] 71)
  obtain ⟨W, hW⟩ : ∃ W, (((w.alloc (.cells #[.int .i64 t.kind, .string (strOfNums t.name), .int .i64 t.xt, .int .i64 t.list, .bool t.imm, .bool t.only, .int .i64 t.n, t.l] 61)).alloc (.cells #[.string (strOfNums t.name), .int .i64 t.xt, .int .i64 t.list, .bool t.imm, .bool t.only] 30)).alloc (.cells #[.string (strOfNums t.name), .int .i64 t.xt, .int .i64 t.list, .bool t.imm, .bool t.only] 71)) = W := ⟨_, rfl⟩
  rw [hW] at hf0
  have HW := Lib.hid hW
  have hac := h.fr0 hf0
  have htc : Turn (AllIn x S R M K) (AllIn x S R M K) w W := Turn.of0 hf0
  clear hW h hf0
  obtain ⟨A, n, cap, hv⟩ := hv
  obtain ⟨tk, tn, tx, tl, ti, tO, tN, tv, ts⟩ := t
  dsimp only at *
  subst hk hv
  unfold Stp.val
  obtain ⟨_, A1, cap1, hmv, _⟩ := own_src hac.mks.row
  obtain ⟨_, A2, cap2, hkv, _⟩ := own_src hac.rks.row
  subst hmv hkv
  obtain ⟨n1, hn1⟩ : ∃ n1, l1.length = n1 := ⟨_, rfl⟩
  rw [hl2] at hac
  rw [hn1] at hac hl2
  have HN1 := Lib.hid hn1
  have HN2 := Lib.hid hl2
  have HMK := Lib.hid (fun (V : World) hV => Mark_ng (B := B) (c := c) (s := s) (S := S) V hV (by omega))
  have HMR := Lib.hid (fun (V : World) hV => Mark_rn (B := B) (c := d) (s := s) (S := R) V hV (by omega))
  clear hn1 hl2 hol
  by_cases hlt : n1 < 10
  · have hltI : (n1 : Int) < 10 := by omega
    obtain ⟨i1, I1⟩ := info3 infoPM
    obtain ⟨i2, I2⟩ := info3 infoPN
    have HI1 := Lib.hid I1
    have HI2 := Lib.hid I2
    clear I1 I2
    go_enter Try.func28, Try.ntmps28
    go_upto_region 33 with (fail)
    rw [HW.out]
    have q0 := hac.both.two.cell 0
    have q2 := hac.both.two.cell 2
    go_upto_region 34 with (fail)
    clear q0 q2
    go_cut [] from 275 to 288 (fun wx => ∃ p S2 M' A4 cap4, All wx B x c d s S2 R (l1 ++ [(p, s)]) M' l2 K (.slice A4 (n1 + 1) cap4) (.slice A2 n1 cap2) ∧ Turn (AllIn x S R M K) (AllIn x S2 R M' K) w wx)
    case first =>
      have htc := htc.trans (Turn.of0 (Fr.refl (fun _ => False) _).drew)
      have hac := hac.fr0 (Fr.refl (fun _ => False) _).drew
      have q0 := hac.both.two.cell 0
      have q2 := hac.both.two.cell 2
      have hxl := hac.both.xlt
      have HXM := Lib.hid (show some x ≠ (Value.slice A1 n1 cap1).ownBlock from fun e => (hac.far1 x (hac.mks.inM x e.symm)).2.2.1 rfl)
      have HOW := Lib.hid (show ∀ V, Fr S W.drew V → V.ownsRow B 58 1 (.slice A1 n1 cap1) n1 (ptrs l1) from fun (V : World) (hV : Fr S W.drew V) => by
        have := (hac.mks.fr (staysM B c) hV (fun k hk => (hac.far1 k hk).1)).row
        rwa [HN1.out] at this)
      have HBL := Lib.hid (Nat.le_trans hac.both.lo (Nat.le_of_lt hxl))
      clear hxl
      go_region_law (first | (go_simp; go_at_call 24; refine (HMK.out _ hac.both.ng).mono ?_; rintro e w2 ⟨p, MA, S2, rfl, m1, n2, t2, m4⟩; have hb2 := (hac.both.atNg n2 t2).1; have q0 := hb2.two.cell 0; have q2 := hb2.two.cell 2; have q2a := fun o => (Blk.alloc hb2.two o).cell 2; go_wp2_with fail) | (refine step_append_src (P := Try.prog) (t := 53) (e := 58) (size := 1) (n := n1) (m := 1) (base := B) (i := i1) (z := .pointer none) (bytes := 8) (v := .slice A1 n1 cap1) (xs := ptrs l1) (news := [.pointer (some ⟨p, 0, none⟩)]) rfl (.tmp 279) (.tmp 285) rfl Try.underlying53 HI1.out.1 HI1.out.2.1 HI1.out.2.2.1 HI1.out.2.2.2 rfl (by decide) rfl rfl (HOW.out _ (t2.1.alloc _)) (Rd.new w2 #[.pointer (some ⟨p, 0, none⟩)] rfl 1) (fun u hu => by simp at hu; subst hu; rfl) (by unfold maxLen; omega) (by omega) (Nat.le_trans HBL.out (t2.1.alloc _).size) ?_; intro v4 w4 ho hg hk4; have hb4 := (Blk.alloc hb2.two _).grown hg HXM.out; obtain ⟨_, A4, cap4, rfl, _⟩ := own_src ho; have q2 := hb4.cell 2; have y2 := hb4.frozen 2))
      all_goals
        obtain ⟨M', hac5, htc5⟩ := hac.mark m1 n2 t2 m4 hg (by rw [HN1.out]; exact ho) hk4
        have htc := htc.trans htc5
        clear htc5 m1 n2 t2 m4 hg ho hk4 hb4 hb2 q2 y2 q0 HXM HOW HBL
        go_wp2_with fail
        go_meet
        exact ⟨p, S2, M', A4, cap4, hac5, htc⟩
    case rest =>
      obtain ⟨p, S2, M', A4, cap4, hac, htc⟩ := hcut
      go_upto_region 35 with (fail)
      have htc := htc.trans (Turn.of0 (Fr.refl (fun _ => False) _).drew)
      have hac := hac.fr0 (Fr.refl (fun _ => False) _).drew
      have q1 := hac.both.two.cell 1
      have q3 := hac.both.two.cell 3
      have hxl := hac.both.xlt
      have HXK := Lib.hid (show some x ≠ (Value.slice A2 n1 cap2).ownBlock from fun e => (hac.far2 x (hac.rks.inM x e.symm)).2.2 rfl)
      have HOW2 := Lib.hid (show ∀ V, Fr0 wc.drew V → V.ownsRow B 52 1 (.slice A2 n1 cap2) n1 (ptrs l2) from fun (V : World) (hV : Fr0 wc.drew V) => by
        have := (hac.rks.fr (staysR B) hV (fun _ _ x => x)).row
        rwa [HN2.out] at this)
      have HBL := Lib.hid (Nat.le_trans hac.both.lo (Nat.le_of_lt hxl))
      clear hxl
      go_region_law (first | (go_simp; go_at_call 57; refine (HMR.out _ hac.both.rn).mono ?_; rintro e w6 ⟨q, MA, rfl, m1, t2⟩; have hb2 := hac.both.fr0 t2; have q1 := hb2.two.cell 1; have q3 := hb2.two.cell 3; have q3a := fun o => (Blk.alloc hb2.two o).cell 3; go_wp2_with fail) | (refine step_append_src (P := Try.prog) (t := 54) (e := 52) (size := 1) (n := n1) (m := 1) (base := B) (i := i2) (z := .pointer none) (bytes := 8) (v := .slice A2 n1 cap2) (xs := ptrs l2) (news := [.pointer (some ⟨q, 0, none⟩)]) rfl (.tmp 293) (.tmp 299) rfl Try.underlying54 HI2.out.1 HI2.out.2.1 HI2.out.2.2.1 HI2.out.2.2.2 rfl (by decide) rfl rfl (HOW2.out _ (t2.alloc _)) (Rd.new w6 #[.pointer (some ⟨q, 0, none⟩)] rfl 1) (fun u hu => by simp at hu; subst hu; rfl) (by unfold maxLen; omega) (by omega) (Nat.le_trans HBL.out (t2.alloc _).size) ?_; intro v4 w7 ho hg hk4; have hb4 := (Blk.alloc hb2.two _).grown hg HXK.out; obtain ⟨_, A5, cap5, rfl, _⟩ := own_src ho; have q3 := hb4.cell 3; have y3 := hb4.frozen 3))
      all_goals
        obtain ⟨K', hac5, htc5⟩ := hac.copy m1 t2 hg (by rw [HN2.out]; exact ho) hk4
        have htc := htc.trans htc5
        clear htc5 m1 t2 hg ho hk4 hb4 hb2 q3 y3 q1 HXK HOW2 HBL
        go_wp2_with fail
        go_ret
        exact ⟨rfl, _, _, _, _, _, _, _, _, hac5, .inr ⟨p, q, rfl, rfl⟩, htc⟩
  · have hltI : (10 : Int) ≤ (n1 : Int) := by omega
    go_enter Try.func28, Try.ntmps28
    go_upto_region 33 with (fail)
    rw [HW.out]
    have q0 := hac.both.two.cell 0
    have q2 := hac.both.two.cell 2
    go_wp2_with fail
    go_ret
    exact ⟨rfl, _, _, _, _, _, _, _, _, hac, .inl ⟨rfl, rfl⟩, htc⟩
end
end Go.Proofs.Ytmhjnbolngdijaa

namespace Go.Proofs.Ytmhjnbolngdijaa
open Go Go.RowKit
set_option linter.unusedVariables false
attribute [local go_sem] Oper.semAt_some

section
variable {B x c d : Nat} {s : St} {S R M K : Nat → Prop} {l1 l2 : List (Nat × St)} {mv kv : Value}
set_option maxRecDepth 100000 in
set_option maxHeartbeats 8000000 in
theorem does11 (t : Stp) (hk : t.kind = 11) (w : World) (hv : ∃ A n cap, t.l = .slice A n cap) (hN : i64 t.n) (h : All w B x c d s S R l1 M l2 K mv kv) (hsm : l1.map Prod.snd = l2.map Prod.snd) (hlen : l1.length ≤ 1000) (hol : ∀ m ∈ l1, m.2.order.length ≤ 1000) :
    Calls Try.prog 28 #[.pointer (some ⟨x, 0, none⟩), t.val] w fun e w' => e = .returned (.bool true) ∧ ∃ s' S' R', All w' B x c d s' S' R' l1 M l2 K mv kv ∧ (s' = s ∨ ∃ m ∈ l1, s' = m.2) ∧ Turn (AllIn x S R M K) (AllIn x S' R' M K) w w' := by
  have hf0 := (((Fr.refl (fun _ => False) w).alloc (.cells #[.int .i64 t.kind, .string (strOfNums t.name), .int .i64 t.xt, .int .i64 t.list, .bool t.imm, .bool t.only, .int .i64 t.n, t.l] 61)).alloc (.cells #[.string (strOfNums t.name), .int .i64 t.xt, .int .i64 t.list, .bool t.imm, .bool t.only] 30)).alloc (.cells #[.string (strOfNums t.name), .int .i64 t.xt, .int .i64 t.list, .bool t.imm, .bool t.only] 71)
  have hbx := boxed_new w t
  obtain ⟨W, hW⟩ : ∃ W, (((w.alloc (.cells #[.int .i64 t.kind, .string (strOfNums t.name), .int .i64 t.xt, .int .i64 t.list, .bool t.imm, .bool t.only, .int .i64 t.n, t.l] 61)).alloc (.cells #[.string (strOfNums t.name), .int .i64 t.xt, .int .i64 t.list, .bool t.imm, .bool t.only] 30)).alloc (.cells #[.string (strOfNums t.name), .int .i64 t.xt, .int .i64 t.list, .bool t.imm, .bool t.only] 71)) = W := ⟨_, rfl⟩
  rw [hW] at hf0 hbx
  have HW := Lib.hid hW
  have hac := h.fr0 hf0
  have htc : Turn (AllIn x S R M K) (AllIn x S R M K) w W := Turn.of0 hf0
  clear hW h hf0
  obtain ⟨A, n, cap, hv⟩ := hv
  obtain ⟨tk, tn, tx, tl, ti, tO, tN, tv, ts⟩ := t
  dsimp only at *
  subst hk hv
  unfold Stp.val
  have hl2 : l2.length = l1.length := by
    have := congrArg List.length hsm
    simpa using this.symm
  obtain ⟨_, A1, cap1, hmv, hr1⟩ := own_src hac.mks.row
  obtain ⟨_, A2, cap2, hkv, hr2⟩ := own_src hac.rks.row
  subst hmv hkv
  obtain ⟨n1, hn1⟩ : ∃ n1, l1.length = n1 := ⟨_, rfl⟩
  rw [hl2] at hac hr2 ⊢
  rw [hn1] at hac hl2 hr1 hr2 hlen ⊢
  have HN1 := Lib.hid hn1
  have HN2 := Lib.hid hl2
  have HBN := Lib.hid (fun (V : World) hV => Back_nil (B := B) (c := c) (s := s) (S := S) V hV)
  clear hn1 hl2
  by_cases hn0 : n1 = 0
  · subst hn0
    clear hr1 hr2
    go_enter Try.func28, Try.ntmps28
    go_upto_region 37 with (fail)
    rw [HW.out]
    have q0 := hac.both.two.cell 0
    have q2 := hac.both.two.cell 2
    go_wp2_with (go_at_call 23; refine (HBN.out _ hac.both.ng).mono ?_; rintro e w2 ⟨rfl, S2, n2, t2⟩)
    go_ret
    have hb := hac.both.atNg n2 t2
    have hs := hac.step hb.1 hb.2
    exact ⟨rfl, _, _, _, hs.1, .inl rfl, htc.trans hs.2⟩
  · have hn0I : (0 : Int) < (n1 : Int) := by omega
    have hn0J : ¬ ((n1 : Int) = 0) := by omega
    go_enter Try.func28, Try.ntmps28
    go_upto_region 37 with (fail)
    rw [HW.out]
    have q0 := hac.both.two.cell 0
    have q2 := hac.both.two.cell 2
    have q6 := hbx.st.cell 6
    go_upto_region 39 with (fail)
    go_quiet (fail)
    have htc := htc.trans (Turn.of0 ((Fr.refl (fun _ => False) W).drewN nq))
    have hac := hac.fr0 ((Fr.refl (fun _ => False) W).drewN nq)
    obtain ⟨V0, hV0⟩ : ∃ V0, W.drewN nq = V0 := ⟨_, rfl⟩
    have hf0 := (Fr.refl (fun _ => False) W).drewN nq
    rw [hV0] at hac htc hf0 ⊢
    obtain ⟨b1, off1, hA1, hc1⟩ := hr1 (by omega)
    obtain ⟨b2, off2, hA2, hc2⟩ := hr2 (by omega)
    subst hA1 hA2
    have hM1 : M b1 := hac.mks.inM b1 rfl
    have hK2 : K b2 := hac.rks.inM b2 rfl
    clear q0 q2 q6 hV0
    have hk1 : tN.tmod n1 < n1 := Int.tmod_lt_of_pos _ hn0I
    have hk2 : -(n1 : Int) < tN.tmod n1 := by
      have := Int.lt_tmod_of_pos tN hn0I
      omega
    obtain ⟨k, hkd⟩ : ∃ k, tN.tmod n1 = k := ⟨_, rfl⟩
    rw [hkd] at hk1 hk2 ⊢
    clear hkd
    obtain ⟨kk, hkk, hkl⟩ : ∃ kk : Nat, (if k < 0 then k + n1 else k) = (kk : Int) ∧ kk < n1 := ⟨(if k < 0 then k + n1 else k).toNat, by split <;> omega, by split <;> omega⟩
    have hkkI : (kk : Int) < (n1 : Int) := by omega
    have hkkJ : (0 : Int) ≤ (kk : Int) := by omega
    have hkl1 : kk < l1.length := by rw [HN1.out]; exact hkl
    have hkl2 : kk < l2.length := by rw [HN2.out]; exact hkl
    obtain ⟨p, tt, hm1⟩ : ∃ p tt, l1[kk] = (p, tt) := ⟨_, _, rfl⟩
    obtain ⟨q, tt', hm2⟩ : ∃ q tt', l2[kk] = (q, tt') := ⟨_, _, rfl⟩
    have htt : tt = tt' := by
      have := congrArg (fun l => l[kk]?) hsm
      simp only [List.getElem?_map, List.getElem?_eq_getElem hkl1, List.getElem?_eq_getElem hkl2, hm1, hm2, Option.map_some, Option.some.injEq] at this
      exact this
    subst htt
    have hmem1 : (p, tt) ∈ l1 := hm1 ▸ List.getElem_mem hkl1
    have hmem2 : (q, tt) ∈ l2 := hm2 ▸ List.getElem_mem hkl2
    have e1 := (hf0.cell (p := ⟨b1, off1 + kk, none⟩) (World.block_lt_of_cell? _ _ (hc1 kk _ (by unfold ptrs; rw [List.getElem?_map, List.getElem?_eq_getElem hkl1, hm1]; rfl))) (fun x => x)).trans (hc1 kk _ (by unfold ptrs; rw [List.getElem?_map, List.getElem?_eq_getElem hkl1, hm1]; rfl))
    have e2 := (hf0.cell (p := ⟨b2, off2 + kk, none⟩) (World.block_lt_of_cell? _ _ (hc2 kk _ (by unfold ptrs; rw [List.getElem?_map, List.getElem?_eq_getElem hkl2, hm2]; rfl))) (fun x => x)).trans (hc2 kk _ (by unfold ptrs; rw [List.getElem?_map, List.getElem?_eq_getElem hkl2, hm2]; rfl))
    obtain ⟨MA, a1, a2⟩ := hac.mks.each _ hmem1
    obtain ⟨MB, d1, d2⟩ := hac.rks.each _ hmem2
    have hol1 := hol _ hmem1
    dsimp only at a1 d1 hol1
    have HCE := Lib.hid (show ∀ V, Fr S V0 V → V.cell? ⟨b1, off1 + kk, none⟩ = some (.pointer (some ⟨p, 0, none⟩)) ∧ V.cell? ⟨b2, off2 + kk, none⟩ = some (.pointer (some ⟨q, 0, none⟩)) from fun V hV =>
      ⟨(hV.cell (p := ⟨b1, off1 + kk, none⟩) (hac.mks.lo b1 hM1).2 (hac.far1 b1 hM1).1).trans e1, (hV.cell (p := ⟨b2, off2 + kk, none⟩) (hac.rks.lo b2 hK2).2 (hac.far2 b2 hK2).1).trans e2⟩)
    have HB1 := Lib.hid (show Calls Try.prog 23 #[.pointer (some ⟨c, 0, none⟩), .pointer (some ⟨p, 0, none⟩)] V0.drew _ from Back_ng V0.drew (hac.fr0 (Fr.refl (fun _ => False) V0).drew).both.ng (a1.fr (Fr.refl (fun _ => False) V0).drew (fun _ _ x => x)) (fun k hk => (hac.far1 k (a2 k hk).1).1) (by omega))
    have HB2 := Lib.hid (fun (V : World) (hV : Fr S V0 V) (hr : RnS V B d s R) => Back_rn V hr (d1.fr hV (fun k hk => (hac.far2 k (d2 k hk).1).1)) (by omega))
    have hbc := (hac.fr0 (Fr.refl (fun _ => False) V0).drew).both
    have HAC := Lib.hid (hac.fr0 (Fr.refl (fun _ => False) V0).drew)
    have htc := htc.trans (Turn.of0 (Fr.refl (fun _ => False) V0).drew)
    have z1 := hac.both.two.cell 2
    have HNR := Lib.hid (show ¬ R b1 ∧ ¬ R b2 from ⟨(hac.far1 b1 hM1).2.1, (hac.far2 b2 hK2).2.1⟩)
    clear hac e1 e2 hc1 hc2 a1 a2 d1 d2 hol1 hol hm1 hm2 hsm hkl1 hkl2 hf0 HBN hM1 hK2
    have HCD := Lib.hid (HCE.out _ (Fr.refl S V0).drew)
    by_cases hkn : k < 0
    · rw [if_pos hkn] at hkk
      have hwr : IntKind.i64.wrap (k + n1) = (kk : Int) := by
        rw [hkk]
        simp [IntKind.wrap, IntKind.bits, IntKind.signed]
        omega
      go_upto_region 42 with (fail)
      have q0 := hbc.two.cell 0
      go_region_held3 (fun V => V.cell? ⟨x, 0, none⟩ = some (.pointer (some ⟨c, 0, none⟩)) ∧ V.cell? ⟨x, 1, none⟩ = some (.pointer (some ⟨d, 0, none⟩)) ∧ V.cell? ⟨x, 2, none⟩ = some (.slice (some ⟨b1, off1, none⟩) n1 cap1) ∧ V.cell? ⟨x, 3, none⟩ = some (.slice (some ⟨b2, off2, none⟩) n1 cap2) ∧ V.cell? ⟨b1, off1 + kk, none⟩ = some (.pointer (some ⟨p, 0, none⟩)) ∧ V.cell? ⟨b2, off2 + kk, none⟩ = some (.pointer (some ⟨q, 0, none⟩))) (exact ⟨hbc.two.cell 0, hbc.two.cell 1, hbc.two.cell 2, hbc.two.cell 3, HCD.out.1, HCD.out.2⟩) (first | (go_at_call 23; refine HB1.out.mono ?_; rintro e w2 ⟨rfl, S2, n2, t2⟩; have hb2 := hbc.atNg n2 t2; have hbc := hb2.1; have HCD := Lib.hid (HCE.out _ ((Fr.refl S V0).drew.trans t2.1)); have HF2 := Lib.hid ((Fr.refl S V0).drew.trans t2.1)) | (go_at_call 58; refine (HB2.out _ HF2.out hbc.rn).mono ?_; rintro e w3 ⟨rfl, R3, n3, t3⟩; have hb3 := hbc.atRn n3 t3; have hbc := hb3.1; have HCD := Lib.hid (show w3.cell? ⟨b1, off1 + kk, none⟩ = some (.pointer (some ⟨p, 0, none⟩)) ∧ w3.cell? ⟨b2, off2 + kk, none⟩ = some (.pointer (some ⟨q, 0, none⟩)) from ⟨(t3.1.cell (p := ⟨b1, off1 + kk, none⟩) (World.block_lt_of_cell? _ _ HCD.out.1) HNR.out.1).trans HCD.out.1, (t3.1.cell (p := ⟨b2, off2 + kk, none⟩) (World.block_lt_of_cell? _ _ HCD.out.2) HNR.out.2).trans HCD.out.2⟩)))
      go_wp2_with fail
      go_ret
      have hs := HAC.out.step hb3.1 (hb2.2.trans hb3.2)
      refine ⟨rfl, _, _, _, hs.1, ?_, htc.trans hs.2⟩
      unfold backSt
      split
      · exact .inl rfl
      · exact .inr ⟨_, hmem1, rfl⟩
    · rw [if_neg hkn] at hkk
      subst hkk
      have hknI : (0 : Int) ≤ (kk : Int) := by omega
      go_upto_region 42 with (fail)
      have q0 := hbc.two.cell 0
      go_region_held3 (fun V => V.cell? ⟨x, 0, none⟩ = some (.pointer (some ⟨c, 0, none⟩)) ∧ V.cell? ⟨x, 1, none⟩ = some (.pointer (some ⟨d, 0, none⟩)) ∧ V.cell? ⟨x, 2, none⟩ = some (.slice (some ⟨b1, off1, none⟩) n1 cap1) ∧ V.cell? ⟨x, 3, none⟩ = some (.slice (some ⟨b2, off2, none⟩) n1 cap2) ∧ V.cell? ⟨b1, off1 + kk, none⟩ = some (.pointer (some ⟨p, 0, none⟩)) ∧ V.cell? ⟨b2, off2 + kk, none⟩ = some (.pointer (some ⟨q, 0, none⟩))) (exact ⟨hbc.two.cell 0, hbc.two.cell 1, hbc.two.cell 2, hbc.two.cell 3, HCD.out.1, HCD.out.2⟩) (first | (go_at_call 23; refine HB1.out.mono ?_; rintro e w2 ⟨rfl, S2, n2, t2⟩; have hb2 := hbc.atNg n2 t2; have hbc := hb2.1; have HCD := Lib.hid (HCE.out _ ((Fr.refl S V0).drew.trans t2.1)); have HF2 := Lib.hid ((Fr.refl S V0).drew.trans t2.1)) | (go_at_call 58; refine (HB2.out _ HF2.out hbc.rn).mono ?_; rintro e w3 ⟨rfl, R3, n3, t3⟩; have hb3 := hbc.atRn n3 t3; have hbc := hb3.1; have HCD := Lib.hid (show w3.cell? ⟨b1, off1 + kk, none⟩ = some (.pointer (some ⟨p, 0, none⟩)) ∧ w3.cell? ⟨b2, off2 + kk, none⟩ = some (.pointer (some ⟨q, 0, none⟩)) from ⟨(t3.1.cell (p := ⟨b1, off1 + kk, none⟩) (World.block_lt_of_cell? _ _ HCD.out.1) HNR.out.1).trans HCD.out.1, (t3.1.cell (p := ⟨b2, off2 + kk, none⟩) (World.block_lt_of_cell? _ _ HCD.out.2) HNR.out.2).trans HCD.out.2⟩)))
      go_wp2_with fail
      go_ret
      have hs := HAC.out.step hb3.1 (hb2.2.trans hb3.2)
      refine ⟨rfl, _, _, _, hs.1, ?_, htc.trans hs.2⟩
      unfold backSt
      split
      · exact .inl rfl
      · exact .inr ⟨_, hmem1, rfl⟩
end
end Go.Proofs.Ytmhjnbolngdijaa

namespace Go.Proofs.Ytmhjnbolngdijaa
open Go Go.RowKit
set_option linter.unusedVariables false

/-- What n steps may have made of the pair and its marks. -/
def Inv (n : Nat) (s : St) (l1 l2 : List (Nat × St)) : Prop := Bnd n s ∧ (∀ m ∈ l1, Bnd n m.2) ∧ l1.length ≤ n ∧ l1.map Prod.snd = l2.map Prod.snd
theorem Bnd.up {n : Nat} {s : St} (h : Bnd n s) : Bnd (n + 1) s := ⟨Nat.le_succ_of_le h.1, h.2⟩
section
variable {B x c d : Nat} {s : St} {S R M K : Nat → Prop} {l1 l2 : List (Nat × St)} {mv kv : Value}
theorem does_any (t : Stp) (w : World) (hr : t.Ok w B) (hls : t.ls.length ≤ 100) (hnl : t.name.length ≤ 100) {n : Nat} (hn : n < 1000) (hi : Inv n s l1 l2) (h : All w B x c d s S R l1 M l2 K mv kv) :
    Calls Try.prog 28 #[.pointer (some ⟨x, 0, none⟩), t.val] w fun e w' => e = .returned (.bool true) ∧ ∃ s' S' R' l1' M' l2' K' mv' kv', All w' B x c d s' S' R' l1' M' l2' K' mv' kv' ∧ Inv (n + 1) s' l1' l2' ∧ Turn (AllIn x S R M K) (AllIn x S' R' M' K') w w' := by
  obtain ⟨hb, hm, hl, hsm⟩ := hi
  have hv : ∃ A n cap, t.l = .slice A n cap := by
    obtain ⟨A, cap, e, _⟩ := hr.l
    exact ⟨_, _, _, e⟩
  have hup : ∀ m ∈ l1, Bnd (n + 1) m.2 := fun m hm' => (hm m hm').up
  by_cases h10 : t.kind = 10
  · refine (does10 t h10 w hv h (by have := hb.2.1; omega) (by have := congrArg List.length hsm; simpa using this.symm)).mono ?_
    rintro e w' ⟨rfl, S', R', l1', M', l2', K', mv', kv', h1, h2, h3⟩
    refine ⟨rfl, _, _, _, _, _, _, _, _, _, h1, ?_, h3⟩
    rcases h2 with ⟨rfl, rfl⟩ | ⟨p, q, rfl, rfl⟩
    · exact ⟨hb.up, hup, by omega, hsm⟩
    · refine ⟨hb.up, fun m hm' => ?_, by simp; omega, by simp [hsm]⟩
      rcases List.mem_append.1 hm' with h4 | h4
      · exact hup m h4
      · obtain rfl : m = (p, s) := by simpa using h4
        exact hb.up
  by_cases h11 : t.kind = 11
  · refine (does11 t h11 w hv hr.n h hsm (by omega) (fun m hm' => by have := (hm m hm').2.1; omega)).mono ?_
    rintro e w' ⟨rfl, s', S', R', h1, h2, h3⟩
    refine ⟨rfl, _, _, _, _, _, _, _, _, _, h1, ⟨?_, hup, by omega, hsm⟩, h3⟩
    rcases h2 with rfl | ⟨m, hm', rfl⟩
    · exact hb.up
    · exact hup m hm'
  · refine (does_low t ⟨h10, h11⟩ w hr.l hls ⟨hr.name, by omega⟩ hb (by omega) h.both).mono ?_
    rintro e w' ⟨rfl, S', R', h1, h2⟩
    have h3 := h.step h1 h2
    exact ⟨rfl, _, _, _, _, _, _, _, _, _, h3.1, ⟨(stepSt_bnd hb hls).1, hup, by omega, hsm⟩, h3.2⟩
end
end Go.Proofs.Ytmhjnbolngdijaa

namespace Go.Proofs.Ytmhjnbolngdijaa
open Go Go.RowKit
set_option linter.unusedVariables false
attribute [local go_sem] Oper.semAt_some

section
variable {B x c d : Nat} {s : St} {S R : Nat → Prop} {mv kv : Value}
set_option maxRecDepth 100000 in
set_option maxHeartbeats 8000000 in
theorem alike_any (w : World) (h : Both w B x c d s S s R mv kv) (hol : s.order.length ≤ 1000) :
    Calls Try.prog 29 #[.pointer (some ⟨x, 0, none⟩)] w fun e w' => e = .returned (.bool true) ∧ ∃ S', Both w' B x c d s S' s R mv kv ∧ Turn (fun k => S k ∨ R k) (fun k => S' k ∨ R k) w w' := by
  obtain ⟨lv, ov, h1, h2, h3, h4, h5, h6, hR⟩ := id h.rn
  obtain ⟨_, A, cap, hlv, _⟩ := own_src h2
  obtain ⟨A2, cap2, hov⟩ := h3.rd.form
  have HDR := Lib.hid (show ∀ V, Fr (fun k => ¬ R k) w V → Blk V d 67 #[lv, .int .i64 s.lists, ov, .int .i64 s.cur] ∧ RdI V ov s.order from fun V hV => by
    subst hR
    exact ⟨(RObj.blk h1).fr hV (fun e => e (.inl rfl)), (h3.fr hV (fun k hk e => e (.inr (.inr hk)))).rd⟩)
  subst hlv hov
  clear h1 h2 h3 h4 h5 h6 hR
  have HCN := Lib.hid (fun (V : World) S (hV : NgS V B c s S) => Count_ng V hV)
  have HOR := Lib.hid (fun (V : World) S (hV : NgS V B c s S) => Order_ng V hV (by omega))
  have HCU := Lib.hid (fun (V : World) S (hV : NgS V B c s S) => Current_ng V hV)
  have HIN := Lib.hid (fun (V : World) u v (hu : RdI V u s.order) (hv : RdI V v s.order) => ints_same u v s.order V hu hv (by omega))
  have hbc := h
  have htc : Turn (fun k => S k ∨ R k) (fun k => S k ∨ R k) w w := Turn.refl _ _
  have hdr := Fr.refl (fun k => ¬ R k) w
  clear h hol
  generalize s.ws.length = n1 at *
  generalize s.order.length = n2 at *
  go_enter Try.func29, Try.ntmps29
  go_wp2_with fail
  have htc := htc.trans (Turn.of0 (Fr.refl (fun _ => False) _).drew)
  have hdr := hdr.drew
  have hbc := hbc.fr0 (Fr.refl (fun _ => False) _).drew
  go_region_held3 (fun V => V.cell? ⟨x, 0, none⟩ = some (.pointer (some ⟨c, 0, none⟩)) ∧ V.cell? ⟨x, 1, none⟩ = some (.pointer (some ⟨d, 0, none⟩)) ∧ V.cell? ⟨d, 0, none⟩ = some (.slice A n1 cap) ∧ V.cell? ⟨d, 2, none⟩ = some (.slice A2 n2 cap2) ∧ V.cell? ⟨d, 3, none⟩ = some (.int .i64 s.cur)) (exact ⟨hbc.two.cell 0, hbc.two.cell 1, (HDR.out _ hdr).1.cell 0, (HDR.out _ hdr).1.cell 2, (HDR.out _ hdr).1.cell 3⟩) (first | (go_at_call 26; refine (HCN.out _ _ hbc.ng).mono ?_; rintro e w2 ⟨rfl, S2, n2, t2⟩; have htc := htc.trans (hbc.atNg n2 t2).2; have hdr := hdr.trans (t2.1.mono (fun k _ hk => (hbc.apart k hk).1)); have hbc := (hbc.atNg n2 t2).1; clear n2 t2) | (go_at_call 17; refine (HOR.out _ _ hbc.ng).mono ?_; rintro e w2 ⟨u, rfl, hu, S2, n2, t2, _⟩; have htc := htc.trans (hbc.atNg n2 t2).2; have hdr := hdr.trans (t2.1.mono (fun k _ hk => (hbc.apart k hk).1)); have hbc := (hbc.atNg n2 t2).1; clear n2 t2) | (go_at_call 18; refine (HIN.out _ _ _ hu.rd (HDR.out _ hdr).2).mono ?_; rintro e w2 ⟨rfl, f2⟩; have htc := htc.trans (Turn.of0 f2); have hdr := hdr.trans (f2.mono (fun k _ hk => hk.elim)); have hbc := hbc.fr0 f2; clear f2 hu) | (go_at_call 27; refine (HCU.out _ _ hbc.ng).mono ?_; rintro e w2 ⟨rfl, S2, n2, t2⟩; have htc := htc.trans (hbc.atNg n2 t2).2; have hdr := hdr.trans (t2.1.mono (fun k _ hk => (hbc.apart k hk).1)); have hbc := (hbc.atNg n2 t2).1; clear n2 t2))
  go_wp2_with fail
  go_ret
  exact ⟨rfl, _, hbc, htc⟩
end
end Go.Proofs.Ytmhjnbolngdijaa

namespace Go.Proofs.Ytmhjnbolngdijaa
open Go Go.RowKit
set_option linter.unusedVariables false
attribute [local go_sem] Oper.semAt_some

theorem wrap_back (j : Nat) (h : j ≤ 1000000) : IntKind.i64.wrap ((j : Int) + 1 - 1) = (j : Int) ∧ wrap64 (j : Int) = (j : Int) := ⟨by rw [IntWalk.i64_in _ (by omega)]; omega, IntWalk.wrap64_in _ (by omega)⟩
section
variable {w w' : World} {B x c d : Nat} {s : St} {S R M K : Nat → Prop} {l1 l2 : List (Nat × St)} {mv kv : Value}
theorem All.lo (h : All w B x c d s S R l1 M l2 K mv kv) {k : Nat} (hk : AllIn x S R M K k) : B ≤ k ∧ k < w.heap.size := by
  rcases hk with (h1 | h1) | (h1 | h1) | rfl
  · exact h.both.ng.lo h1
  · exact h.both.rn.lo h1
  · exact h.mks.lo k h1
  · exact h.rks.lo k h1
  · exact ⟨h.both.lo, h.both.xlt⟩
theorem All.fr_out {T' : Nat → Prop} {w0 : World} (h : All w B x c d s S R l1 M l2 K mv kv) (h0 : Fr0 w0 w) (hB : w0.heap.size ≤ B) (ht : Turn (AllIn x S R M K) T' w w') : Fr0 w0 w' := h0.then ht.1 (fun k hk hs => by have := (h.lo hs).1; omega)
end
set_option maxRecDepth 100000 in
set_option maxHeartbeats 8000000 in
theorem play_walk (zero : Bool) (a : Option Addr) (len cap : Nat) (f : Nat → Stp) (w : World) (h : RowN w w.heap.size a len cap f) : Calls Try.prog 7 #[.bool zero, .slice a len cap] w fun e w' => e = .returned (.bool true) ∧ Fr0 w w' := by
  have HAW := Lib.hid (fun W => awake14 W)
  have hM := much_any a len cap f w.heap.size w h
  have hml : (len : Int) ≤ 9223372036854775807 := by have := h.le; have := h.cap; omega
  cases hb : muchB len f
  · rw [hb] at hM
    have HM := Lib.hid hM
    have HR := Lib.hid h
    have HMB := Lib.hid (muchB_false hb)
    clear hM h hb
    go_enter Try.func7, Try.ntmps7
    go_wp2_with (first | (go_at_call 21; refine HM.out.mono ?_; rintro e w1 ⟨rfl, rfl⟩))
    go_at_call 22
    refine (begun_any _ _).mono ?_
    rintro e w1 ⟨x, c, d, S0, R0, rfl, b1, b2, _, b3, b4, b5, b6, b7⟩
    have q0 := Blk.cell b1 0
    have HALL := Lib.hid (show All w1 w.heap.size x c d initSt S0 R0 [] (fun _ => False) [] (fun _ => False) (.slice none 0 0) (.slice none 0 0) from ⟨⟨b1, b2, b3, b5, b6, b4⟩, Lst.nil w1 _, Lst.nil w1 _, fun k hk => hk.elim, fun k hk => hk.elim⟩)
    have HF1 := Lib.hid b7
    clear b1 b2 b3 b4 b5 b6 b7
    go_wp2_with fail
    go_loopw [6] (fun i wr => ∃ j : Nat, j ≤ len ∧ i = .int .i64 j ∧ Fr0 w wr ∧ ∃ s S R l1 M l2 K mv kv, All wr w.heap.size x c d s S R l1 M l2 K mv kv ∧ Inv j s l1 l2) (fun i _ => len - (intOf i).toNat)
    case atStart => exact ⟨0, by omega, rfl, HF1.out, _, _, _, _, _, _, _, _, _, HALL.out, ⟨⟨by simp [initSt], by simp [initSt], by simp [initSt]⟩, fun m hm => (List.not_mem_nil hm).elim, by simp, rfl⟩⟩
    case round =>
      obtain ⟨j, hj, rfl, hfr, s, S, R, l1, M, l2, K, mv, kv, hall, hinv⟩ := hrel
      have HFI := Lib.hid hfr
      have HA := Lib.hid hall
      have HI := Lib.hid hinv
      by_cases hlt : j < len
      · have hltI : (j : Int) < (len : Int) := by omega
        have hrow := HR.out.below hfr.below0
        obtain ⟨b, off, rfl, hb, d0, d1, d2, d3, d4, d5, d6, d7⟩ := hrow.at_ hlt
        have hok := hrow.ok j hlt
        have HDO := Lib.hid (does_any (f j) wr hok (HMB.out.2 j hlt).2 (HMB.out.2 j hlt).1 (n := j) (by have := HMB.out.1; omega) hinv hall)
        clear hrow hok hfr hall hinv
        unfold Stp.val at HDO
        go_wp2_with (first | (go_at_call 28; refine HDO.out.mono ?_; rintro e w2 ⟨rfl, s2, S2, R2, l12, M2, l22, K2, mv2, kv2, h2, i2, t2⟩; have HA2 := Lib.hid h2; have HI2 := Lib.hid i2; have HF2 := Lib.hid (HA.out.fr_out HFI.out (Nat.le_refl _) t2); clear h2 i2 t2) | (go_at_call 29; refine (alike_any _ HA2.out.both (by have := HI2.out.1.2.1; omega)).mono ?_; rintro e w3 ⟨rfl, S3, h3, t3⟩; have HA3 := Lib.hid (HA2.out.step h3 t3); clear h3 t3))
        exact ⟨⟨j + 1, by omega, by push_cast; rfl, HA2.out.fr_out HF2.out (Nat.le_refl _) HA3.out.2, _, _, _, _, _, _, _, _, _, HA3.out.1, HI2.out⟩, by simp [intOf]; omega⟩
      · obtain rfl : j = len := by omega
        obtain ⟨lv, ov, r1, r2, r3, r4, r5, r6, hR⟩ := id hall.both.rn
        obtain ⟨n, hn⟩ : ∃ n, s.ws.length = n := ⟨_, rfl⟩
        obtain ⟨_, A, cap2, hlv, _⟩ := own_src r2
        have hlen := hinv.1.1
        rw [hn] at hlv hlen
        obtain ⟨wE, hwE⟩ : ∃ wE, wE = wr := ⟨_, rfl⟩
        have HDR := Lib.hid (show ∀ V, Fr (fun k => ¬ R k) wE V → Blk V d 67 #[.slice A n cap2, .int .i64 s.lists, ov, .int .i64 s.cur] ∧ V.ownsRow w.heap.size 71 5 (.slice A n cap2) s.ws.length (s.ws.flatMap Wd.cells) from fun V hV => by
          rw [hwE] at hV
          subst hR hlv
          exact ⟨(RObj.blk r1).fr hV (fun e => e (.inl rfl)), own_fr r2 hV (fun k hk e => e (.inr (.inl hk)))⟩)
        have HWB := Lib.hid r6
        have HN := Lib.hid hn
        have hq := HMB.out.1
        have HEQ := Lib.hid hwE.symm
        clear r1 r2 r3 r4 r5 r6 hR hlv hn hinv hfr hall hwE
        go_wp2_with fail
        go_loopw [7] (fun i wq => ∃ j : Nat, j ≤ n ∧ i = .int .i64 ((j : Int) + 1) ∧ Fr0 w wq ∧ Fr (fun k => ¬ R k) wE wq ∧ ∃ S, Both wq w.heap.size x c d s S s R mv kv) (fun i _ => n + 1 - (intOf i).toNat)
        case atStart => exact ⟨0, by omega, rfl, HFI.out, HEQ.out ▸ Fr.refl _ _, _, HA.out.both⟩
        case round =>
          obtain ⟨j, hj, rfl, hff, hdr, S2, hbc⟩ := hrel
          have q1 := hbc.two.cell 1
          have q0 := hbc.two.cell 0
          obtain ⟨hdd, hrd⟩ := HDR.out _ hdr
          have r0 := hdd.cell 0
          by_cases hjn : j < n
          · have hjI : (j : Int) + 1 ≤ (n : Int) := by omega
            obtain ⟨g, hg⟩ : ∃ g, s.ws[j]? = some g := ⟨_, List.getElem?_eq_getElem (by rw [HN.out]; exact hjn)⟩
            have hgb := (HWB.out.2 g (List.mem_of_getElem? hg)).1
            have hGE := fun (V : World) S (hV : NgS V w.heap.size c s S) => Get_ng ((j : Int) + 1) V hV
            rw [show getW s.ws ((j : Int) + 1) = g from by unfold getW; rw [if_pos (by rw [HN.out]; omega), show ((j : Int) + 1 - 1).toNat = j by omega]; exact wdAt_eq hg, show hasV s.ws.length ((j : Int) + 1) = 0 from by unfold hasV; rw [if_pos (by rw [HN.out]; omega)]] at hGE
            have hWD := fun V => word_any g g hgb hgb V
            rw [show eqWd g g = true from by unfold eqWd; simp] at hWD
            obtain ⟨b, cap', hA, _, _⟩ := words_cells hrd hg
            injection hA with hA hA2 hA3
            subst hA
            clear hA2 hA3
            obtain ⟨gn, gx, gl, gi, go⟩ := g
            simp only [Wd.val] at hGE hWD
            have HGE := Lib.hid hGE
            have HWD := Lib.hid hWD
            have HRW := Lib.hid (show ∀ V, Fr (fun k => ¬ R k) wE V → V.cell? ⟨d, 0, none⟩ = some (.slice (some ⟨b, 0, none⟩) n cap2) ∧ V.cell? ⟨b, j * 5, none⟩ = some (.string (strOfNums gn)) ∧ V.cell? ⟨b, j * 5 + 1, none⟩ = some (.int .i64 gx) ∧ V.cell? ⟨b, j * 5 + 2, none⟩ = some (.int .i64 gl) ∧ V.cell? ⟨b, j * 5 + 3, none⟩ = some (.bool gi) ∧ V.cell? ⟨b, j * 5 + 4, none⟩ = some (.bool go) from fun V hV => by
              obtain ⟨b', cap'', hA', _, e0, e1, e2, e3, e4⟩ := words_cells (HDR.out V hV).2 hg
              injection hA' with hA'
              injection hA' with hA'
              injection hA' with hA'
              subst hA'
              exact ⟨(HDR.out V hV).1.cell 0, e0, e1, e2, e3, e4⟩)
            have hjm : j ≤ 1000000 := Nat.le_trans (Nat.le_of_lt hjn) (Nat.le_trans hlen (Nat.le_trans hq (by decide)))
            have HXX := Lib.hid (wrap_back j hjm)
            have hjK : (j : Int) < (n : Int) := by omega
            have hj0 : (0 : Int) ≤ (j : Int) := by omega
            have HFF := Lib.hid hff
            have HDD := Lib.hid hdr
            clear hGE hWD hrd hdd hg hgb hff hdr
            go_wp2_with (first | (go_at_call 30; refine (HGE.out _ _ hbc.ng).mono ?_; rintro e w2 ⟨rfl, S3, n3, t3⟩; have HB3 := Lib.hid (hbc.atNg n3 t3).1; have HF3 := Lib.hid (HFF.out.then t3.1 (fun k hk hs => by have := (hbc.ng.lo hs).1; omega)); have HD3 := Lib.hid (HDD.out.trans (t3.1.mono (fun k _ hk => (hbc.apart k hk).1))); clear n3 t3))
            have hfa := (Fr.refl (fun _ => False) w2).alloc (.cells #[.string (strOfNums gn), .int .i64 gx, .int .i64 gl, .bool gi, .bool go] 30)
            have hbx := Blk.new w2 30 #[.string (strOfNums gn), .int .i64 gx, .int .i64 gl, .bool gi, .bool go]
            obtain ⟨W5, hW5⟩ : ∃ W5, w2.alloc (.cells #[.string (strOfNums gn), .int .i64 gx, .int .i64 gl, .bool gi, .bool go] 30) = W5 := ⟨_, rfl⟩
            obtain ⟨g5, hg5⟩ : ∃ g5, w2.heap.size = g5 := ⟨_, rfl⟩
            rw [hW5] at hfa hbx ⊢
            rw [hg5] at hbx ⊢
            clear hW5 hg5
            have HB5 := Lib.hid (HB3.out.fr0 hfa)
            have HF5 := Lib.hid (HF3.out.trans hfa)
            have HD5 := Lib.hid (HD3.out.trans (hfa.mono (fun k _ hk => hk.elim)))
            have HBX := Lib.hid hbx
            have HS := Lib.hid (show ∀ V, Fr0 W5 V → (V.cell? ⟨x, 1, none⟩ = some (.pointer (some ⟨d, 0, none⟩)) ∧ V.cell? ⟨g5, 0, none⟩ = some (.string (strOfNums gn)) ∧ V.cell? ⟨g5, 1, none⟩ = some (.int .i64 gx) ∧ V.cell? ⟨g5, 2, none⟩ = some (.int .i64 gl) ∧ V.cell? ⟨g5, 3, none⟩ = some (.bool gi) ∧ V.cell? ⟨g5, 4, none⟩ = some (.bool go)) ∧ V.cell? ⟨d, 0, none⟩ = some (.slice (some ⟨b, 0, none⟩) n cap2) ∧ V.cell? ⟨b, j * 5, none⟩ = some (.string (strOfNums gn)) ∧ V.cell? ⟨b, j * 5 + 1, none⟩ = some (.int .i64 gx) ∧ V.cell? ⟨b, j * 5 + 2, none⟩ = some (.int .i64 gl) ∧ V.cell? ⟨b, j * 5 + 3, none⟩ = some (.bool gi) ∧ V.cell? ⟨b, j * 5 + 4, none⟩ = some (.bool go) from fun V hV =>
              ⟨⟨(HB5.out.fr0 hV).two.cell 1, (HBX.out.fr0 hV).cell 0, (HBX.out.fr0 hV).cell 1, (HBX.out.fr0 hV).cell 2, (HBX.out.fr0 hV).cell 3, (HBX.out.fr0 hV).cell 4⟩, HRW.out V (HD5.out.trans (hV.mono (fun k _ hk => hk.elim)))⟩)
            clear hfa hbx q0 q1 r0 hbc
            have hz : Fr0 W5 W5.drew := (Fr.refl (fun _ => False) W5).drew
            obtain ⟨x1, x2⟩ := HXX.out
            have x4 : IntKind.i64.wrap (j : Int) = (j : Int) := by have := x1; rwa [Int.add_sub_cancel] at this
            have x5 : (j : Int) + 1 - 1 = (j : Int) := Int.add_sub_cancel _ _
            go_region_held3 (fun V => (V.cell? ⟨x, 1, none⟩ = some (.pointer (some ⟨d, 0, none⟩)) ∧ V.cell? ⟨g5, 0, none⟩ = some (.string (strOfNums gn)) ∧ V.cell? ⟨g5, 1, none⟩ = some (.int .i64 gx) ∧ V.cell? ⟨g5, 2, none⟩ = some (.int .i64 gl) ∧ V.cell? ⟨g5, 3, none⟩ = some (.bool gi) ∧ V.cell? ⟨g5, 4, none⟩ = some (.bool go)) ∧ V.cell? ⟨d, 0, none⟩ = some (.slice (some ⟨b, 0, none⟩) n cap2) ∧ V.cell? ⟨b, j * 5, none⟩ = some (.string (strOfNums gn)) ∧ V.cell? ⟨b, j * 5 + 1, none⟩ = some (.int .i64 gx) ∧ V.cell? ⟨b, j * 5 + 2, none⟩ = some (.int .i64 gl) ∧ V.cell? ⟨b, j * 5 + 3, none⟩ = some (.bool gi) ∧ V.cell? ⟨b, j * 5 + 4, none⟩ = some (.bool go)) (exact HS.out _ hz) (first | (go_at_call 31; refine (HWD.out _).mono ?_; rintro e w6 ⟨rfl, hf6⟩; have hz := hz.trans hf6; clear hf6))
            have HZ := Lib.hid hz
            clear hz x1 x2 x4 x5
            go_wp2_with fail
            exact ⟨⟨j + 1, by omega, by push_cast; rfl, HF5.out.trans HZ.out, HD5.out.trans (HZ.out.mono (fun k _ hk => hk.elim)), _, HB5.out.fr0 HZ.out⟩, by simp [intOf]; omega⟩
          · obtain rfl : j = n := by omega
            have hjI : (j : Int) < (j : Int) + 1 := by omega
            go_wp2_with (go_at_call 9; refine (HAW.out _).mono ?_; rintro e wz ⟨rfl, hfz⟩)
            go_ret
            exact ⟨rfl, hff.trans hfz⟩
  · rw [hb] at hM
    have HM := Lib.hid hM
    clear hM h hb
    go_enter Try.func7, Try.ntmps7
    go_wp2_with (first | (go_at_call 21; refine HM.out.mono ?_; rintro e w1 ⟨rfl, rfl⟩) | (go_at_call 9; refine (HAW.out _).mono ?_; rintro e w2 ⟨rfl, hf2⟩))
    go_ret
    exact ⟨rfl, hf2⟩
end Go.Proofs.Ytmhjnbolngdijaa
