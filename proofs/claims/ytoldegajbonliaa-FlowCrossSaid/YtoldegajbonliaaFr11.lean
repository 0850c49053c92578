/- Flow: the document's turn, words that end loops and cases. -/
import Derived.Test.YtoldegajbonliaaFr10
import Derived.Test.YtoldegajbonliaaFppF
namespace Go.Proofs.Ytoldegajbonliaa
open Go Go.RowKit
set_option linter.unusedVariables false
attribute [local go_sem] Oper.semAt_some

section
variable {w w' : World} {B r p q cap : Nat} {tv tv' lv lv' : Value} {ts ts' : List Tk} {xs : List RT} {T : Nat → Prop}
/-- A row of ints lies where a patch turns nothing. -/
theorem own_patch {v : Value} {is : List Int} (h : RF w B r p xs lv ts q cap tv) (ho : OwnI w B v is) (hf : Fr (PlIn p q tv) w w') : OwnI w' B v is :=
  own_fr ho hf (fun k hk he => by
    obtain ⟨cs, hb⟩ := own_blk ho hk
    exact h.pl.no hb (by decide) (by decide) (by decide) he)
theorem box_patch {b : Nat} {cs : Array Value} (h : RF w B r p xs lv ts q cap tv) (hb : Blk w b 89 cs) (hf : Fr (PlIn p q tv) w w') : Blk w' b 89 cs :=
  hb.fr hf (h.pl.no hb (by decide) (by decide) (by decide))
set_option maxRecDepth 100000 in
set_option maxHeartbeats 16000000 in
theorem turn_18 (at_ : Int) (x : RT) (M : Nat) (w : World) (h : RF w B r p (xs ++ [x]) lv ts q cap tv) (hM : ∀ z ∈ xs ++ [x], z.to_.length ≤ M) : Calls Try.prog 52 #[.pointer (some ⟨r, 0, none⟩), .int .i64 18, .int .i64 at_] w fun e w' => (∃ v, e = .returned v) ∧ TurnR w B r p (xs ++ [x]) lv ts q cap tv M (xs.map RT.kind) w' := by
  have HH := Lib.hid h
  have HM := Lib.hid hM
  have hL := (h.js x (by simp)).2
  obtain ⟨AJ, mj, cj, hj⟩ := h.shape (x := x) (by simp)
  have hmj : x.to_.length = mj := by
    obtain ⟨_, A, c, e, _⟩ := own_src (h.js x (by simp)).1
    rw [hj] at e
    injection e with _ e _
    exact e.symm
  obtain ⟨xk, xp, xt, xv⟩ := x
  dsimp only at hj hL hmj
  subst hj
  rw [hmj] at hL
  have HMJ := Lib.hid hmj
  have hfd := fun W => fieldAt xk xp AJ mj cj W
  clear h hM hmj
  go_enter Try.func52, Try.ntmps52
  go_wp2_with fail
  go_at_call 75
  refine (pop_r _ _ HH.out).mono ?_
  rintro e w1 ⟨rfl, lv1, h1, o1, t1⟩
  have hf1 := (Fr.refl (fun _ => False) w1).alloc (.cells #[.int .i64 xk, .int .i64 xp, .slice AJ mj cj] 89)
  have hb1 := Blk.new w1 89 #[.int .i64 xk, .int .i64 xp, .slice AJ mj cj]
  have ha2 := h1.fr0 hf1
  have ho2 := own_fr o1 hf1 (fun _ _ h => h)
  have ht2 := t1.trans (Turn.of0 (S := RFIn r p q tv lv1 xs) hf1)
  obtain ⟨W2, hW2⟩ : ∃ W2, w1.alloc (.cells #[.int .i64 xk, .int .i64 xp, .slice AJ mj cj] 89) = W2 := ⟨_, rfl⟩
  obtain ⟨b, hb⟩ : ∃ b, w1.heap.size = b := ⟨_, rfl⟩
  rw [hW2] at hb1 ha2 ho2 ht2
  rw [hb] at hb1
  go_upto_region 49 with (fail)
  have HB2 := Lib.hid hb1
  have HA2 := Lib.hid ha2
  have HO2 := Lib.hid ho2
  have HT2 := Lib.hid ht2
  clear hf1 hb1 ha2 ho2 ht2 hW2 hb h1 o1 t1
  go_wp2_with fail
  go_loopw [14] (fun i wr => ∃ j : Nat, j ≤ mj ∧ i = .int .i64 j ∧ ∃ ts', RF wr B r p xs lv1 ts' q cap tv ∧ ts'.length = ts.length ∧ Blk wr b 89 #[.int .i64 xk, .int .i64 xp, .slice AJ mj cj] ∧ OwnI wr B (.slice AJ mj cj) xt ∧ Turn (RFIn r p q tv lv (xs ++ [⟨xk, xp, xt, .slice AJ mj cj⟩])) (RFIn r p q tv lv1 xs) w wr) (fun i _ => mj - (intOf i).toNat)
  case atStart => exact ⟨0, by omega, rfl, _, HA2.out, rfl, HB2.out, HO2.out, HT2.out⟩
  case round =>
    obtain ⟨j, hj, rfl, ts1, hrf, hlt1, hbx, hox, htx⟩ := hrel
    have HRF := Lib.hid hrf
    have HLT := Lib.hid hlt1
    have HBX := Lib.hid hbx
    have HOX := Lib.hid hox
    have HTX := Lib.hid htx
    have z2 := hbx.cell 2
    obtain ⟨c0, c1⟩ := hrf.c01
    clear hrf hlt1 hbx hox htx
    by_cases hjm : j < mj
    · have hjI : (j : Int) < (mj : Int) := by omega
      have hj0 : (0 : Int) ≤ (j : Int) := by omega
      obtain ⟨a, ha⟩ : ∃ a, xt[j]? = some a := ⟨_, List.getElem?_eq_getElem (by rw [HMJ.out]; exact hjm)⟩
      obtain ⟨gb, e1, e2⟩ := HOX.out.at_ ha
      subst e1
      have HSV := Lib.hid (show ∀ V, Fr0 wr V → V.cell? ⟨r, 0, none⟩ = some (.pointer (some ⟨p, 0, none⟩)) ∧ V.cell? ⟨r, 1, none⟩ = some (.int .i64 1) ∧ V.cell? ⟨b, 2, none⟩ = some (.slice (some ⟨gb, 0, none⟩) mj cj) ∧ V.cell? ⟨gb, j, none⟩ = some (.int .i64 a) from fun V hV => ⟨((HRF.out.fr0 hV).c01).1, ((HRF.out.fr0 hV).c01).2, (HBX.out.fr0 hV).cell 2, (hV.cell (p := ⟨gb, j, none⟩) (World.block_lt_of_cell? _ _ e2) (fun h => h)).trans e2⟩)
      have HPV := Lib.hid (show ∀ V W, Fr0 wr V → Fr (PlIn p q tv) V W → W.cell? ⟨r, 0, none⟩ = some (.pointer (some ⟨p, 0, none⟩)) ∧ W.cell? ⟨r, 1, none⟩ = some (.int .i64 1) ∧ W.cell? ⟨b, 2, none⟩ = some (.slice (some ⟨gb, 0, none⟩) mj cj) ∧ W.cell? ⟨gb, j, none⟩ = some (.int .i64 a) from fun V W hV hW => by
        have hr := HRF.out.fr0 hV
        have hg := (own_patch hr (own_fr HOX.out hV (fun _ _ h => h)) hW).at_ ha
        obtain ⟨g', e3, e4⟩ := hg
        injection e3 with e3
        injection e3 with e3
        subst e3
        exact ⟨(hW.cell (p := ⟨r, 0, none⟩) hr.fo.lt (hr.pl.no hr.fo (by decide) (by decide) (by decide))).trans hr.c01.1, (hW.cell (p := ⟨r, 1, none⟩) hr.fo.lt (hr.pl.no hr.fo (by decide) (by decide) (by decide))).trans hr.c01.2, (box_patch hr (HBX.out.fr0 hV) hW).cell 2, e4⟩)
      have HA := Lib.hid ha
      clear ha e2
      have HV0 := Lib.hid (Fr.refl (fun _ => False) wr)
      go_wp2_with fail
      have k00 := HSV.out _ HV0.out.drew
      go_region_held3 (fun V => V.cell? ⟨r, 0, none⟩ = some (.pointer (some ⟨p, 0, none⟩)) ∧ V.cell? ⟨r, 1, none⟩ = some (.int .i64 1) ∧ V.cell? ⟨b, 2, none⟩ = some (.slice (some ⟨gb, 0, none⟩) mj cj) ∧ V.cell? ⟨gb, j, none⟩ = some (.int .i64 a)) (first | exact k00 | exact kk2 | exact kk1) (first | (go_at_call 76; refine (here_r _ (HRF.out.fr0 HV0.out.drew)).mono ?_; rintro e u1 ⟨rfl, fu⟩; have HPF := Lib.hid (HV0.out.drew.trans fu); have HPR := Lib.hid (HRF.out.fr0 HPF.out); have kk1 := HSV.out _ HPF.out; clear fu) | (go_at_call 74; refine (Patch_r _ _ _ HPR.out.pl).mono ?_; rintro e u2 ⟨rfl, hp2, fp2⟩; have HPP := Lib.hid (And.intro hp2 fp2); have kk2 := HPV.out _ _ HPF.out fp2; clear hp2 fp2))
      clear k00 kk1 kk2
      go_wp2_with fail
      go_roundw
      case rel =>
        have hq := HPR.out.patched HPP.out.1 HPP.out.2
        exact ⟨j + 1, by omega, by push_cast; rfl, _, hq.1, by rw [patchT_len]; exact HLT.out, box_patch HPR.out (HBX.out.fr0 HPF.out) HPP.out.2, own_patch HPR.out (own_fr HOX.out HPF.out (fun _ _ h => h)) HPP.out.2, (HTX.out.trans (Turn.of0 HPF.out)).trans hq.2⟩
      case measure => first | omega | (simp [intOf]; omega)
    · obtain rfl : j = mj := by omega
      go_wp2_with fail
      refine bodyPost_end (results_none rfl _ _ _) rfl ?_
      exact ⟨⟨_, rfl⟩, _, _, _, HRF.out, rfl, HLT.out, (fun y hy => Nat.le_succ_of_le (HM.out y (List.mem_append_left _ hy))), HTX.out⟩
end
end Go.Proofs.Ytoldegajbonliaa
