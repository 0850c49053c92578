/- What the document fixes of chapter 14 (the law's awake). -/
import Derived.Test.YtmhjnbolngdijaaNadd2
import Derived.Test.YtmhjnbolngdijaaNfind
import Derived.Test.YtmhjnbolngdijaaNord
namespace Go.Proofs.Ytmhjnbolngdijaa
open Go Go.RowKit
set_option linter.unusedVariables false
attribute [local go_sem] Oper.semAt_some

def dupW : Wd := ⟨[100, 117, 112], 0, 1, false, false⟩
theorem dup_last : lastOf ([] ++ [dupW]) (1, strOfNums (lowL [68, 85, 80])) = 1 := by
  have h : dupW.key = (1, strOfNums (lowL [68, 85, 80])) := by
    unfold Wd.key dupW
    rw [show lowL [68, 85, 80] = lowL [100, 117, 112] by decide]
  unfold lastOf
  rw [toksOf_snoc, if_pos h]
  rfl
set_option maxRecDepth 100000 in
set_option maxHeartbeats 4000000 in
theorem awake14 (w : World) : Calls Try.prog 9 #[] w fun e w' => e = .returned (.bool true) ∧ Fr0 w w' := by
  have HNW := Lib.hid (New_nm w)
  go_enter Try.func9, Try.ntmps9
  go_wp2_with (first | (go_at_call 10; refine HNW.out.mono ?_; rintro e w1 ⟨c, m, ov, tv, rfl, hN, hf⟩; have hA := Add_nm dupW (by unfold dupW; exact ⟨by decide, by decide⟩) w1 hN (by decide) (by decide); rw [show dupW.val = .agg #[.string ⟨#[100, 117, 112]⟩, .int .i64 0, .int .i64 1, .bool false, .bool false] from rfl, show ((([] : List Wd).length : Int) + 1) = 1 from rfl, show (([] : List Wd).length + 1) = 1 from rfl] at hA; have HA := Lib.hid hA; have HF := Lib.hid hf; clear hN hA hf) | (go_at_call 11; refine HA.out.mono ?_; rintro e w2 ⟨rfl, hf2, wv', tv', hN2⟩; have hFi := fun V (hV : Fr0 w2 V) => Find_nm 1 [68, 85, 80] ⟨by decide, by decide⟩ V (hN2.fr0 hV); rw [dup_last, show strOfNums [68, 85, 80] = ⟨#[68, 85, 80]⟩ from rfl, show decide ((1 : Int) ≠ 0) = true by decide] at hFi; have HFI := Lib.hid hFi; have HOR := Lib.hid (fun V (hV : Fr0 w2 V) => Order_nm V (hN2.fr0 hV) (by decide)); have HF2 := Lib.hid (HF.out.then hf2 (fun k hk e => by omega)); clear hFi hf2 hN2) | (go_at_call 13; refine (HFI.out _ (Fr.refl _ _)).mono ?_; rintro e w3 ⟨rfl, hf3⟩; have HF3 := Lib.hid hf3; clear hf3) | (go_at_call 17; refine (HOR.out _ HF3.out).mono ?_; rintro e w4 ⟨u, rfl, hu, hf4⟩; have HU := Lib.hid hu; have HF4 := Lib.hid ((HF2.out.trans HF3.out).trans hf4); clear hu hf4) | (go_at_call 18; refine (ints_same _ _ [1] _ ((HU.out.fr ((Fr.refl (fun _ => False) w4).alloc (.cells #[.int .i64 1] 3)) (fun _ _ x => x)).rd) (Rd.new w4 #[.int .i64 1] rfl 1) (by decide)).mono ?_; rintro e w5 ⟨rfl, hf5⟩; have HF5 := Lib.hid ((HF4.out.alloc (.cells #[.int .i64 1] 3)).trans hf5); clear hf5))
  go_ret
  exact ⟨rfl, HF5.out⟩
end Go.Proofs.Ytmhjnbolngdijaa
