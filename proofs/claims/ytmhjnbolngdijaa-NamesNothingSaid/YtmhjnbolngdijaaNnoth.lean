/- The walk of NamesNothing. -/
import Derived.Test.YtmhjnbolngdijaaNlaw1
import Derived.Test.YtmhjnbolngdijaaNawake
import Derived.RegionTactic
namespace Go.Proofs.Ytmhjnbolngdijaa
open Go Go.RowKit
set_option linter.unusedVariables false
attribute [local go_sem] Oper.semAt_some

section
variable {B c : Nat} {s t : St} {S M : Nat → Prop}
set_option maxRecDepth 100000 in
set_option maxHeartbeats 8000000 in
/-- Marks of others are refused. -/
theorem Back_other {p c2 Bm : Nat} {cs : Array Value} {tc : TypeId} (w : World) (h : NgS w B c s S) (hm : MkS w Bm p c2 t M) (hMS : ∀ k, M k → ¬ S k) (hb2 : Blk w c2 tc cs) (hcs : ¬ S c2) (hne : c ≠ c2) : Calls Try.prog 23 #[.pointer (some ⟨c, 0, none⟩), .pointer (some ⟨p, 0, none⟩)] w fun e w' => e = .returned (.int .i64 1) ∧ ∃ S', NgI w' B c s S' ∧ Turn S S' w w' := by
  have HNO := Lib.hid (none_ng _ (h.fr0 (Fr.refl (fun _ => False) w).drew))
  have HM := Lib.hid (hm.fr (Fr.refl (fun _ => False) w).drew (fun _ _ x => x))
  have HMS := Lib.hid hMS
  have HB2 := Lib.hid hb2.drew
  have HCS := Lib.hid hcs
  clear h hm hMS hb2 hcs
  go_enter Try.func23, Try.ntmps23
  go_wp2_with fail
  refine wp_region_any (by kernel_rfl) ?_
  change wpAny _ _ _ _ _ _ _ (World.drew _)
  refine wpAny_ready (rs := [0]) (by kernel_rfl) (by simp) ?_
  refine AllReady.cons rfl (fun K hK => ?_) AllReady.nil
  go_simp
  refine hK _ _ ?_
  clear hK K
  refine wpAny_ready (rs := [1]) (by kernel_rfl) (by simp) ?_
  refine AllReady.cons rfl (fun K hK => ?_) AllReady.nil
  go_simp
  go_at_call 33
  refine HNO.out.mono ?_
  rintro e w1 ⟨rfl, S1, h1, ht, _⟩
  have H1 := Lib.hid h1
  have HT := Lib.hid ht
  obtain ⟨m, wv, ov, mf, hN, hS⟩ := h1
  obtain ⟨u, v, hu1, _⟩ := HM.out.fr ht.1 HMS.out
  have q0 := hu1.cell 0
  have hb2 := HB2.out.fr ht.1 HCS.out
  have hb1 := hN.obj.blk
  have hpo : ∀ k, (binOp .neq 24 (.pointer (some ⟨c2, 0, none⟩)) (.pointer (some ⟨c, 0, none⟩))).run Try.prog (w1.drewN k) = .ok (.bool true) (w1.drewN k) := fun k => ptrOther (w1.drewN k) (fun e => hne e.symm) (hb2.drewN k) (hb1.drewN k)
  clear hN hS hu1 hb1 hb2 ht
  go_wp2
  refine wpAny_quiet_from (k := 2) (by simp only [List.drop_succ_cons, List.drop_zero]) (by kernel_rfl) (by kernel_rfl) rfl ?_
  repeat (go_big_quiet_step (fail))
  refine wpQuiet_nil ?_
  intro _ hw'
  obtain ⟨nq, rfl⟩ := hw'
  go_wp2_with fail
  go_ret
  exact ⟨rfl, S1, H1.out.fr0 ((Fr.refl _ _).drewN _), ((Turn.of0 (Fr.refl (fun _ => False) w).drew).trans HT.out).trans (Turn.of0 ((Fr.refl _ _).drewN _))⟩
end

set_option maxRecDepth 100000 in
theorem none_z (w : World) : Calls Try.prog 33 #[.pointer none] w fun e w' => e = .returned (.bool true) ∧ w = w' := by
  go_enter Try.func33, Try.ntmps33
  go_wp2_with fail
  go_ret
  exact ⟨rfl, rfl⟩
set_option maxRecDepth 100000 in
theorem Add_z (x : Wd) (w : World) : Calls Try.prog 11 #[.pointer none, x.val] w fun e w' => e = .returned (.tuple #[.int .i64 0, .int .i64 1]) ∧ Fr0 w w' := by
  unfold Wd.val
  go_enter Try.func11, Try.ntmps11
  go_wp2_with (go_at_call 33; refine (none_z _).mono ?_; rintro e w' ⟨rfl, rfl⟩)
  go_ret2
  exact ⟨rfl, (Fr.refl _ w).alloc _⟩
set_option maxRecDepth 100000 in
theorem Find_z (l : Int) (s : ByteArray) (w : World) : Calls Try.prog 13 #[.pointer none, .int .i64 l, .string s] w fun e w' => e = .returned (.tuple #[.int .i64 0, .bool false]) ∧ w = w' := by
  go_enter Try.func13, Try.ntmps13
  go_wp2_with (go_at_call 33; refine (none_z _).mono ?_; rintro e w' ⟨rfl, rfl⟩)
  go_ret2
  exact ⟨rfl, rfl⟩
set_option maxRecDepth 100000 in
theorem SetOrder_z (A : Option Addr) (n cap : Nat) (w : World) : Calls Try.prog 20 #[.pointer none, .slice A n cap] w fun e w' => e = .returned (.int .i64 1) ∧ Fr0 w w' := by
  go_enter Try.func20, Try.ntmps20
  go_wp2_with (go_at_call 33; refine (none_z _).mono ?_; rintro e w' ⟨rfl, rfl⟩)
  go_ret
  exact ⟨rfl, (Fr.refl _ w).alloc _⟩
set_option maxRecDepth 100000 in
theorem SetCurrent_z (l : Int) (w : World) : Calls Try.prog 25 #[.pointer none, .int .i64 l] w fun e w' => e = .returned (.int .i64 1) ∧ w = w' := by
  go_enter Try.func25, Try.ntmps25
  go_wp2_with (go_at_call 33; refine (none_z _).mono ?_; rintro e w' ⟨rfl, rfl⟩)
  go_ret
  exact ⟨rfl, rfl⟩
set_option maxRecDepth 100000 in
theorem Count_z (w : World) : Calls Try.prog 26 #[.pointer none] w fun e w' => e = .returned (.int .i64 0) ∧ w = w' := by
  go_enter Try.func26, Try.ntmps26
  go_wp2_with (go_at_call 33; refine (none_z _).mono ?_; rintro e w' ⟨rfl, rfl⟩)
  go_ret
  exact ⟨rfl, rfl⟩
set_option maxRecDepth 100000 in
theorem Order_z (w : World) : Calls Try.prog 17 #[.pointer none] w fun e w' => e = .returned (.slice none 0 0) ∧ w = w' := by
  go_enter Try.func17, Try.ntmps17
  go_wp2_with (go_at_call 33; refine (none_z _).mono ?_; rintro e w' ⟨rfl, rfl⟩)
  go_ret
  exact ⟨rfl, rfl⟩
set_option maxRecDepth 100000 in
theorem Current_z (w : World) : Calls Try.prog 27 #[.pointer none] w fun e w' => e = .returned (.int .i64 0) ∧ w = w' := by
  go_enter Try.func27, Try.ntmps27
  go_wp2_with (go_at_call 33; refine (none_z _).mono ?_; rintro e w' ⟨rfl, rfl⟩)
  go_ret
  exact ⟨rfl, rfl⟩
end Go.Proofs.Ytmhjnbolngdijaa
