/- The walk of SpacePlays. -/
import Derived.Test.YtkgihajpobajaaaDoes9b
import Derived.Test.YtkgihajpobajaaaAwake9
namespace Go.Proofs.Ytkgihajpobajaaa
open Go Go.RowKit
set_option linter.unusedVariables false

set_option maxHeartbeats 1000000 in
theorem NewRS_ok (dict heap : Int) (w : World) (h : newOk dict heap) :
    Calls Try.prog 39 #[.int .i64 dict, .int .i64 heap] w fun e w' => e = .returned (.tuple #[.pointer (some ⟨w.heap.size + 1, 0, none⟩), .int .i64 0]) ∧ Fr0 w w' ∧ RSp w' (w.heap.size + 1) w.heap.size (noughts (12288 + dict + heap).toNat) 77824 (77824 + dict) := by
  obtain ⟨h1, h2, h3, h4, h5, h6⟩ := h
  have e5 : (dict % 8 != 0) = false := by simp [h5]
  have e6 : (heap % 8 != 0) = false := by simp [h6]
  clear h5 h6
  have hm := fun W => make8 (77824 + dict + heap - 65536) (by omega) (by omega) W
  obtain ⟨z, hz⟩ : ∃ z, (77824 + dict + heap - 65536).toNat = z := ⟨_, rfl⟩
  rw [show (12288 + dict + heap).toNat = z by omega]
  rw [hz] at hm
  have hzl : z ≤ 2000000 := by omega
  clear hz
  go_enter Try.func39, Try.ntmps39
  go_wp2
  go_ret2
  refine ⟨rfl, ((Fr.refl _ w).alloc _).alloc _, ?_, (Blk.new w _ _).alloc _, noughts_bytes _, by rw [noughts_length]; omega⟩
  rw [noughts_length]
  have := Blk.new (w.alloc (.cells (cells8 (noughts z)) 5)) 76 #[.slice (some ⟨w.heap.size, 0, none⟩) z z, .int .i64 77824, .int .i64 (77824 + dict)]
  simpa using this

set_option maxHeartbeats 1000000 in
theorem NewRS_err (dict heap : Int) (w : World) (h : ¬ newOk dict heap) (hd : i64 dict) (hh : i64 heap) :
    Calls Try.prog 39 #[.int .i64 dict, .int .i64 heap] w fun e w' => e = .returned (.tuple #[.pointer none, .int .i64 1]) ∧ w = w' := by
  obtain ⟨d1, d2⟩ := hd
  obtain ⟨g1, g2⟩ := hh
  have hc : dict < 4096 ∨ (4096 ≤ dict ∧ 524288 < dict) ∨ (4096 ≤ dict ∧ dict ≤ 524288 ∧ heap < 0) ∨ (4096 ≤ dict ∧ dict ≤ 524288 ∧ 0 ≤ heap ∧ 524288 < heap) ∨ (4096 ≤ dict ∧ dict ≤ 524288 ∧ 0 ≤ heap ∧ heap ≤ 524288 ∧ (dict % 8 != 0) = true) ∨ (4096 ≤ dict ∧ dict ≤ 524288 ∧ 0 ≤ heap ∧ heap ≤ 524288 ∧ (dict % 8 != 0) = false ∧ (heap % 8 != 0) = true) := by
    unfold newOk at h
    have a1 : (dict % 8 != 0) = true ↔ ¬ dict % 8 = 0 := by simp
    have a2 : (dict % 8 != 0) = false ↔ dict % 8 = 0 := by simp
    have a3 : (heap % 8 != 0) = true ↔ ¬ heap % 8 = 0 := by simp
    rw [a1, a2, a3]
    omega
  clear h
  rcases hc with k1 | ⟨k1, k2⟩ | ⟨k1, k2, k3⟩ | ⟨k1, k2, k3, k4⟩ | ⟨k1, k2, k3, k4, k5⟩ | ⟨k1, k2, k3, k4, k5, k6⟩
  all_goals
    go_enter Try.func39, Try.ntmps39
    go_wp2
    go_ret2
    exact ⟨rfl, rfl⟩

section
variable {B : Nat} {w : World} {p g q g2 : Nat} {bs : List Int} {dict here : Int}
theorem bytes_all {bs : List Int} (hl : bs.length ≤ 2000000) : bytesV bs 65536 bs.length = bs ∧ reachT bs.length 65536 bs.length 0 = 0 := by
  have h : reachT bs.length 65536 bs.length 0 = 0 := by
    unfold reachT
    rw [if_neg (by omega)]
    split
    · rfl
    · rw [if_pos ⟨by omega, by omega⟩]
  refine ⟨?_, h⟩
  unfold bytesV
  rw [if_pos h, show ((65536 : Int) - 65536).toNat = 0 from rfl, List.drop_zero, Int.toNat_natCast, List.take_length]

set_option maxRecDepth 100000 in
set_option maxHeartbeats 4000000 in
theorem alike_any (w : World) (s : St9 B w p g q g2 bs dict here) :
    Calls Try.prog 41 #[.pointer (some ⟨p, 0, none⟩), .pointer (some ⟨q, 0, none⟩)] w fun e w' => e = .returned (.bool true) ∧ Fr0 w w' := by
  have hl := s.sp.len
  obtain ⟨e1, e2⟩ := bytes_all hl
  have d0 := s.d0
  have d1 := s.d1
  have h0 := s.h0
  have h1 := s.h1
  have hB := fun W (hW : Fr0 w W) => Bytes_any 65536 (65536 + (bs.length : Int) - 65536) W (s.sp.fr0 hW) ⟨by omega, by omega⟩ ⟨by omega, by omega⟩
  have e3 : bytesV bs 65536 (65536 + (bs.length : Int) - 65536) = bs ∧ reachT bs.length 65536 (65536 + (bs.length : Int) - 65536) 0 = 0 := by
    rw [show (65536 + (bs.length : Int) - 65536) = bs.length by omega]
    exact ⟨e1, e2⟩
  rw [e3.1, e3.2] at hB
  have HB := Lib.hid hB
  have HH := Lib.hid (fun W (hW : Fr0 w W) => Heap_any W (s.sp.fr0 hW) (by omega) d0 (by omega))
  have HE := Lib.hid (fun W (hW : Fr0 w W) => EndR W (s.rs.fr0 hW))
  have HS := Lib.hid s
  have hbl := s.rs.len
  have hrw : ∀ W, Fr0 w W → Row8 W W.heap.size (.slice (some ⟨g2, 0, none⟩) bs.length bs.length) bs := fun W hW => by
    have := (s.rs.fr0 hW).sub (off := 0) (n := bs.length) (by omega) bs.length (Nat.le_refl _) (by omega)
    rw [List.drop_zero, List.take_length] at this
    exact this
  have HR := Lib.hid hrw
  have hby := s.sp.byt
  have HBY := Lib.hid hby
  have r0 := s.rs.obj.cell 0
  have r1 := s.rs.obj.cell 1
  have r2 := s.rs.obj.cell 2
  have hql := s.rs.obj.lt
  simp at r0 r1 r2
  clear s hB e1 e2 e3 hrw hby
  go_enter Try.func41, Try.ntmps41
  go_wp2_with (first | (go_at_call 64; (with_reducible refine (HH.out _ (Fr.refl _ _)).mono ?_); rintro e w1 ⟨rfl, hf1⟩) | (go_at_call 65; (with_reducible refine (HE.out _ hf1).mono ?_); rintro e w1 ⟨rfl, rfl⟩) | (go_at_call 17; (with_reducible refine (HB.out _ hf1).mono ?_); rintro e w2 ⟨_, rfl, u, rfl, hou, hf2⟩))
  have hfw : Fr0 w w2 := hf1.trans hf2
  have HFW := Lib.hid hfw
  have HOU := Lib.hid (hou.row HBY.out (by omega))
  have t0 := (hfw.cell (p := ⟨q, 0, none⟩) hql (fun x => x)).trans r0
  have t1 := (hfw.cell (p := ⟨q, 1, none⟩) hql (fun x => x)).trans r1
  have t2 := (hfw.cell (p := ⟨q, 2, none⟩) hql (fun x => x)).trans r2
  have x1 : IntKind.i64.wrap (77824 + dict - here) = 77824 + dict - here := IntWalk.i64_in _ (by omega)
  clear hf1 hf2 hfw hou r0 r1 r2
  go_quiet ((first | (go_at_call 19; exact Calls.quiet_of_same ((Here_any _ ((HS.out.sp.fr0 HFW.out).drewN _)).mono fun e w' h => ⟨h.1, h.2.symm⟩)) | (go_at_call 20; exact Calls.quiet_of ((Unused_any _ ((HS.out.sp.fr0 HFW.out).drewN _) (by omega) (by omega) (by omega) (by omega)).mono fun e w' h => ⟨h.1, h.2.elim fun m hm => ⟨m, hm.symm⟩⟩)) | (go_at_call 29; exact Calls.quiet_of_same ((End_any _ ((HS.out.sp.fr0 HFW.out).drewN _) (by omega)).mono fun e w' h => ⟨h.1, h.2.symm⟩)) | (go_at_call 65; exact Calls.quiet_of_same ((HE.out _ (HFW.out.drewN _)).mono fun e w' h => ⟨h.1, h.2.symm⟩)) | (go_at_call 16; exact Calls.quiet_of_same ((same_any _ _ _ _ _ bs bs (HOU.out.fr ((Fr.refl (fun _ => False) w2).drewN _) (Nat.le_refl _) (fun _ _ x => x)) (HR.out _ (HFW.out.drewN _))).mono fun e w' h => ⟨h.1, h.2.symm⟩))))
  go_wp2
  go_ret
  exact ⟨by simp, HFW.out.drewN _⟩
end

end Go.Proofs.Ytkgihajpobajaaa
