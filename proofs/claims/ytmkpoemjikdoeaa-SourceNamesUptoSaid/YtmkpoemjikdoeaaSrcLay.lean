/- The program's source: New, Lay; the law's begun. -/
import Derived.Test.YtmkpoemjikdoeaaSrcPiece
namespace Go.Proofs.Ytmkpoemjikdoeaa
open Go Go.RowKit
set_option linter.unusedVariables false

/-- A source that has just been made. -/
structure Src0 (w : World) (c p g : Nat) (bs : List Int) : Prop where
  sp : Sp w p g bs 4096 77824
  len : bs.length = 16384
  obj : Blk w c 60 #[.pointer (some ⟨p, 0, none⟩), .int .i64 0, .int .i64 0, .int .i64 0, .int .i64 0, .int .i64 0]
section
variable {w w' : World} {c p g : Nat} {bs : List Int}
theorem Src0.fr {S : Nat → Prop} (h : Src0 w c p g bs) (hf : Fr S w w') (hp : ¬ S p) (hg : ¬ S g) (hc : ¬ S c) : Src0 w' c p g bs := ⟨h.sp.fr hf hp hg, h.len, h.obj.fr hf hc⟩
theorem Src0.apart (h : Src0 w c p g bs) : c ≠ p ∧ c ≠ g := ⟨h.obj.ne_ h.sp.obj (by decide), h.obj.ne_ h.sp.row (by decide)⟩

set_option maxHeartbeats 1000000 in
theorem NewS_any (w : World) (h : Sp w p g bs 4096 77824) (hl : bs.length = 16384) :
    Calls Try.prog 12 #[.pointer (some ⟨p, 0, none⟩)] w fun e w' => ∃ c, e = .returned (.pointer (some ⟨c, 0, none⟩)) ∧ w.heap.size ≤ c ∧ Fr1 g w w' ∧ Src0 w' c p g (poke bs 16 (leB 0 8)) := by
  have hS := System_any 65552 0 w h ⟨by omega, by omega⟩
  rw [sys_toIn bs hl] at hS
  have HS := Lib.hid hS
  have HL := Lib.hid hl
  clear hS h hl
  go_enter Try.func12, Try.ntmps12
  go_wp2_with (go_at_call 23; refine HS.out.mono ?_; rintro e w1 ⟨rfl, hf1, hs1⟩)
  go_ret
  exact ⟨_, rfl, hf1.size, hf1.alloc _, hs1.alloc _, by rw [poke_length _ _ _ (by rw [leB_length, HL.out]; omega)]; exact HL.out, Blk.new _ _ _⟩

set_option maxHeartbeats 1000000 in
theorem NewW_any {q g2 : Nat} {here last : Int} (w : World) (h : RSp w q g2 bs here last) :
    Calls Try.prog 19 #[.pointer (some ⟨q, 0, none⟩)] w fun e w' => ∃ c, e = .returned (.pointer (some ⟨c, 0, none⟩)) ∧ Fr1 g2 w w' := by
  have HS := Lib.hid (fun W (hW : Fr0 w W) => SystemR 65552 0 W (h.fr0 hW) ⟨by omega, by omega⟩ ⟨by omega, by omega⟩)
  clear h
  go_enter Try.func19, Try.ntmps19
  go_wp2_with (go_at_call 30; refine (HS.out _ ((Fr.refl _ w).alloc _)).mono ?_; rintro e w1 ⟨rfl, hf1, _⟩)
  go_ret
  exact ⟨_, rfl, ((Fr.refl _ w).alloc _).trans hf1⟩

set_option maxHeartbeats 2000000 in
theorem begun_any (w : World) :
    Calls Try.prog 8 #[] w fun e w' => ∃ x p c g q v bs, e = .returned (.pointer (some ⟨x, 0, none⟩)) ∧ Fr0 w w' ∧ Blk w' x 33 #[.pointer (some ⟨p, 0, none⟩), .pointer (some ⟨c, 0, none⟩), .pointer (some ⟨q, 0, none⟩), .pointer (some ⟨v, 0, none⟩)] ∧ Src0 w' c p g bs ∧ w.heap.size ≤ x ∧ w.heap.size ≤ p ∧ w.heap.size ≤ c ∧ w.heap.size ≤ g := by
  have H1 := Lib.hid (New_ok 4096 0 w (by unfold newOk; decide))
  have H2 := Lib.hid (fun W => NewRS_ok 4096 0 W (by unfold newOk; decide))
  rw [show (12288 + (4096 : Int) + 0).toNat = 16384 from rfl] at H1 H2
  have HNL := Lib.hid (noughts_length 16384)
  generalize noughts 16384 = bs0 at *
  go_enter Try.func8, Try.ntmps8
  go_wp2_with (first | (go_at_call 17; refine H1.out.mono ?_; rintro e w1 ⟨rfl, hf1, hz1, h1⟩; have HZ1 := Lib.hid hz1; clear hz1) | (go_at_call 18; refine (H2.out _).mono ?_; rintro e w2 ⟨rfl, hf2, h2⟩; have HSP := Lib.hid (h1.fr0 hf2)) | (go_at_call 12; refine (NewS_any _ HSP.out HNL.out).mono ?_; rintro e w3 ⟨c, rfl, hcl, hf3, hs3⟩; have HR3 := Lib.hid (h2.fr hf3 (fun e => by have := HZ1.out; omega) (fun e => by have := HZ1.out; omega))) | (go_at_call 19; refine (NewW_any _ HR3.out).mono ?_; rintro e w4 ⟨v, rfl, hf4⟩))
  go_ret
  have z1 := HZ1.out
  have z2 := hf2.size
  have z3 := h2.row.lt
  have hs4 : Src0 w4 c (w.heap.size + 1) w.heap.size (poke bs0 16 (leB 0 8)) := hs3.fr hf4 (fun e => by omega) (fun e => by omega) (fun e => by omega)
  have hF : Fr0 w w4 := ((hf1.trans hf2).then hf3 (fun k hk e => by omega)).then hf4 (fun k hk e => by omega)
  refine ⟨_, _, _, _, _, _, _, rfl, hF.alloc _, Blk.new _ _ _, hs4.fr ((Fr.refl (fun _ => False) w4).alloc _) (fun x => x) (fun x => x) (fun x => x), ?_, ?_, ?_, ?_⟩
  · have := hF.size; omega
  · omega
  · omega
  · omega

set_option maxHeartbeats 400000 in
theorem line_zero (w : World) : Calls Try.prog 21 #[.int .i64 0] w fun e w' => e = .returned (.tuple #[.int .i64 65792, .bool true]) ∧ w = w' := by
  go_enter Try.func21, Try.ntmps21
  go_wp2
  go_ret2
  exact ⟨rfl, rfl⟩
set_option maxHeartbeats 400000 in
theorem none_src0 (w : World) (h : Src0 w c p g bs) :
    Calls Try.prog 20 #[.pointer (some ⟨c, 0, none⟩)] w fun e w' => e = .returned (.bool false) ∧ w = w' := by
  have h0 := h.obj.cell 0
  simp at h0
  clear h
  go_enter Try.func20, Try.ntmps20
  go_wp2
  go_ret
  exact ⟨rfl, rfl⟩

set_option maxHeartbeats 2000000 in
theorem Lay_any (sv : Value) (zs : List Int) (w : World) (h : Src0 w c p g bs) (B : Nat) (hs : Row8 w B sv zs) (hB : B ≤ w.heap.size) (hz : zs.length ≤ 1024) :
    Calls Try.prog 9 #[.pointer (some ⟨c, 0, none⟩), sv] w fun e w' => e = .returned (.int .i64 0) ∧ Fr (fun k => k = c ∨ k = g) w w' ∧ ∃ bs', Src w' c p g bs' zs 0 0 := by
  have HN := Lib.hid (none_src0 w h)
  have hP := Put_any 65792 sv zs w h.sp ⟨by omega, by omega⟩ B hs hB
  have hp0 : putT bs.length 65792 zs.length = 0 := by
    rw [h.len]
    unfold putT reachT openT
    rw [if_neg (by omega)]
    split
    · rfl
    · rw [if_pos ⟨by omega, by omega⟩, if_neg (by omega)]
  rw [hp0, if_pos rfl, show ((65792 : Int) - 65536).toNat = 256 from rfl] at hP
  have hln : (poke bs 256 zs).length = 16384 := by rw [poke_length _ _ _ (by rw [h.len]; omega)]; exact h.len
  have HLN := Lib.hid hln
  have HLL := Lib.hid (line_lay bs zs h.len hz)
  obtain ⟨A, cap, rfl, _⟩ := hs
  have HP := Lib.hid hP
  have HH := Lib.hid h
  obtain ⟨ap1, ap2⟩ := h.apart
  have hcl := h.obj.lt
  have c0 := h.obj.cell 0
  have c1 := h.obj.cell 1
  have c2 := h.obj.cell 2
  have c3 := h.obj.cell 3
  simp at c0 c1 c2 c3
  clear hP hp0 hln h hB
  obtain ⟨m, hm⟩ : ∃ m, zs.length = m := ⟨_, rfl⟩
  rw [hm] at HP hz ⊢
  have HM := Lib.hid hm
  clear hm
  go_enter Try.func9, Try.ntmps9
  go_wp2_with (first | (go_at_call 20; refine HN.out.mono ?_; rintro e w' ⟨rfl, rfl⟩) | (go_at_call 21; refine (line_zero _).mono ?_; rintro e w' ⟨rfl, rfl⟩) | (go_at_call 22; refine HP.out.mono ?_; rintro e w1 ⟨rfl, hf1, hs1⟩; have hb1 := HH.out.obj.fr hf1 ap2; have d0 := hb1.cell 0; have d2 := hb1.cell 2; have d3 := hb1.cell 3; have y2 := hb1.frozen 2; have y3 := hb1.frozen 3; simp at d0 d2 d3; have HB1 := Lib.hid hb1; have HSY := Lib.hid (fun W (hW : Fr (fun k => k = c) w1 W) => System_any 65552 0 W (hs1.fr hW (fun e => ap1 e.symm) (fun e => ap2 e.symm)) ⟨by omega, by omega⟩); clear hb1 hs1) | (go_at_call 23; refine (HSY.out _ (((Fr.refl (fun k => k = c) w1).setCell (p := ⟨c, 2, none⟩) (.inl rfl) _).setCell (p := ⟨c, 3, none⟩) (.inl rfl) _)).mono ?_; rintro e w2 ⟨rfl, hf2, hs2⟩))
  go_ret
  have hfc : Fr (fun k => k = c) w1 ((w1.setCell ⟨c, 2, none⟩ (.int .i64 65792)).setCell ⟨c, 3, none⟩ (.int .i64 m)) := ((Fr.refl (fun k => k = c) w1).setCell (p := ⟨c, 2, none⟩) (.inl rfl) _).setCell (p := ⟨c, 3, none⟩) (.inl rfl) _
  have hob := ((HB1.out.set_ 2 (.int .i64 65792)).set_ 3 (.int .i64 m)).fr hf2 ap2
  rw [sys_toIn _ HLN.out] at hs2
  refine ⟨rfl, ((hf1.mono fun _ _ e => .inr e).trans (hfc.mono fun _ _ e => .inl e)).trans (hf2.mono fun _ _ e => .inr e), _, hs2, ?_, ?_, ?_, ?_, ?_, Nat.zero_le _⟩
  · rw [poke_length _ _ _ (by rw [leB_length, HLN.out]; omega)]; exact HLN.out
  · rw [HM.out]; simpa using hob
  · rw [line_sys _ HLN.out]; exact HLL.out
  · rw [HM.out]; exact hz
  · exact get_toIn _ HLN.out 0 (by omega) (by omega)
end
end Go.Proofs.Ytmkpoemjikdoeaa
