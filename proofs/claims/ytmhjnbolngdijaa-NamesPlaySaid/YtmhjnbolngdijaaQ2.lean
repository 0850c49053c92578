/- The law of chapter 14: a step on both: Add. -/
import Derived.Test.YtmhjnbolngdijaaQ3
import Derived.Deep.RegionHeld3
import Derived.StillTailTactics
namespace Go.Proofs.Ytmhjnbolngdijaa
open Go Go.RowKit
set_option linter.unusedVariables false
attribute [local go_sem] Oper.semAt_some

section
variable {B x c d : Nat} {s : St} {S R : Nat → Prop} {mv kv : Value}
/-- Where does stands behind its first rows: the step's, both words'. -/
structure Boxed (w W : World) (t : Stp) : Prop where
  st : Blk W w.heap.size 61 #[.int .i64 t.kind, .string (strOfNums t.name), .int .i64 t.xt, .int .i64 t.list, .bool t.imm, .bool t.only, .int .i64 t.n, t.l]
  a : Blk W (w.heap.size + 1) 30 #[.string (strOfNums t.name), .int .i64 t.xt, .int .i64 t.list, .bool t.imm, .bool t.only]
  b : Blk W (w.heap.size + 1 + 1) 71 #[.string (strOfNums t.name), .int .i64 t.xt, .int .i64 t.list, .bool t.imm, .bool t.only]
theorem Boxed.fr {w W W' : World} {t : Stp} {T : Nat → Prop} (h : Boxed w W t) (hf : Fr T W W') (hT : ∀ k, T k → k < w.heap.size ∨ w.heap.size + 3 ≤ k) : Boxed w W' t :=
  ⟨h.st.fr hf (fun e => by have := hT _ e; omega), h.a.fr hf (fun e => by have := hT _ e; omega), h.b.fr hf (fun e => by have := hT _ e; omega)⟩
theorem boxed_new (w : World) (t : Stp) : Boxed w (((w.alloc (.cells #[.int .i64 t.kind, .string (strOfNums t.name), .int .i64 t.xt, .int .i64 t.list, .bool t.imm, .bool t.only, .int .i64 t.n, t.l] 61)).alloc (.cells #[.string (strOfNums t.name), .int .i64 t.xt, .int .i64 t.list, .bool t.imm, .bool t.only] 30)).alloc (.cells #[.string (strOfNums t.name), .int .i64 t.xt, .int .i64 t.list, .bool t.imm, .bool t.only] 71)) t := by
  refine ⟨((Blk.new w _ _).alloc _).alloc _, ?_, ?_⟩
  · have := (Blk.new (w.alloc (.cells #[.int .i64 t.kind, .string (strOfNums t.name), .int .i64 t.xt, .int .i64 t.list, .bool t.imm, .bool t.only, .int .i64 t.n, t.l] 61)) 30 #[.string (strOfNums t.name), .int .i64 t.xt, .int .i64 t.list, .bool t.imm, .bool t.only]).alloc (.cells #[.string (strOfNums t.name), .int .i64 t.xt, .int .i64 t.list, .bool t.imm, .bool t.only] 71)
    simpa using this
  · have := Blk.new ((w.alloc (.cells #[.int .i64 t.kind, .string (strOfNums t.name), .int .i64 t.xt, .int .i64 t.list, .bool t.imm, .bool t.only, .int .i64 t.n, t.l] 61)).alloc (.cells #[.string (strOfNums t.name), .int .i64 t.xt, .int .i64 t.list, .bool t.imm, .bool t.only] 30)) 71 #[.string (strOfNums t.name), .int .i64 t.xt, .int .i64 t.list, .bool t.imm, .bool t.only]
    simpa using this
set_option maxRecDepth 100000 in
set_option maxHeartbeats 8000000 in
theorem does1 (t : Stp) (hk : t.kind = 1) (w : World) (hv : ∃ A n cap, t.l = .slice A n cap) (hn : (∀ y ∈ t.name, 0 ≤ y ∧ y ≤ 255) ∧ t.name.length ≤ 1000000) (h : Both w B x c d s S s R mv kv) (hl : s.ws.length < 5000) :
    Calls Try.prog 28 #[.pointer (some ⟨x, 0, none⟩), t.val] w fun e w' => e = .returned (.bool true) ∧ ∃ S' R', Both w' B x c d (stepSt s t) S' (stepSt s t) R' mv kv ∧ Turn (fun k => S k ∨ R k) (fun k => S' k ∨ R' k) w w' := by
  have hbx := boxed_new w t
  have hf0 : Fr0 w (((w.alloc (.cells #[.int .i64 t.kind, .string (strOfNums t.name), .int .i64 t.xt, .int .i64 t.list, .bool t.imm, .bool t.only, .int .i64 t.n, t.l] 61)).alloc (.cells #[.string (strOfNums t.name), .int .i64 t.xt, .int .i64 t.list, .bool t.imm, .bool t.only] 30)).alloc (.cells #[.string (strOfNums t.name), .int .i64 t.xt, .int .i64 t.list, .bool t.imm, .bool t.only] 71)) := (((Fr.refl _ w).alloc _).alloc _).alloc _
  obtain ⟨W, hW⟩ : ∃ W, (((w.alloc (.cells #[.int .i64 t.kind, .string (strOfNums t.name), .int .i64 t.xt, .int .i64 t.list, .bool t.imm, .bool t.only, .int .i64 t.n, t.l] 61)).alloc (.cells #[.string (strOfNums t.name), .int .i64 t.xt, .int .i64 t.list, .bool t.imm, .bool t.only] 30)).alloc (.cells #[.string (strOfNums t.name), .int .i64 t.xt, .int .i64 t.list, .bool t.imm, .bool t.only] 71)) = W := ⟨_, rfl⟩
  have hWs : W.heap.size = w.heap.size + 3 := by rw [← hW]; simp
  rw [hW] at hbx hf0
  have HW := Lib.hid hW
  have HBX := Lib.hid hbx
  have HB := Lib.hid (h.fr0 hf0)
  have HF0 := Lib.hid hf0
  have HLS := Lib.hid (show ∀ k, S k → k < w.heap.size from fun k hk => (h.ng.lo hk).2)
  have HLR := Lib.hid (show ∀ k, R k → k < w.heap.size from fun k hk => (h.rn.lo hk).2)
  have HST := Lib.hid (show stepSt s t = addSt s ⟨t.name, t.xt, t.list, t.imm, t.only⟩ from by unfold stepSt; rw [if_pos hk])
  have HA := Lib.hid (fun (V : World) hV => Add_ng (B := B) (c := c) (s := s) (S := S) ⟨t.name, t.xt, t.list, t.imm, t.only⟩ hn V hV hl)
  have HD := Lib.hid (fun (V : World) hV => Add_rn (B := B) (c := d) (s := s) (S := R) ⟨t.name, t.xt, t.list, t.imm, t.only⟩ hn V hV hl)
  clear hW hbx h hf0
  obtain ⟨A, n, cap, hv⟩ := hv
  obtain ⟨tk, tn, tx, tl, ti, to, tN, tv, ts⟩ := t
  dsimp only at *
  subst hk hv
  have q0 := HB.out.two.cell 0
  have q1 := HB.out.two.cell 1
  have q2 := HBX.out.a.cell 0
  have q3 := HBX.out.a.cell 1
  have q4 := HBX.out.a.cell 2
  have q5 := HBX.out.a.cell 3
  have q6 := HBX.out.a.cell 4
  have HXA := Lib.hid HBX.out.b
  simp only [Wd.val] at HA HD
  unfold Stp.val
  go_enter Try.func28, Try.ntmps28
  go_wp2_with fail
  rw [HW.out]
  have HSL := Lib.hid (show ∀ k, S k → k < w.heap.size ∨ w.heap.size + 3 ≤ k from fun k hk => .inl (HLS.out k hk))
  go_region_held3 (fun V => V.cell? ⟨x, 0, none⟩ = some (.pointer (some ⟨c, 0, none⟩)) ∧ V.cell? ⟨w.heap.size + 1, 0, none⟩ = some (.string (strOfNums tn)) ∧ V.cell? ⟨w.heap.size + 1, 1, none⟩ = some (.int .i64 tx) ∧ V.cell? ⟨w.heap.size + 1, 2, none⟩ = some (.int .i64 tl) ∧ V.cell? ⟨w.heap.size + 1, 3, none⟩ = some (.bool ti) ∧ V.cell? ⟨w.heap.size + 1, 4, none⟩ = some (.bool to)) (first | exact ⟨q0, q2, q3, q4, q5, q6⟩ | exact ⟨hb2.1.two.cell 0, hx2.a.cell 0, hx2.a.cell 1, hx2.a.cell 2, hx2.a.cell 3, hx2.a.cell 4⟩) (first | (go_at_call 11; refine (HA.out _ (HB.out.fr0 (Fr.refl (fun _ => False) W).drew).ng).mono ?_; rintro e w2 ⟨rfl, S2, n2, t2⟩; have hb2 := (HB.out.fr0 (Fr.refl (fun _ => False) W).drew).atNg n2 t2; have hx2 := (HBX.out.fr (Fr.refl (fun _ => False) W).drew (fun k h => h.elim)).fr t2.1 HSL.out))
  have H2 := Lib.hid hb2.1
  have HX2 := Lib.hid hx2
  have HT2 := Lib.hid ((Turn.of0 (HF0.out.trans (Fr.refl (fun _ => False) W).drew)).trans hb2.2)
  have HSR := Lib.hid (show ∀ k, R k → k < w.heap.size ∨ w.heap.size + 3 ≤ k from fun k hk => .inl (HLR.out k hk))
  have r1 := hb2.1.two.cell 1
  have r2 := hx2.b.cell 0
  have r3 := hx2.b.cell 1
  have r4 := hx2.b.cell 2
  have r5 := hx2.b.cell 3
  have r6 := hx2.b.cell 4
  clear q0 q1 q2 q3 q4 q5 q6 hb2 hx2 n2 t2
  go_wp2_with fail
  go_region_held3 (fun V => V.cell? ⟨x, 1, none⟩ = some (.pointer (some ⟨d, 0, none⟩)) ∧ V.cell? ⟨w.heap.size + 1 + 1, 0, none⟩ = some (.string (strOfNums tn)) ∧ V.cell? ⟨w.heap.size + 1 + 1, 1, none⟩ = some (.int .i64 tx) ∧ V.cell? ⟨w.heap.size + 1 + 1, 2, none⟩ = some (.int .i64 tl) ∧ V.cell? ⟨w.heap.size + 1 + 1, 3, none⟩ = some (.bool ti) ∧ V.cell? ⟨w.heap.size + 1 + 1, 4, none⟩ = some (.bool to)) (first | exact ⟨r1, r2, r3, r4, r5, r6⟩ | exact ⟨hb3.1.two.cell 1, hx3.b.cell 0, hx3.b.cell 1, hx3.b.cell 2, hx3.b.cell 3, hx3.b.cell 4⟩) (first | (go_at_call 47; refine (HD.out _ (H2.out.fr0 (Fr.refl (fun _ => False) w2).drew).rn).mono ?_; rintro e w3 ⟨rfl, R3, n3, t3⟩; have hb3 := (H2.out.fr0 (Fr.refl (fun _ => False) w2).drew).atRn n3 t3; have hx3 := (HX2.out.fr (Fr.refl (fun _ => False) w2).drew (fun k h => h.elim)).fr t3.1 HSR.out))
  have hpost : ∃ S' R', Both w3 B x c d (stepSt s ⟨1, tn, tx, tl, ti, to, tN, .slice A n cap, ts⟩) S' (stepSt s ⟨1, tn, tx, tl, ti, to, tN, .slice A n cap, ts⟩) R' mv kv ∧ Turn (fun k => S k ∨ R k) (fun k => S' k ∨ R' k) w w3 := by
    rw [HST.out]
    exact ⟨_, _, hb3.1, HT2.out.trans ((Turn.of0 (Fr.refl (fun _ => False) w2).drew).trans hb3.2)⟩
  have HPOST := Lib.hid hpost
  clear r1 r2 r3 r4 r5 r6 hb3 hx3 n3 t3 hpost
  go_wp2_with fail
  go_ret
  exact ⟨rfl, HPOST.out⟩
end
end Go.Proofs.Ytmhjnbolngdijaa

namespace Go.Proofs.Ytmhjnbolngdijaa
open Go Go.RowKit
set_option linter.unusedVariables false
attribute [local go_sem] Oper.semAt_some

section
variable {B x c d : Nat} {s : St} {S R : Nat → Prop} {mv kv : Value}
set_option maxRecDepth 100000 in
set_option maxHeartbeats 8000000 in
theorem does3 (t : Stp) (hk : t.kind = 3) (w : World) (hv : ∃ A n cap, t.l = .slice A n cap) (hn : (∀ y ∈ t.name, 0 ≤ y ∧ y ≤ 255) ∧ t.name.length ≤ 1000000) (h : Both w B x c d s S s R mv kv) :
    Calls Try.prog 28 #[.pointer (some ⟨x, 0, none⟩), t.val] w fun e w' => e = .returned (.bool true) ∧ ∃ S' R', Both w' B x c d (stepSt s t) S' (stepSt s t) R' mv kv ∧ Turn (fun k => S k ∨ R k) (fun k => S' k ∨ R' k) w w' := by
  have hst : stepSt s t = setSt s t.n ⟨t.name, t.xt, t.list, t.imm, t.only⟩ := by unfold stepSt; simp [hk]
  rw [hst]
  have hbx := boxed_new w t
  have hf0 := (((Fr.refl (fun _ => False) w).alloc (.cells #[.int .i64 t.kind, .string (strOfNums t.name), .int .i64 t.xt, .int .i64 t.list, .bool t.imm, .bool t.only, .int .i64 t.n, t.l] 61)).alloc (.cells #[.string (strOfNums t.name), .int .i64 t.xt, .int .i64 t.list, .bool t.imm, .bool t.only] 30)).alloc (.cells #[.string (strOfNums t.name), .int .i64 t.xt, .int .i64 t.list, .bool t.imm, .bool t.only] 71)
  obtain ⟨W, hW⟩ : ∃ W, (((w.alloc (.cells #[.int .i64 t.kind, .string (strOfNums t.name), .int .i64 t.xt, .int .i64 t.list, .bool t.imm, .bool t.only, .int .i64 t.n, t.l] 61)).alloc (.cells #[.string (strOfNums t.name), .int .i64 t.xt, .int .i64 t.list, .bool t.imm, .bool t.only] 30)).alloc (.cells #[.string (strOfNums t.name), .int .i64 t.xt, .int .i64 t.list, .bool t.imm, .bool t.only] 71)) = W := ⟨_, rfl⟩
  rw [hW] at hbx hf0
  have HSL := Lib.hid (show ∀ k, S k → k < w.heap.size ∨ w.heap.size + 3 ≤ k from fun k hk => .inl (h.ng.lo hk).2)
  have HSR := Lib.hid (show ∀ k, R k → k < w.heap.size ∨ w.heap.size + 3 ≤ k from fun k hk => .inl (h.rn.lo hk).2)
  have HW := Lib.hid hW
  have HA := Lib.hid (fun (V : World) hV => Set_ng (B := B) (c := c) (s := s) (S := S) t.n ⟨t.name, t.xt, t.list, t.imm, t.only⟩ hn V hV)
  have HD := Lib.hid (fun (V : World) hV => Set_rn (B := B) (c := d) (s := s) (S := R) t.n ⟨t.name, t.xt, t.list, t.imm, t.only⟩ hn V hV)
  have hbc := h.fr0 hf0
  have hxc := hbx
  have htc : Turn (fun k => S k ∨ R k) (fun k => S k ∨ R k) w W := Turn.of0 hf0
  clear hW hbx h hf0 hst
  obtain ⟨A, n, cap, hv⟩ := hv
  obtain ⟨tk, tn, tx, tl, ti, to, tN, tv, ts⟩ := t
  dsimp only at *
  subst hk hv
  simp only [Wd.val] at HA HD
  unfold Stp.val
  go_enter Try.func28, Try.ntmps28
  go_wp2_with fail
  rw [HW.out]
  have htc := htc.trans (Turn.of0 (Fr.refl (fun _ => False) _).drew)
  have hxc := hxc.fr (Fr.refl (fun _ => False) _).drew (fun k h => h.elim)
  have hbc := hbc.fr0 (Fr.refl (fun _ => False) _).drew
  go_region_held3 (fun V => V.cell? ⟨x, 0, none⟩ = some (.pointer (some ⟨c, 0, none⟩)) ∧ V.cell? ⟨x, 1, none⟩ = some (.pointer (some ⟨d, 0, none⟩)) ∧ V.cell? ⟨w.heap.size, 6, none⟩ = some (.int .i64 tN) ∧ V.cell? ⟨w.heap.size + 1, 0, none⟩ = some (.string (strOfNums tn)) ∧ V.cell? ⟨w.heap.size + 1, 1, none⟩ = some (.int .i64 tx) ∧ V.cell? ⟨w.heap.size + 1, 2, none⟩ = some (.int .i64 tl) ∧ V.cell? ⟨w.heap.size + 1, 3, none⟩ = some (.bool ti) ∧ V.cell? ⟨w.heap.size + 1, 4, none⟩ = some (.bool to) ∧ V.cell? ⟨w.heap.size + 1 + 1, 0, none⟩ = some (.string (strOfNums tn)) ∧ V.cell? ⟨w.heap.size + 1 + 1, 1, none⟩ = some (.int .i64 tx) ∧ V.cell? ⟨w.heap.size + 1 + 1, 2, none⟩ = some (.int .i64 tl) ∧ V.cell? ⟨w.heap.size + 1 + 1, 3, none⟩ = some (.bool ti) ∧ V.cell? ⟨w.heap.size + 1 + 1, 4, none⟩ = some (.bool to)) (exact ⟨hbc.two.cell 0, hbc.two.cell 1, hxc.st.cell 6, hxc.a.cell 0, hxc.a.cell 1, hxc.a.cell 2, hxc.a.cell 3, hxc.a.cell 4, hxc.b.cell 0, hxc.b.cell 1, hxc.b.cell 2, hxc.b.cell 3, hxc.b.cell 4⟩) (first | (go_at_call 49; refine (HA.out _ hbc.ng).mono ?_; rintro e w2 ⟨rfl, S2, n2, t2⟩; have htc := htc.trans (hbc.atNg n2 t2).2; have hxc := hxc.fr t2.1 HSL.out; have hbc := (hbc.atNg n2 t2).1; clear n2 t2) | (go_at_call 50; refine (HD.out _ hbc.rn).mono ?_; rintro e w2 ⟨rfl, R2, n2, t2⟩; have htc := htc.trans (hbc.atRn n2 t2).2; have hxc := hxc.fr t2.1 HSR.out; have hbc := (hbc.atRn n2 t2).1; clear n2 t2))
  go_wp2_with fail
  go_ret
  exact ⟨rfl, _, _, hbc, htc⟩
set_option maxRecDepth 100000 in
set_option maxHeartbeats 8000000 in
theorem does4 (t : Stp) (hk : t.kind = 4) (w : World) (hv : ∃ A n cap, t.l = .slice A n cap) (hn : (∀ y ∈ t.name, 0 ≤ y ∧ y ≤ 255) ∧ t.name.length ≤ 1000000) (h : Both w B x c d s S s R mv kv) :
    Calls Try.prog 28 #[.pointer (some ⟨x, 0, none⟩), t.val] w fun e w' => e = .returned (.bool true) ∧ ∃ S' R', Both w' B x c d (stepSt s t) S' (stepSt s t) R' mv kv ∧ Turn (fun k => S k ∨ R k) (fun k => S' k ∨ R' k) w w' := by
  have hst : stepSt s t = s := by unfold stepSt; simp [hk]
  rw [hst]
  have hbx := boxed_new w t
  have hf0 := (((Fr.refl (fun _ => False) w).alloc (.cells #[.int .i64 t.kind, .string (strOfNums t.name), .int .i64 t.xt, .int .i64 t.list, .bool t.imm, .bool t.only, .int .i64 t.n, t.l] 61)).alloc (.cells #[.string (strOfNums t.name), .int .i64 t.xt, .int .i64 t.list, .bool t.imm, .bool t.only] 30)).alloc (.cells #[.string (strOfNums t.name), .int .i64 t.xt, .int .i64 t.list, .bool t.imm, .bool t.only] 71)
  obtain ⟨W, hW⟩ : ∃ W, (((w.alloc (.cells #[.int .i64 t.kind, .string (strOfNums t.name), .int .i64 t.xt, .int .i64 t.list, .bool t.imm, .bool t.only, .int .i64 t.n, t.l] 61)).alloc (.cells #[.string (strOfNums t.name), .int .i64 t.xt, .int .i64 t.list, .bool t.imm, .bool t.only] 30)).alloc (.cells #[.string (strOfNums t.name), .int .i64 t.xt, .int .i64 t.list, .bool t.imm, .bool t.only] 71)) = W := ⟨_, rfl⟩
  rw [hW] at hbx hf0
  have HSL := Lib.hid (show ∀ k, S k → k < w.heap.size ∨ w.heap.size + 3 ≤ k from fun k hk => .inl (h.ng.lo hk).2)
  have HSR := Lib.hid (show ∀ k, R k → k < w.heap.size ∨ w.heap.size + 3 ≤ k from fun k hk => .inl (h.rn.lo hk).2)
  have HW := Lib.hid hW
  have HA := Lib.hid (fun (V : World) hV => Find_ng (B := B) (c := c) (s := s) (S := S) t.list t.name hn V hV)
  have HD := Lib.hid (fun (V : World) hV => Find_rn (B := B) (c := d) (s := s) (S := R) t.list t.name hn V hV)
  have hbc := h.fr0 hf0
  have hxc := hbx
  have htc : Turn (fun k => S k ∨ R k) (fun k => S k ∨ R k) w W := Turn.of0 hf0
  clear hW hbx h hf0 hst
  obtain ⟨A, n, cap, hv⟩ := hv
  obtain ⟨tk, tn, tx, tl, ti, to, tN, tv, ts⟩ := t
  dsimp only at *
  subst hk hv
  unfold Stp.val
  go_enter Try.func28, Try.ntmps28
  go_wp2_with fail
  rw [HW.out]
  have htc := htc.trans (Turn.of0 (Fr.refl (fun _ => False) _).drew)
  have hxc := hxc.fr (Fr.refl (fun _ => False) _).drew (fun k h => h.elim)
  have hbc := hbc.fr0 (Fr.refl (fun _ => False) _).drew
  go_region_held3 (fun V => V.cell? ⟨x, 0, none⟩ = some (.pointer (some ⟨c, 0, none⟩)) ∧ V.cell? ⟨w.heap.size, 3, none⟩ = some (.int .i64 tl) ∧ V.cell? ⟨w.heap.size, 1, none⟩ = some (.string (strOfNums tn))) (exact ⟨hbc.two.cell 0, hxc.st.cell 3, hxc.st.cell 1⟩) (first | (go_at_call 13; refine (HA.out _ hbc.ng).mono ?_; rintro e w2 ⟨rfl, S2, n2, t2, _⟩; have htc := htc.trans (hbc.atNg n2 t2).2; have hxc := hxc.fr t2.1 HSL.out; have hbc := (hbc.atNg n2 t2).1; clear n2 t2))
  go_wp2_with fail
  have htc := htc.trans (Turn.of0 (Fr.refl (fun _ => False) _).drew)
  have hxc := hxc.fr (Fr.refl (fun _ => False) _).drew (fun k h => h.elim)
  have hbc := hbc.fr0 (Fr.refl (fun _ => False) _).drew
  go_region_held3 (fun V => V.cell? ⟨x, 1, none⟩ = some (.pointer (some ⟨d, 0, none⟩)) ∧ V.cell? ⟨w.heap.size, 3, none⟩ = some (.int .i64 tl) ∧ V.cell? ⟨w.heap.size, 1, none⟩ = some (.string (strOfNums tn))) (exact ⟨hbc.two.cell 1, hxc.st.cell 3, hxc.st.cell 1⟩) (first | (go_at_call 51; refine (HD.out _ hbc.rn).mono ?_; rintro e w2 ⟨rfl, f2⟩; have htc := htc.trans (Turn.of0 f2); have hxc := hxc.fr f2 (fun k h => h.elim); have hbc := hbc.fr0 f2; clear f2))
  go_wp2_with fail
  go_ret
  exact ⟨rfl, _, _, hbc, htc⟩
set_option maxRecDepth 100000 in
set_option maxHeartbeats 8000000 in
theorem does5 (t : Stp) (hk : t.kind = 5) (w : World) (hv : ∃ A n cap, t.l = .slice A n cap) (hn : (∀ y ∈ t.name, 0 ≤ y ∧ y ≤ 255) ∧ t.name.length ≤ 1000000) (h : Both w B x c d s S s R mv kv) (hol : s.order.length ≤ 1000) :
    Calls Try.prog 28 #[.pointer (some ⟨x, 0, none⟩), t.val] w fun e w' => e = .returned (.bool true) ∧ ∃ S' R', Both w' B x c d (stepSt s t) S' (stepSt s t) R' mv kv ∧ Turn (fun k => S k ∨ R k) (fun k => S' k ∨ R' k) w w' := by
  have hst : stepSt s t = s := by unfold stepSt; simp [hk]
  rw [hst]
  have hbx := boxed_new w t
  have hf0 := (((Fr.refl (fun _ => False) w).alloc (.cells #[.int .i64 t.kind, .string (strOfNums t.name), .int .i64 t.xt, .int .i64 t.list, .bool t.imm, .bool t.only, .int .i64 t.n, t.l] 61)).alloc (.cells #[.string (strOfNums t.name), .int .i64 t.xt, .int .i64 t.list, .bool t.imm, .bool t.only] 30)).alloc (.cells #[.string (strOfNums t.name), .int .i64 t.xt, .int .i64 t.list, .bool t.imm, .bool t.only] 71)
  obtain ⟨W, hW⟩ : ∃ W, (((w.alloc (.cells #[.int .i64 t.kind, .string (strOfNums t.name), .int .i64 t.xt, .int .i64 t.list, .bool t.imm, .bool t.only, .int .i64 t.n, t.l] 61)).alloc (.cells #[.string (strOfNums t.name), .int .i64 t.xt, .int .i64 t.list, .bool t.imm, .bool t.only] 30)).alloc (.cells #[.string (strOfNums t.name), .int .i64 t.xt, .int .i64 t.list, .bool t.imm, .bool t.only] 71)) = W := ⟨_, rfl⟩
  rw [hW] at hbx hf0
  have HSL := Lib.hid (show ∀ k, S k → k < w.heap.size ∨ w.heap.size + 3 ≤ k from fun k hk => .inl (h.ng.lo hk).2)
  have HSR := Lib.hid (show ∀ k, R k → k < w.heap.size ∨ w.heap.size + 3 ≤ k from fun k hk => .inl (h.rn.lo hk).2)
  have HW := Lib.hid hW
  have HA := Lib.hid (fun (V : World) hV => Search_ng (B := B) (c := c) (s := s) (S := S) t.name hn V hV hol)
  have HD := Lib.hid (fun (V : World) hV => Search_rn (B := B) (c := d) (s := s) (S := R) t.name hn V hV hol)
  have hbc := h.fr0 hf0
  have hxc := hbx
  have htc : Turn (fun k => S k ∨ R k) (fun k => S k ∨ R k) w W := Turn.of0 hf0
  clear hW hbx h hf0 hst
  obtain ⟨A, n, cap, hv⟩ := hv
  obtain ⟨tk, tn, tx, tl, ti, to, tN, tv, ts⟩ := t
  dsimp only at *
  subst hk hv
  unfold Stp.val
  go_enter Try.func28, Try.ntmps28
  go_wp2_with fail
  rw [HW.out]
  have htc := htc.trans (Turn.of0 (Fr.refl (fun _ => False) _).drew)
  have hxc := hxc.fr (Fr.refl (fun _ => False) _).drew (fun k h => h.elim)
  have hbc := hbc.fr0 (Fr.refl (fun _ => False) _).drew
  go_region_held3 (fun V => V.cell? ⟨x, 0, none⟩ = some (.pointer (some ⟨c, 0, none⟩)) ∧ V.cell? ⟨w.heap.size, 1, none⟩ = some (.string (strOfNums tn))) (exact ⟨hbc.two.cell 0, hxc.st.cell 1⟩) (first | (go_at_call 14; refine (HA.out _ hbc.ng).mono ?_; rintro e w2 ⟨rfl, S2, n2, t2⟩; have htc := htc.trans (hbc.atNg n2 t2).2; have hxc := hxc.fr t2.1 HSL.out; have hbc := (hbc.atNg n2 t2).1; clear n2 t2))
  go_wp2_with fail
  have htc := htc.trans (Turn.of0 (Fr.refl (fun _ => False) _).drew)
  have hxc := hxc.fr (Fr.refl (fun _ => False) _).drew (fun k h => h.elim)
  have hbc := hbc.fr0 (Fr.refl (fun _ => False) _).drew
  go_region_held3 (fun V => V.cell? ⟨x, 1, none⟩ = some (.pointer (some ⟨d, 0, none⟩)) ∧ V.cell? ⟨w.heap.size, 1, none⟩ = some (.string (strOfNums tn))) (exact ⟨hbc.two.cell 1, hxc.st.cell 1⟩) (first | (go_at_call 52; refine (HD.out _ hbc.rn).mono ?_; rintro e w2 ⟨rfl, f2⟩; have htc := htc.trans (Turn.of0 f2); have hxc := hxc.fr f2 (fun k h => h.elim); have hbc := hbc.fr0 f2; clear f2))
  go_wp2_with fail
  go_ret
  exact ⟨rfl, _, _, hbc, htc⟩
set_option maxRecDepth 100000 in
set_option maxHeartbeats 8000000 in
theorem does8 (t : Stp) (hk : t.kind = 8) (w : World) (hv : ∃ A n cap, t.l = .slice A n cap) (hn : (∀ y ∈ t.name, 0 ≤ y ∧ y ≤ 255) ∧ t.name.length ≤ 1000000) (h : Both w B x c d s S s R mv kv) :
    Calls Try.prog 28 #[.pointer (some ⟨x, 0, none⟩), t.val] w fun e w' => e = .returned (.bool true) ∧ ∃ S' R', Both w' B x c d (stepSt s t) S' (stepSt s t) R' mv kv ∧ Turn (fun k => S k ∨ R k) (fun k => S' k ∨ R' k) w w' := by
  have hst : stepSt s t = curSt s t.list := by unfold stepSt; simp [hk]
  rw [hst]
  have hbx := boxed_new w t
  have hf0 := (((Fr.refl (fun _ => False) w).alloc (.cells #[.int .i64 t.kind, .string (strOfNums t.name), .int .i64 t.xt, .int .i64 t.list, .bool t.imm, .bool t.only, .int .i64 t.n, t.l] 61)).alloc (.cells #[.string (strOfNums t.name), .int .i64 t.xt, .int .i64 t.list, .bool t.imm, .bool t.only] 30)).alloc (.cells #[.string (strOfNums t.name), .int .i64 t.xt, .int .i64 t.list, .bool t.imm, .bool t.only] 71)
  obtain ⟨W, hW⟩ : ∃ W, (((w.alloc (.cells #[.int .i64 t.kind, .string (strOfNums t.name), .int .i64 t.xt, .int .i64 t.list, .bool t.imm, .bool t.only, .int .i64 t.n, t.l] 61)).alloc (.cells #[.string (strOfNums t.name), .int .i64 t.xt, .int .i64 t.list, .bool t.imm, .bool t.only] 30)).alloc (.cells #[.string (strOfNums t.name), .int .i64 t.xt, .int .i64 t.list, .bool t.imm, .bool t.only] 71)) = W := ⟨_, rfl⟩
  rw [hW] at hbx hf0
  have HSL := Lib.hid (show ∀ k, S k → k < w.heap.size ∨ w.heap.size + 3 ≤ k from fun k hk => .inl (h.ng.lo hk).2)
  have HSR := Lib.hid (show ∀ k, R k → k < w.heap.size ∨ w.heap.size + 3 ≤ k from fun k hk => .inl (h.rn.lo hk).2)
  have HW := Lib.hid hW
  have HA := Lib.hid (fun (V : World) hV => SetCurrent_ng (B := B) (c := c) (s := s) (S := S) t.list V hV)
  have HD := Lib.hid (fun (V : World) hV => SetCurrent_rn (B := B) (c := d) (s := s) (S := R) t.list V hV)
  have hbc := h.fr0 hf0
  have hxc := hbx
  have htc : Turn (fun k => S k ∨ R k) (fun k => S k ∨ R k) w W := Turn.of0 hf0
  clear hW hbx h hf0 hst
  obtain ⟨A, n, cap, hv⟩ := hv
  obtain ⟨tk, tn, tx, tl, ti, to, tN, tv, ts⟩ := t
  dsimp only at *
  subst hk hv
  unfold Stp.val
  go_enter Try.func28, Try.ntmps28
  go_wp2_with fail
  rw [HW.out]
  have htc := htc.trans (Turn.of0 (Fr.refl (fun _ => False) _).drew)
  have hxc := hxc.fr (Fr.refl (fun _ => False) _).drew (fun k h => h.elim)
  have hbc := hbc.fr0 (Fr.refl (fun _ => False) _).drew
  go_region_held3 (fun V => V.cell? ⟨x, 0, none⟩ = some (.pointer (some ⟨c, 0, none⟩)) ∧ V.cell? ⟨x, 1, none⟩ = some (.pointer (some ⟨d, 0, none⟩)) ∧ V.cell? ⟨w.heap.size, 3, none⟩ = some (.int .i64 tl)) (exact ⟨hbc.two.cell 0, hbc.two.cell 1, hxc.st.cell 3⟩) (first | (go_at_call 25; refine (HA.out _ hbc.ng).mono ?_; rintro e w2 ⟨rfl, S2, n2, t2⟩; have htc := htc.trans (hbc.atNg n2 t2).2; have hxc := hxc.fr t2.1 HSL.out; have hbc := (hbc.atNg n2 t2).1; clear n2 t2) | (go_at_call 55; refine (HD.out _ hbc.rn).mono ?_; rintro e w2 ⟨rfl, R2, n2, t2⟩; have htc := htc.trans (hbc.atRn n2 t2).2; have hxc := hxc.fr t2.1 HSR.out; have hbc := (hbc.atRn n2 t2).1; clear n2 t2))
  go_wp2_with fail
  go_ret
  exact ⟨rfl, _, _, hbc, htc⟩
end
end Go.Proofs.Ytmhjnbolngdijaa

namespace Go.Proofs.Ytmhjnbolngdijaa
open Go Go.RowKit
set_option linter.unusedVariables false
attribute [local go_sem] Oper.semAt_some

section
variable {B x c d : Nat} {s : St} {S R : Nat → Prop} {mv kv : Value}
set_option maxRecDepth 100000 in
set_option maxHeartbeats 8000000 in
theorem does6 (t : Stp) (hk : t.kind = 6) (w : World) (hv : ∃ A n cap, t.l = .slice A n cap) (hn : (∀ y ∈ t.name, 0 ≤ y ∧ y ≤ 255) ∧ t.name.length ≤ 1000000) (h : Both w B x c d s S s R mv kv) (hl : 0 ≤ s.lists) :
    Calls Try.prog 28 #[.pointer (some ⟨x, 0, none⟩), t.val] w fun e w' => e = .returned (.bool true) ∧ ∃ S' R', Both w' B x c d (stepSt s t) S' (stepSt s t) R' mv kv ∧ Turn (fun k => S k ∨ R k) (fun k => S' k ∨ R' k) w w' := by
  have hst : stepSt s t = listSt s := by unfold stepSt; simp [hk]
  rw [hst]
  have hbx := boxed_new w t
  have hf0 := (((Fr.refl (fun _ => False) w).alloc (.cells #[.int .i64 t.kind, .string (strOfNums t.name), .int .i64 t.xt, .int .i64 t.list, .bool t.imm, .bool t.only, .int .i64 t.n, t.l] 61)).alloc (.cells #[.string (strOfNums t.name), .int .i64 t.xt, .int .i64 t.list, .bool t.imm, .bool t.only] 30)).alloc (.cells #[.string (strOfNums t.name), .int .i64 t.xt, .int .i64 t.list, .bool t.imm, .bool t.only] 71)
  obtain ⟨W, hW⟩ : ∃ W, (((w.alloc (.cells #[.int .i64 t.kind, .string (strOfNums t.name), .int .i64 t.xt, .int .i64 t.list, .bool t.imm, .bool t.only, .int .i64 t.n, t.l] 61)).alloc (.cells #[.string (strOfNums t.name), .int .i64 t.xt, .int .i64 t.list, .bool t.imm, .bool t.only] 30)).alloc (.cells #[.string (strOfNums t.name), .int .i64 t.xt, .int .i64 t.list, .bool t.imm, .bool t.only] 71)) = W := ⟨_, rfl⟩
  rw [hW] at hbx hf0
  have HSL := Lib.hid (show ∀ k, S k → k < w.heap.size ∨ w.heap.size + 3 ≤ k from fun k hk => .inl (h.ng.lo hk).2)
  have HSR := Lib.hid (show ∀ k, R k → k < w.heap.size ∨ w.heap.size + 3 ≤ k from fun k hk => .inl (h.rn.lo hk).2)
  have HW := Lib.hid hW
  have HA := Lib.hid (fun (V : World) hV => List_ng (B := B) (c := c) (s := s) (S := S) V hV hl)
  have HD := Lib.hid (fun (V : World) hV => List_rn (B := B) (c := d) (s := s) (S := R) V hV hl)
  have hbc := h.fr0 hf0
  have hxc := hbx
  have htc : Turn (fun k => S k ∨ R k) (fun k => S k ∨ R k) w W := Turn.of0 hf0
  clear hW hbx h hf0 hst
  obtain ⟨A, n, cap, hv⟩ := hv
  obtain ⟨tk, tn, tx, tl, ti, to, tN, tv, ts⟩ := t
  dsimp only at *
  subst hk hv
  unfold Stp.val
  go_enter Try.func28, Try.ntmps28
  go_upto_region 23 with (fail)
  rw [HW.out]
  have q0 := hbc.two.cell 0
  go_wp2_with (first | (go_at_call 19; refine (HA.out _ hbc.ng).mono ?_; rintro e w2 ⟨rfl, S2, n2, t2⟩; have htc := htc.trans (hbc.atNg n2 t2).2; have hxc := hxc.fr t2.1 HSL.out; have hbc := (hbc.atNg n2 t2).1; clear n2 t2; have q1 := hbc.two.cell 1) | (go_at_call 53; refine (HD.out _ hbc.rn).mono ?_; rintro e w2 ⟨rfl, R2, n2, t2⟩; have htc := htc.trans (hbc.atRn n2 t2).2; have hxc := hxc.fr t2.1 HSR.out; have hbc := (hbc.atRn n2 t2).1; clear n2 t2))
  go_ret
  exact ⟨rfl, _, _, hbc, htc⟩
set_option maxRecDepth 100000 in
set_option maxHeartbeats 8000000 in
theorem does7 (t : Stp) (hk : t.kind = 7) (w : World) (hv : ∃ A n cap, t.l = .slice A n cap) (hn : (∀ y ∈ t.name, 0 ≤ y ∧ y ≤ 255) ∧ t.name.length ≤ 1000000) (h : Both w B x c d s S s R mv kv) (hr : RowI w B t.l t.ls) (hls : t.ls.length ≤ 1000) (hB : B ≤ w.heap.size) :
    Calls Try.prog 28 #[.pointer (some ⟨x, 0, none⟩), t.val] w fun e w' => e = .returned (.bool true) ∧ ∃ S' R', Both w' B x c d (stepSt s t) S' (stepSt s t) R' mv kv ∧ Turn (fun k => S k ∨ R k) (fun k => S' k ∨ R' k) w w' := by
  have hst : stepSt s t = ordSt s t.ls := by unfold stepSt; simp [hk]
  rw [hst]
  have hbx := boxed_new w t
  have hf0 := (((Fr.refl (fun _ => False) w).alloc (.cells #[.int .i64 t.kind, .string (strOfNums t.name), .int .i64 t.xt, .int .i64 t.list, .bool t.imm, .bool t.only, .int .i64 t.n, t.l] 61)).alloc (.cells #[.string (strOfNums t.name), .int .i64 t.xt, .int .i64 t.list, .bool t.imm, .bool t.only] 30)).alloc (.cells #[.string (strOfNums t.name), .int .i64 t.xt, .int .i64 t.list, .bool t.imm, .bool t.only] 71)
  obtain ⟨W, hW⟩ : ∃ W, (((w.alloc (.cells #[.int .i64 t.kind, .string (strOfNums t.name), .int .i64 t.xt, .int .i64 t.list, .bool t.imm, .bool t.only, .int .i64 t.n, t.l] 61)).alloc (.cells #[.string (strOfNums t.name), .int .i64 t.xt, .int .i64 t.list, .bool t.imm, .bool t.only] 30)).alloc (.cells #[.string (strOfNums t.name), .int .i64 t.xt, .int .i64 t.list, .bool t.imm, .bool t.only] 71)) = W := ⟨_, rfl⟩
  rw [hW] at hbx hf0
  have HSL := Lib.hid (show ∀ k, S k → k < w.heap.size ∨ w.heap.size + 3 ≤ k from fun k hk => .inl (h.ng.lo hk).2)
  have HSR := Lib.hid (show ∀ k, R k → k < w.heap.size ∨ w.heap.size + 3 ≤ k from fun k hk => .inl (h.rn.lo hk).2)
  have HW := Lib.hid hW
  have HRI := Lib.hid (show ∀ V, Fr (fun k => S k ∨ R k) w V → RowI V B t.l t.ls from fun V hV => hr.below (hV.below hB (fun k hk hs => hs.elim (fun e => by have := (h.ng.lo e).1; omega) (fun e => by have := (h.rn.lo e).1; omega))))
  have HA := Lib.hid (fun (V : World) (hV : NgS V B c s S ∧ Fr (fun k => S k ∨ R k) w V) => SetOrder_ng (B := B) (c := c) (s := s) (S := S) t.l t.ls V hV.1 (Nat.le_trans hB hV.2.size) (HRI.out V hV.2) (by omega))
  have HD := Lib.hid (fun (V : World) (hV : RnS V B d s R ∧ Fr (fun k => S k ∨ R k) w V) => SetOrder_rn (B := B) (c := d) (s := s) (S := R) t.l t.ls V hV.1 (HRI.out V hV.2) (by omega))
  have hbc := h.fr0 hf0
  have hxc := hbx
  have htc : Turn (fun k => S k ∨ R k) (fun k => S k ∨ R k) w W := Turn.of0 hf0
  clear hW hbx h hf0 hst hr HRI
  obtain ⟨A, n, cap, hv⟩ := hv
  obtain ⟨tk, tn, tx, tl, ti, to, tN, tv, ts⟩ := t
  dsimp only at *
  subst hk hv
  unfold Stp.val
  go_enter Try.func28, Try.ntmps28
  go_wp2_with fail
  rw [HW.out]
  have htc := htc.trans (Turn.of0 (Fr.refl (fun _ => False) _).drew)
  have hxc := hxc.fr (Fr.refl (fun _ => False) _).drew (fun k h => h.elim)
  have hbc := hbc.fr0 (Fr.refl (fun _ => False) _).drew
  go_region_held3 (fun V => V.cell? ⟨x, 0, none⟩ = some (.pointer (some ⟨c, 0, none⟩)) ∧ V.cell? ⟨x, 1, none⟩ = some (.pointer (some ⟨d, 0, none⟩)) ∧ V.cell? ⟨w.heap.size, 7, none⟩ = some (.slice A n cap)) (exact ⟨hbc.two.cell 0, hbc.two.cell 1, hxc.st.cell 7⟩) (first | (go_at_call 20; refine (HA.out _ ⟨hbc.ng, htc.1⟩).mono ?_; rintro e w2 ⟨rfl, S2, n2, t2⟩; have htc := htc.trans (hbc.atNg n2 t2).2; have hxc := hxc.fr t2.1 HSL.out; have hbc := (hbc.atNg n2 t2).1; clear n2 t2) | (go_at_call 54; refine (HD.out _ ⟨hbc.rn, htc.1⟩).mono ?_; rintro e w2 ⟨rfl, R2, n2, t2⟩; have htc := htc.trans (hbc.atRn n2 t2).2; have hxc := hxc.fr t2.1 HSR.out; have hbc := (hbc.atRn n2 t2).1; clear n2 t2))
  go_wp2_with fail
  go_ret
  exact ⟨rfl, _, _, hbc, htc⟩
set_option maxRecDepth 100000 in
set_option maxHeartbeats 8000000 in
theorem does9 (t : Stp) (hk : t.kind = 9) (w : World) (hv : ∃ A n cap, t.l = .slice A n cap) (hn : (∀ y ∈ t.name, 0 ≤ y ∧ y ≤ 255) ∧ t.name.length ≤ 1000000) (h : Both w B x c d s S s R mv kv) :
    Calls Try.prog 28 #[.pointer (some ⟨x, 0, none⟩), t.val] w fun e w' => e = .returned (.bool true) ∧ ∃ S' R', Both w' B x c d (stepSt s t) S' (stepSt s t) R' mv kv ∧ Turn (fun k => S k ∨ R k) (fun k => S' k ∨ R' k) w w' := by
  have hst : stepSt s t = s := by unfold stepSt; simp [hk]
  rw [hst]
  have hbx := boxed_new w t
  have hf0 := (((Fr.refl (fun _ => False) w).alloc (.cells #[.int .i64 t.kind, .string (strOfNums t.name), .int .i64 t.xt, .int .i64 t.list, .bool t.imm, .bool t.only, .int .i64 t.n, t.l] 61)).alloc (.cells #[.string (strOfNums t.name), .int .i64 t.xt, .int .i64 t.list, .bool t.imm, .bool t.only] 30)).alloc (.cells #[.string (strOfNums t.name), .int .i64 t.xt, .int .i64 t.list, .bool t.imm, .bool t.only] 71)
  obtain ⟨W, hW⟩ : ∃ W, (((w.alloc (.cells #[.int .i64 t.kind, .string (strOfNums t.name), .int .i64 t.xt, .int .i64 t.list, .bool t.imm, .bool t.only, .int .i64 t.n, t.l] 61)).alloc (.cells #[.string (strOfNums t.name), .int .i64 t.xt, .int .i64 t.list, .bool t.imm, .bool t.only] 30)).alloc (.cells #[.string (strOfNums t.name), .int .i64 t.xt, .int .i64 t.list, .bool t.imm, .bool t.only] 71)) = W := ⟨_, rfl⟩
  rw [hW] at hbx hf0
  have HSL := Lib.hid (show ∀ k, S k → k < w.heap.size ∨ w.heap.size + 3 ≤ k from fun k hk => .inl (h.ng.lo hk).2)
  have HSR := Lib.hid (show ∀ k, R k → k < w.heap.size ∨ w.heap.size + 3 ≤ k from fun k hk => .inl (h.rn.lo hk).2)
  have HW := Lib.hid hW
  have HA := Lib.hid (fun (V : World) hV => Find_ng (B := B) (c := c) (s := s) (S := S) t.list t.name hn V hV)
  have HD := Lib.hid (fun (V : World) hV => Find_rn (B := B) (c := d) (s := s) (S := R) t.list t.name hn V hV)
  have hbc := h.fr0 hf0
  have hxc := hbx
  have htc : Turn (fun k => S k ∨ R k) (fun k => S k ∨ R k) w W := Turn.of0 hf0
  clear hW hbx h hf0 hst
  obtain ⟨A, n, cap, hv⟩ := hv
  obtain ⟨tk, tn, tx, tl, ti, to, tN, tv, ts⟩ := t
  dsimp only at *
  subst hk hv
  unfold Stp.val
  go_enter Try.func28, Try.ntmps28
  go_upto_region 31 with (fail)
  rw [HW.out]
  have q3 := hxc.st.cell 3
  have q6 := hxc.st.cell 6
  have hsx := HSL.out
  have hzz : w.heap.size + 3 ≤ W.heap.size := by rw [← HW.out]; simp
  go_wp2_with (first | (go_at_call 56; refine (goes_any _ _ _ hbc.two hbc.ng hbc.rn hbc.apart).mono ?_; rintro e w2 ⟨rfl, S2, n2, t2⟩; have htc := htc.trans (hbc.atNg n2 t2).2; have hxc := hxc.fr t2.1 hsx; have hsx := fun k hk => (t2.2 k hk).elim (hsx k) (fun h1 => Or.inr (Nat.le_trans hzz h1)); have hzz := Nat.le_trans hzz t2.1.size; have hbc := (hbc.atNg n2 t2).1; have q3 := hxc.st.cell 3; clear n2 t2))
  go_ret
  exact ⟨rfl, _, _, hbc, htc⟩
end
end Go.Proofs.Ytmhjnbolngdijaa

namespace Go.Proofs.Ytmhjnbolngdijaa
open Go Go.RowKit
set_option linter.unusedVariables false
attribute [local go_sem] Oper.semAt_some

section
variable {B x c d : Nat} {s : St} {S R : Nat → Prop} {mv kv : Value}
set_option maxRecDepth 100000 in
set_option maxHeartbeats 8000000 in
theorem doesNo (t : Stp) (hk : ∀ j : Int, 1 ≤ j → j ≤ 11 → (t.kind == j) = false) (w : World) (hv : ∃ A n cap, t.l = .slice A n cap) (hn : (∀ y ∈ t.name, 0 ≤ y ∧ y ≤ 255) ∧ t.name.length ≤ 1000000) (h : Both w B x c d s S s R mv kv) :
    Calls Try.prog 28 #[.pointer (some ⟨x, 0, none⟩), t.val] w fun e w' => e = .returned (.bool true) ∧ ∃ S' R', Both w' B x c d (stepSt s t) S' (stepSt s t) R' mv kv ∧ Turn (fun k => S k ∨ R k) (fun k => S' k ∨ R' k) w w' := by
  have hst : stepSt s t = s := by unfold stepSt; have e1 := hk 1 (by decide) (by decide); have e3 := hk 3 (by decide) (by decide); have e6 := hk 6 (by decide) (by decide); have e7 := hk 7 (by decide) (by decide); have e8 := hk 8 (by decide) (by decide); simp at e1 e3 e6 e7 e8; simp [e1, e3, e6, e7, e8]
  rw [hst]
  have hbx := boxed_new w t
  have hf0 := (((Fr.refl (fun _ => False) w).alloc (.cells #[.int .i64 t.kind, .string (strOfNums t.name), .int .i64 t.xt, .int .i64 t.list, .bool t.imm, .bool t.only, .int .i64 t.n, t.l] 61)).alloc (.cells #[.string (strOfNums t.name), .int .i64 t.xt, .int .i64 t.list, .bool t.imm, .bool t.only] 30)).alloc (.cells #[.string (strOfNums t.name), .int .i64 t.xt, .int .i64 t.list, .bool t.imm, .bool t.only] 71)
  obtain ⟨W, hW⟩ : ∃ W, (((w.alloc (.cells #[.int .i64 t.kind, .string (strOfNums t.name), .int .i64 t.xt, .int .i64 t.list, .bool t.imm, .bool t.only, .int .i64 t.n, t.l] 61)).alloc (.cells #[.string (strOfNums t.name), .int .i64 t.xt, .int .i64 t.list, .bool t.imm, .bool t.only] 30)).alloc (.cells #[.string (strOfNums t.name), .int .i64 t.xt, .int .i64 t.list, .bool t.imm, .bool t.only] 71)) = W := ⟨_, rfl⟩
  rw [hW] at hbx hf0
  have HSL := Lib.hid (show ∀ k, S k → k < w.heap.size ∨ w.heap.size + 3 ≤ k from fun k hk => .inl (h.ng.lo hk).2)
  have HSR := Lib.hid (show ∀ k, R k → k < w.heap.size ∨ w.heap.size + 3 ≤ k from fun k hk => .inl (h.rn.lo hk).2)
  have HW := Lib.hid hW
  have HA := Lib.hid (fun (V : World) hV => Find_ng (B := B) (c := c) (s := s) (S := S) t.list t.name hn V hV)
  have HD := Lib.hid (fun (V : World) hV => Find_rn (B := B) (c := d) (s := s) (S := R) t.list t.name hn V hV)
  have hbc := h.fr0 hf0
  have hxc := hbx
  have htc : Turn (fun k => S k ∨ R k) (fun k => S k ∨ R k) w W := Turn.of0 hf0
  clear hW hbx h hf0 hst
  obtain ⟨A, n, cap, hv⟩ := hv
  obtain ⟨tk, tn, tx, tl, ti, to, tN, tv, ts⟩ := t
  dsimp only at *
  subst hv
  have e1 := hk 1 (by decide) (by decide)
  have e2 := hk 2 (by decide) (by decide)
  have e3 := hk 3 (by decide) (by decide)
  have e4 := hk 4 (by decide) (by decide)
  have e5 := hk 5 (by decide) (by decide)
  have e6 := hk 6 (by decide) (by decide)
  have e7 := hk 7 (by decide) (by decide)
  have e8 := hk 8 (by decide) (by decide)
  have e9 := hk 9 (by decide) (by decide)
  have e10 := hk 10 (by decide) (by decide)
  have e11 := hk 11 (by decide) (by decide)
  clear hk
  unfold Stp.val
  go_enter Try.func28, Try.ntmps28
  go_wp2_with fail
  rw [HW.out]
  go_ret
  exact ⟨rfl, _, _, hbc, htc⟩
end
end Go.Proofs.Ytmhjnbolngdijaa

namespace Go.Proofs.Ytmhjnbolngdijaa
open Go Go.RowKit
set_option linter.unusedVariables false
attribute [local go_sem] Oper.semAt_some

section
variable {B x c d : Nat} {s : St} {S R : Nat → Prop} {mv kv : Value}
theorem keepA {V : World} {p : Addr} {v : Value} {o : Obj} (h : V.cell? p = some v) : (V.alloc o).cell? p = some v := (((Fr.refl (fun _ => False) V).alloc o).cell (World.block_lt_of_cell? _ _ h) (fun x => x)).trans h
theorem keep5 {V : World} {b i g : Nat} {v u0 u1 u2 u3 u4 : Value} (h : V.cell? ⟨b, i, none⟩ = some v) (hne : b ≠ g) : (((((V.setCell ⟨g, 0, none⟩ u0).setCell ⟨g, 1, none⟩ u1).setCell ⟨g, 2, none⟩ u2).setCell ⟨g, 3, none⟩ u3).setCell ⟨g, 4, none⟩ u4).cell? ⟨b, i, none⟩ = some v :=
  (((((((Fr.refl (fun k => k = g) V).setCell (p := ⟨g, 0, none⟩) (.inl rfl) u0).setCell (p := ⟨g, 1, none⟩) (.inl rfl) u1).setCell (p := ⟨g, 2, none⟩) (.inl rfl) u2).setCell (p := ⟨g, 3, none⟩) (.inl rfl) u3).setCell (p := ⟨g, 4, none⟩) (.inl rfl) u4).cell (World.block_lt_of_cell? _ _ h) hne).trans h
theorem fin5 {V : World} {g : Nat} {t : TypeId} {z0 z1 z2 z3 z4 : Value} (h : Blk V g t #[z0, z1, z2, z3, z4]) (u0 u1 u2 u3 u4 : Value) : Blk (((((V.setCell ⟨g, 0, none⟩ u0).setCell ⟨g, 1, none⟩ u1).setCell ⟨g, 2, none⟩ u2).setCell ⟨g, 3, none⟩ u3).setCell ⟨g, 4, none⟩ u4) g t #[u0, u1, u2, u3, u4] := by
  have := ((((h.set_ 0 u0).set_ 1 u1).set_ 2 u2).set_ 3 u3).set_ 4 u4
  simpa using this
theorem fr5 {V : World} {g : Nat} (u0 u1 u2 u3 u4 : Value) : Fr (fun k => k = g) V (((((V.setCell ⟨g, 0, none⟩ u0).setCell ⟨g, 1, none⟩ u1).setCell ⟨g, 2, none⟩ u2).setCell ⟨g, 3, none⟩ u3).setCell ⟨g, 4, none⟩ u4) :=
  (((((Fr.refl (fun k => k = g) V).setCell (p := ⟨g, 0, none⟩) (.inl rfl) u0).setCell (p := ⟨g, 1, none⟩) (.inl rfl) u1).setCell (p := ⟨g, 2, none⟩) (.inl rfl) u2).setCell (p := ⟨g, 3, none⟩) (.inl rfl) u3).setCell (p := ⟨g, 4, none⟩) (.inl rfl) u4
theorem Turn.after {S S' T : Nat → Prop} {a b e : World} (h : Turn S S' a b) (f : Fr T b e) (hT : ∀ k, T k → a.heap.size ≤ k) : Turn S S' a e :=
  ⟨h.1.then f (fun i hi ht => by have := hT i ht; omega), h.2⟩
theorem getW_byt {ws : List Wd} (h : ∀ x ∈ ws, ∀ y ∈ x.name, 0 ≤ y ∧ y ≤ 255) (nt : Int) : ∀ y ∈ (getW ws nt).name, 0 ≤ y ∧ y ≤ 255 := by
  unfold getW
  split
  · unfold wdAt
    cases hx : ws[(nt - 1).toNat]? with
    | none => intro y hy; cases hy
    | some x => exact h x (List.mem_of_getElem? hx)
  · intro y hy
    cases hy
set_option maxRecDepth 100000 in
set_option maxHeartbeats 8000000 in
theorem does2 (t : Stp) (hk : t.kind = 2) (w : World) (hv : ∃ A n cap, t.l = .slice A n cap) (hn : (∀ y ∈ t.name, 0 ≤ y ∧ y ≤ 255) ∧ t.name.length ≤ 1000000) (h : Both w B x c d s S s R mv kv) :
    Calls Try.prog 28 #[.pointer (some ⟨x, 0, none⟩), t.val] w fun e w' => e = .returned (.bool true) ∧ ∃ S' R', Both w' B x c d (stepSt s t) S' (stepSt s t) R' mv kv ∧ Turn (fun k => S k ∨ R k) (fun k => S' k ∨ R' k) w w' := by
  have hst : stepSt s t = s := by unfold stepSt; simp [hk]
  rw [hst]
  have hbx := boxed_new w t
  have hf0 := (((Fr.refl (fun _ => False) w).alloc (.cells #[.int .i64 t.kind, .string (strOfNums t.name), .int .i64 t.xt, .int .i64 t.list, .bool t.imm, .bool t.only, .int .i64 t.n, t.l] 61)).alloc (.cells #[.string (strOfNums t.name), .int .i64 t.xt, .int .i64 t.list, .bool t.imm, .bool t.only] 30)).alloc (.cells #[.string (strOfNums t.name), .int .i64 t.xt, .int .i64 t.list, .bool t.imm, .bool t.only] 71)
  obtain ⟨W, hW⟩ : ∃ W, (((w.alloc (.cells #[.int .i64 t.kind, .string (strOfNums t.name), .int .i64 t.xt, .int .i64 t.list, .bool t.imm, .bool t.only, .int .i64 t.n, t.l] 61)).alloc (.cells #[.string (strOfNums t.name), .int .i64 t.xt, .int .i64 t.list, .bool t.imm, .bool t.only] 30)).alloc (.cells #[.string (strOfNums t.name), .int .i64 t.xt, .int .i64 t.list, .bool t.imm, .bool t.only] 71)) = W := ⟨_, rfl⟩
  rw [hW] at hbx hf0
  have HSL := Lib.hid (show ∀ k, S k → k < w.heap.size ∨ w.heap.size + 3 ≤ k from fun k hk => .inl (h.ng.lo hk).2)
  have HSR := Lib.hid (show ∀ k, R k → k < w.heap.size ∨ w.heap.size + 3 ≤ k from fun k hk => .inl (h.rn.lo hk).2)
  have HW := Lib.hid hW
  have HA := Lib.hid (fun (V : World) hV => Get_ng (B := B) (c := c) (s := s) (S := S) t.n V hV)
  have HD := Lib.hid (fun (V : World) hV => Get_rn (B := B) (c := d) (s := s) (S := R) t.n V hV)
  have hbc := h.fr0 hf0
  have hxc := hbx
  have htc : Turn (fun k => S k ∨ R k) (fun k => S k ∨ R k) w W := Turn.of0 hf0
  clear hW hbx h hf0 hst
  obtain ⟨A, n, cap, hv⟩ := hv
  obtain ⟨tk, tn, tx, tl, ti, to, tN, tv, ts⟩ := t
  dsimp only at *
  subst hk hv
  unfold Stp.val
  obtain ⟨g, hg⟩ : ∃ g, getW s.ws tN = g := ⟨_, rfl⟩
  have hgb : ∀ y ∈ g.name, 0 ≤ y ∧ y ≤ 255 := by rw [← hg]; exact getW_byt (fun x hx => by obtain ⟨_, _, _, _, _, _, _, h6, _⟩ := hbc.rn; exact (h6.2 x hx).1) tN
  simp only [hg] at HA HD
  have HWD := Lib.hid (fun V => word_any g g hgb hgb V)
  rw [show eqWd g g = true from by unfold eqWd; simp] at HWD
  obtain ⟨gn, gx, gl, gi, go⟩ := g
  simp only [Wd.val] at HA HD HWD
  clear hg hgb
  go_enter Try.func28, Try.ntmps28
  go_wp2_with fail
  rw [HW.out]
  have HWZ := Lib.hid (show w.heap.size + 3 ≤ W.heap.size from by rw [← HW.out]; simp)
  have HBC := Lib.hid (fun V (hV : Fr0 W V) => hbc.fr0 hV)
  have HXC := Lib.hid (fun V (hV : Fr0 W V) => hxc.fr hV (fun k h => h.elim))
  have HK := Lib.hid (show ∀ V, Fr0 W V → V.cell? ⟨x, 0, none⟩ = some (.pointer (some ⟨c, 0, none⟩)) ∧ V.cell? ⟨w.heap.size, 6, none⟩ = some (.int .i64 tN) from fun V hV => ⟨(HBC.out V hV).two.cell 0, (HXC.out V hV).st.cell 6⟩)
  have HSW := Lib.hid (show ¬ S W.drew.heap.size from fun e => Nat.lt_irrefl _ (hbc.ng.lo e).2)
  have HXG := Lib.hid (show x ≠ W.heap.size from Nat.ne_of_lt hbc.xlt)
  have HWG := Lib.hid (show w.heap.size ≠ W.heap.size from Nat.ne_of_lt hxc.st.lt)
  have HRW := Lib.hid (show ∀ k, S k ∨ R k → k ≠ W.heap.size from fun k hk => hk.elim (fun e => Nat.ne_of_lt (hbc.ng.lo e).2) (fun e => Nat.ne_of_lt (hbc.rn.lo e).2))
  have HZ := Lib.hid (show w.heap.size ≤ W.heap.size from htc.1.size)
  have k1 := HK.out _ ((Fr.refl (fun _ => False) _).drew)
  have k1a := HK.out _ (((Fr.refl (fun _ => False) _).alloc (.cells #[.string ⟨#[]⟩, .int .i64 0, .int .i64 0, .bool false, .bool false] 30)).drew)
  go_region_held3 (fun V => V.cell? ⟨x, 0, none⟩ = some (.pointer (some ⟨c, 0, none⟩)) ∧ V.cell? ⟨w.heap.size, 6, none⟩ = some (.int .i64 tN)) (first | (with_reducible exact k1) | (with_reducible exact k1a) | (with_reducible exact k2) | (with_reducible exact ⟨keep5 k2.1 hxg, keep5 k2.2 hwg⟩) | go_keep) (first | (go_at_call 30; refine (HA.out _ (HBC.out _ ((Fr.refl (fun _ => False) _).drew)).ng).mono ?_; rintro e w2 ⟨rfl, S2, n2, t2⟩; have HS2 := Lib.hid t2.2; have htc := (htc.trans (Turn.of0 ((Fr.refl (fun _ => False) _).drew))).trans ((HBC.out _ ((Fr.refl (fun _ => False) _).drew)).atNg n2 t2).2; have hxc := (HXC.out _ ((Fr.refl (fun _ => False) _).drew)).fr t2.1 HSL.out; have hbc := ((HBC.out _ ((Fr.refl (fun _ => False) _).drew)).atNg n2 t2).1; have k2 := (show w2.cell? ⟨x, 0, none⟩ = some (.pointer (some ⟨c, 0, none⟩)) ∧ w2.cell? ⟨w.heap.size, 6, none⟩ = some (.int .i64 tN) from ⟨hbc.two.cell 0, hxc.st.cell 6⟩); have hxg := Nat.ne_of_lt hbc.xlt; have hwg := Nat.ne_of_lt hxc.st.lt; clear n2 t2) | (go_at_call 30; refine (HA.out _ (HBC.out _ (((Fr.refl (fun _ => False) _).alloc (.cells #[.string ⟨#[]⟩, .int .i64 0, .int .i64 0, .bool false, .bool false] 30)).drew)).ng).mono ?_; rintro e w2 ⟨rfl, S2, n2, t2⟩; have HS2 := Lib.hid t2.2; have htc := (htc.trans (Turn.of0 (((Fr.refl (fun _ => False) _).alloc (.cells #[.string ⟨#[]⟩, .int .i64 0, .int .i64 0, .bool false, .bool false] 30)).drew))).trans ((HBC.out _ (((Fr.refl (fun _ => False) _).alloc (.cells #[.string ⟨#[]⟩, .int .i64 0, .int .i64 0, .bool false, .bool false] 30)).drew)).atNg n2 t2).2; have hxc := (HXC.out _ (((Fr.refl (fun _ => False) _).alloc (.cells #[.string ⟨#[]⟩, .int .i64 0, .int .i64 0, .bool false, .bool false] 30)).drew)).fr t2.1 HSL.out; have hbc := ((HBC.out _ (((Fr.refl (fun _ => False) _).alloc (.cells #[.string ⟨#[]⟩, .int .i64 0, .int .i64 0, .bool false, .bool false] 30)).drew)).atNg n2 t2).1; have k2 := (show w2.cell? ⟨x, 0, none⟩ = some (.pointer (some ⟨c, 0, none⟩)) ∧ w2.cell? ⟨w.heap.size, 6, none⟩ = some (.int .i64 tN) from ⟨hbc.two.cell 0, hxc.st.cell 6⟩); have hbox := (show Blk w2 W.heap.size 30 #[.string ⟨#[]⟩, .int .i64 0, .int .i64 0, .bool false, .bool false] from Blk.fr (Blk.new W _ _).drew t2.1 HSW.out); have z0 := hbox.cell 0; have z1 := hbox.cell 1; have z2 := hbox.cell 2; have z3 := hbox.cell 3; have z4 := hbox.cell 4; have y0 := hbox.frozen 0; have y1 := hbox.frozen 1; have y2 := hbox.frozen 2; have y3 := hbox.frozen 3; have y4 := hbox.frozen 4; have hxg := HXG.out; have hwg := HWG.out; clear n2 t2))
  all_goals
    first | (have hb9 := Blk.new w2 30 #[.string (strOfNums gn), .int .i64 gx, .int .i64 gl, .bool gi, .bool go]; have hbc := hbc.fr0 ((Fr.refl (fun _ => False) w2).alloc (.cells #[.string (strOfNums gn), .int .i64 gx, .int .i64 gl, .bool gi, .bool go] 30)); have hxc := hxc.fr ((Fr.refl (fun _ => False) w2).alloc (.cells #[.string (strOfNums gn), .int .i64 gx, .int .i64 gl, .bool gi, .bool go] 30)) (fun k h => h.elim); have htc := htc.trans (Turn.of0 ((Fr.refl (fun _ => False) w2).alloc (.cells #[.string (strOfNums gn), .int .i64 gx, .int .i64 gl, .bool gi, .bool go] 30))); obtain ⟨V9, hV9⟩ : ∃ VV, w2.alloc (.cells #[.string (strOfNums gn), .int .i64 gx, .int .i64 gl, .bool gi, .bool go] 30) = VV := ⟨_, rfl⟩; rw [hV9] at hb9 hbc hxc htc ⊢; obtain ⟨g9, hg9⟩ : ∃ g9, w2.heap.size = g9 := ⟨_, rfl⟩; rw [hg9] at hb9 ⊢; clear hV9 hg9) | (have hb9 := fin5 hbox (.string (strOfNums gn)) (.int .i64 gx) (.int .i64 gl) (.bool gi) (.bool go); have htc := htc.after (fr5 (V := w2) (g := W.heap.size) (.string (strOfNums gn)) (.int .i64 gx) (.int .i64 gl) (.bool gi) (.bool go)) (fun k hk => hk ▸ HZ.out); have hxc := hxc.fr (fr5 (V := w2) (g := W.heap.size) (.string (strOfNums gn)) (.int .i64 gx) (.int .i64 gl) (.bool gi) (.bool go)) (fun k hk => Or.inr (hk ▸ HWZ.out)); have hbc := hbc.fr (fr5 (V := w2) (g := W.heap.size) (.string (strOfNums gn)) (.int .i64 gx) (.int .i64 gl) (.bool gi) (.bool go)) (fun k hk he => (HS2.out k hk).elim (fun h1 => HRW.out k (.inl h1) he) (fun h1 => by simp at h1; omega)) (fun k hk he => HRW.out k (.inr hk) he) (fun he => hxg he); obtain ⟨V9, hV9⟩ : ∃ VV, (((((w2.setCell ⟨W.heap.size, 0, none⟩ (.string (strOfNums gn))).setCell ⟨W.heap.size, 1, none⟩ (.int .i64 gx)).setCell ⟨W.heap.size, 2, none⟩ (.int .i64 gl)).setCell ⟨W.heap.size, 3, none⟩ (.bool gi)).setCell ⟨W.heap.size, 4, none⟩ (.bool go)) = VV := ⟨_, rfl⟩; rw [hV9] at hb9 hbc hxc htc ⊢; obtain ⟨g9, hg9⟩ : ∃ g9, W.heap.size = g9 := ⟨_, rfl⟩; rw [hg9] at hb9 ⊢; clear hV9 hg9 hbox z0 z1 z2 z3 z4 y0 y1 y2 y3 y4)
    clear k1 k1a k2 hxg hwg HBC HXC HK HXG HWG HRW HZ HSW
    go_wp2_with fail
    have HWZ := Lib.hid (show w.heap.size + 3 ≤ V9.heap.size from Nat.le_trans (by have := hxc.b.lt; omega) (Nat.le_refl _))
    have HBC := Lib.hid (fun V (hV : Fr0 V9 V) => hbc.fr0 hV)
    have HXC := Lib.hid (fun V (hV : Fr0 V9 V) => hxc.fr hV (fun k h => h.elim))
    have HK := Lib.hid (show ∀ V, Fr0 V9 V → V.cell? ⟨x, 1, none⟩ = some (.pointer (some ⟨d, 0, none⟩)) ∧ V.cell? ⟨w.heap.size, 6, none⟩ = some (.int .i64 tN) from fun V hV => ⟨(HBC.out V hV).two.cell 1, (HXC.out V hV).st.cell 6⟩)
    have HB9 := Lib.hid (fun V (hV : Fr0 V9 V) => hb9.fr0 hV)
    have HXG := Lib.hid (show x ≠ V9.heap.size from Nat.ne_of_lt hbc.xlt)
    have HWG := Lib.hid (show w.heap.size ≠ V9.heap.size from Nat.ne_of_lt hxc.st.lt)
    have HRW := Lib.hid (show ∀ k, S2 k ∨ R k ∨ k = g9 → k ≠ V9.heap.size from fun k hk => hk.elim (fun e => Nat.ne_of_lt (hbc.ng.lo e).2) (fun e => e.elim (fun e => Nat.ne_of_lt (hbc.rn.lo e).2) (fun e => e ▸ Nat.ne_of_lt hb9.lt)))
    have HZ := Lib.hid (show w.heap.size ≤ V9.heap.size from htc.1.size)
    have k1 := HK.out _ ((Fr.refl (fun _ => False) _).drew)
    have k1a := HK.out _ (((Fr.refl (fun _ => False) _).alloc (.cells #[.string ⟨#[]⟩, .int .i64 0, .int .i64 0, .bool false, .bool false] 71)).drew)
    go_region_held3 (fun V => V.cell? ⟨x, 1, none⟩ = some (.pointer (some ⟨d, 0, none⟩)) ∧ V.cell? ⟨w.heap.size, 6, none⟩ = some (.int .i64 tN)) (first | (with_reducible exact k1) | (with_reducible exact k1a) | (with_reducible exact k2) | (with_reducible exact ⟨keep5 k2.1 hxg, keep5 k2.2 hwg⟩) | go_keep) (first | (go_at_call 48; refine (HD.out _ (HBC.out _ ((Fr.refl (fun _ => False) _).drew)).rn).mono ?_; rintro e w3 ⟨rfl, f2⟩; have htc := (htc.trans (Turn.of0 ((Fr.refl (fun _ => False) _).drew))).trans (Turn.of0 f2); have hxc := (HXC.out _ ((Fr.refl (fun _ => False) _).drew)).fr f2 (fun k h => h.elim); have hbc := (HBC.out _ ((Fr.refl (fun _ => False) _).drew)).fr0 f2; have hb9 := (HB9.out _ ((Fr.refl (fun _ => False) _).drew)).fr0 f2; have k2 := (show w3.cell? ⟨x, 1, none⟩ = some (.pointer (some ⟨d, 0, none⟩)) ∧ w3.cell? ⟨w.heap.size, 6, none⟩ = some (.int .i64 tN) from ⟨hbc.two.cell 1, hxc.st.cell 6⟩); have hxg := Nat.ne_of_lt hbc.xlt; have hwg := Nat.ne_of_lt hxc.st.lt; clear f2) | (go_at_call 48; refine (HD.out _ (HBC.out _ (((Fr.refl (fun _ => False) _).alloc (.cells #[.string ⟨#[]⟩, .int .i64 0, .int .i64 0, .bool false, .bool false] 71)).drew)).rn).mono ?_; rintro e w3 ⟨rfl, f2⟩; have htc := (htc.trans (Turn.of0 (((Fr.refl (fun _ => False) _).alloc (.cells #[.string ⟨#[]⟩, .int .i64 0, .int .i64 0, .bool false, .bool false] 71)).drew))).trans (Turn.of0 f2); have hxc := (HXC.out _ (((Fr.refl (fun _ => False) _).alloc (.cells #[.string ⟨#[]⟩, .int .i64 0, .int .i64 0, .bool false, .bool false] 71)).drew)).fr f2 (fun k h => h.elim); have hbc := (HBC.out _ (((Fr.refl (fun _ => False) _).alloc (.cells #[.string ⟨#[]⟩, .int .i64 0, .int .i64 0, .bool false, .bool false] 71)).drew)).fr0 f2; have hb9 := (HB9.out _ (((Fr.refl (fun _ => False) _).alloc (.cells #[.string ⟨#[]⟩, .int .i64 0, .int .i64 0, .bool false, .bool false] 71)).drew)).fr0 f2; have k2 := (show w3.cell? ⟨x, 1, none⟩ = some (.pointer (some ⟨d, 0, none⟩)) ∧ w3.cell? ⟨w.heap.size, 6, none⟩ = some (.int .i64 tN) from ⟨hbc.two.cell 1, hxc.st.cell 6⟩); have hbox := (show Blk w3 V9.heap.size 71 #[.string ⟨#[]⟩, .int .i64 0, .int .i64 0, .bool false, .bool false] from Blk.fr0 (Blk.new V9 _ _).drew f2); have z0 := hbox.cell 0; have z1 := hbox.cell 1; have z2 := hbox.cell 2; have z3 := hbox.cell 3; have z4 := hbox.cell 4; have y0 := hbox.frozen 0; have y1 := hbox.frozen 1; have y2 := hbox.frozen 2; have y3 := hbox.frozen 3; have y4 := hbox.frozen 4; have hxg := HXG.out; have hwg := HWG.out; clear f2))
  all_goals
    first | (have hb10 := Blk.new w3 71 #[.string (strOfNums gn), .int .i64 gx, .int .i64 gl, .bool gi, .bool go]; have hbc := hbc.fr0 ((Fr.refl (fun _ => False) w3).alloc (.cells #[.string (strOfNums gn), .int .i64 gx, .int .i64 gl, .bool gi, .bool go] 71)); have hxc := hxc.fr ((Fr.refl (fun _ => False) w3).alloc (.cells #[.string (strOfNums gn), .int .i64 gx, .int .i64 gl, .bool gi, .bool go] 71)) (fun k h => h.elim); have htc := htc.trans (Turn.of0 ((Fr.refl (fun _ => False) w3).alloc (.cells #[.string (strOfNums gn), .int .i64 gx, .int .i64 gl, .bool gi, .bool go] 71))); have hb9 := hb9.fr0 ((Fr.refl (fun _ => False) w3).alloc (.cells #[.string (strOfNums gn), .int .i64 gx, .int .i64 gl, .bool gi, .bool go] 71)); obtain ⟨V10, hV9⟩ : ∃ VV, w3.alloc (.cells #[.string (strOfNums gn), .int .i64 gx, .int .i64 gl, .bool gi, .bool go] 71) = VV := ⟨_, rfl⟩; rw [hV9] at hb10 hbc hxc htc hb9 ⊢; obtain ⟨g10, hg9⟩ : ∃ g9, w3.heap.size = g9 := ⟨_, rfl⟩; rw [hg9] at hb10 ⊢; clear hV9 hg9) | (have hb10 := fin5 hbox (.string (strOfNums gn)) (.int .i64 gx) (.int .i64 gl) (.bool gi) (.bool go); have htc := htc.after (fr5 (V := w3) (g := V9.heap.size) (.string (strOfNums gn)) (.int .i64 gx) (.int .i64 gl) (.bool gi) (.bool go)) (fun k hk => hk ▸ HZ.out); have hxc := hxc.fr (fr5 (V := w3) (g := V9.heap.size) (.string (strOfNums gn)) (.int .i64 gx) (.int .i64 gl) (.bool gi) (.bool go)) (fun k hk => Or.inr (hk ▸ HWZ.out)); have hb9 := hb9.fr (fr5 (V := w3) (g := V9.heap.size) (.string (strOfNums gn)) (.int .i64 gx) (.int .i64 gl) (.bool gi) (.bool go)) (fun he => HRW.out g9 (.inr (.inr rfl)) he); have hbc := hbc.fr (fr5 (V := w3) (g := V9.heap.size) (.string (strOfNums gn)) (.int .i64 gx) (.int .i64 gl) (.bool gi) (.bool go)) (fun k hk he => HRW.out k (.inl hk) he) (fun k hk he => HRW.out k (.inr (.inl hk)) he) (fun he => hxg he); obtain ⟨V10, hV9⟩ : ∃ VV, (((((w3.setCell ⟨V9.heap.size, 0, none⟩ (.string (strOfNums gn))).setCell ⟨V9.heap.size, 1, none⟩ (.int .i64 gx)).setCell ⟨V9.heap.size, 2, none⟩ (.int .i64 gl)).setCell ⟨V9.heap.size, 3, none⟩ (.bool gi)).setCell ⟨V9.heap.size, 4, none⟩ (.bool go)) = VV := ⟨_, rfl⟩; rw [hV9] at hb10 hbc hxc htc hb9 ⊢; obtain ⟨g10, hg9⟩ : ∃ g9, V9.heap.size = g9 := ⟨_, rfl⟩; rw [hg9] at hb10 ⊢; clear hV9 hg9 hbox z0 z1 z2 z3 z4 y0 y1 y2 y3 y4)
    clear k1 k1a k2 hxg hwg HBC HXC HK HXG HWG HRW HZ HB9
    have p0 := hb9.cell 0
    have p1 := hb9.cell 1
    have p2 := hb9.cell 2
    have p3 := hb9.cell 3
    have p4 := hb9.cell 4
    have q0 := hb10.cell 0
    have q1 := hb10.cell 1
    have q2 := hb10.cell 2
    have q3 := hb10.cell 3
    have q4 := hb10.cell 4
    go_wp2_with (go_at_call 31; refine (HWD.out _).mono ?_; rintro e wz ⟨rfl, hfz⟩)
  all_goals
    go_ret
    exact ⟨rfl, _, _, hbc.fr0 hfz, htc.trans (Turn.of0 hfz)⟩
end
end Go.Proofs.Ytmhjnbolngdijaa

namespace Go.Proofs.Ytmhjnbolngdijaa
open Go Go.RowKit
set_option linter.unusedVariables false
attribute [local go_sem] Oper.semAt_some

def ptrs (l : List (Nat × St)) : List Value := l.map fun m => .pointer (some ⟨m.1, 0, none⟩)
/-- A row of pointers mv to what P says of each, in blocks M. -/
structure Lst (P : World → Nat → St → (Nat → Prop) → Prop) (e : TypeId) (w : World) (B : Nat) (l : List (Nat × St)) (M : Nat → Prop) (mv : Value) : Prop where
  row : w.ownsRow B e 1 mv l.length (ptrs l)
  each : ∀ m ∈ l, ∃ A, P w m.1 m.2 A ∧ ∀ k, A k → M k ∧ mv.ownBlock ≠ some k
  inM : ∀ k, mv.ownBlock = some k → M k
  lo : ∀ k, M k → B ≤ k ∧ k < w.heap.size
/-- What P says stays where its blocks stay. -/
def Stays (P : World → Nat → St → (Nat → Prop) → Prop) : Prop := ∀ (w w' : World) (T A : Nat → Prop) (p : Nat) (s : St), P w p s A → Fr T w w' → (∀ k, A k → ¬ T k) → P w' p s A
section
variable {P : World → Nat → St → (Nat → Prop) → Prop} {e : TypeId} {w w' w2 w4 : World} {B x p j : Nat} {s : St} {l : List (Nat × St)} {M T A : Nat → Prop} {mv mv' : Value} {o : Obj}
theorem Lst.nil (w : World) (B : Nat) : Lst P e w B [] (fun _ => False) (.slice none 0 0) :=
  ⟨World.ownsRow_nil _ _ _ _, fun m hm => (List.not_mem_nil hm).elim, (fun k hk => by cases hk), fun k hk => hk.elim⟩
theorem Lst.fr (h : Lst P e w B l M mv) (hP : Stays P) (hf : Fr T w w') (hM : ∀ k, M k → ¬ T k) : Lst P e w' B l M mv := by
  refine ⟨own_fr h.row hf (fun k hk => hM k (h.inM k hk)), fun m hm => ?_, h.inM, fun k hk => ⟨(h.lo k hk).1, Nat.lt_of_lt_of_le (h.lo k hk).2 hf.size⟩⟩
  obtain ⟨A, h1, h2⟩ := h.each m hm
  exact ⟨A, hP _ _ _ _ _ _ h1 hf (fun k hk => hM k (h2 k hk).1), h2⟩
theorem Lst.add (h : Lst P e w B l M mv) (hP : Stays P) (hB : B ≤ w.heap.size) (hf : Fr T w w2) (hT : ∀ k, M k → ¬ T k) (hp : P w2 p s A) (hA : ∀ k, A k → w.heap.size ≤ k ∧ k < w2.heap.size) (hg : (w2.alloc o).grownBy w4 mv.ownBlock)
    (ho : w4.ownsRow B e 1 mv' (l.length + 1) (ptrs l ++ [.pointer (some ⟨p, 0, none⟩)])) (hk : mv'.ownBlock = mv.ownBlock ∨ mv'.ownBlock = some (w2.alloc o).heap.size) (hx : ¬ M x) (hxl : x < w.heap.size) :
    Lst P e (w4.setCell ⟨x, j, none⟩ mv') B (l ++ [(p, s)]) (fun k => M k ∨ mv'.ownBlock = some k ∨ A k) mv' := by
  have hf25 : Fr (fun k => mv.ownBlock = some k ∨ k = x) w2 (w4.setCell ⟨x, j, none⟩ mv') := (((Fr.refl _ w2).alloc o).grown hg (fun k hk => .inl (.inl hk))).setCell (.inl (.inr rfl)) mv'
  have hs2 := hf.size
  have hs25 := hf25.size
  have hnew : (w2.alloc o).heap.size = w2.heap.size + 1 := by simp
  have hown : ∀ k, mv'.ownBlock = some k → M k ∨ w2.heap.size ≤ k := fun k hk' => by
    rcases hk with h1 | h1
    · exact .inl (h.inM k (h1 ▸ hk'))
    · rw [h1, hnew] at hk'
      injection hk' with hk'
      exact .inr (by omega)
  have hxo : ∀ k, mv'.ownBlock = some k → k ≠ x := fun k hk' he => by
    rcases hown k hk' with h1 | h1
    · exact hx (he ▸ h1)
    · omega
  refine ⟨?_, fun m hm => ?_, fun k hk' => .inr (.inl hk'), fun k hk' => ?_⟩
  · have hl : (l ++ [(p, s)]).length = l.length + 1 := by simp
    have he : ptrs (l ++ [(p, s)]) = ptrs l ++ [.pointer (some ⟨p, 0, none⟩)] := by simp [ptrs]
    rw [hl, he]
    exact own_fr ho ((Fr.refl (fun k => k = x) w4).setCell (p := ⟨x, j, none⟩) (.inl rfl) mv') hxo
  · rcases List.mem_append.1 hm with hm | hm
    · obtain ⟨A', h1, h2⟩ := h.each m hm
      refine ⟨A', hP _ _ _ _ _ _ (hP _ _ _ _ _ _ h1 hf (fun k hk => hT k (h2 k hk).1)) hf25 (fun k hk => fun hh => hh.elim (h2 k hk).2 (fun he => hx (he ▸ (h2 k hk).1))), fun k hk' => ⟨.inl (h2 k hk').1, fun he => ?_⟩⟩
      rcases hk with h3 | h3
      · exact (h2 k hk').2 (h3 ▸ he)
      · rw [h3, hnew] at he
        injection he with he
        have := (h.lo k (h2 k hk').1).2
        omega
    · obtain rfl : m = (p, s) := by simpa using hm
      refine ⟨A, hP _ _ _ _ _ _ hp hf25 (fun k hk' hh => ?_), fun k hk' => ⟨.inr (.inr hk'), fun he => ?_⟩⟩
      · have ha := hA k hk'
        rcases hh with hh | hh
        · have := (h.lo k (h.inM k hh)).2
          omega
        · omega
      · have ha := hA k hk'
        rcases hk with h3 | h3
        · have := (h.lo k (h.inM k (h3 ▸ he))).2
          omega
        · rw [h3, hnew] at he
          injection he with he
          omega
  · rcases hk' with h1 | h1 | h1
    · have := h.lo k h1
      omega
    · have h2 := own_lo ho k h1
      refine ⟨h2.1, ?_⟩
      simpa [World.setCell] using h2.2
    · have := hA k h1
      omega
end
/-- The marks of names c; the document's. -/
abbrev MkL (w : World) (B c : Nat) (l : List (Nat × St)) (M : Nat → Prop) (mv : Value) : Prop := Lst (fun w p s A => MkS w B p c s A) 58 w B l M mv
abbrev RnL (w : World) (B : Nat) (l : List (Nat × St)) (M : Nat → Prop) (kv : Value) : Prop := Lst (fun w p s A => RnS w B p s A) 52 w B l M kv
theorem staysM (B c : Nat) : Stays (fun w p s A => MkS w B p c s A) := fun _ _ _ _ _ _ h hf hA => h.fr hf hA
theorem staysR (B : Nat) : Stays (fun w p s A => RnS w B p s A) := fun _ _ _ _ _ _ h hf hA => h.fr hf hA
/-- The pair with its marks. -/
structure All (w : World) (B x c d : Nat) (s : St) (S R : Nat → Prop) (l1 : List (Nat × St)) (M : Nat → Prop) (l2 : List (Nat × St)) (K : Nat → Prop) (mv kv : Value) : Prop where
  both : Both w B x c d s S s R mv kv
  mks : MkL w B c l1 M mv
  rks : RnL w B l2 K kv
  far1 : ∀ k, M k → ¬ S k ∧ ¬ R k ∧ k ≠ x ∧ ¬ K k
  far2 : ∀ k, K k → ¬ S k ∧ ¬ R k ∧ k ≠ x
/-- All blocks of theirs. -/
def AllIn (x : Nat) (S R M K : Nat → Prop) (k : Nat) : Prop := (S k ∨ R k) ∨ (M k ∨ K k) ∨ k = x
section
variable {w w' w'' w2 w4 : World} {B x c d p q : Nat} {s s' : St} {S R S' R' M K T A S2 : Nat → Prop} {l1 l2 : List (Nat × St)} {mv kv mv' kv' : Value} {o : Obj}
theorem All.fr0 (h : All w B x c d s S R l1 M l2 K mv kv) (hf : Fr0 w w') : All w' B x c d s S R l1 M l2 K mv kv := ⟨h.both.fr0 hf, h.mks.fr (staysM B c) hf (fun _ _ x => x), h.rks.fr (staysR B) hf (fun _ _ x => x), h.far1, h.far2⟩
/-- A step that leaves the marks as they are. -/
theorem All.step (h : All w B x c d s S R l1 M l2 K mv kv) (hb : Both w' B x c d s' S' s' R' mv kv) (ht : Turn (fun k => S k ∨ R k) (fun k => S' k ∨ R' k) w w') : All w' B x c d s' S' R' l1 M l2 K mv kv ∧ Turn (AllIn x S R M K) (AllIn x S' R' M K) w w' := by
  have key : ∀ k, k < w.heap.size → ¬ S k → ¬ R k → ¬ S' k ∧ ¬ R' k := fun k hl hs hr => by
    refine ⟨fun h1 => ?_, fun h1 => ?_⟩
    · rcases ht.2 k (.inl h1) with h2 | h2
      · exact h2.elim hs hr
      · omega
    · rcases ht.2 k (.inr h1) with h2 | h2
      · exact h2.elim hs hr
      · omega
  refine ⟨⟨hb, h.mks.fr (staysM B c) ht.1 (fun k hk hs => hs.elim (h.far1 k hk).1 (h.far1 k hk).2.1), h.rks.fr (staysR B) ht.1 (fun k hk hs => hs.elim (h.far2 k hk).1 (h.far2 k hk).2.1), fun k hk => ?_, fun k hk => ?_⟩, ht.1.mono (fun k _ hk => .inl hk), fun k hk => ?_⟩
  · have h1 := h.far1 k hk
    have h2 := key k (h.mks.lo k hk).2 h1.1 h1.2.1
    exact ⟨h2.1, h2.2, h1.2.2⟩
  · have h1 := h.far2 k hk
    have h2 := key k (h.rks.lo k hk).2 h1.1 h1.2.1
    exact ⟨h2.1, h2.2, h1.2.2⟩
  · rcases hk with h1 | h1 | h1
    · rcases ht.2 k h1 with h2 | h2
      · exact .inl (.inl h2)
      · exact .inr h2
    · exact .inl (.inr (.inl h1))
    · exact .inl (.inr (.inr h1))
/-- Names have marked: the row of marks has one more. -/
theorem All.mark (h : All w B x c d s S R l1 M l2 K mv kv) (m1 : MkS w2 w.heap.size p c s A) (n2 : NgI w2 B c s S2) (t2 : Turn S S2 w w2) (m4 : ∀ k, A k → ¬ S2 k) (hg : (w2.alloc o).grownBy w4 mv.ownBlock)
    (ho : w4.ownsRow B 58 1 mv' (l1.length + 1) (ptrs l1 ++ [.pointer (some ⟨p, 0, none⟩)])) (hk : mv'.ownBlock = mv.ownBlock ∨ mv'.ownBlock = some (w2.alloc o).heap.size) :
    ∃ M', All (w4.setCell ⟨x, 2, none⟩ mv') B x c d s S2 R (l1 ++ [(p, s)]) M' l2 K mv' kv ∧ Turn (AllIn x S R M K) (AllIn x S2 R M' K) w (w4.setCell ⟨x, 2, none⟩ mv') := by
  have hf25 : Fr (fun k => mv.ownBlock = some k ∨ k = x) w2 (w4.setCell ⟨x, 2, none⟩ mv') := (((Fr.refl _ w2).alloc o).grown hg (fun k hk => .inl (.inl hk))).setCell (.inl (.inr rfl)) mv'
  have hs2 := t2.1.size
  have hs25 := hf25.size
  have hnew : (w2.alloc o).heap.size = w2.heap.size + 1 := by simp
  have hxl := h.both.xlt
  have hBw : B ≤ w.heap.size := Nat.le_trans h.both.lo (Nat.le_of_lt hxl)
  have hb2 := (h.both.atNg n2 t2).1
  have hA : ∀ k, A k → w.heap.size ≤ k ∧ k < w2.heap.size := fun k hk => m1.lo hk
  have hxM : ¬ M x := fun e => (h.far1 x e).2.2.1 rfl
  have hMS : ∀ k, M k → ¬ S k := fun k hk => (h.far1 k hk).1
  have hmvx : ∀ k, (mv.ownBlock = some k ∨ k = x) → M k ∨ k = x := fun k hk => hk.imp (h.mks.inM k) id
  have hM2 : ∀ k, M k → ¬ S2 k := fun k hk hs => by
    rcases t2.2 k hs with h1 | h1
    · exact hMS k hk h1
    · have := (h.mks.lo k hk).2
      omega
  have hK2 : ∀ k, K k → ¬ S2 k := fun k hk hs => by
    rcases t2.2 k hs with h1 | h1
    · exact (h.far2 k hk).1 h1
    · have := (h.rks.lo k hk).2
      omega
  have hxn : some x ≠ mv.ownBlock := fun e => hxM (h.mks.inM x e.symm)
  refine ⟨fun k => M k ∨ mv'.ownBlock = some k ∨ A k, ⟨⟨?_, .inl (n2.fr hf25 ?_), hb2.rn.fr hf25 ?_, hb2.apart, hb2.apartR, hb2.lo⟩, h.mks.add (staysM B c) hBw t2.1 hMS (m1.mono hBw) hA hg ho hk hxM hxl, (h.rks.fr (staysR B) t2.1 (fun k hk => (h.far2 k hk).1)).fr (staysR B) hf25 ?_, ?_, ?_⟩, ?_, ?_⟩
  · have := (((Blk.alloc hb2.two o).grown hg hxn).set_ 2 mv')
    simpa [TwoO] using this
  · intro k hk hh
    rcases hmvx k hh with h1 | h1
    · exact hM2 k h1 hk
    · exact (hb2.apart k hk).2 h1
  · intro k hk hh
    rcases hmvx k hh with h1 | h1
    · exact (h.far1 k h1).2.1 hk
    · exact hb2.apartR k hk h1
  · intro k hk hh
    rcases hmvx k hh with h1 | h1
    · exact (h.far1 k h1).2.2.2 hk
    · exact (h.far2 k hk).2.2 h1
  · intro k hk'
    have hnewk : w2.heap.size ≤ k → ¬ S2 k ∧ ¬ R k ∧ k ≠ x ∧ ¬ K k := fun hl => ⟨fun e => by have := (n2.lo e).2; omega, fun e => by have := (h.both.rn.lo e).2; omega, by omega, fun e => by have := (h.rks.lo k e).2; omega⟩
    rcases hk' with h1 | h1 | h1
    · exact ⟨hM2 k h1, (h.far1 k h1).2⟩
    · rcases hk with h2 | h2
      · have h3 := h.mks.inM k (h2 ▸ h1)
        exact ⟨hM2 k h3, (h.far1 k h3).2⟩
      · rw [h2, hnew] at h1
        injection h1 with h1
        exact hnewk (by omega)
    · have ha := hA k h1
      exact ⟨m4 k h1, fun e => by have := (h.both.rn.lo e).2; omega, by omega, fun e => by have := (h.rks.lo k e).2; omega⟩
  · intro k hk'
    exact ⟨hK2 k hk', (h.far2 k hk').2⟩
  · exact (t2.1.mono (fun k _ hk => .inl (.inl hk))).then hf25 (fun k _ hk => by rcases hmvx k hk with h1 | h1; exact .inr (.inl (.inl h1)); exact .inr (.inr h1))
  · intro k hk'
    rcases hk' with (h1 | h1) | (h1 | h1) | h1
    · rcases t2.2 k h1 with h2 | h2
      · exact .inl (.inl (.inl h2))
      · exact .inr h2
    · exact .inl (.inl (.inr h1))
    · rcases h1 with h1 | h1 | h1
      · exact .inl (.inr (.inl (.inl h1)))
      · rcases hk with h2 | h2
        · exact .inl (.inr (.inl (.inl (h.mks.inM k (h2 ▸ h1)))))
        · rw [h2, hnew] at h1
          injection h1 with h1
          exact .inr (by omega)
      · exact .inr (hA k h1).1
    · exact .inl (.inr (.inl (.inr h1)))
    · exact .inl (.inr (.inr h1))
/-- The document has marked. -/
theorem All.copy (h : All w B x c d s S R l1 M l2 K mv kv) (m1 : RnS w2 w.heap.size q s A) (f2 : Fr0 w w2) (hg : (w2.alloc o).grownBy w4 kv.ownBlock)
    (ho : w4.ownsRow B 52 1 kv' (l2.length + 1) (ptrs l2 ++ [.pointer (some ⟨q, 0, none⟩)])) (hk : kv'.ownBlock = kv.ownBlock ∨ kv'.ownBlock = some (w2.alloc o).heap.size) :
    ∃ K', All (w4.setCell ⟨x, 3, none⟩ kv') B x c d s S R l1 M (l2 ++ [(q, s)]) K' mv kv' ∧ Turn (AllIn x S R M K) (AllIn x S R M K') w (w4.setCell ⟨x, 3, none⟩ kv') := by
  have hf25 : Fr (fun k => kv.ownBlock = some k ∨ k = x) w2 (w4.setCell ⟨x, 3, none⟩ kv') := (((Fr.refl _ w2).alloc o).grown hg (fun k hk => .inl (.inl hk))).setCell (.inl (.inr rfl)) kv'
  have hs2 := f2.size
  have hs25 := hf25.size
  have hnew : (w2.alloc o).heap.size = w2.heap.size + 1 := by simp
  have hxl := h.both.xlt
  have hBw : B ≤ w.heap.size := Nat.le_trans h.both.lo (Nat.le_of_lt hxl)
  have h2' := h.fr0 f2
  have hA : ∀ k, A k → w.heap.size ≤ k ∧ k < w2.heap.size := fun k hk => m1.lo hk
  have hxK : ¬ K x := fun e => (h.far2 x e).2.2 rfl
  have hmvx : ∀ k, (kv.ownBlock = some k ∨ k = x) → K k ∨ k = x := fun k hk => hk.imp (h.rks.inM k) id
  have hxn : some x ≠ kv.ownBlock := fun e => hxK (h.rks.inM x e.symm)
  have hnewk : ∀ k, w.heap.size ≤ k → ¬ S k ∧ ¬ R k ∧ k ≠ x ∧ ¬ M k := fun k hl => ⟨fun e => by have := (h.both.ng.lo e).2; omega, fun e => by have := (h.both.rn.lo e).2; omega, by omega, fun e => by have := (h.mks.lo k e).2; omega⟩
  have hkn : ∀ k, (K k ∨ kv'.ownBlock = some k ∨ A k) → K k ∨ w.heap.size ≤ k := fun k hk' => by
    rcases hk' with h1 | h1 | h1
    · exact .inl h1
    · rcases hk with h3 | h3
      · exact .inl (h.rks.inM k (h3 ▸ h1))
      · rw [h3, hnew] at h1
        injection h1 with h1
        exact .inr (by omega)
    · exact .inr (hA k h1).1
  refine ⟨fun k => K k ∨ kv'.ownBlock = some k ∨ A k, ⟨⟨?_, h2'.both.ng.fr hf25 ?_, h2'.both.rn.fr hf25 ?_, h.both.apart, h.both.apartR, h.both.lo⟩, h2'.mks.fr (staysM B c) hf25 ?_, h.rks.add (staysR B) hBw f2 (fun _ _ x => x) (m1.mono hBw) hA hg ho hk hxK hxl, ?_, ?_⟩, ?_, ?_⟩
  · have := (((Blk.alloc h2'.both.two o).grown hg hxn).set_ 3 kv')
    simpa [TwoO] using this
  · intro k hk hh
    rcases hmvx k hh with h1 | h1
    · exact (h.far2 k h1).1 hk
    · exact (h.both.apart k hk).2 h1
  · intro k hk hh
    rcases hmvx k hh with h1 | h1
    · exact (h.far2 k h1).2.1 hk
    · exact h.both.apartR k hk h1
  · intro k hk hh
    rcases hmvx k hh with h1 | h1
    · exact (h.far1 k hk).2.2.2 h1
    · exact (h.far1 k hk).2.2.1 h1
  · intro k hk'
    have h1 := h.far1 k hk'
    refine ⟨h1.1, h1.2.1, h1.2.2.1, fun e => ?_⟩
    rcases hkn k e with h2 | h2
    · exact h1.2.2.2 h2
    · exact (hnewk k h2).2.2.2 hk'
  · intro k hk'
    rcases hkn k hk' with h1 | h1
    · exact h.far2 k h1
    · have h2 := hnewk k h1
      exact ⟨h2.1, h2.2.1, h2.2.2.1⟩
  · exact (f2.of0 (S := AllIn x S R M K)).then hf25 (fun k _ hk => by rcases hmvx k hk with h1 | h1; exact .inr (.inl (.inr h1)); exact .inr (.inr h1))
  · intro k hk'
    rcases hk' with h1 | (h1 | h1) | h1
    · exact .inl (.inl h1)
    · exact .inl (.inr (.inl (.inl h1)))
    · rcases hkn k h1 with h2 | h2
      · exact .inl (.inr (.inl (.inr h2)))
      · exact .inr h2
    · exact .inl (.inr (.inr h1))
end
end Go.Proofs.Ytmhjnbolngdijaa

namespace Go.Proofs.Ytmhjnbolngdijaa
open Go Go.RowKit
set_option linter.unusedVariables false

/-- What a script of n steps may have made. -/
def Bnd (n : Nat) (s : St) : Prop := s.ws.length ≤ n ∧ s.order.length ≤ 100 ∧ 0 ≤ s.lists
theorem stepSt_bnd {n : Nat} {s : St} {t : Stp} (h : Bnd n s) (hl : t.ls.length ≤ 100) : Bnd (n + 1) (stepSt s t) ∧ s.ws.length ≤ (stepSt s t).ws.length ∧ s.lists ≤ (stepSt s t).lists := by
  obtain ⟨h1, h2, h3⟩ := h
  have hs : Bnd (n + 1) s ∧ s.ws.length ≤ s.ws.length ∧ s.lists ≤ s.lists := ⟨⟨by omega, h2, h3⟩, Nat.le_refl _, Int.le_refl _⟩
  unfold stepSt
  split
  · unfold addSt
    split
    · exact ⟨⟨by simp; omega, h2, h3⟩, by simp, Int.le_refl _⟩
    · exact hs
  split
  · unfold setSt
    split
    · exact ⟨⟨by simp; omega, h2, h3⟩, by simp, Int.le_refl _⟩
    · exact hs
  split
  · unfold listSt
    split
    · exact hs
    · exact ⟨⟨by simp; omega, h2, by simp; omega⟩, by simp, by simp; omega⟩
  split
  · unfold ordSt
    split
    · exact ⟨⟨by simp; omega, hl, h3⟩, Nat.le_refl _, Int.le_refl _⟩
    · exact hs
  split
  · unfold curSt
    split
    · exact ⟨⟨by simp; omega, h2, h3⟩, Nat.le_refl _, Int.le_refl _⟩
    · exact hs
  exact hs
section
variable {B x c d : Nat} {s : St} {S R : Nat → Prop} {mv kv : Value}
theorem does_low (t : Stp) (hk : t.kind ≠ 10 ∧ t.kind ≠ 11) (w : World) (hr : RowI w B t.l t.ls) (hls : t.ls.length ≤ 100) (hn : (∀ y ∈ t.name, 0 ≤ y ∧ y ≤ 255) ∧ t.name.length ≤ 1000000) {n : Nat} (hb : Bnd n s) (hnl : n < 5000) (h : Both w B x c d s S s R mv kv) :
    Calls Try.prog 28 #[.pointer (some ⟨x, 0, none⟩), t.val] w fun e w' => e = .returned (.bool true) ∧ ∃ S' R', Both w' B x c d (stepSt s t) S' (stepSt s t) R' mv kv ∧ Turn (fun k => S k ∨ R k) (fun k => S' k ∨ R' k) w w' := by
  have hv : ∃ A n cap, t.l = .slice A n cap := by
    obtain ⟨A, cap, e, _⟩ := hr
    exact ⟨_, _, _, e⟩
  have hB : B ≤ w.heap.size := Nat.le_trans h.lo (Nat.le_of_lt h.xlt)
  by_cases h1 : t.kind = 1
  · exact does1 t h1 w hv hn h (by have := hb.1; omega)
  by_cases h2 : t.kind = 2
  · exact does2 t h2 w hv hn h
  by_cases h3 : t.kind = 3
  · exact does3 t h3 w hv hn h
  by_cases h4 : t.kind = 4
  · exact does4 t h4 w hv hn h
  by_cases h5 : t.kind = 5
  · exact does5 t h5 w hv hn h (by have := hb.2.1; omega)
  by_cases h6 : t.kind = 6
  · exact does6 t h6 w hv hn h hb.2.2
  by_cases h7 : t.kind = 7
  · exact does7 t h7 w hv hn h hr (by omega) hB
  by_cases h8 : t.kind = 8
  · exact does8 t h8 w hv hn h
  by_cases h9 : t.kind = 9
  · exact does9 t h9 w hv hn h
  refine doesNo t (fun j hj1 hj2 => ?_) w hv hn h
  have : t.kind ≠ j := by
    obtain ⟨hk1, hk2⟩ := hk
    omega
  simpa using this
end
end Go.Proofs.Ytmhjnbolngdijaa
