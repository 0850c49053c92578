/- The program's source: Now, Set. -/
import Derived.Test.YtmkpoemjikdoeaaSrcAwake
namespace Go.Proofs.Ytmkpoemjikdoeaa
open Go Go.RowKit
set_option linter.unusedVariables false

section
variable {w w' : World} {c p g : Nat} {bs L : List Int} {inn : Nat} {vi : Int}
/-- What Now tells. -/
def nowV (n inn : Nat) : Value := .agg #[.int .i64 0, .int .i64 65792, .int .i64 n, .int .i64 inn, .int .i64 0]
set_option maxHeartbeats 2000000 in
theorem Now_src (w : World) (h : Src w c p g bs L inn vi) :
    Calls Try.prog 15 #[.pointer (some ⟨c, 0, none⟩)] w fun e w' => e = .returned (nowV L.length inn) ∧ Fr0 w w' := by
  have HN := Lib.hid (fun W (hW : Fr0 w W) => none_src W (h.fr0 hW))
  have HI := Lib.hid (fun W (hW : Fr0 w W) => in_src W (h.fr0 hW))
  have hcl := h.obj.lt
  have hob := h.obj
  have HOB := Lib.hid hob
  clear h hob
  unfold nowV
  obtain ⟨c1, c2, c3, c4, c5⟩ : w.cell? ⟨c, 1, none⟩ = some (.int .i64 0) ∧ w.cell? ⟨c, 2, none⟩ = some (.int .i64 65792) ∧ w.cell? ⟨c, 3, none⟩ = some (.int .i64 L.length) ∧ w.cell? ⟨c, 4, none⟩ = some (.int .i64 vi) ∧ w.cell? ⟨c, 5, none⟩ = some (.int .i64 0) := ⟨HOB.out.cell 1, HOB.out.cell 2, HOB.out.cell 3, HOB.out.cell 4, HOB.out.cell 5⟩
  generalize L.length = n at *
  go_enter Try.func15, Try.ntmps15
  go_wp2_with (go_at_call 20; refine (HN.out _ ((Fr.refl _ w).alloc _)).mono ?_; rintro e w' ⟨rfl, rfl⟩)
  have hA : Blk ((w.alloc (.cells #[.int .i64 0, .int .i64 0, .int .i64 0, .int .i64 0, .int .i64 0] 45)).alloc (.cells #[.int .i64 0, .int .i64 65792, .int .i64 n, .int .i64 vi, .int .i64 0] 45)) w.heap.size 45 #[.int .i64 0, .int .i64 0, .int .i64 0, .int .i64 0, .int .i64 0] := (Blk.new w _ _).alloc _
  have hX : Blk ((w.alloc (.cells #[.int .i64 0, .int .i64 0, .int .i64 0, .int .i64 0, .int .i64 0] 45)).alloc (.cells #[.int .i64 0, .int .i64 65792, .int .i64 n, .int .i64 vi, .int .i64 0] 45)) (w.heap.size + 1) 45 #[.int .i64 0, .int .i64 65792, .int .i64 n, .int .i64 vi, .int .i64 0] := by
    have := Blk.new (w.alloc (.cells #[.int .i64 0, .int .i64 0, .int .i64 0, .int .i64 0, .int .i64 0] 45)) 45 #[.int .i64 0, .int .i64 65792, .int .i64 n, .int .i64 vi, .int .i64 0]
    simpa using this
  have hf2 : Fr0 w ((w.alloc (.cells #[.int .i64 0, .int .i64 0, .int .i64 0, .int .i64 0, .int .i64 0] 45)).alloc (.cells #[.int .i64 0, .int .i64 65792, .int .i64 n, .int .i64 vi, .int .i64 0] 45)) := ((Fr.refl _ w).alloc _).alloc _
  refine (HI.out _ hf2).mono ?_
  rintro e w3 ⟨rfl, hf3⟩
  have hA3 := hA.fr0 hf3
  have hX3 := hX.fr0 hf3
  have hz := hA3.lt
  have hz1 := hX3.lt
  obtain ⟨a0, a1, a2, a3, a4⟩ : w3.cell? ⟨w.heap.size, 0, none⟩ = some (.int .i64 0) ∧ w3.cell? ⟨w.heap.size, 1, none⟩ = some (.int .i64 0) ∧ w3.cell? ⟨w.heap.size, 2, none⟩ = some (.int .i64 0) ∧ w3.cell? ⟨w.heap.size, 3, none⟩ = some (.int .i64 0) ∧ w3.cell? ⟨w.heap.size, 4, none⟩ = some (.int .i64 0) := ⟨hA3.cell 0, hA3.cell 1, hA3.cell 2, hA3.cell 3, hA3.cell 4⟩
  obtain ⟨x0, x1, x2, x3, x4⟩ : w3.cell? ⟨w.heap.size + 1, 0, none⟩ = some (.int .i64 0) ∧ w3.cell? ⟨w.heap.size + 1, 1, none⟩ = some (.int .i64 65792) ∧ w3.cell? ⟨w.heap.size + 1, 2, none⟩ = some (.int .i64 n) ∧ w3.cell? ⟨w.heap.size + 1, 3, none⟩ = some (.int .i64 vi) ∧ w3.cell? ⟨w.heap.size + 1, 4, none⟩ = some (.int .i64 0) := ⟨hX3.cell 0, hX3.cell 1, hX3.cell 2, hX3.cell 3, hX3.cell 4⟩
  have y3 := hX3.frozen 3
  have b0 := hA3.frozen 0
  have b1 := hA3.frozen 1
  have b2 := hA3.frozen 2
  have b3 := hA3.frozen 3
  have b4 := hA3.frozen 4
  have HF3 := Lib.hid (hf2.trans hf3)
  clear hA hX hf2 hf3 hX3 c1 c2 c3 c4 c5
  have HA3 := Lib.hid hA3
  clear hA3
  go_wp2
  obtain ⟨W, hW⟩ : ∃ W, ((((((w3.setCell ⟨w.heap.size + 1, 3, none⟩ (.int .i64 inn)).setCell ⟨w.heap.size, 0, none⟩ (.int .i64 0)).setCell ⟨w.heap.size, 1, none⟩ (.int .i64 65792)).setCell ⟨w.heap.size, 2, none⟩ (.int .i64 n)).setCell ⟨w.heap.size, 3, none⟩ (.int .i64 inn)).setCell ⟨w.heap.size, 4, none⟩ (.int .i64 0)) = W := ⟨_, rfl⟩
  have hR := (((((HA3.out.far (p := ⟨w.heap.size + 1, 3, none⟩) (by simp) (.int .i64 inn)).set_ 0 (.int .i64 0)).set_ 1 (.int .i64 65792)).set_ 2 (.int .i64 n)).set_ 3 (.int .i64 inn)).set_ 4 (.int .i64 0)
  have hFW := (((((HF3.out.setCell (p := ⟨w.heap.size + 1, 3, none⟩) (.inr (by simp)) (.int .i64 inn)).setCell (p := ⟨w.heap.size, 0, none⟩) (.inr (Nat.le_refl _)) (.int .i64 0)).setCell (p := ⟨w.heap.size, 1, none⟩) (.inr (Nat.le_refl _)) (.int .i64 65792)).setCell (p := ⟨w.heap.size, 2, none⟩) (.inr (Nat.le_refl _)) (.int .i64 n)).setCell (p := ⟨w.heap.size, 3, none⟩) (.inr (Nat.le_refl _)) (.int .i64 inn)).setCell (p := ⟨w.heap.size, 4, none⟩) (.inr (Nat.le_refl _)) (.int .i64 0)
  rw [hW] at hR hFW ⊢
  obtain ⟨r0, r1, r2, r3, r4⟩ : W.cell? ⟨w.heap.size, 0, none⟩ = some (.int .i64 0) ∧ W.cell? ⟨w.heap.size, 1, none⟩ = some (.int .i64 65792) ∧ W.cell? ⟨w.heap.size, 2, none⟩ = some (.int .i64 n) ∧ W.cell? ⟨w.heap.size, 3, none⟩ = some (.int .i64 inn) ∧ W.cell? ⟨w.heap.size, 4, none⟩ = some (.int .i64 0) := ⟨hR.cell 0, hR.cell 1, hR.cell 2, hR.cell 3, hR.cell 4⟩
  clear hR hW a0 a1 a2 a3 a4 x0 x1 x2 x3 x4 b0 b1 b2 b3 b4 y3
  exact bodyPost_ret (v := .agg #[.int .i64 0, .int .i64 65792, .int .i64 n, .int .i64 inn, .int .i64 0]) (by simp [results, Try.results15, go_sem, r0, r1, r2, r3, r4]) rfl ⟨rfl, hFW⟩

/-- What Set leaves, if what was Now is set. -/
theorem Src.set_ (h : Src w c p g bs L inn vi) (r : Nat) (hr : r ≤ L.length) (hf : Fr (fun k => k = c) w w') (hob : Blk w' c 60 #[.pointer (some ⟨p, 0, none⟩), .int .i64 0, .int .i64 65792, .int .i64 L.length, .int .i64 r, .int .i64 0]) : Src w' c p g bs L inn r :=
  ⟨h.sp.fr hf (fun e => h.apart.1 e.symm) (fun e => h.apart.2 e.symm), h.len, hob, h.line, h.nle, h.toIn, h.le⟩

set_option maxRecDepth 100000 in
set_option maxHeartbeats 2000000 in
theorem Set_src (r : Nat) (hr : r ≤ L.length) (w : World) (h : Src w c p g bs L inn vi) :
    Calls Try.prog 16 #[.pointer (some ⟨c, 0, none⟩), nowV L.length r] w fun e w' => e = .returned (.tuple #[]) ∧ Fr (fun k => k = c ∨ k = g) w w' ∧ ∃ bs', Src w' c p g bs' L r r := by
  have HN := Lib.hid (fun W (hW : Fr0 w W) => none_src W (h.fr0 hW))
  have HH := Lib.hid h
  have HHR := Lib.hid hr
  have hn := h.nle
  have hcl := h.obj.lt
  have c0 := h.obj.cell 0
  have c1 := h.obj.cell 1
  have c2 := h.obj.cell 2
  have c3 := h.obj.cell 3
  have c4 := h.obj.cell 4
  have c5 := h.obj.cell 5
  have y1 := h.obj.frozen 1
  have y2 := h.obj.frozen 2
  have y3 := h.obj.frozen 3
  have y4 := h.obj.frozen 4
  have y5 := h.obj.frozen 5
  simp at c0 c1 c2 c3 c4 c5
  clear h hr
  unfold nowV
  obtain ⟨n, hnn⟩ : ∃ n, L.length = n := ⟨_, rfl⟩
  rw [hnn] at hn c3 ⊢
  have HNN := Lib.hid hnn
  clear hnn
  go_enter Try.func16, Try.ntmps16
  go_wp2_with (go_at_call 20; refine (HN.out _ ((Fr.refl _ w).alloc _)).mono ?_; rintro e w' ⟨rfl, rfl⟩)
  obtain ⟨W, hW⟩ : ∃ W, (((((w.setCell ⟨c, 1, none⟩ (.int .i64 0)).setCell ⟨c, 2, none⟩ (.int .i64 65792)).setCell ⟨c, 3, none⟩ (.int .i64 n)).setCell ⟨c, 4, none⟩ (.int .i64 r)).setCell ⟨c, 5, none⟩ (.int .i64 0)).alloc (.cells #[.int .i64 0, .int .i64 65792, .int .i64 n, .int .i64 r, .int .i64 0] 45) = W := ⟨_, rfl⟩
  have hzz : (((((w.setCell ⟨c, 1, none⟩ (.int .i64 0)).setCell ⟨c, 2, none⟩ (.int .i64 65792)).setCell ⟨c, 3, none⟩ (.int .i64 n)).setCell ⟨c, 4, none⟩ (.int .i64 r)).setCell ⟨c, 5, none⟩ (.int .i64 0)).heap.size = w.heap.size := by simp [World.setCell]
  have hbx := Blk.new (((((w.setCell ⟨c, 1, none⟩ (.int .i64 0)).setCell ⟨c, 2, none⟩ (.int .i64 65792)).setCell ⟨c, 3, none⟩ (.int .i64 n)).setCell ⟨c, 4, none⟩ (.int .i64 r)).setCell ⟨c, 5, none⟩ (.int .i64 0)) 45 #[.int .i64 0, .int .i64 65792, .int .i64 n, .int .i64 r, .int .i64 0]
  rw [hzz] at hbx
  have hob := (((((HH.out.obj.set_ 1 (.int .i64 0)).set_ 2 (.int .i64 65792)).set_ 3 (.int .i64 n)).set_ 4 (.int .i64 r)).set_ 5 (.int .i64 0)).alloc (.cells #[.int .i64 0, .int .i64 65792, .int .i64 n, .int .i64 r, .int .i64 0] 45)
  have hfc := ((((((Fr.refl (fun k => k = c) w).setCell (p := ⟨c, 1, none⟩) (.inl rfl) (.int .i64 0)).setCell (p := ⟨c, 2, none⟩) (.inl rfl) (.int .i64 65792)).setCell (p := ⟨c, 3, none⟩) (.inl rfl) (.int .i64 n)).setCell (p := ⟨c, 4, none⟩) (.inl rfl) (.int .i64 r)).setCell (p := ⟨c, 5, none⟩) (.inl rfl) (.int .i64 0)).alloc (.cells #[.int .i64 0, .int .i64 65792, .int .i64 n, .int .i64 r, .int .i64 0] 45)
  rw [hW] at hbx hob hfc ⊢
  have hs := HH.out.set_ r HHR.out hfc (by rw [HNN.out]; simpa using hob)
  have HSY := Lib.hid (fun V (hV : Fr0 W V) => System_any 65552 (r : Int) V (hs.sp.fr0 hV) ⟨by omega, by omega⟩)
  have k0 : W.cell? ⟨c, 0, none⟩ = some (.pointer (some ⟨p, 0, none⟩)) := hs.obj.cell 0
  have k3 : W.cell? ⟨w.heap.size, 3, none⟩ = some (.int .i64 r) := hbx.cell 3
  have hwl := hbx.lt
  have HS := Lib.hid hs
  have HFC := Lib.hid hfc
  have hne : w.heap.size ≠ g := by have := HH.out.sp.row.lt; omega
  have hcg := HH.out.apart.2
  clear hbx hob hfc hs hW hzz c0 c1 c2 c3 c4 c5 y1 y2 y3 y4 y5
  go_region_held3 (fun V => V.cell? ⟨c, 0, none⟩ = some (.pointer (some ⟨p, 0, none⟩)) ∧ V.cell? ⟨w.heap.size, 3, none⟩ = some (.int .i64 r)) (first | exact ⟨k0, k3⟩ | exact ⟨e0, e3⟩) ((go_at_call 23; (with_reducible refine (HSY.out _ (Fr.refl _ W).drew).mono ?_); rintro e w2 ⟨rfl, hf2', hs2⟩; have hf2 : Fr1 g W w2 := (Fr.refl _ W).drew.trans hf2'; have e0 := (hf2.cell (p := ⟨c, 0, none⟩) HS.out.obj.lt hcg).trans k0; have e3 := (hf2.cell (p := ⟨w.heap.size, 3, none⟩) hwl hne).trans k3))
  go_wp2
  go_end0
  refine ⟨rfl, (HFC.out.mono fun _ _ e => .inl e).trans (hf2.mono fun _ _ e => .inr e), _, HS.out.moved r HHR.out hf2 hs2⟩
end
end Go.Proofs.Ytmkpoemjikdoeaa
