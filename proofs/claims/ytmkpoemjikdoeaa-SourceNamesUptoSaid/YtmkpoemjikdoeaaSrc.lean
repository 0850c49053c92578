/- The program's source over its space: where it stands; its small functions. -/
import Derived.Test.YtmkpoemjikdoeaaSrcP
import Derived.Deep.RegionHeld3
namespace Go.Proofs.Ytmkpoemjikdoeaa
open Go Go.RowKit
set_option linter.unusedVariables false

/-- A quiet call in a second quiet region. -/
theorem quiet_add_same {P : Program} {f : FuncId} {args : Array Value} {w : World} {a n : Nat} {v : Value}
    (h : Calls P f args (w.drewN (a + n)) fun e w' => e = .returned v ∧ w' = w.drewN (a + n)) :
    Calls P f args (w.drewN (a + n)) fun e w'' => e = .returned v ∧ ∃ m, w'' = w.drewN (a + m) :=
  h.mono fun _ _ ⟨he, hm⟩ => ⟨he, n, hm⟩

/-- The source c over the space p: the line L, of which inn bytes have been read; x holds what was set. -/
structure Src (w : World) (c p g : Nat) (bs L : List Int) (inn : Nat) (vi : Int) : Prop where
  sp : Sp w p g bs 4096 77824
  len : bs.length = 16384
  obj : Blk w c 60 #[.pointer (some ⟨p, 0, none⟩), .int .i64 0, .int .i64 65792, .int .i64 L.length, .int .i64 vi, .int .i64 0]
  line : (bs.drop 256).take L.length = L
  nle : L.length ≤ 1024
  toIn : getV bs 65552 8 = inn
  le : inn ≤ L.length

section
variable {w w' : World} {c p g : Nat} {bs L : List Int} {inn : Nat} {vi : Int}
theorem Src.fr {S : Nat → Prop} (h : Src w c p g bs L inn vi) (hf : Fr S w w') (hp : ¬ S p) (hg : ¬ S g) (hc : ¬ S c) : Src w' c p g bs L inn vi :=
  ⟨h.sp.fr hf hp hg, h.len, h.obj.fr hf hc, h.line, h.nle, h.toIn, h.le⟩
theorem Src.fr0 (h : Src w c p g bs L inn vi) (hf : Fr0 w w') : Src w' c p g bs L inn vi := h.fr hf (fun x => x) (fun x => x) (fun x => x)
theorem Src.byt (h : Src w c p g bs L inn vi) : Bytes L := by rw [← h.line]; exact (h.sp.byt.drop _).take _
theorem Src.apart (h : Src w c p g bs L inn vi) : c ≠ p ∧ c ≠ g := ⟨h.obj.ne_ h.sp.obj (by decide), h.obj.ne_ h.sp.row (by decide)⟩
theorem Src.cells (h : Src w c p g bs L inn vi) : w.cell? ⟨c, 0, none⟩ = some (.pointer (some ⟨p, 0, none⟩)) ∧ w.cell? ⟨c, 1, none⟩ = some (.int .i64 0) ∧ w.cell? ⟨c, 2, none⟩ = some (.int .i64 65792) ∧ w.cell? ⟨c, 3, none⟩ = some (.int .i64 L.length) ∧ w.cell? ⟨c, 4, none⟩ = some (.int .i64 vi) ∧ w.cell? ⟨c, 5, none⟩ = some (.int .i64 0) :=
  ⟨h.obj.cell 0, h.obj.cell 1, h.obj.cell 2, h.obj.cell 3, h.obj.cell 4, h.obj.cell 5⟩

set_option maxHeartbeats 400000 in
theorem none_src (w : World) (h : Src w c p g bs L inn vi) :
    Calls Try.prog 20 #[.pointer (some ⟨c, 0, none⟩)] w fun e w' => e = .returned (.bool false) ∧ w = w' := by
  obtain ⟨h0, _⟩ := h.cells
  clear h
  go_enter Try.func20, Try.ntmps20
  go_wp2
  go_ret
  exact ⟨rfl, rfl⟩

set_option maxHeartbeats 1000000 in
theorem in_src (w : World) (h : Src w c p g bs L inn vi) :
    Calls Try.prog 28 #[.pointer (some ⟨c, 0, none⟩)] w fun e w' => e = .returned (.int .i64 inn) ∧ Fr0 w w' := by
  obtain ⟨h0, _, _, h3, _⟩ := h.cells
  have hF := Fetch_any 65552 w h.sp ⟨by omega, by omega⟩
  rw [h.toIn, h.len, reach_toIn] at hF
  have HF := Lib.hid hF
  have hcl := h.obj.lt
  have hle := h.le
  have hn := h.nle
  clear hF h
  generalize L.length = n at *
  go_enter Try.func28, Try.ntmps28
  go_wp2_with (go_at_call 37; refine HF.out.mono ?_; rintro e w1 ⟨rfl, hf⟩; have k3 := (hf.cell (p := ⟨c, 3, none⟩) hcl (fun x => x)).trans h3)
  go_ret
  exact ⟨rfl, hf⟩

set_option maxHeartbeats 2000000 in
theorem inside_src (w : World) (h : Src w c p g bs L inn vi) :
    Calls Try.prog 29 #[.pointer (some ⟨c, 0, none⟩)] w fun e w' => e = .returned (.tuple #[.int .i64 0, .int .i64 L.length]) ∧ ∃ n, w.drewN n = w' := by
  obtain ⟨h0, h1, h2, h3, _⟩ := h.cells
  have hE := fun W (hW : Fr0 w W) => End_any W (h.sp.fr0 hW) (by omega)
  rw [h.len] at hE
  have HE := Lib.hid hE
  have hn := h.nle
  clear hE h
  generalize L.length = n at *
  by_cases hn0 : n = 0
  · subst hn0
    simp only [Int.natCast_zero] at h3 ⊢
    go_enter Try.func29, Try.ntmps29
    go_wp2_with (go_at_call 38; refine (HE.out _ (Fr.refl _ _)).mono ?_; rintro e w' ⟨rfl, rfl⟩)
    go_quiet (fail)
    go_wp2
    go_quiet ((go_at_call 38; exact quiet_add_same ((HE.out _ ((Fr.refl _ _).drewN _)).mono fun e w' h => ⟨h.1, h.2.symm⟩)))
    go_wp2
    go_ret2
    exact ⟨rfl, _, rfl⟩
  · have hnp : (0 : Int) < n := by omega
    go_enter Try.func29, Try.ntmps29
    go_wp2_with (go_at_call 38; refine (HE.out _ (Fr.refl _ _)).mono ?_; rintro e w' ⟨rfl, rfl⟩)
    go_quiet (fail)
    go_wp2
    go_quiet ((go_at_call 38; exact quiet_add_same ((HE.out _ ((Fr.refl _ _).drewN _)).mono fun e w' h => ⟨h.1, h.2.symm⟩)))
    go_wp2
    go_ret2
    exact ⟨rfl, _, rfl⟩
end
end Go.Proofs.Ytmkpoemjikdoeaa
