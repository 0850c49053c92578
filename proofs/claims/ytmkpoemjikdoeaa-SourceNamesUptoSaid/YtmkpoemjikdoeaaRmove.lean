/- The document's data space: Fill, Move, Up, Down, Allot, SetHere, Align, System. -/
import Derived.Test.YtmkpoemjikdoeaaRmore
namespace Go.Proofs.Ytmkpoemjikdoeaa
open Go Go.RowKit

theorem own8_lo {w : World} {base : Nat} {v : Value} {zs : List Int} (h : Own8 w base v zs) : ∀ k, v.ownBlock = some k → base ≤ k ∧ k < w.heap.size := by
  rcases h.2 with ⟨rfl, _⟩ | ⟨g, cap, cur, rfl, hb, hg, _⟩
  · intro k hk; cases hk
  · intro k hk
    simp only [Value.ownBlock, Option.some.injEq] at hk
    subst hk
    exact ⟨hb, (Array.getElem?_eq_some_iff.1 hg).1⟩
section
variable {p g : Nat} {bs : List Int} {here last : Int}
/-- HERE turns. -/
theorem RSp.toHere {w : World} (h : RSp w p g bs here last) (x : Int) : RSp (w.setCell ⟨p, 1, none⟩ (.int .i64 x)) p g bs x last :=
  ⟨by have := h.obj.set_ 1 (.int .i64 x); simpa using this, h.row.far (p := ⟨p, 1, none⟩) (Ne.symm h.ne) _, h.byt, h.len⟩
theorem RSp.drewN {w : World} (h : RSp w p g bs here last) (n : Nat) : RSp (w.drewN n) p g bs here last := ⟨h.obj.drewN n, h.row.drewN n, h.byt, h.len⟩

set_option maxHeartbeats 1000000 in
theorem SystemR (a v : Int) (w : World) (h : RSp w p g bs here last) (ha : i64 a) (hv : i64 v) :
    Calls Try.prog 30 #[.pointer (some ⟨p, 0, none⟩), .int .i64 a, .int .i64 v] w fun e w' => e = .returned (.tuple #[]) ∧ Fr1 g w w' ∧ RSp w' p g (sysB bs a v) here last := by
  have hR := reachR a 8 8 false w h ha ⟨by omega, by omega⟩ (by decide)
  rw [rwT_read] at hR
  obtain ⟨hv1, hv2⟩ := hv
  unfold sysB
  by_cases h0 : reachT bs.length a 8 (alignT 8 a) = 0
  · obtain ⟨k1, k2, _⟩ := reachT_zero h0 (by omega)
    rw [if_pos h0]
    rw [h0] at hR
    obtain ⟨off, rfl⟩ : ∃ off : Nat, a = 65536 + (off : Int) := ⟨(a - 65536).toNat, by omega⟩
    have hG := setR off 8 v w h (by omega) (by omega)
    rw [show (65536 + (off : Int) - 65536).toNat = off by omega]
    have HR := Lib.hid hR
    have HG := Lib.hid hG
    clear hR hG h h0 k1 k2 ha
    go_enter Try.func30, Try.ntmps30
    go_wp2_with (go_at_call 39; refine HR.out.mono ?_; rintro e w' ⟨rfl, rfl⟩)
    refine HG.out.mono ?_
    rintro e w1 ⟨rfl, hf, hr⟩
    go_wp2
    go_end0
    exact ⟨rfl, hf, hr⟩
  · rw [if_neg h0]
    have hb0 : (reachT bs.length a 8 (alignT 8 a) == 0) = false := by simpa using h0
    generalize reachT bs.length a 8 (alignT 8 a) = T at *
    have HR := Lib.hid hR
    have HH := Lib.hid h
    clear hR h0 h
    go_enter Try.func30, Try.ntmps30
    go_wp2_with (go_at_call 39; refine HR.out.mono ?_; rintro e w' ⟨rfl, rfl⟩)
    go_end0
    exact ⟨rfl, Fr.refl _ _, HH.out⟩
end
end Go.Proofs.Ytmkpoemjikdoeaa
