/- The walk of NamesNothing: the walk. -/
import Derived.Test.YtmhjnbolngdijaaNnoth
import Derived.Deep.RegionHeld3
namespace Go.Proofs.Ytmhjnbolngdijaa
open Go Go.RowKit
set_option linter.unusedVariables false
attribute [local go_sem] Oper.semAt_some

section
variable {B B' c c2 x y d d2 : Nat} {s t : St} {S M : Nat → Prop}
theorem cells8N {W : World} {g : Nat} {t : TypeId} {c0 c1 c2 c3 c4 c5 c6 c7 : Value} (h : Blk W g t #[c0, c1, c2, c3, c4, c5, c6, c7]) : W.cell? ⟨g, 0, none⟩ = some c0 ∧ W.cell? ⟨g, 1, none⟩ = some c1 ∧ W.cell? ⟨g, 2, none⟩ = some c2 ∧ W.cell? ⟨g, 3, none⟩ = some c3 ∧ W.cell? ⟨g, 4, none⟩ = some c4 ∧ W.cell? ⟨g, 5, none⟩ = some c5 ∧ W.cell? ⟨g, 6, none⟩ = some c6 ∧ W.cell? ⟨g, 7, none⟩ = some c7 :=
  ⟨h.cell 0, h.cell 1, h.cell 2, h.cell 3, h.cell 4, h.cell 5, h.cell 6, h.cell 7⟩
end
set_option maxRecDepth 100000 in
set_option maxHeartbeats 4000000 in
theorem nothing_walk (a : Option Addr) (len cap : Nat) (f : Nat → Stp) (w : World) (h : RowN w w.heap.size a len cap f) : Calls Try.prog 6 #[.slice a len cap] w fun e w' => e = .returned (.bool true) ∧ Fr0 w w' := by
  have HAW := Lib.hid (fun W => awake14 W)
  have hM := much_any a len cap f w.heap.size w h
  cases hb : muchB len f
  · rw [hb] at hM
    have HM := Lib.hid hM
    have HR := Lib.hid h
    clear hM h hb
    go_enter Try.func6, Try.ntmps6
    go_wp2_with (first | (go_at_call 21; refine HM.out.mono ?_; rintro e w1 ⟨rfl, rfl⟩))
    go_at_call 22
    refine (begun_any _ _).mono ?_
    rintro e w1 ⟨x, c, d, S, R, rfl, b1, b2, b2i, b3, b4, b5, b6, b7⟩
    have q0 := Blk.cell b1 0; have B1 := Lib.hid b1; have B2 := Lib.hid (b2i rfl); have B5 := Lib.hid b5; have B7 := Lib.hid b7; clear b2 b2i b3 b4 b5 b6 b7
    go_wp2_with fail
    go_at_call 22
    refine (begun_any _ _).mono ?_
    rintro e w2 ⟨y, c2, d2, S2, R2, rfl, y1, y2, y2i, y3, y4, y5, y6, y7⟩; have Y1 := Lib.hid y1; have Y2 := Lib.hid (y2i rfl); have Y4 := Lib.hid y4; have Y5 := Lib.hid y5; have Y7 := Lib.hid y7; clear y2 y2i y3 y4 y5 y6 y7; clear b1
    go_wp2_with fail
    have hx2 : Blk w2 x 56 _ := Blk.fr0 B1.out Y7.out
    have p0 := hx2.cell 0
    have p1 := Blk.cell y1 0
    have HX2 := Lib.hid hx2
    have hlx := Blk.lt B1.out
    have HMK := Lib.hid (fun (W : World) (hW : Fr0 w2 W) => Mark_ng W (.inl (Y2.out.fr0 hW)) (by unfold initSt; decide))
    have hxS : ∀ k, S2 k → k ≠ x := fun k hk e => by have := (Y2.out.lo hk).1; omega
    have HXS := Lib.hid hxS
    have hyS := Lib.hid (fun k hk => (Y5.out k hk).2)
    clear hxS hx2 y1
    have HBO := Lib.hid (fun (w3 : World) (p : Nat) (M S3 : Nat → Prop) (m1 : MkS w3 w2.heap.size p c2 initSt M) (m2 : NgI w3 w1.heap.size c2 initSt S3) (m3 : Fr S2 w2 w3) => by
      have hS2 : ∀ k, S k → ¬ S2 k := fun k hk h2 => by have h3 := (B2.out.lo hk).2; have h4 := (Y2.out.lo h2).1; omega
      have h5 := m2.lo m2.self
      have h6 := B2.out.lo B2.out.self
      have h7 := Y7.out.size
      obtain ⟨_, _, _, _, hN, _⟩ := m2
      exact Back_other w3 (.inl ((B2.out.fr0 Y7.out).fr m3 hS2)) m1 (fun k hk hk2 => by have h3 := (B2.out.lo hk2).2; have h4 := (m1.lo hk).1; omega) hN.obj.blk (fun hk => by have h3 := (B2.out.lo hk).2; omega) (by omega))
    go_region_held3 (fun V => V.cell? ⟨x, 0, none⟩ = some (.pointer (some ⟨c, 0, none⟩)) ∧ V.cell? ⟨y, 0, none⟩ = some (.pointer (some ⟨c2, 0, none⟩))) (first | exact ⟨p0, p1⟩ | exact ⟨p0', p1'⟩ | exact ⟨p0'', p1''⟩) (first | (go_at_call 24; refine (HMK.out _ (Fr.refl (fun _ => False) w2).drew).mono ?_; rintro e w3 ⟨p, M, S3, rfl, m1, m2, m3, m4⟩; have p0' := (m3.1.cell (p := ⟨x, 0, none⟩) (Blk.lt HX2.out) (fun k => HXS.out _ k rfl)).trans p0; have p1' := (m3.1.cell (p := ⟨y, 0, none⟩) (Blk.lt Y1.out) (fun k => hyS.out _ k rfl)).trans p1) | (go_at_call 23; refine (HBO.out _ _ _ _ m1 m2 ((Fr.refl _ _).drew.trans m3.1)).mono ?_; rintro e w4 ⟨rfl, S4, n1, n2⟩; have p0'' := (n2.1.cell (p := ⟨x, 0, none⟩) (Nat.lt_of_lt_of_le (Blk.lt HX2.out) m3.1.size) (fun k => (B5.out _ k).2 rfl)).trans p0'; have p1'' := (n2.1.cell (p := ⟨y, 0, none⟩) (Nat.lt_of_lt_of_le (Blk.lt Y1.out) m3.1.size) (fun k => Nat.lt_irrefl _ (Nat.lt_of_lt_of_le (B2.out.lo k).2 Y4.out))).trans p1'))
    have hF4 : Fr0 w w4 := ((B7.out.trans Y7.out).then ((Fr.refl _ w2).drew.trans m3.1) (fun k hk e => by have h1 := (Y2.out.lo e).1; have h2 := B7.out.size; omega)).then n2.1 (fun k hk e => by have h1 := (B2.out.lo e).1; omega)
    have H4 := Lib.hid hF4
    clear p0 p1 p0' p1' p0'' p1'' q0 HX2 Y1 Y4 Y5 Y7 B1 B5 B7 m1 m2 m3 m4 n1 n2 HBO HMK HXS hyS hlx hF4
    go_wp2_with fail
    go_loopw [6] (fun i wr => ∃ j : Nat, j ≤ len ∧ i = .int .i64 j ∧ Fr0 w wr) (fun i _ => len - (intOf i).toNat)
    case atStart => exact ⟨0, by omega, rfl, H4.out⟩
    case round =>
      obtain ⟨j, hj, rfl, hfr⟩ := hrel
      have HFI := Lib.hid hfr
      have hml : (len : Int) ≤ 9223372036854775807 := by have := HR.out.le; have := HR.out.cap; omega
      by_cases hlt : j < len
      · have hltI : (j : Int) < (len : Int) := by omega
        have hrow := HR.out.below hfr.below0
        obtain ⟨b, off, rfl, hb, d0, d1, d2, d3, d4, d5, d6, d7⟩ := hrow.at_ hlt
        obtain ⟨A, cp, hl, _⟩ := (hrow.ok j hlt).l
        rw [hl] at d7
        obtain ⟨sj, hsj⟩ : ∃ sj, f j = sj := ⟨_, rfl⟩
        rw [hsj] at d0 d1 d2 d3 d4 d5 d6 d7
        clear hsj hl
        obtain ⟨xk, xm, xx, xl, xi, xo, xn, xv, xs⟩ := sj
        dsimp only at d0 d1 d2 d3 d4 d5 d6 d7
        generalize xs.length = m7 at *
        have hx0 := Blk.new wr 61 #[.int .i64 xk, .string (strOfNums xm), .int .i64 xx, .int .i64 xl, .bool xi, .bool xo, .int .i64 xn, .slice A m7 cp]
        have HX := Lib.hid hx0
        have HQ := Lib.hid (HFI.out.alloc (.cells #[.int .i64 xk, .string (strOfNums xm), .int .i64 xx, .int .i64 xl, .bool xi, .bool xo, .int .i64 xn, .slice A m7 cp] 61))
        have HAD := Lib.hid (fun W => Add_z ⟨xm, 0, xl, false, false⟩ W)
        simp only [Wd.val] at HAD
        clear hx0 hrow hfr
        go_wp2_with (first | (go_at_call 11; refine (HAD.out _).mono ?_; rintro e wn ⟨rfl, hfn⟩; have HQ := Lib.hid (HQ.out.trans hfn); (try clear e0 e1 e2 e3 e4 e5 e6 e7); have hxn := HX.out.fr0 hfn; have HX := Lib.hid hxn; obtain ⟨e0, e1, e2, e3, e4, e5, e6, e7⟩ := cells8N hxn; clear hfn hxn) | (go_at_call 20; refine (SetOrder_z _ _ _ _).mono ?_; rintro e wn ⟨rfl, hfn⟩; have HQ := Lib.hid (HQ.out.trans hfn); (try clear e0 e1 e2 e3 e4 e5 e6 e7); have hxn := HX.out.fr0 hfn; have HX := Lib.hid hxn; obtain ⟨e0, e1, e2, e3, e4, e5, e6, e7⟩ := cells8N hxn; clear hfn hxn) | (go_at_call 13; refine (Find_z _ _ _).mono ?_; rintro e wn ⟨rfl, rfl⟩) | (go_at_call 25; refine (SetCurrent_z _ _).mono ?_; rintro e wn ⟨rfl, rfl⟩) | (go_at_call 26; refine (Count_z _).mono ?_; rintro e wn ⟨rfl, rfl⟩) | (go_at_call 17; refine (Order_z _).mono ?_; rintro e wn ⟨rfl, rfl⟩) | (go_at_call 27; refine (Current_z _).mono ?_; rintro e wn ⟨rfl, rfl⟩))
        exact ⟨⟨j + 1, by omega, by push_cast; rfl, HQ.out⟩, by simp [intOf]; omega⟩
      · obtain rfl : j = len := by omega
        clear hfr
        go_wp2_with (go_at_call 9; refine (HAW.out _).mono ?_; rintro e w5 ⟨rfl, hf5⟩)
        go_ret
        exact ⟨rfl, HFI.out.trans hf5⟩
  · rw [hb] at hM
    have HM := Lib.hid hM
    clear hM h hb
    go_enter Try.func6, Try.ntmps6
    go_wp2_with (first | (go_at_call 21; refine HM.out.mono ?_; rintro e w1 ⟨rfl, rfl⟩) | (go_at_call 9; refine (HAW.out _).mono ?_; rintro e w2 ⟨rfl, hf2⟩))
    go_ret
    exact ⟨rfl, hf2⟩
end Go.Proofs.Ytmhjnbolngdijaa
