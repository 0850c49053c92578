/- The laws' own small functions of chapter 9: does: a call on both spaces is answered alike. -/
import Derived.Test.YtkgihajpobajaaaRalign
import Derived.Test.YtkgihajpobajaaaMuch9
import Derived.Deep.RegionHeld3
namespace Go.Proofs.Ytkgihajpobajaaa
open Go Go.RowKit
set_option linter.unusedVariables false

/-- Both spaces, alike. -/
structure St9 (B : Nat) (w : World) (p g q g2 : Nat) (bs : List Int) (dict here : Int) : Prop where
  sp : Sp w p g bs dict here
  rs : RSp w q g2 bs here (77824 + dict)
  ne : g ≠ g2
  lo : B ≤ g ∧ B ≤ g2 ∧ B ≤ p ∧ B ≤ q
  d0 : 0 ≤ dict
  d1 : dict ≤ 524288
  h0 : 77824 ≤ here
  h1 : here ≤ 77824 + dict
def In4 (p g q g2 : Nat) (k : Nat) : Prop := k = p ∨ k = g ∨ k = q ∨ k = g2

section
variable {B : Nat} {w w1 w2 : World} {p g q g2 : Nat} {bs bs' : List Int} {dict here here' : Int}
theorem St9.apart (s : St9 B w p g q g2 bs dict here) : q ≠ p ∧ q ≠ g ∧ g2 ≠ p ∧ g2 ≠ g ∧ p ≠ q ∧ g ≠ q ∧ p ≠ g2 :=
  ⟨s.rs.obj.ne_ s.sp.obj (by decide), s.rs.obj.ne_ s.sp.row (by decide), s.rs.row.ne_ s.sp.obj (by decide), fun e => s.ne e.symm, s.sp.obj.ne_ s.rs.obj (by decide), s.sp.row.ne_ s.rs.obj (by decide), s.sp.obj.ne_ s.rs.row (by decide)⟩
theorem St9.fr0 (s : St9 B w p g q g2 bs dict here) (hf : Fr0 w w1) : St9 B w1 p g q g2 bs dict here := ⟨s.sp.fr0 hf, s.rs.fr0 hf, s.ne, s.lo, s.d0, s.d1, s.h0, s.h1⟩
/-- The document's space behind a call on the program's. -/
theorem St9.rs1 (s : St9 B w p g q g2 bs dict here) (hf : Fr (fun k => k = p ∨ k = g) w w1) : RSp w1 q g2 bs here (77824 + dict) := by
  obtain ⟨h1, h2, h3, h4, _⟩ := s.apart
  exact s.rs.fr hf (fun e => e.elim h1 h2) (fun e => e.elim h3 h4)
theorem St9.step (s : St9 B w p g q g2 bs dict here) (hf1 : Fr (fun k => k = p ∨ k = g) w w1) (k1 : Sp w1 p g bs' dict here') (hf2 : Fr (fun k => k = q ∨ k = g2) w1 w2) (k2 : RSp w2 q g2 bs' here' (77824 + dict)) (hh : 77824 ≤ here') (hh' : here' ≤ 77824 + dict) :
    St9 B w2 p g q g2 bs' dict here' ∧ Fr (In4 p g q g2) w w2 := by
  obtain ⟨h1, h2, h3, h4, h5, h6, h7⟩ := s.apart
  refine ⟨⟨k1.fr hf2 (fun e => e.elim h5 h7) (fun e => e.elim h6 s.ne), k2, s.ne, s.lo, s.d0, s.d1, hh, hh'⟩, ?_⟩
  exact (hf1.mono fun k _ e => e.elim .inl (fun e => .inr (.inl e))).trans (hf2.mono fun k _ e => e.elim (fun e => .inr (.inr (.inl e))) (fun e => .inr (.inr (.inr e))))
theorem in4_hi (s : St9 B w p g q g2 bs dict here) {k : Nat} (h : In4 p g q g2 k) : B ≤ k ∧ k < w.heap.size := by
  obtain ⟨l1, l2, l3, l4⟩ := s.lo
  rcases h with rfl | rfl | rfl | rfl
  · exact ⟨l3, s.sp.obj.lt⟩
  · exact ⟨l1, s.sp.row.lt⟩
  · exact ⟨l4, s.rs.obj.lt⟩
  · exact ⟨l2, s.rs.row.lt⟩
/-- What 'does' leaves. -/
def After9 (B p g q g2 : Nat) (dict : Int) (w : World) (e : Ending) (w' : World) : Prop :=
  e = .returned (.bool true) ∧ Fr (In4 p g q g2) w w' ∧ ∃ bs' here', St9 B w' p g q g2 bs' dict here'
theorem cells5 {W : World} {g : Nat} {t : TypeId} {c0 c1 c2 c3 c4 : Value} (h : Blk W g t #[c0, c1, c2, c3, c4]) : W.cell? ⟨g, 0, none⟩ = some c0 ∧ W.cell? ⟨g, 1, none⟩ = some c1 ∧ W.cell? ⟨g, 2, none⟩ = some c2 ∧ W.cell? ⟨g, 3, none⟩ = some c3 ∧ W.cell? ⟨g, 4, none⟩ = some c4 :=
  ⟨h.cell 0, h.cell 1, h.cell 2, h.cell 3, h.cell 4⟩
theorem alH_in {dict here n : Int} (h0 : 77824 ≤ here) (h1 : here ≤ 77824 + dict) : 77824 ≤ alH dict here n ∧ alH dict here n ≤ 77824 + dict := by unfold alH; split <;> omega
theorem shH_in {dict here n : Int} (h0 : 77824 ≤ here) (h1 : here ≤ 77824 + dict) : 77824 ≤ shH dict here n ∧ shH dict here n ≤ 77824 + dict := by unfold shH; split <;> omega
theorem algH_in {dict here n : Int} (h0 : 77824 ≤ here) (h1 : here ≤ 77824 + dict) : 77824 ≤ algH here n (77824 + dict) ∧ algH here n (77824 + dict) ≤ 77824 + dict := by
  unfold algH
  split
  · rename_i hn
    have : here ≤ (here + n - 1) / n * n := by rcases hn with rfl | rfl | rfl <;> omega
    split <;> omega
  · omega

theorem row8_far {L : World} {sv : Value} {xs : List Int} (h : Row8 w B sv xs) (hB : B ≤ w.heap.size) {S : Nat → Prop} (hf : Fr S w L) (hg : B ≤ g2) (h0 : 0 < xs.length) : ∀ b, sv.ownBlock = some b → b ≠ g2 ∧ b < L.heap.size := by
  obtain ⟨A, cap, rfl, _, _, _, h4⟩ := h
  intro b hb
  obtain ⟨b', off, rfl, hlt, _⟩ := h4 h0
  simp only [Value.ownBlock, Option.some.injEq] at hb
  subst hb
  have := hf.size
  exact ⟨by omega, by omega⟩

set_option maxRecDepth 100000 in
set_option maxHeartbeats 4000000 in
theorem does_1 (w : World) (s : St9 B w p g q g2 bs dict here) (a v n : Int) (sv : Value) (xs : List Int) (ha : i64 a) (hv : i64 v) (hn : i64 n) (hb : Row8 w B sv xs) (hB : B ≤ w.heap.size) :
    Calls Try.prog 40 #[.pointer (some ⟨p, 0, none⟩), .pointer (some ⟨q, 0, none⟩), .agg #[.int .i64 1, .int .i64 a, .int .i64 v, .int .i64 n, sv]] w (After9 B p g q g2 dict w) := by
  obtain ⟨A4, c4, rfl⟩ := hb.len_
  obtain ⟨m4, hm4⟩ : ∃ m4, xs.length = m4 := ⟨_, rfl⟩
  have hx0 : Blk (w.alloc (.cells #[.int .i64 1, .int .i64 a, .int .i64 v, .int .i64 n, .slice A4 m4 c4] 51)) w.heap.size 51 #[.int .i64 1, .int .i64 a, .int .i64 v, .int .i64 n, .slice A4 m4 c4] := Blk.new w _ _
  have hf0 : Fr0 w (w.alloc (.cells #[.int .i64 1, .int .i64 a, .int .i64 v, .int .i64 n, .slice A4 m4 c4] 51)) := (Fr.refl _ w).alloc _
  have s0 := s.fr0 hf0
  have hb0 := hb.fr hf0 hB (fun _ _ x => x)
  have hB0 : B ≤ (w.alloc (.cells #[.int .i64 1, .int .i64 a, .int .i64 v, .int .i64 n, .slice A4 m4 c4] 51)).heap.size := Nat.le_trans hB hf0.size
  have hnb : ∀ k, In4 p g q g2 k → k ≠ w.heap.size := fun k hk e => by have := (in4_hi s hk).2; omega
  rw [hm4] at *
  have H1 := Lib.hid (fun W (hW : Fr0 (w.alloc (.cells #[.int .i64 1, .int .i64 a, .int .i64 v, .int .i64 n, .slice A4 m4 c4] 51)) W) => Fetch_any a W (s0.sp.fr0 hW) ha)
  have H2 := Lib.hid (fun W (hW : RSp W q g2 bs here (77824 + dict)) (hL : Fr (fun k => k = p ∨ k = g) (w.alloc (.cells #[.int .i64 1, .int .i64 a, .int .i64 v, .int .i64 n, .slice A4 m4 c4] 51)) W) => FetchR a W hW ha)
  have HX := Lib.hid hx0
  have HS := Lib.hid s0
  have HF := Lib.hid hf0
  have HN := Lib.hid hnb
  obtain ⟨d0, d1, d2, d3, d4⟩ := cells5 hx0
  clear hx0 s0 s hf0 hb hb0 hB hB0 hm4 ha hv hn hnb
  go_enter Try.func40, Try.ntmps40
  go_wp2_with (first | (go_at_call 14; refine (H1.out _ (Fr.refl _ _)).mono ?_; rintro e w1 ⟨rfl, hf1⟩; have hg1 : Fr (fun k => k = p ∨ k = g) (w.alloc (.cells #[.int .i64 1, .int .i64 a, .int .i64 v, .int .i64 n, .slice A4 m4 c4] 51)) w1 := hf1.of0; have d6 := HX.out.fr hg1 (fun e => HN.out _ (e.elim .inl (fun e => .inr (.inl e))) rfl); obtain ⟨e0, e1, e2, e3, e4⟩ := cells5 d6; have HX1 := Lib.hid d6; clear d6) | (go_at_call 45; refine (H2.out _ (HS.out.rs1 hg1) hg1).mono ?_; rintro e w2 ⟨rfl, hf2⟩; have hg2 : Fr (fun k => k = q ∨ k = g2) w1 w2 := hf2.of0; have hst' := HS.out.step hg1 (HS.out.sp.fr0 hf1) hg2 ((HS.out.rs1 hg1).fr0 hf2) (And.intro HS.out.h0 HS.out.h1).1 (And.intro HS.out.h0 HS.out.h1).2; have hst := hst'.1; have hfi := hst'.2; have d7 := HX1.out.fr hg2 (fun e => HN.out _ (e.elim (fun e => .inr (.inr (.inl e))) (fun e => .inr (.inr (.inr e)))) rfl); obtain ⟨f0, f1, f2, f3, f4⟩ := cells5 d7; clear d7))
  go_ret
  refine ⟨by simp, ?_, _, _, hst⟩
  exact (HF.out.of0 (S := In4 p g q g2)).trans hfi

set_option maxRecDepth 100000 in
set_option maxHeartbeats 4000000 in
theorem does_2 (w : World) (s : St9 B w p g q g2 bs dict here) (a v n : Int) (sv : Value) (xs : List Int) (ha : i64 a) (hv : i64 v) (hn : i64 n) (hb : Row8 w B sv xs) (hB : B ≤ w.heap.size) :
    Calls Try.prog 40 #[.pointer (some ⟨p, 0, none⟩), .pointer (some ⟨q, 0, none⟩), .agg #[.int .i64 2, .int .i64 a, .int .i64 v, .int .i64 n, sv]] w (After9 B p g q g2 dict w) := by
  obtain ⟨A4, c4, rfl⟩ := hb.len_
  obtain ⟨m4, hm4⟩ : ∃ m4, xs.length = m4 := ⟨_, rfl⟩
  have hx0 : Blk (w.alloc (.cells #[.int .i64 2, .int .i64 a, .int .i64 v, .int .i64 n, .slice A4 m4 c4] 51)) w.heap.size 51 #[.int .i64 2, .int .i64 a, .int .i64 v, .int .i64 n, .slice A4 m4 c4] := Blk.new w _ _
  have hf0 : Fr0 w (w.alloc (.cells #[.int .i64 2, .int .i64 a, .int .i64 v, .int .i64 n, .slice A4 m4 c4] 51)) := (Fr.refl _ w).alloc _
  have s0 := s.fr0 hf0
  have hb0 := hb.fr hf0 hB (fun _ _ x => x)
  have hB0 : B ≤ (w.alloc (.cells #[.int .i64 2, .int .i64 a, .int .i64 v, .int .i64 n, .slice A4 m4 c4] 51)).heap.size := Nat.le_trans hB hf0.size
  have hnb : ∀ k, In4 p g q g2 k → k ≠ w.heap.size := fun k hk e => by have := (in4_hi s hk).2; omega
  rw [hm4] at *
  have H1 := Lib.hid (fun W (hW : Fr0 (w.alloc (.cells #[.int .i64 2, .int .i64 a, .int .i64 v, .int .i64 n, .slice A4 m4 c4] 51)) W) => Store_any a v W (s0.sp.fr0 hW) ha)
  have H2 := Lib.hid (fun W (hW : RSp W q g2 bs here (77824 + dict)) (hL : Fr (fun k => k = p ∨ k = g) (w.alloc (.cells #[.int .i64 2, .int .i64 a, .int .i64 v, .int .i64 n, .slice A4 m4 c4] 51)) W) => StoreR a v W hW ha hv)
  have HX := Lib.hid hx0
  have HS := Lib.hid s0
  have HF := Lib.hid hf0
  have HN := Lib.hid hnb
  obtain ⟨d0, d1, d2, d3, d4⟩ := cells5 hx0
  clear hx0 s0 s hf0 hb hb0 hB hB0 hm4 ha hv hn hnb
  go_enter Try.func40, Try.ntmps40
  go_wp2
  go_region_held3 (fun W => W.cell? ⟨w.heap.size, 0, none⟩ = some (.int .i64 2) ∧ W.cell? ⟨w.heap.size, 1, none⟩ = some (.int .i64 a) ∧ W.cell? ⟨w.heap.size, 2, none⟩ = some (.int .i64 v) ∧ W.cell? ⟨w.heap.size, 3, none⟩ = some (.int .i64 n) ∧ W.cell? ⟨w.heap.size, 4, none⟩ = some (.slice A4 m4 c4)) (first | exact ⟨d0, d1, d2, d3, d4⟩ | exact ⟨e0, e1, e2, e3, e4⟩ | exact ⟨f0, f1, f2, f3, f4⟩) (first | (go_at_call 12; refine (H1.out _ ((Fr.refl _ _).drew)).mono ?_; rintro e w1 ⟨rfl, hf1, h1⟩; have hg1 : Fr (fun k => k = p ∨ k = g) (w.alloc (.cells #[.int .i64 2, .int .i64 a, .int .i64 v, .int .i64 n, .slice A4 m4 c4] 51)) w1 := ((Fr.refl _ (w.alloc (.cells #[.int .i64 2, .int .i64 a, .int .i64 v, .int .i64 n, .slice A4 m4 c4] 51))).drew.trans (hf1.mono fun _ _ e => .inr e)); have d6 := HX.out.fr hg1 (fun e => HN.out _ (e.elim .inl (fun e => .inr (.inl e))) rfl); obtain ⟨e0, e1, e2, e3, e4⟩ := cells5 d6; have HX1 := Lib.hid d6; clear d6) | (go_at_call 46; refine (H2.out _ (HS.out.rs1 hg1) hg1).mono ?_; rintro e w2 ⟨rfl, hf2, h2⟩; have hg2 : Fr (fun k => k = q ∨ k = g2) w1 w2 := hf2.mono fun _ _ e => .inr e; have hst' := HS.out.step hg1 (h1) hg2 (h2) (And.intro HS.out.h0 HS.out.h1).1 (And.intro HS.out.h0 HS.out.h1).2; have hst := hst'.1; have hfi := hst'.2; have d7 := HX1.out.fr hg2 (fun e => HN.out _ (e.elim (fun e => .inr (.inr (.inl e))) (fun e => .inr (.inr (.inr e)))) rfl); obtain ⟨f0, f1, f2, f3, f4⟩ := cells5 d7; clear d7))
  go_wp2
  go_ret
  refine ⟨by simp, ?_, _, _, hst⟩
  exact (HF.out.of0 (S := In4 p g q g2)).trans hfi

set_option maxRecDepth 100000 in
set_option maxHeartbeats 4000000 in
theorem does_3 (w : World) (s : St9 B w p g q g2 bs dict here) (a v n : Int) (sv : Value) (xs : List Int) (ha : i64 a) (hv : i64 v) (hn : i64 n) (hb : Row8 w B sv xs) (hB : B ≤ w.heap.size) :
    Calls Try.prog 40 #[.pointer (some ⟨p, 0, none⟩), .pointer (some ⟨q, 0, none⟩), .agg #[.int .i64 3, .int .i64 a, .int .i64 v, .int .i64 n, sv]] w (After9 B p g q g2 dict w) := by
  obtain ⟨A4, c4, rfl⟩ := hb.len_
  obtain ⟨m4, hm4⟩ : ∃ m4, xs.length = m4 := ⟨_, rfl⟩
  have hx0 : Blk (w.alloc (.cells #[.int .i64 3, .int .i64 a, .int .i64 v, .int .i64 n, .slice A4 m4 c4] 51)) w.heap.size 51 #[.int .i64 3, .int .i64 a, .int .i64 v, .int .i64 n, .slice A4 m4 c4] := Blk.new w _ _
  have hf0 : Fr0 w (w.alloc (.cells #[.int .i64 3, .int .i64 a, .int .i64 v, .int .i64 n, .slice A4 m4 c4] 51)) := (Fr.refl _ w).alloc _
  have s0 := s.fr0 hf0
  have hb0 := hb.fr hf0 hB (fun _ _ x => x)
  have hB0 : B ≤ (w.alloc (.cells #[.int .i64 3, .int .i64 a, .int .i64 v, .int .i64 n, .slice A4 m4 c4] 51)).heap.size := Nat.le_trans hB hf0.size
  have hnb : ∀ k, In4 p g q g2 k → k ≠ w.heap.size := fun k hk e => by have := (in4_hi s hk).2; omega
  rw [hm4] at *
  have H1 := Lib.hid (fun W (hW : Fr0 (w.alloc (.cells #[.int .i64 3, .int .i64 a, .int .i64 v, .int .i64 n, .slice A4 m4 c4] 51)) W) => Byte_any a W (s0.sp.fr0 hW) ha)
  have H2 := Lib.hid (fun W (hW : RSp W q g2 bs here (77824 + dict)) (hL : Fr (fun k => k = p ∨ k = g) (w.alloc (.cells #[.int .i64 3, .int .i64 a, .int .i64 v, .int .i64 n, .slice A4 m4 c4] 51)) W) => ByteR a W hW ha)
  have HX := Lib.hid hx0
  have HS := Lib.hid s0
  have HF := Lib.hid hf0
  have HN := Lib.hid hnb
  obtain ⟨d0, d1, d2, d3, d4⟩ := cells5 hx0
  clear hx0 s0 s hf0 hb hb0 hB hB0 hm4 ha hv hn hnb
  go_enter Try.func40, Try.ntmps40
  go_wp2_with (first | (go_at_call 11; refine (H1.out _ (Fr.refl _ _)).mono ?_; rintro e w1 ⟨rfl, hf1⟩; have hg1 : Fr (fun k => k = p ∨ k = g) (w.alloc (.cells #[.int .i64 3, .int .i64 a, .int .i64 v, .int .i64 n, .slice A4 m4 c4] 51)) w1 := hf1.of0; have d6 := HX.out.fr hg1 (fun e => HN.out _ (e.elim .inl (fun e => .inr (.inl e))) rfl); obtain ⟨e0, e1, e2, e3, e4⟩ := cells5 d6; have HX1 := Lib.hid d6; clear d6) | (go_at_call 47; refine (H2.out _ (HS.out.rs1 hg1) hg1).mono ?_; rintro e w2 ⟨rfl, hf2⟩; have hg2 : Fr (fun k => k = q ∨ k = g2) w1 w2 := hf2.of0; have hst' := HS.out.step hg1 (HS.out.sp.fr0 hf1) hg2 ((HS.out.rs1 hg1).fr0 hf2) (And.intro HS.out.h0 HS.out.h1).1 (And.intro HS.out.h0 HS.out.h1).2; have hst := hst'.1; have hfi := hst'.2; have d7 := HX1.out.fr hg2 (fun e => HN.out _ (e.elim (fun e => .inr (.inr (.inl e))) (fun e => .inr (.inr (.inr e)))) rfl); obtain ⟨f0, f1, f2, f3, f4⟩ := cells5 d7; clear d7))
  go_ret
  refine ⟨by simp, ?_, _, _, hst⟩
  exact (HF.out.of0 (S := In4 p g q g2)).trans hfi

set_option maxRecDepth 100000 in
set_option maxHeartbeats 4000000 in
theorem does_4 (w : World) (s : St9 B w p g q g2 bs dict here) (a v n : Int) (sv : Value) (xs : List Int) (ha : i64 a) (hv : i64 v) (hn : i64 n) (hb : Row8 w B sv xs) (hB : B ≤ w.heap.size) :
    Calls Try.prog 40 #[.pointer (some ⟨p, 0, none⟩), .pointer (some ⟨q, 0, none⟩), .agg #[.int .i64 4, .int .i64 a, .int .i64 v, .int .i64 n, sv]] w (After9 B p g q g2 dict w) := by
  obtain ⟨A4, c4, rfl⟩ := hb.len_
  obtain ⟨m4, hm4⟩ : ∃ m4, xs.length = m4 := ⟨_, rfl⟩
  have hx0 : Blk (w.alloc (.cells #[.int .i64 4, .int .i64 a, .int .i64 v, .int .i64 n, .slice A4 m4 c4] 51)) w.heap.size 51 #[.int .i64 4, .int .i64 a, .int .i64 v, .int .i64 n, .slice A4 m4 c4] := Blk.new w _ _
  have hf0 : Fr0 w (w.alloc (.cells #[.int .i64 4, .int .i64 a, .int .i64 v, .int .i64 n, .slice A4 m4 c4] 51)) := (Fr.refl _ w).alloc _
  have s0 := s.fr0 hf0
  have hb0 := hb.fr hf0 hB (fun _ _ x => x)
  have hB0 : B ≤ (w.alloc (.cells #[.int .i64 4, .int .i64 a, .int .i64 v, .int .i64 n, .slice A4 m4 c4] 51)).heap.size := Nat.le_trans hB hf0.size
  have hnb : ∀ k, In4 p g q g2 k → k ≠ w.heap.size := fun k hk e => by have := (in4_hi s hk).2; omega
  rw [hm4] at *
  have H1 := Lib.hid (fun W (hW : Fr0 (w.alloc (.cells #[.int .i64 4, .int .i64 a, .int .i64 v, .int .i64 n, .slice A4 m4 c4] 51)) W) => PutByte_any a v W (s0.sp.fr0 hW) ha)
  have H2 := Lib.hid (fun W (hW : RSp W q g2 bs here (77824 + dict)) (hL : Fr (fun k => k = p ∨ k = g) (w.alloc (.cells #[.int .i64 4, .int .i64 a, .int .i64 v, .int .i64 n, .slice A4 m4 c4] 51)) W) => PutByteR a v W hW ha hv)
  have HX := Lib.hid hx0
  have HS := Lib.hid s0
  have HF := Lib.hid hf0
  have HN := Lib.hid hnb
  obtain ⟨d0, d1, d2, d3, d4⟩ := cells5 hx0
  clear hx0 s0 s hf0 hb hb0 hB hB0 hm4 ha hv hn hnb
  go_enter Try.func40, Try.ntmps40
  go_wp2
  go_region_held3 (fun W => W.cell? ⟨w.heap.size, 0, none⟩ = some (.int .i64 4) ∧ W.cell? ⟨w.heap.size, 1, none⟩ = some (.int .i64 a) ∧ W.cell? ⟨w.heap.size, 2, none⟩ = some (.int .i64 v) ∧ W.cell? ⟨w.heap.size, 3, none⟩ = some (.int .i64 n) ∧ W.cell? ⟨w.heap.size, 4, none⟩ = some (.slice A4 m4 c4)) (first | exact ⟨d0, d1, d2, d3, d4⟩ | exact ⟨e0, e1, e2, e3, e4⟩ | exact ⟨f0, f1, f2, f3, f4⟩) (first | (go_at_call 48; refine (H1.out _ ((Fr.refl _ _).drew)).mono ?_; rintro e w1 ⟨rfl, hf1, h1⟩; have hg1 : Fr (fun k => k = p ∨ k = g) (w.alloc (.cells #[.int .i64 4, .int .i64 a, .int .i64 v, .int .i64 n, .slice A4 m4 c4] 51)) w1 := ((Fr.refl _ (w.alloc (.cells #[.int .i64 4, .int .i64 a, .int .i64 v, .int .i64 n, .slice A4 m4 c4] 51))).drew.trans (hf1.mono fun _ _ e => .inr e)); have d6 := HX.out.fr hg1 (fun e => HN.out _ (e.elim .inl (fun e => .inr (.inl e))) rfl); obtain ⟨e0, e1, e2, e3, e4⟩ := cells5 d6; have HX1 := Lib.hid d6; clear d6) | (go_at_call 49; refine (H2.out _ (HS.out.rs1 hg1) hg1).mono ?_; rintro e w2 ⟨rfl, hf2, h2⟩; have hg2 : Fr (fun k => k = q ∨ k = g2) w1 w2 := hf2.mono fun _ _ e => .inr e; have hst' := HS.out.step hg1 (h1) hg2 (h2) (And.intro HS.out.h0 HS.out.h1).1 (And.intro HS.out.h0 HS.out.h1).2; have hst := hst'.1; have hfi := hst'.2; have d7 := HX1.out.fr hg2 (fun e => HN.out _ (e.elim (fun e => .inr (.inr (.inl e))) (fun e => .inr (.inr (.inr e)))) rfl); obtain ⟨f0, f1, f2, f3, f4⟩ := cells5 d7; clear d7))
  go_wp2
  go_ret
  refine ⟨by simp, ?_, _, _, hst⟩
  exact (HF.out.of0 (S := In4 p g q g2)).trans hfi

set_option maxRecDepth 100000 in
set_option maxHeartbeats 4000000 in
theorem does_5 (w : World) (s : St9 B w p g q g2 bs dict here) (a v n : Int) (sv : Value) (xs : List Int) (ha : i64 a) (hv : i64 v) (hn : i64 n) (hb : Row8 w B sv xs) (hB : B ≤ w.heap.size) :
    Calls Try.prog 40 #[.pointer (some ⟨p, 0, none⟩), .pointer (some ⟨q, 0, none⟩), .agg #[.int .i64 5, .int .i64 a, .int .i64 v, .int .i64 n, sv]] w (After9 B p g q g2 dict w) := by
  obtain ⟨A4, c4, rfl⟩ := hb.len_
  obtain ⟨m4, hm4⟩ : ∃ m4, xs.length = m4 := ⟨_, rfl⟩
  have hx0 : Blk (w.alloc (.cells #[.int .i64 5, .int .i64 a, .int .i64 v, .int .i64 n, .slice A4 m4 c4] 51)) w.heap.size 51 #[.int .i64 5, .int .i64 a, .int .i64 v, .int .i64 n, .slice A4 m4 c4] := Blk.new w _ _
  have hf0 : Fr0 w (w.alloc (.cells #[.int .i64 5, .int .i64 a, .int .i64 v, .int .i64 n, .slice A4 m4 c4] 51)) := (Fr.refl _ w).alloc _
  have s0 := s.fr0 hf0
  have hb0 := hb.fr hf0 hB (fun _ _ x => x)
  have hB0 : B ≤ (w.alloc (.cells #[.int .i64 5, .int .i64 a, .int .i64 v, .int .i64 n, .slice A4 m4 c4] 51)).heap.size := Nat.le_trans hB hf0.size
  have hnb : ∀ k, In4 p g q g2 k → k ≠ w.heap.size := fun k hk e => by have := (in4_hi s hk).2; omega
  rw [hm4] at *
  have H1 := Lib.hid (fun W (hW : Fr0 (w.alloc (.cells #[.int .i64 5, .int .i64 a, .int .i64 v, .int .i64 n, .slice A4 m4 c4] 51)) W) => Half_any a W (s0.sp.fr0 hW) ha)
  have H2 := Lib.hid (fun W (hW : RSp W q g2 bs here (77824 + dict)) (hL : Fr (fun k => k = p ∨ k = g) (w.alloc (.cells #[.int .i64 5, .int .i64 a, .int .i64 v, .int .i64 n, .slice A4 m4 c4] 51)) W) => HalfR a W hW ha)
  have HX := Lib.hid hx0
  have HS := Lib.hid s0
  have HF := Lib.hid hf0
  have HN := Lib.hid hnb
  obtain ⟨d0, d1, d2, d3, d4⟩ := cells5 hx0
  clear hx0 s0 s hf0 hb hb0 hB hB0 hm4 ha hv hn hnb
  go_enter Try.func40, Try.ntmps40
  go_wp2_with (first | (go_at_call 50; refine (H1.out _ (Fr.refl _ _)).mono ?_; rintro e w1 ⟨rfl, hf1⟩; have hg1 : Fr (fun k => k = p ∨ k = g) (w.alloc (.cells #[.int .i64 5, .int .i64 a, .int .i64 v, .int .i64 n, .slice A4 m4 c4] 51)) w1 := hf1.of0; have d6 := HX.out.fr hg1 (fun e => HN.out _ (e.elim .inl (fun e => .inr (.inl e))) rfl); obtain ⟨e0, e1, e2, e3, e4⟩ := cells5 d6; have HX1 := Lib.hid d6; clear d6) | (go_at_call 51; refine (H2.out _ (HS.out.rs1 hg1) hg1).mono ?_; rintro e w2 ⟨rfl, hf2⟩; have hg2 : Fr (fun k => k = q ∨ k = g2) w1 w2 := hf2.of0; have hst' := HS.out.step hg1 (HS.out.sp.fr0 hf1) hg2 ((HS.out.rs1 hg1).fr0 hf2) (And.intro HS.out.h0 HS.out.h1).1 (And.intro HS.out.h0 HS.out.h1).2; have hst := hst'.1; have hfi := hst'.2; have d7 := HX1.out.fr hg2 (fun e => HN.out _ (e.elim (fun e => .inr (.inr (.inl e))) (fun e => .inr (.inr (.inr e)))) rfl); obtain ⟨f0, f1, f2, f3, f4⟩ := cells5 d7; clear d7))
  go_ret
  refine ⟨by simp, ?_, _, _, hst⟩
  exact (HF.out.of0 (S := In4 p g q g2)).trans hfi

set_option maxRecDepth 100000 in
set_option maxHeartbeats 4000000 in
theorem does_6 (w : World) (s : St9 B w p g q g2 bs dict here) (a v n : Int) (sv : Value) (xs : List Int) (ha : i64 a) (hv : i64 v) (hn : i64 n) (hb : Row8 w B sv xs) (hB : B ≤ w.heap.size) :
    Calls Try.prog 40 #[.pointer (some ⟨p, 0, none⟩), .pointer (some ⟨q, 0, none⟩), .agg #[.int .i64 6, .int .i64 a, .int .i64 v, .int .i64 n, sv]] w (After9 B p g q g2 dict w) := by
  obtain ⟨A4, c4, rfl⟩ := hb.len_
  obtain ⟨m4, hm4⟩ : ∃ m4, xs.length = m4 := ⟨_, rfl⟩
  have hx0 : Blk (w.alloc (.cells #[.int .i64 6, .int .i64 a, .int .i64 v, .int .i64 n, .slice A4 m4 c4] 51)) w.heap.size 51 #[.int .i64 6, .int .i64 a, .int .i64 v, .int .i64 n, .slice A4 m4 c4] := Blk.new w _ _
  have hf0 : Fr0 w (w.alloc (.cells #[.int .i64 6, .int .i64 a, .int .i64 v, .int .i64 n, .slice A4 m4 c4] 51)) := (Fr.refl _ w).alloc _
  have s0 := s.fr0 hf0
  have hb0 := hb.fr hf0 hB (fun _ _ x => x)
  have hB0 : B ≤ (w.alloc (.cells #[.int .i64 6, .int .i64 a, .int .i64 v, .int .i64 n, .slice A4 m4 c4] 51)).heap.size := Nat.le_trans hB hf0.size
  have hnb : ∀ k, In4 p g q g2 k → k ≠ w.heap.size := fun k hk e => by have := (in4_hi s hk).2; omega
  rw [hm4] at *
  have H1 := Lib.hid (fun W (hW : Fr0 (w.alloc (.cells #[.int .i64 6, .int .i64 a, .int .i64 v, .int .i64 n, .slice A4 m4 c4] 51)) W) => PutHalf_any a v W (s0.sp.fr0 hW) ha)
  have H2 := Lib.hid (fun W (hW : RSp W q g2 bs here (77824 + dict)) (hL : Fr (fun k => k = p ∨ k = g) (w.alloc (.cells #[.int .i64 6, .int .i64 a, .int .i64 v, .int .i64 n, .slice A4 m4 c4] 51)) W) => PutHalfR a v W hW ha hv)
  have HX := Lib.hid hx0
  have HS := Lib.hid s0
  have HF := Lib.hid hf0
  have HN := Lib.hid hnb
  obtain ⟨d0, d1, d2, d3, d4⟩ := cells5 hx0
  clear hx0 s0 s hf0 hb hb0 hB hB0 hm4 ha hv hn hnb
  go_enter Try.func40, Try.ntmps40
  go_wp2
  go_region_held3 (fun W => W.cell? ⟨w.heap.size, 0, none⟩ = some (.int .i64 6) ∧ W.cell? ⟨w.heap.size, 1, none⟩ = some (.int .i64 a) ∧ W.cell? ⟨w.heap.size, 2, none⟩ = some (.int .i64 v) ∧ W.cell? ⟨w.heap.size, 3, none⟩ = some (.int .i64 n) ∧ W.cell? ⟨w.heap.size, 4, none⟩ = some (.slice A4 m4 c4)) (first | exact ⟨d0, d1, d2, d3, d4⟩ | exact ⟨e0, e1, e2, e3, e4⟩ | exact ⟨f0, f1, f2, f3, f4⟩) (first | (go_at_call 52; refine (H1.out _ ((Fr.refl _ _).drew)).mono ?_; rintro e w1 ⟨rfl, hf1, h1⟩; have hg1 : Fr (fun k => k = p ∨ k = g) (w.alloc (.cells #[.int .i64 6, .int .i64 a, .int .i64 v, .int .i64 n, .slice A4 m4 c4] 51)) w1 := ((Fr.refl _ (w.alloc (.cells #[.int .i64 6, .int .i64 a, .int .i64 v, .int .i64 n, .slice A4 m4 c4] 51))).drew.trans (hf1.mono fun _ _ e => .inr e)); have d6 := HX.out.fr hg1 (fun e => HN.out _ (e.elim .inl (fun e => .inr (.inl e))) rfl); obtain ⟨e0, e1, e2, e3, e4⟩ := cells5 d6; have HX1 := Lib.hid d6; clear d6) | (go_at_call 53; refine (H2.out _ (HS.out.rs1 hg1) hg1).mono ?_; rintro e w2 ⟨rfl, hf2, h2⟩; have hg2 : Fr (fun k => k = q ∨ k = g2) w1 w2 := hf2.mono fun _ _ e => .inr e; have hst' := HS.out.step hg1 (h1) hg2 (h2) (And.intro HS.out.h0 HS.out.h1).1 (And.intro HS.out.h0 HS.out.h1).2; have hst := hst'.1; have hfi := hst'.2; have d7 := HX1.out.fr hg2 (fun e => HN.out _ (e.elim (fun e => .inr (.inr (.inl e))) (fun e => .inr (.inr (.inr e)))) rfl); obtain ⟨f0, f1, f2, f3, f4⟩ := cells5 d7; clear d7))
  go_wp2
  go_ret
  refine ⟨by simp, ?_, _, _, hst⟩
  exact (HF.out.of0 (S := In4 p g q g2)).trans hfi

set_option maxRecDepth 100000 in
set_option maxHeartbeats 4000000 in
theorem does_9 (w : World) (s : St9 B w p g q g2 bs dict here) (a v n : Int) (sv : Value) (xs : List Int) (ha : i64 a) (hv : i64 v) (hn : i64 n) (hb : Row8 w B sv xs) (hB : B ≤ w.heap.size) :
    Calls Try.prog 40 #[.pointer (some ⟨p, 0, none⟩), .pointer (some ⟨q, 0, none⟩), .agg #[.int .i64 9, .int .i64 a, .int .i64 v, .int .i64 n, sv]] w (After9 B p g q g2 dict w) := by
  obtain ⟨A4, c4, rfl⟩ := hb.len_
  obtain ⟨m4, hm4⟩ : ∃ m4, xs.length = m4 := ⟨_, rfl⟩
  have hx0 : Blk (w.alloc (.cells #[.int .i64 9, .int .i64 a, .int .i64 v, .int .i64 n, .slice A4 m4 c4] 51)) w.heap.size 51 #[.int .i64 9, .int .i64 a, .int .i64 v, .int .i64 n, .slice A4 m4 c4] := Blk.new w _ _
  have hf0 : Fr0 w (w.alloc (.cells #[.int .i64 9, .int .i64 a, .int .i64 v, .int .i64 n, .slice A4 m4 c4] 51)) := (Fr.refl _ w).alloc _
  have s0 := s.fr0 hf0
  have hb0 := hb.fr hf0 hB (fun _ _ x => x)
  have hB0 : B ≤ (w.alloc (.cells #[.int .i64 9, .int .i64 a, .int .i64 v, .int .i64 n, .slice A4 m4 c4] 51)).heap.size := Nat.le_trans hB hf0.size
  have hnb : ∀ k, In4 p g q g2 k → k ≠ w.heap.size := fun k hk e => by have := (in4_hi s hk).2; omega
  rw [hm4] at *
  have H1 := Lib.hid (fun W (hW : Fr0 (w.alloc (.cells #[.int .i64 9, .int .i64 a, .int .i64 v, .int .i64 n, .slice A4 m4 c4] 51)) W) => Fill_any a n v W (s0.sp.fr0 hW) ha hn)
  have H2 := Lib.hid (fun W (hW : RSp W q g2 bs here (77824 + dict)) (hL : Fr (fun k => k = p ∨ k = g) (w.alloc (.cells #[.int .i64 9, .int .i64 a, .int .i64 v, .int .i64 n, .slice A4 m4 c4] 51)) W) => FillR a n v W hW ha hn)
  have HX := Lib.hid hx0
  have HS := Lib.hid s0
  have HF := Lib.hid hf0
  have HN := Lib.hid hnb
  obtain ⟨d0, d1, d2, d3, d4⟩ := cells5 hx0
  clear hx0 s0 s hf0 hb hb0 hB hB0 hm4 ha hv hn hnb
  go_enter Try.func40, Try.ntmps40
  go_wp2
  go_region_held3 (fun W => W.cell? ⟨w.heap.size, 0, none⟩ = some (.int .i64 9) ∧ W.cell? ⟨w.heap.size, 1, none⟩ = some (.int .i64 a) ∧ W.cell? ⟨w.heap.size, 2, none⟩ = some (.int .i64 v) ∧ W.cell? ⟨w.heap.size, 3, none⟩ = some (.int .i64 n) ∧ W.cell? ⟨w.heap.size, 4, none⟩ = some (.slice A4 m4 c4)) (first | exact ⟨d0, d1, d2, d3, d4⟩ | exact ⟨e0, e1, e2, e3, e4⟩ | exact ⟨f0, f1, f2, f3, f4⟩) (first | (go_at_call 27; refine (H1.out _ ((Fr.refl _ _).drew)).mono ?_; rintro e w1 ⟨rfl, hf1, h1⟩; have hg1 : Fr (fun k => k = p ∨ k = g) (w.alloc (.cells #[.int .i64 9, .int .i64 a, .int .i64 v, .int .i64 n, .slice A4 m4 c4] 51)) w1 := ((Fr.refl _ (w.alloc (.cells #[.int .i64 9, .int .i64 a, .int .i64 v, .int .i64 n, .slice A4 m4 c4] 51))).drew.trans (hf1.mono fun _ _ e => .inr e)); have d6 := HX.out.fr hg1 (fun e => HN.out _ (e.elim .inl (fun e => .inr (.inl e))) rfl); obtain ⟨e0, e1, e2, e3, e4⟩ := cells5 d6; have HX1 := Lib.hid d6; clear d6) | (go_at_call 56; refine (H2.out _ (HS.out.rs1 hg1) hg1).mono ?_; rintro e w2 ⟨rfl, hf2, h2⟩; have hg2 : Fr (fun k => k = q ∨ k = g2) w1 w2 := hf2.mono fun _ _ e => .inr e; have hst' := HS.out.step hg1 (h1) hg2 (h2) (And.intro HS.out.h0 HS.out.h1).1 (And.intro HS.out.h0 HS.out.h1).2; have hst := hst'.1; have hfi := hst'.2; have d7 := HX1.out.fr hg2 (fun e => HN.out _ (e.elim (fun e => .inr (.inr (.inl e))) (fun e => .inr (.inr (.inr e)))) rfl); obtain ⟨f0, f1, f2, f3, f4⟩ := cells5 d7; clear d7))
  go_wp2
  go_ret
  refine ⟨by simp, ?_, _, _, hst⟩
  exact (HF.out.of0 (S := In4 p g q g2)).trans hfi

set_option maxRecDepth 100000 in
set_option maxHeartbeats 4000000 in
theorem does_10 (w : World) (s : St9 B w p g q g2 bs dict here) (a v n : Int) (sv : Value) (xs : List Int) (ha : i64 a) (hv : i64 v) (hn : i64 n) (hb : Row8 w B sv xs) (hB : B ≤ w.heap.size) :
    Calls Try.prog 40 #[.pointer (some ⟨p, 0, none⟩), .pointer (some ⟨q, 0, none⟩), .agg #[.int .i64 10, .int .i64 a, .int .i64 v, .int .i64 n, sv]] w (After9 B p g q g2 dict w) := by
  obtain ⟨A4, c4, rfl⟩ := hb.len_
  obtain ⟨m4, hm4⟩ : ∃ m4, xs.length = m4 := ⟨_, rfl⟩
  have hx0 : Blk (w.alloc (.cells #[.int .i64 10, .int .i64 a, .int .i64 v, .int .i64 n, .slice A4 m4 c4] 51)) w.heap.size 51 #[.int .i64 10, .int .i64 a, .int .i64 v, .int .i64 n, .slice A4 m4 c4] := Blk.new w _ _
  have hf0 : Fr0 w (w.alloc (.cells #[.int .i64 10, .int .i64 a, .int .i64 v, .int .i64 n, .slice A4 m4 c4] 51)) := (Fr.refl _ w).alloc _
  have s0 := s.fr0 hf0
  have hb0 := hb.fr hf0 hB (fun _ _ x => x)
  have hB0 : B ≤ (w.alloc (.cells #[.int .i64 10, .int .i64 a, .int .i64 v, .int .i64 n, .slice A4 m4 c4] 51)).heap.size := Nat.le_trans hB hf0.size
  have hnb : ∀ k, In4 p g q g2 k → k ≠ w.heap.size := fun k hk e => by have := (in4_hi s hk).2; omega
  rw [hm4] at *
  have H1 := Lib.hid (fun W (hW : Fr0 (w.alloc (.cells #[.int .i64 10, .int .i64 a, .int .i64 v, .int .i64 n, .slice A4 m4 c4] 51)) W) => Move_any a v n W (s0.sp.fr0 hW) ha hv hn)
  have H2 := Lib.hid (fun W (hW : RSp W q g2 bs here (77824 + dict)) (hL : Fr (fun k => k = p ∨ k = g) (w.alloc (.cells #[.int .i64 10, .int .i64 a, .int .i64 v, .int .i64 n, .slice A4 m4 c4] 51)) W) => MoveR a v n W hW ha hv hn)
  have HX := Lib.hid hx0
  have HS := Lib.hid s0
  have HF := Lib.hid hf0
  have HN := Lib.hid hnb
  obtain ⟨d0, d1, d2, d3, d4⟩ := cells5 hx0
  clear hx0 s0 s hf0 hb hb0 hB hB0 hm4 ha hv hn hnb
  go_enter Try.func40, Try.ntmps40
  go_wp2
  go_region_held3 (fun W => W.cell? ⟨w.heap.size, 0, none⟩ = some (.int .i64 10) ∧ W.cell? ⟨w.heap.size, 1, none⟩ = some (.int .i64 a) ∧ W.cell? ⟨w.heap.size, 2, none⟩ = some (.int .i64 v) ∧ W.cell? ⟨w.heap.size, 3, none⟩ = some (.int .i64 n) ∧ W.cell? ⟨w.heap.size, 4, none⟩ = some (.slice A4 m4 c4)) (first | exact ⟨d0, d1, d2, d3, d4⟩ | exact ⟨e0, e1, e2, e3, e4⟩ | exact ⟨f0, f1, f2, f3, f4⟩) (first | (go_at_call 21; refine (H1.out _ ((Fr.refl _ _).drew)).mono ?_; rintro e w1 ⟨rfl, hf1, h1⟩; have hg1 : Fr (fun k => k = p ∨ k = g) (w.alloc (.cells #[.int .i64 10, .int .i64 a, .int .i64 v, .int .i64 n, .slice A4 m4 c4] 51)) w1 := ((Fr.refl _ (w.alloc (.cells #[.int .i64 10, .int .i64 a, .int .i64 v, .int .i64 n, .slice A4 m4 c4] 51))).drew.trans (hf1.mono fun _ _ e => .inr e)); have d6 := HX.out.fr hg1 (fun e => HN.out _ (e.elim .inl (fun e => .inr (.inl e))) rfl); obtain ⟨e0, e1, e2, e3, e4⟩ := cells5 d6; have HX1 := Lib.hid d6; clear d6) | (go_at_call 57; refine (H2.out _ (HS.out.rs1 hg1) hg1).mono ?_; rintro e w2 ⟨rfl, hf2, h2⟩; have hg2 : Fr (fun k => k = q ∨ k = g2) w1 w2 := hf2.mono fun _ _ e => .inr e; have hst' := HS.out.step hg1 (h1) hg2 (h2) (And.intro HS.out.h0 HS.out.h1).1 (And.intro HS.out.h0 HS.out.h1).2; have hst := hst'.1; have hfi := hst'.2; have d7 := HX1.out.fr hg2 (fun e => HN.out _ (e.elim (fun e => .inr (.inr (.inl e))) (fun e => .inr (.inr (.inr e)))) rfl); obtain ⟨f0, f1, f2, f3, f4⟩ := cells5 d7; clear d7))
  go_wp2
  go_ret
  refine ⟨by simp, ?_, _, _, hst⟩
  exact (HF.out.of0 (S := In4 p g q g2)).trans hfi

set_option maxRecDepth 100000 in
set_option maxHeartbeats 4000000 in
theorem does_11 (w : World) (s : St9 B w p g q g2 bs dict here) (a v n : Int) (sv : Value) (xs : List Int) (ha : i64 a) (hv : i64 v) (hn : i64 n) (hb : Row8 w B sv xs) (hB : B ≤ w.heap.size) :
    Calls Try.prog 40 #[.pointer (some ⟨p, 0, none⟩), .pointer (some ⟨q, 0, none⟩), .agg #[.int .i64 11, .int .i64 a, .int .i64 v, .int .i64 n, sv]] w (After9 B p g q g2 dict w) := by
  obtain ⟨A4, c4, rfl⟩ := hb.len_
  obtain ⟨m4, hm4⟩ : ∃ m4, xs.length = m4 := ⟨_, rfl⟩
  have hx0 : Blk (w.alloc (.cells #[.int .i64 11, .int .i64 a, .int .i64 v, .int .i64 n, .slice A4 m4 c4] 51)) w.heap.size 51 #[.int .i64 11, .int .i64 a, .int .i64 v, .int .i64 n, .slice A4 m4 c4] := Blk.new w _ _
  have hf0 : Fr0 w (w.alloc (.cells #[.int .i64 11, .int .i64 a, .int .i64 v, .int .i64 n, .slice A4 m4 c4] 51)) := (Fr.refl _ w).alloc _
  have s0 := s.fr0 hf0
  have hb0 := hb.fr hf0 hB (fun _ _ x => x)
  have hB0 : B ≤ (w.alloc (.cells #[.int .i64 11, .int .i64 a, .int .i64 v, .int .i64 n, .slice A4 m4 c4] 51)).heap.size := Nat.le_trans hB hf0.size
  have hnb : ∀ k, In4 p g q g2 k → k ≠ w.heap.size := fun k hk e => by have := (in4_hi s hk).2; omega
  rw [hm4] at *
  have H1 := Lib.hid (fun W (hW : Fr0 (w.alloc (.cells #[.int .i64 11, .int .i64 a, .int .i64 v, .int .i64 n, .slice A4 m4 c4] 51)) W) => Up_any a v n W (s0.sp.fr0 hW) ha hv hn)
  have H2 := Lib.hid (fun W (hW : RSp W q g2 bs here (77824 + dict)) (hL : Fr (fun k => k = p ∨ k = g) (w.alloc (.cells #[.int .i64 11, .int .i64 a, .int .i64 v, .int .i64 n, .slice A4 m4 c4] 51)) W) => UpR a v n W hW ha hv hn)
  have HX := Lib.hid hx0
  have HS := Lib.hid s0
  have HF := Lib.hid hf0
  have HN := Lib.hid hnb
  obtain ⟨d0, d1, d2, d3, d4⟩ := cells5 hx0
  clear hx0 s0 s hf0 hb hb0 hB hB0 hm4 ha hv hn hnb
  go_enter Try.func40, Try.ntmps40
  go_wp2
  go_region_held3 (fun W => W.cell? ⟨w.heap.size, 0, none⟩ = some (.int .i64 11) ∧ W.cell? ⟨w.heap.size, 1, none⟩ = some (.int .i64 a) ∧ W.cell? ⟨w.heap.size, 2, none⟩ = some (.int .i64 v) ∧ W.cell? ⟨w.heap.size, 3, none⟩ = some (.int .i64 n) ∧ W.cell? ⟨w.heap.size, 4, none⟩ = some (.slice A4 m4 c4)) (first | exact ⟨d0, d1, d2, d3, d4⟩ | exact ⟨e0, e1, e2, e3, e4⟩ | exact ⟨f0, f1, f2, f3, f4⟩) (first | (go_at_call 22; refine (H1.out _ ((Fr.refl _ _).drew)).mono ?_; rintro e w1 ⟨rfl, hf1, h1⟩; have hg1 : Fr (fun k => k = p ∨ k = g) (w.alloc (.cells #[.int .i64 11, .int .i64 a, .int .i64 v, .int .i64 n, .slice A4 m4 c4] 51)) w1 := ((Fr.refl _ (w.alloc (.cells #[.int .i64 11, .int .i64 a, .int .i64 v, .int .i64 n, .slice A4 m4 c4] 51))).drew.trans (hf1.mono fun _ _ e => .inr e)); have d6 := HX.out.fr hg1 (fun e => HN.out _ (e.elim .inl (fun e => .inr (.inl e))) rfl); obtain ⟨e0, e1, e2, e3, e4⟩ := cells5 d6; have HX1 := Lib.hid d6; clear d6) | (go_at_call 58; refine (H2.out _ (HS.out.rs1 hg1) hg1).mono ?_; rintro e w2 ⟨rfl, hf2, h2⟩; have hg2 : Fr (fun k => k = q ∨ k = g2) w1 w2 := hf2.mono fun _ _ e => .inr e; have hst' := HS.out.step hg1 (h1) hg2 (h2) (And.intro HS.out.h0 HS.out.h1).1 (And.intro HS.out.h0 HS.out.h1).2; have hst := hst'.1; have hfi := hst'.2; have d7 := HX1.out.fr hg2 (fun e => HN.out _ (e.elim (fun e => .inr (.inr (.inl e))) (fun e => .inr (.inr (.inr e)))) rfl); obtain ⟨f0, f1, f2, f3, f4⟩ := cells5 d7; clear d7))
  go_wp2
  go_ret
  refine ⟨by simp, ?_, _, _, hst⟩
  exact (HF.out.of0 (S := In4 p g q g2)).trans hfi

set_option maxRecDepth 100000 in
set_option maxHeartbeats 4000000 in
theorem does_12 (w : World) (s : St9 B w p g q g2 bs dict here) (a v n : Int) (sv : Value) (xs : List Int) (ha : i64 a) (hv : i64 v) (hn : i64 n) (hb : Row8 w B sv xs) (hB : B ≤ w.heap.size) :
    Calls Try.prog 40 #[.pointer (some ⟨p, 0, none⟩), .pointer (some ⟨q, 0, none⟩), .agg #[.int .i64 12, .int .i64 a, .int .i64 v, .int .i64 n, sv]] w (After9 B p g q g2 dict w) := by
  obtain ⟨A4, c4, rfl⟩ := hb.len_
  obtain ⟨m4, hm4⟩ : ∃ m4, xs.length = m4 := ⟨_, rfl⟩
  have hx0 : Blk (w.alloc (.cells #[.int .i64 12, .int .i64 a, .int .i64 v, .int .i64 n, .slice A4 m4 c4] 51)) w.heap.size 51 #[.int .i64 12, .int .i64 a, .int .i64 v, .int .i64 n, .slice A4 m4 c4] := Blk.new w _ _
  have hf0 : Fr0 w (w.alloc (.cells #[.int .i64 12, .int .i64 a, .int .i64 v, .int .i64 n, .slice A4 m4 c4] 51)) := (Fr.refl _ w).alloc _
  have s0 := s.fr0 hf0
  have hb0 := hb.fr hf0 hB (fun _ _ x => x)
  have hB0 : B ≤ (w.alloc (.cells #[.int .i64 12, .int .i64 a, .int .i64 v, .int .i64 n, .slice A4 m4 c4] 51)).heap.size := Nat.le_trans hB hf0.size
  have hnb : ∀ k, In4 p g q g2 k → k ≠ w.heap.size := fun k hk e => by have := (in4_hi s hk).2; omega
  rw [hm4] at *
  have H1 := Lib.hid (fun W (hW : Fr0 (w.alloc (.cells #[.int .i64 12, .int .i64 a, .int .i64 v, .int .i64 n, .slice A4 m4 c4] 51)) W) => Down_any a v n W (s0.sp.fr0 hW) ha hv hn)
  have H2 := Lib.hid (fun W (hW : RSp W q g2 bs here (77824 + dict)) (hL : Fr (fun k => k = p ∨ k = g) (w.alloc (.cells #[.int .i64 12, .int .i64 a, .int .i64 v, .int .i64 n, .slice A4 m4 c4] 51)) W) => DownR a v n W hW ha hv hn)
  have HX := Lib.hid hx0
  have HS := Lib.hid s0
  have HF := Lib.hid hf0
  have HN := Lib.hid hnb
  obtain ⟨d0, d1, d2, d3, d4⟩ := cells5 hx0
  clear hx0 s0 s hf0 hb hb0 hB hB0 hm4 ha hv hn hnb
  go_enter Try.func40, Try.ntmps40
  go_wp2
  go_region_held3 (fun W => W.cell? ⟨w.heap.size, 0, none⟩ = some (.int .i64 12) ∧ W.cell? ⟨w.heap.size, 1, none⟩ = some (.int .i64 a) ∧ W.cell? ⟨w.heap.size, 2, none⟩ = some (.int .i64 v) ∧ W.cell? ⟨w.heap.size, 3, none⟩ = some (.int .i64 n) ∧ W.cell? ⟨w.heap.size, 4, none⟩ = some (.slice A4 m4 c4)) (first | exact ⟨d0, d1, d2, d3, d4⟩ | exact ⟨e0, e1, e2, e3, e4⟩ | exact ⟨f0, f1, f2, f3, f4⟩) (first | (go_at_call 23; refine (H1.out _ ((Fr.refl _ _).drew)).mono ?_; rintro e w1 ⟨rfl, hf1, h1⟩; have hg1 : Fr (fun k => k = p ∨ k = g) (w.alloc (.cells #[.int .i64 12, .int .i64 a, .int .i64 v, .int .i64 n, .slice A4 m4 c4] 51)) w1 := ((Fr.refl _ (w.alloc (.cells #[.int .i64 12, .int .i64 a, .int .i64 v, .int .i64 n, .slice A4 m4 c4] 51))).drew.trans (hf1.mono fun _ _ e => .inr e)); have d6 := HX.out.fr hg1 (fun e => HN.out _ (e.elim .inl (fun e => .inr (.inl e))) rfl); obtain ⟨e0, e1, e2, e3, e4⟩ := cells5 d6; have HX1 := Lib.hid d6; clear d6) | (go_at_call 59; refine (H2.out _ (HS.out.rs1 hg1) hg1).mono ?_; rintro e w2 ⟨rfl, hf2, h2⟩; have hg2 : Fr (fun k => k = q ∨ k = g2) w1 w2 := hf2.mono fun _ _ e => .inr e; have hst' := HS.out.step hg1 (h1) hg2 (h2) (And.intro HS.out.h0 HS.out.h1).1 (And.intro HS.out.h0 HS.out.h1).2; have hst := hst'.1; have hfi := hst'.2; have d7 := HX1.out.fr hg2 (fun e => HN.out _ (e.elim (fun e => .inr (.inr (.inl e))) (fun e => .inr (.inr (.inr e)))) rfl); obtain ⟨f0, f1, f2, f3, f4⟩ := cells5 d7; clear d7))
  go_wp2
  go_ret
  refine ⟨by simp, ?_, _, _, hst⟩
  exact (HF.out.of0 (S := In4 p g q g2)).trans hfi

set_option maxRecDepth 100000 in
set_option maxHeartbeats 4000000 in
theorem does_13 (w : World) (s : St9 B w p g q g2 bs dict here) (a v n : Int) (sv : Value) (xs : List Int) (ha : i64 a) (hv : i64 v) (hn : i64 n) (hb : Row8 w B sv xs) (hB : B ≤ w.heap.size) :
    Calls Try.prog 40 #[.pointer (some ⟨p, 0, none⟩), .pointer (some ⟨q, 0, none⟩), .agg #[.int .i64 13, .int .i64 a, .int .i64 v, .int .i64 n, sv]] w (After9 B p g q g2 dict w) := by
  obtain ⟨A4, c4, rfl⟩ := hb.len_
  obtain ⟨m4, hm4⟩ : ∃ m4, xs.length = m4 := ⟨_, rfl⟩
  have hx0 : Blk (w.alloc (.cells #[.int .i64 13, .int .i64 a, .int .i64 v, .int .i64 n, .slice A4 m4 c4] 51)) w.heap.size 51 #[.int .i64 13, .int .i64 a, .int .i64 v, .int .i64 n, .slice A4 m4 c4] := Blk.new w _ _
  have hf0 : Fr0 w (w.alloc (.cells #[.int .i64 13, .int .i64 a, .int .i64 v, .int .i64 n, .slice A4 m4 c4] 51)) := (Fr.refl _ w).alloc _
  have s0 := s.fr0 hf0
  have hb0 := hb.fr hf0 hB (fun _ _ x => x)
  have hB0 : B ≤ (w.alloc (.cells #[.int .i64 13, .int .i64 a, .int .i64 v, .int .i64 n, .slice A4 m4 c4] 51)).heap.size := Nat.le_trans hB hf0.size
  have hnb : ∀ k, In4 p g q g2 k → k ≠ w.heap.size := fun k hk e => by have := (in4_hi s hk).2; omega
  rw [hm4] at *
  have H1 := Lib.hid (fun W (hW : Fr0 (w.alloc (.cells #[.int .i64 13, .int .i64 a, .int .i64 v, .int .i64 n, .slice A4 m4 c4] 51)) W) => Allot_any n W (s0.sp.fr0 hW) s0.d0 s0.d1 s0.h0 s0.h1)
  have H2 := Lib.hid (fun W (hW : RSp W q g2 bs here (77824 + dict)) (hL : Fr (fun k => k = p ∨ k = g) (w.alloc (.cells #[.int .i64 13, .int .i64 a, .int .i64 v, .int .i64 n, .slice A4 m4 c4] 51)) W) => AllotR n W hW s0.d0 (by have := s0.d1; omega) rfl s0.h0 s0.h1)
  have HX := Lib.hid hx0
  have HS := Lib.hid s0
  have HF := Lib.hid hf0
  have HN := Lib.hid hnb
  obtain ⟨d0, d1, d2, d3, d4⟩ := cells5 hx0
  clear hx0 s0 s hf0 hb hb0 hB hB0 hm4 ha hv hn hnb
  go_enter Try.func40, Try.ntmps40
  go_wp2
  go_region_held3 (fun W => W.cell? ⟨w.heap.size, 0, none⟩ = some (.int .i64 13) ∧ W.cell? ⟨w.heap.size, 1, none⟩ = some (.int .i64 a) ∧ W.cell? ⟨w.heap.size, 2, none⟩ = some (.int .i64 v) ∧ W.cell? ⟨w.heap.size, 3, none⟩ = some (.int .i64 n) ∧ W.cell? ⟨w.heap.size, 4, none⟩ = some (.slice A4 m4 c4)) (first | exact ⟨d0, d1, d2, d3, d4⟩ | exact ⟨e0, e1, e2, e3, e4⟩ | exact ⟨f0, f1, f2, f3, f4⟩) (first | (go_at_call 18; refine (H1.out _ ((Fr.refl _ _).drew)).mono ?_; rintro e w1 ⟨rfl, hf1, h1⟩; have hg1 : Fr (fun k => k = p ∨ k = g) (w.alloc (.cells #[.int .i64 13, .int .i64 a, .int .i64 v, .int .i64 n, .slice A4 m4 c4] 51)) w1 := ((Fr.refl _ (w.alloc (.cells #[.int .i64 13, .int .i64 a, .int .i64 v, .int .i64 n, .slice A4 m4 c4] 51))).drew.trans (hf1.mono fun _ _ e => .inl e)); have d6 := HX.out.fr hg1 (fun e => HN.out _ (e.elim .inl (fun e => .inr (.inl e))) rfl); obtain ⟨e0, e1, e2, e3, e4⟩ := cells5 d6; have HX1 := Lib.hid d6; clear d6) | (go_at_call 60; refine (H2.out _ (HS.out.rs1 hg1) hg1).mono ?_; rintro e w2 ⟨rfl, hf2, h2⟩; have hg2 : Fr (fun k => k = q ∨ k = g2) w1 w2 := hf2.mono fun _ _ e => .inl e; have hst' := HS.out.step hg1 (h1) hg2 (h2) (alH_in HS.out.h0 HS.out.h1).1 (alH_in HS.out.h0 HS.out.h1).2; have hst := hst'.1; have hfi := hst'.2; have d7 := HX1.out.fr hg2 (fun e => HN.out _ (e.elim (fun e => .inr (.inr (.inl e))) (fun e => .inr (.inr (.inr e)))) rfl); obtain ⟨f0, f1, f2, f3, f4⟩ := cells5 d7; clear d7))
  go_wp2
  go_ret
  refine ⟨by simp, ?_, _, _, hst⟩
  exact (HF.out.of0 (S := In4 p g q g2)).trans hfi

set_option maxRecDepth 100000 in
set_option maxHeartbeats 4000000 in
theorem does_14 (w : World) (s : St9 B w p g q g2 bs dict here) (a v n : Int) (sv : Value) (xs : List Int) (ha : i64 a) (hv : i64 v) (hn : i64 n) (hb : Row8 w B sv xs) (hB : B ≤ w.heap.size) :
    Calls Try.prog 40 #[.pointer (some ⟨p, 0, none⟩), .pointer (some ⟨q, 0, none⟩), .agg #[.int .i64 14, .int .i64 a, .int .i64 v, .int .i64 n, sv]] w (After9 B p g q g2 dict w) := by
  obtain ⟨A4, c4, rfl⟩ := hb.len_
  obtain ⟨m4, hm4⟩ : ∃ m4, xs.length = m4 := ⟨_, rfl⟩
  have hx0 : Blk (w.alloc (.cells #[.int .i64 14, .int .i64 a, .int .i64 v, .int .i64 n, .slice A4 m4 c4] 51)) w.heap.size 51 #[.int .i64 14, .int .i64 a, .int .i64 v, .int .i64 n, .slice A4 m4 c4] := Blk.new w _ _
  have hf0 : Fr0 w (w.alloc (.cells #[.int .i64 14, .int .i64 a, .int .i64 v, .int .i64 n, .slice A4 m4 c4] 51)) := (Fr.refl _ w).alloc _
  have s0 := s.fr0 hf0
  have hb0 := hb.fr hf0 hB (fun _ _ x => x)
  have hB0 : B ≤ (w.alloc (.cells #[.int .i64 14, .int .i64 a, .int .i64 v, .int .i64 n, .slice A4 m4 c4] 51)).heap.size := Nat.le_trans hB hf0.size
  have hnb : ∀ k, In4 p g q g2 k → k ≠ w.heap.size := fun k hk e => by have := (in4_hi s hk).2; omega
  rw [hm4] at *
  have H1 := Lib.hid (fun W (hW : Fr0 (w.alloc (.cells #[.int .i64 14, .int .i64 a, .int .i64 v, .int .i64 n, .slice A4 m4 c4] 51)) W) => SetHere_any a W (s0.sp.fr0 hW) (by have := s0.h0; omega) s0.d0 (by have := s0.d1; omega) ha)
  have H2 := Lib.hid (fun W (hW : RSp W q g2 bs here (77824 + dict)) (hL : Fr (fun k => k = p ∨ k = g) (w.alloc (.cells #[.int .i64 14, .int .i64 a, .int .i64 v, .int .i64 n, .slice A4 m4 c4] 51)) W) => SetHereR a W hW ha rfl)
  have HX := Lib.hid hx0
  have HS := Lib.hid s0
  have HF := Lib.hid hf0
  have HN := Lib.hid hnb
  obtain ⟨d0, d1, d2, d3, d4⟩ := cells5 hx0
  clear hx0 s0 s hf0 hb hb0 hB hB0 hm4 ha hv hn hnb
  go_enter Try.func40, Try.ntmps40
  go_wp2
  go_region_held3 (fun W => W.cell? ⟨w.heap.size, 0, none⟩ = some (.int .i64 14) ∧ W.cell? ⟨w.heap.size, 1, none⟩ = some (.int .i64 a) ∧ W.cell? ⟨w.heap.size, 2, none⟩ = some (.int .i64 v) ∧ W.cell? ⟨w.heap.size, 3, none⟩ = some (.int .i64 n) ∧ W.cell? ⟨w.heap.size, 4, none⟩ = some (.slice A4 m4 c4)) (first | exact ⟨d0, d1, d2, d3, d4⟩ | exact ⟨e0, e1, e2, e3, e4⟩ | exact ⟨f0, f1, f2, f3, f4⟩) (first | (go_at_call 28; refine (H1.out _ ((Fr.refl _ _).drew)).mono ?_; rintro e w1 ⟨rfl, hf1, h1⟩; have hg1 : Fr (fun k => k = p ∨ k = g) (w.alloc (.cells #[.int .i64 14, .int .i64 a, .int .i64 v, .int .i64 n, .slice A4 m4 c4] 51)) w1 := ((Fr.refl _ (w.alloc (.cells #[.int .i64 14, .int .i64 a, .int .i64 v, .int .i64 n, .slice A4 m4 c4] 51))).drew.trans (hf1.mono fun _ _ e => .inl e)); have d6 := HX.out.fr hg1 (fun e => HN.out _ (e.elim .inl (fun e => .inr (.inl e))) rfl); obtain ⟨e0, e1, e2, e3, e4⟩ := cells5 d6; have HX1 := Lib.hid d6; clear d6) | (go_at_call 61; refine (H2.out _ (HS.out.rs1 hg1) hg1).mono ?_; rintro e w2 ⟨rfl, hf2, h2⟩; have hg2 : Fr (fun k => k = q ∨ k = g2) w1 w2 := hf2.mono fun _ _ e => .inl e; have hst' := HS.out.step hg1 (h1) hg2 (h2) (shH_in HS.out.h0 HS.out.h1).1 (shH_in HS.out.h0 HS.out.h1).2; have hst := hst'.1; have hfi := hst'.2; have d7 := HX1.out.fr hg2 (fun e => HN.out _ (e.elim (fun e => .inr (.inr (.inl e))) (fun e => .inr (.inr (.inr e)))) rfl); obtain ⟨f0, f1, f2, f3, f4⟩ := cells5 d7; clear d7))
  go_wp2
  go_ret
  refine ⟨by simp, ?_, _, _, hst⟩
  exact (HF.out.of0 (S := In4 p g q g2)).trans hfi

set_option maxRecDepth 100000 in
set_option maxHeartbeats 4000000 in
theorem does_15 (w : World) (s : St9 B w p g q g2 bs dict here) (a v n : Int) (sv : Value) (xs : List Int) (ha : i64 a) (hv : i64 v) (hn : i64 n) (hb : Row8 w B sv xs) (hB : B ≤ w.heap.size) :
    Calls Try.prog 40 #[.pointer (some ⟨p, 0, none⟩), .pointer (some ⟨q, 0, none⟩), .agg #[.int .i64 15, .int .i64 a, .int .i64 v, .int .i64 n, sv]] w (After9 B p g q g2 dict w) := by
  obtain ⟨A4, c4, rfl⟩ := hb.len_
  obtain ⟨m4, hm4⟩ : ∃ m4, xs.length = m4 := ⟨_, rfl⟩
  have hx0 : Blk (w.alloc (.cells #[.int .i64 15, .int .i64 a, .int .i64 v, .int .i64 n, .slice A4 m4 c4] 51)) w.heap.size 51 #[.int .i64 15, .int .i64 a, .int .i64 v, .int .i64 n, .slice A4 m4 c4] := Blk.new w _ _
  have hf0 : Fr0 w (w.alloc (.cells #[.int .i64 15, .int .i64 a, .int .i64 v, .int .i64 n, .slice A4 m4 c4] 51)) := (Fr.refl _ w).alloc _
  have s0 := s.fr0 hf0
  have hb0 := hb.fr hf0 hB (fun _ _ x => x)
  have hB0 : B ≤ (w.alloc (.cells #[.int .i64 15, .int .i64 a, .int .i64 v, .int .i64 n, .slice A4 m4 c4] 51)).heap.size := Nat.le_trans hB hf0.size
  have hnb : ∀ k, In4 p g q g2 k → k ≠ w.heap.size := fun k hk e => by have := (in4_hi s hk).2; omega
  rw [hm4] at *
  have H1 := Lib.hid (fun W (hW : Fr0 (w.alloc (.cells #[.int .i64 15, .int .i64 a, .int .i64 v, .int .i64 n, .slice A4 m4 c4] 51)) W) => Align_any n W (s0.sp.fr0 hW) s0.d0 s0.d1 s0.h0 s0.h1)
  have H2 := Lib.hid (fun W (hW : RSp W q g2 bs here (77824 + dict)) (hL : Fr (fun k => k = p ∨ k = g) (w.alloc (.cells #[.int .i64 15, .int .i64 a, .int .i64 v, .int .i64 n, .slice A4 m4 c4] 51)) W) => AlignR n W hW s0.h0 s0.h1 (by have := s0.d1; omega))
  have HX := Lib.hid hx0
  have HS := Lib.hid s0
  have HF := Lib.hid hf0
  have HN := Lib.hid hnb
  obtain ⟨d0, d1, d2, d3, d4⟩ := cells5 hx0
  clear hx0 s0 s hf0 hb hb0 hB hB0 hm4 ha hv hn hnb
  go_enter Try.func40, Try.ntmps40
  go_wp2_with (first | (go_at_call 25; refine (H1.out _ (Fr.refl _ _)).mono ?_; rintro e w1 ⟨rfl, hf1, h1⟩; have hg1 : Fr (fun k => k = p ∨ k = g) (w.alloc (.cells #[.int .i64 15, .int .i64 a, .int .i64 v, .int .i64 n, .slice A4 m4 c4] 51)) w1 := hf1.mono fun _ _ e => .inl e; have d6 := HX.out.fr hg1 (fun e => HN.out _ (e.elim .inl (fun e => .inr (.inl e))) rfl); obtain ⟨e0, e1, e2, e3, e4⟩ := cells5 d6; have HX1 := Lib.hid d6; clear d6) | (go_at_call 62; refine (H2.out _ (HS.out.rs1 hg1) hg1).mono ?_; rintro e w2 ⟨rfl, hf2, h2⟩; have hg2 : Fr (fun k => k = q ∨ k = g2) w1 w2 := hf2.mono fun _ _ e => .inl e; have hst' := HS.out.step hg1 (h1) hg2 (h2) (algH_in HS.out.h0 HS.out.h1).1 (algH_in HS.out.h0 HS.out.h1).2; have hst := hst'.1; have hfi := hst'.2; have d7 := HX1.out.fr hg2 (fun e => HN.out _ (e.elim (fun e => .inr (.inr (.inl e))) (fun e => .inr (.inr (.inr e)))) rfl); obtain ⟨f0, f1, f2, f3, f4⟩ := cells5 d7; clear d7))
  go_ret
  refine ⟨rfl, ?_, _, _, hst⟩
  exact (HF.out.of0 (S := In4 p g q g2)).trans hfi

set_option maxRecDepth 100000 in
set_option maxHeartbeats 4000000 in
theorem does_16 (w : World) (s : St9 B w p g q g2 bs dict here) (a v n : Int) (sv : Value) (xs : List Int) (ha : i64 a) (hv : i64 v) (hn : i64 n) (hb : Row8 w B sv xs) (hB : B ≤ w.heap.size) :
    Calls Try.prog 40 #[.pointer (some ⟨p, 0, none⟩), .pointer (some ⟨q, 0, none⟩), .agg #[.int .i64 16, .int .i64 a, .int .i64 v, .int .i64 n, sv]] w (After9 B p g q g2 dict w) := by
  obtain ⟨A4, c4, rfl⟩ := hb.len_
  obtain ⟨m4, hm4⟩ : ∃ m4, xs.length = m4 := ⟨_, rfl⟩
  have hx0 : Blk (w.alloc (.cells #[.int .i64 16, .int .i64 a, .int .i64 v, .int .i64 n, .slice A4 m4 c4] 51)) w.heap.size 51 #[.int .i64 16, .int .i64 a, .int .i64 v, .int .i64 n, .slice A4 m4 c4] := Blk.new w _ _
  have hf0 : Fr0 w (w.alloc (.cells #[.int .i64 16, .int .i64 a, .int .i64 v, .int .i64 n, .slice A4 m4 c4] 51)) := (Fr.refl _ w).alloc _
  have s0 := s.fr0 hf0
  have hb0 := hb.fr hf0 hB (fun _ _ x => x)
  have hB0 : B ≤ (w.alloc (.cells #[.int .i64 16, .int .i64 a, .int .i64 v, .int .i64 n, .slice A4 m4 c4] 51)).heap.size := Nat.le_trans hB hf0.size
  have hnb : ∀ k, In4 p g q g2 k → k ≠ w.heap.size := fun k hk e => by have := (in4_hi s hk).2; omega
  rw [hm4] at *
  have H1 := Lib.hid (fun W (hW : Fr0 (w.alloc (.cells #[.int .i64 16, .int .i64 a, .int .i64 v, .int .i64 n, .slice A4 m4 c4] 51)) W) => System_any a v W (s0.sp.fr0 hW) ha)
  have H2 := Lib.hid (fun W (hW : RSp W q g2 bs here (77824 + dict)) (hL : Fr (fun k => k = p ∨ k = g) (w.alloc (.cells #[.int .i64 16, .int .i64 a, .int .i64 v, .int .i64 n, .slice A4 m4 c4] 51)) W) => SystemR a v W hW ha hv)
  have HX := Lib.hid hx0
  have HS := Lib.hid s0
  have HF := Lib.hid hf0
  have HN := Lib.hid hnb
  obtain ⟨d0, d1, d2, d3, d4⟩ := cells5 hx0
  clear hx0 s0 s hf0 hb hb0 hB hB0 hm4 ha hv hn hnb
  go_enter Try.func40, Try.ntmps40
  go_wp2_with (first | (go_at_call 26; refine (H1.out _ (Fr.refl _ _)).mono ?_; rintro e w1 ⟨rfl, hf1, h1⟩; have hg1 : Fr (fun k => k = p ∨ k = g) (w.alloc (.cells #[.int .i64 16, .int .i64 a, .int .i64 v, .int .i64 n, .slice A4 m4 c4] 51)) w1 := hf1.mono fun _ _ e => .inr e; have d6 := HX.out.fr hg1 (fun e => HN.out _ (e.elim .inl (fun e => .inr (.inl e))) rfl); obtain ⟨e0, e1, e2, e3, e4⟩ := cells5 d6; have HX1 := Lib.hid d6; clear d6) | (go_at_call 63; refine (H2.out _ (HS.out.rs1 hg1) hg1).mono ?_; rintro e w2 ⟨rfl, hf2, h2⟩; have hg2 : Fr (fun k => k = q ∨ k = g2) w1 w2 := hf2.mono fun _ _ e => .inr e; have hst' := HS.out.step hg1 (h1) hg2 (h2) (And.intro HS.out.h0 HS.out.h1).1 (And.intro HS.out.h0 HS.out.h1).2; have hst := hst'.1; have hfi := hst'.2; have d7 := HX1.out.fr hg2 (fun e => HN.out _ (e.elim (fun e => .inr (.inr (.inl e))) (fun e => .inr (.inr (.inr e)))) rfl); obtain ⟨f0, f1, f2, f3, f4⟩ := cells5 d7; clear d7))
  go_ret
  refine ⟨rfl, ?_, _, _, hst⟩
  exact (HF.out.of0 (S := In4 p g q g2)).trans hfi

set_option maxRecDepth 100000 in
set_option maxHeartbeats 4000000 in
theorem does_8 (w : World) (s : St9 B w p g q g2 bs dict here) (a v n : Int) (sv : Value) (xs : List Int) (ha : i64 a) (hv : i64 v) (hn : i64 n) (hb : Row8 w B sv xs) (hB : B ≤ w.heap.size) :
    Calls Try.prog 40 #[.pointer (some ⟨p, 0, none⟩), .pointer (some ⟨q, 0, none⟩), .agg #[.int .i64 8, .int .i64 a, .int .i64 v, .int .i64 n, sv]] w (After9 B p g q g2 dict w) := by
  obtain ⟨A4, c4, rfl⟩ := hb.len_
  obtain ⟨m4, hm4⟩ : ∃ m4, xs.length = m4 := ⟨_, rfl⟩
  have hx0 : Blk (w.alloc (.cells #[.int .i64 8, .int .i64 a, .int .i64 v, .int .i64 n, .slice A4 m4 c4] 51)) w.heap.size 51 #[.int .i64 8, .int .i64 a, .int .i64 v, .int .i64 n, .slice A4 m4 c4] := Blk.new w _ _
  have hf0 : Fr0 w (w.alloc (.cells #[.int .i64 8, .int .i64 a, .int .i64 v, .int .i64 n, .slice A4 m4 c4] 51)) := (Fr.refl _ w).alloc _
  have s0 := s.fr0 hf0
  have hb0 := hb.fr hf0 hB (fun _ _ x => x)
  have hB0 : B ≤ (w.alloc (.cells #[.int .i64 8, .int .i64 a, .int .i64 v, .int .i64 n, .slice A4 m4 c4] 51)).heap.size := Nat.le_trans hB hf0.size
  have hnb : ∀ k, In4 p g q g2 k → k ≠ w.heap.size := fun k hk e => by have := (in4_hi s hk).2; omega
  rw [hm4] at *
  have H1 := Lib.hid (fun W (hW : Fr0 (w.alloc (.cells #[.int .i64 8, .int .i64 a, .int .i64 v, .int .i64 n, .slice A4 m4 c4] 51)) W) => Put_any a (.slice A4 m4 c4) xs W (s0.sp.fr0 hW) ha B (hb0.fr hW hB0 (fun _ _ x => x)) (Nat.le_trans hB0 hW.size))
  have H2 := Lib.hid (fun W (hW : RSp W q g2 bs here (77824 + dict)) (hL : Fr (fun k => k = p ∨ k = g) (w.alloc (.cells #[.int .i64 8, .int .i64 a, .int .i64 v, .int .i64 n, .slice A4 m4 c4] 51)) W) => PutR a (.slice A4 m4 c4) xs W hW ha B (hb0.fr hL hB0 (fun k hk e => by have := s0.lo; omega)) (row8_far hb0 hB0 hL s0.lo.2.1))
  have HX := Lib.hid hx0
  have HS := Lib.hid s0
  have HF := Lib.hid hf0
  have HN := Lib.hid hnb
  obtain ⟨d0, d1, d2, d3, d4⟩ := cells5 hx0
  clear hx0 s0 s hf0 hb hb0 hB hB0 hm4 ha hv hn hnb
  go_enter Try.func40, Try.ntmps40
  go_wp2
  go_region_held3 (fun W => W.cell? ⟨w.heap.size, 0, none⟩ = some (.int .i64 8) ∧ W.cell? ⟨w.heap.size, 1, none⟩ = some (.int .i64 a) ∧ W.cell? ⟨w.heap.size, 2, none⟩ = some (.int .i64 v) ∧ W.cell? ⟨w.heap.size, 3, none⟩ = some (.int .i64 n) ∧ W.cell? ⟨w.heap.size, 4, none⟩ = some (.slice A4 m4 c4)) (first | exact ⟨d0, d1, d2, d3, d4⟩ | exact ⟨e0, e1, e2, e3, e4⟩ | exact ⟨f0, f1, f2, f3, f4⟩) (first | (go_at_call 15; refine (H1.out _ ((Fr.refl _ _).drew)).mono ?_; rintro e w1 ⟨rfl, hf1, h1⟩; have hg1 : Fr (fun k => k = p ∨ k = g) (w.alloc (.cells #[.int .i64 8, .int .i64 a, .int .i64 v, .int .i64 n, .slice A4 m4 c4] 51)) w1 := ((Fr.refl _ (w.alloc (.cells #[.int .i64 8, .int .i64 a, .int .i64 v, .int .i64 n, .slice A4 m4 c4] 51))).drew.trans (hf1.mono fun _ _ e => .inr e)); have d6 := HX.out.fr hg1 (fun e => HN.out _ (e.elim .inl (fun e => .inr (.inl e))) rfl); obtain ⟨e0, e1, e2, e3, e4⟩ := cells5 d6; have HX1 := Lib.hid d6; clear d6) | (go_at_call 55; refine (H2.out _ (HS.out.rs1 hg1) hg1).mono ?_; rintro e w2 ⟨rfl, hf2, h2⟩; have hg2 : Fr (fun k => k = q ∨ k = g2) w1 w2 := hf2.mono fun _ _ e => .inr e; have hst' := HS.out.step hg1 (h1) hg2 (h2) (And.intro HS.out.h0 HS.out.h1).1 (And.intro HS.out.h0 HS.out.h1).2; have hst := hst'.1; have hfi := hst'.2; have d7 := HX1.out.fr hg2 (fun e => HN.out _ (e.elim (fun e => .inr (.inr (.inl e))) (fun e => .inr (.inr (.inr e)))) rfl); obtain ⟨f0, f1, f2, f3, f4⟩ := cells5 d7; clear d7))
  go_wp2
  go_ret
  refine ⟨by simp, ?_, _, _, hst⟩
  exact (HF.out.of0 (S := In4 p g q g2)).trans hfi
end
end Go.Proofs.Ytkgihajpobajaaa
