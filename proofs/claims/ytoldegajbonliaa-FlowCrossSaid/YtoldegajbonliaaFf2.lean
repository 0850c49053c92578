/- Flow: jumps that lead here, jumps that lead on. -/
import Derived.Test.YtoldegajbonliaaFf
namespace Go.Proofs.Ytoldegajbonliaa
open Go Go.RowKit
set_option linter.unusedVariables false
attribute [local go_sem] Oper.semAt_some

theorem Turn.after {S S' T : Nat → Prop} {a b e : World} (h : Turn S S' a b) (f : Fr T b e) (hT : ∀ k, T k → a.heap.size ≤ k) : Turn S S' a e :=
  ⟨h.1.then f (fun i hi ht => by have := hT i ht; omega), h.2⟩
section
variable {w w' : World} {B f p g scap q cap : Nat} {tv tv' : Value} {ts ts' : List Tk} {st : List Th} {T : Nat → Prop}
set_option maxRecDepth 100000 in
set_option maxHeartbeats 2000000 in
theorem join_f (at_ : Int) (w : World) (h : Fl w B f p st g scap ts q cap tv) : Calls Try.prog 79 #[.pointer (some ⟨f, 0, none⟩), .int .i64 at_] w fun e w' => (∃ v, e = .returned v) ∧ Fl w' B f p st g scap (patchT ts at_ ts.length) q cap tv ∧ Turn (FlIn f p q tv g st) (FlIn f p q tv g st) w w' := by
  have HH := Lib.hid (h.fr0 (Fr.refl (fun _ => False) w).drew)
  have HHE := Lib.hid (here_f _ HH.out)
  obtain ⟨c0, c1, _⟩ := h.cells
  obtain ⟨n, hn⟩ : ∃ n, ts.length = n := ⟨_, rfl⟩
  have HN := Lib.hid hn
  rw [hn] at HHE ⊢
  clear h hn
  go_enter Try.func79, Try.ntmps79
  go_wp2_with fail
  go_region_held3 (fun V => V.cell? ⟨f, 0, none⟩ = some (.pointer (some ⟨p, 0, none⟩)) ∧ V.cell? ⟨f, 1, none⟩ = some (.int .i64 1)) (first | exact ⟨c0, c1⟩ | exact ⟨hx.1.cells.1, hx.1.cells.2.1⟩ | exact ⟨hh.cells.1, hh.cells.2.1⟩) (first | (go_at_call 81; refine HHE.out.mono ?_; rintro e w2 ⟨rfl, f2⟩; have hh := HH.out.fr0 f2) | (go_at_call 86; refine (Patch_p _ _ _ hh.pl).mono ?_; rintro e w3 ⟨rfl, h3, f3⟩; have hx := hh.pool h3 ⟨f3, fun k hk => .inl hk⟩))
  have HX := Lib.hid hx
  have HF2 := Lib.hid ((Fr.refl (fun _ => False) w).drew.trans f2)
  clear hx h3 f3 hh f2
  go_wp2_with fail
  refine bodyPost_end (results_none rfl _ _ _) rfl ?_
  refine ⟨⟨_, rfl⟩, ?_, ?_⟩
  · rw [HN.out] at *
    exact HX.out.1
  · exact (Turn.of0 HF2.out).trans HX.out.2
theorem fr3 {V : World} {g : Nat} (u0 u1 u2 : Value) : Fr (fun k => k = g) V (((V.setCell ⟨g, 0, none⟩ u0).setCell ⟨g, 1, none⟩ u1).setCell ⟨g, 2, none⟩ u2) :=
  (((Fr.refl (fun k => k = g) V).setCell (p := ⟨g, 0, none⟩) (.inl rfl) u0).setCell (p := ⟨g, 1, none⟩) (.inl rfl) u1).setCell (p := ⟨g, 2, none⟩) (.inl rfl) u2
set_option maxRecDepth 100000 in
set_option maxHeartbeats 2000000 in
theorem on_f (op kind : Int) (w : World) (h : Fl w B f p st g scap ts q cap tv) (hl : ts.length < 50000) : Calls Try.prog 80 #[.pointer (some ⟨f, 0, none⟩), .int .i64 op, .int .i64 kind] w fun e w' => e = .returned (.tuple #[.agg #[.int .i64 kind, .int .i64 ts.length, .slice none 0 0], .int .i64 0]) ∧ ∃ tv', Fl w' B f p st g scap (ts ++ [⟨op, 0, 0⟩]) q cap tv' ∧ Turn (FlIn f p q tv g st) (FlIn f p q tv' g st) w w' := by
  have hf := (Fr.refl (fun _ => False) w).alloc (.cells #[.int .i64 0, .int .i64 0, .slice none 0 0] 64)
  have hbx := Blk.new w 64 #[.int .i64 0, .int .i64 0, .slice none 0 0]
  have hsz : (w.alloc (.cells #[.int .i64 0, .int .i64 0, .slice none 0 0] 64)).heap.size = w.heap.size + 1 := by simp
  have HH := Lib.hid (h.fr0 hf)
  have HLA := Lib.hid (lay_f op 0 _ HH.out hl)
  have HIN := Lib.hid (show ∀ k, FlIn f p q tv g st k → k < w.heap.size from fun k hk => (h.in_lo hk).2)
  have HF := Lib.hid hf
  have HBX := Lib.hid hbx
  have HSZ := Lib.hid hsz
  obtain ⟨n, hn⟩ : ∃ n, ts.length = n := ⟨_, rfl⟩
  rw [hn] at HLA ⊢
  clear h hn hf hbx hsz
  go_enter Try.func80, Try.ntmps80
  go_wp2_with (go_at_call 35; refine HLA.out.mono ?_; rintro e w2 ⟨rfl, tv2, h2, t2⟩; have H2 := Lib.hid h2; have T2 := Lib.hid t2; have hb := HBX.out.fr t2.1 (fun e => Nat.lt_irrefl _ (HIN.out _ e)); have z0 := hb.cell 0; have z1 := hb.cell 1; have z2 := hb.cell 2; have y0 := hb.frozen 0; have y1 := hb.frozen 1; have y2 := hb.frozen 2; clear h2 t2 hb)
  have hb := HBX.out.fr T2.out.1 (fun e => Nat.lt_irrefl _ (HIN.out _ e))
  have hb9 := ((hb.set_ 0 (.int .i64 kind)).set_ 1 (.int .i64 n)).set_ 2 (.slice none 0 0)
  have hf9 := fr3 (V := w2) (g := w.heap.size) (.int .i64 kind) (.int .i64 n) (.slice none 0 0)
  simp only [List.setIfInBounds_toArray, List.set_cons_zero, List.set_cons_succ] at hb9
  obtain ⟨W9, hW9⟩ : ∃ W9, ((w2.setCell ⟨w.heap.size, 0, none⟩ (.int .i64 kind)).setCell ⟨w.heap.size, 1, none⟩ (.int .i64 n)).setCell ⟨w.heap.size, 2, none⟩ (.slice none 0 0) = W9 := ⟨_, rfl⟩
  rw [hW9] at hb9 hf9 ⊢
  have r0 : W9.cell? ⟨w.heap.size, 0, none⟩ = some (.int .i64 kind) := hb9.cell 0
  have r1 : W9.cell? ⟨w.heap.size, 1, none⟩ = some (.int .i64 n) := hb9.cell 1
  have r2 : W9.cell? ⟨w.heap.size, 2, none⟩ = some (.slice none 0 0) := hb9.cell 2
  clear z0 z1 z2 y0 y1 y2 hW9 hb hb9
  refine bodyPost_ret (v := .tuple #[.agg #[.int .i64 kind, .int .i64 n, .slice none 0 0], .int .i64 0]) (by simp [results, Try.results80, go_sem, r0, r1, r2]) rfl ⟨rfl, tv2, H2.out.fr hf9 (fun k hk he => ?_), ((Turn.of0 HF.out).trans T2.out).after hf9 (fun k hk => by rw [hk]; exact Nat.le_refl _)⟩
  subst he
  rcases T2.out.2 _ hk with h1 | h1
  · exact Nat.lt_irrefl _ (HIN.out _ h1)
  · have := HSZ.out
    omega
end
end Go.Proofs.Ytoldegajbonliaa
