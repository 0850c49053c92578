/- Flow: what words do: Ahead, Else, Begin, Again, Until, Repeat, DoLoop, Case. -/
import Derived.Test.YtoldegajbonliaaFd1
namespace Go.Proofs.Ytoldegajbonliaa
open Go Go.RowKit
set_option linter.unusedVariables false
attribute [local go_sem] Oper.semAt_some

section
variable {w w' : World} {B f p g scap q cap : Nat} {tv tv' lv : Value} {ts ts' : List Tk} {st l : List Th} {T : Nat → Prop}
theorem Out.up {w0 : World} {nv : Value} {news : List Th} (h : Out w w' B st nv news) (hf : w0.heap.size ≤ w.heap.size) : Out w0 w' B st nv news :=
  ⟨h.rd, h.at0, h.nil0, fun x hx => ⟨(h.js x hx).1, fun k hk => ((h.js x hx).2 k hk).imp id (fun e => Nat.le_trans hf e)⟩⟩
set_option maxRecDepth 100000 in
theorem jumpAhead_f (w : World) (h : Fl w B f p st g scap ts q cap tv) (hl : ts.length < 50000) : Calls Try.prog 54 #[.pointer (some ⟨f, 0, none⟩), lv] w fun e w' => ∃ nv, e = .returned (.tuple #[nv, .int .i64 0]) ∧ Out w w' B st nv [⟨1, ts.length, [], .slice none 0 0⟩] ∧ ∃ tv', Fl w' B f p st g scap (ts ++ [⟨6, 0, 0⟩]) q cap tv' ∧ Turn (FlIn f p q tv g st) (FlIn f p q tv' g st) w w' := by
  have HON := Lib.hid (jump_f 6 w h hl)
  clear h
  go_enter Try.func54, Try.ntmps54
  go_wp2_with (go_at_call 78; refine HON.out.mono ?_; rintro e w2 ⟨nv, rfl, ho, tv2, h2, t2⟩; have HO := Lib.hid ho; have H2 := Lib.hid h2; have T2 := Lib.hid t2; clear h2 t2 ho)
  go_ret2
  exact ⟨_, rfl, HO.out, _, H2.out, T2.out⟩
set_option maxRecDepth 100000 in
theorem begin_f (w : World) (h : Fl w B f p st g scap ts q cap tv) : Calls Try.prog 57 #[.pointer (some ⟨f, 0, none⟩), lv] w fun e w' => ∃ nv, e = .returned (.tuple #[nv, .int .i64 0]) ∧ Out w w' B st nv [⟨2, ts.length, [], .slice none 0 0⟩] ∧ ∃ tv', Fl w' B f p st g scap ts q cap tv' ∧ Turn (FlIn f p q tv g st) (FlIn f p q tv' g st) w w' := by
  have HHE := Lib.hid (here_f w h)
  have HH := Lib.hid h
  clear h
  go_enter Try.func57, Try.ntmps57
  go_wp2_with (go_at_call 81; refine HHE.out.mono ?_; rintro e w2 ⟨rfl, f2⟩)
  go_ret2
  have hf := f2.alloc (.cells #[.int .i64 2, .int .i64 ts.length, .slice none 0 0] 64)
  exact ⟨_, rfl, Out.one w w2 B st 2 ts.length, _, HH.out.fr0 hf, Turn.of0 hf⟩
set_option maxRecDepth 100000 in
theorem choose_f (w : World) (h : Fl w B f p st g scap ts q cap tv) : Calls Try.prog 67 #[.pointer (some ⟨f, 0, none⟩), lv] w fun e w' => ∃ nv, e = .returned (.tuple #[nv, .int .i64 0]) ∧ Out w w' B st nv [⟨4, 0, [], .slice none 0 0⟩] ∧ ∃ tv', Fl w' B f p st g scap ts q cap tv' ∧ Turn (FlIn f p q tv g st) (FlIn f p q tv' g st) w w' := by
  have HH := Lib.hid h
  clear h
  go_enter Try.func67, Try.ntmps67
  go_wp2_with fail
  go_ret2
  have hf := (Fr.refl (fun _ => False) w).alloc (.cells #[.int .i64 4, .int .i64 0, .slice none 0 0] 64)
  exact ⟨_, rfl, Out.one w w B st 4 0, _, HH.out.fr0 hf, Turn.of0 hf⟩
set_option maxRecDepth 100000 in
set_option maxHeartbeats 2000000 in
theorem loop_f (w : World) (h : Fl w B f p st g scap ts q cap tv) (hl : ts.length < 50000) : Calls Try.prog 62 #[.pointer (some ⟨f, 0, none⟩), lv] w fun e w' => ∃ nv, e = .returned (.tuple #[nv, .int .i64 0]) ∧ Out w w' B st nv [⟨3, (ts ++ [(⟨8, 0, 0⟩ : Tk)]).length, [], .slice none 0 0⟩] ∧ ∃ tv', Fl w' B f p st g scap (ts ++ [⟨8, 0, 0⟩]) q cap tv' ∧ Turn (FlIn f p q tv g st) (FlIn f p q tv' g st) w w' := by
  have HLA := Lib.hid (lay_f 8 0 w h hl)
  clear h
  obtain ⟨n, hn⟩ : ∃ n, (ts ++ [(⟨8, 0, 0⟩ : Tk)]).length = n := ⟨_, rfl⟩
  rw [hn]
  have HN := Lib.hid hn
  clear hn
  go_enter Try.func62, Try.ntmps62
  go_wp2_with (first | (go_at_call 35; refine HLA.out.mono ?_; rintro e w2 ⟨rfl, tv2, h2, t2⟩; have H2 := Lib.hid h2; have T2 := Lib.hid t2; have HHE := here_f w2 h2; rw [HN.out] at HHE; have HHE := Lib.hid HHE; clear h2 t2) | (go_at_call 81; refine HHE.out.mono ?_; rintro e w3 ⟨rfl, f3⟩))
  go_ret2
  have hf := f3.alloc (.cells #[.int .i64 3, .int .i64 n, .slice none 0 0] 64)
  exact ⟨_, rfl, Out.one w w3 B st 3 n, _, H2.out.fr0 hf, T2.out.trans (Turn.of0 hf)⟩
set_option maxRecDepth 100000 in
set_option maxHeartbeats 2000000 in
theorem otherwise_f (x : Th) (w : World) (h : Fl w B f p st g scap ts q cap tv) (hi : In_ w g st lv [x]) (hl : ts.length < 50000) : Calls Try.prog 56 #[.pointer (some ⟨f, 0, none⟩), lv] w fun e w' => ∃ nv, e = .returned (.tuple #[nv, .int .i64 0]) ∧ Out w w' B st nv [⟨1, ts.length, [], .slice none 0 0⟩] ∧ ∃ tv', Fl w' B f p st g scap (patchT (ts ++ [⟨6, 0, 0⟩]) x.place (ts ++ [(⟨6, 0, 0⟩ : Tk)]).length) q cap tv' ∧ Turn (FlIn f p q tv g st) (FlIn f p q tv' g st) w w' := by
  have HON := Lib.hid (on_f 6 1 w h hl)
  have hlv : ∃ off c, lv = .slice (some ⟨g, off, none⟩) 1 c := by
    obtain ⟨off, c, e, _⟩ := hi.at0 h
    exact ⟨off, c, e⟩
  obtain ⟨off, c, rfl⟩ := hlv
  have HI := Lib.hid hi
  have HIN := Lib.hid (show ∀ k, FlIn f p q tv g st k → k < w.heap.size from fun k hk => (h.in_lo hk).2)
  clear h hi
  obtain ⟨n, hn⟩ : ∃ n, ts.length = n := ⟨_, rfl⟩
  rw [hn] at HON ⊢
  clear hn
  go_enter Try.func56, Try.ntmps56
  go_wp2_with (first | (go_at_call 80; refine HON.out.mono ?_; rintro e w2 ⟨rfl, tv2, h2, t2⟩; have hfa := (Fr.refl (fun _ => False) w2).alloc (.cells #[.int .i64 1, .int .i64 n, .slice none 0 0] 64); have hb := Blk.new w2 64 #[.int .i64 1, .int .i64 n, .slice none 0 0]; have H2 := Lib.hid (h2.fr0 hfa); have HSZ2 := Lib.hid (show ∀ k, FlIn f p q tv2 g st k → k < w2.heap.size from fun k hk => (h2.in_lo hk).2); have T2 := Lib.hid (t2.trans (Turn.of0 hfa)); have HB := Lib.hid hb; obtain ⟨off', c', e', d0, d1, d2⟩ := HI.out.at0 H2.out; injection e' with e'; injection e' with e'; injection e' with _ e'; subst e'; clear h2 t2 hfa hb) | (go_at_call 79; refine (join_f _ _ H2.out).mono ?_; rintro e w3 ⟨⟨v, rfl⟩, h3, t3⟩; have H3 := Lib.hid h3; have T3 := Lib.hid t3; have hb := HB.out.fr t3.1 (fun e => Nat.lt_irrefl _ (HSZ2.out _ e)); have z0 := hb.cell 0; have z1 := hb.cell 1; have z2 := hb.cell 2; clear h3 t3 hb))
  go_ret2
  have hf := (Fr.refl (fun _ => False) w3).alloc (.cells #[.int .i64 1, .int .i64 n, .slice none 0 0] 64)
  exact ⟨_, rfl, Out.one w w3 B st 1 n, _, H3.out.fr0 hf, (T2.out.trans T3.out).trans (Turn.of0 hf)⟩
end
end Go.Proofs.Ytoldegajbonliaa
