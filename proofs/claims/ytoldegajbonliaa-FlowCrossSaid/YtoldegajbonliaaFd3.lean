/- Flow: what words do: Again, Until, Repeat, While, Of. -/
import Derived.Test.YtoldegajbonliaaFd2
namespace Go.Proofs.Ytoldegajbonliaa
open Go Go.RowKit
set_option linter.unusedVariables false
attribute [local go_sem] Oper.semAt_some

section
variable {w w' : World} {B f p g scap q cap : Nat} {tv tv' lv : Value} {ts ts' : List Tk} {st l : List Th} {T : Nat → Prop}
set_option maxRecDepth 100000 in
set_option maxHeartbeats 2000000 in
theorem again_f (x : Th) (w : World) (h : Fl w B f p st g scap ts q cap tv) (hi : In_ w g st lv [x]) (hl : ts.length < 50000) : Calls Try.prog 58 #[.pointer (some ⟨f, 0, none⟩), lv] w fun e w' => ∃ nv, e = .returned (.tuple #[nv, .int .i64 0]) ∧ Out w w' B st nv [] ∧ ∃ tv', Fl w' B f p st g scap (ts ++ [⟨6, x.place, 0⟩]) q cap tv' ∧ Turn (FlIn f p q tv g st) (FlIn f p q tv' g st) w w' := by
  have HLA := Lib.hid (lay_f 6 x.place w h hl)
  obtain ⟨off, c, rfl, d0, d1, d2⟩ := hi.at0 h
  clear h hi
  go_enter Try.func58, Try.ntmps58
  go_wp2_with (go_at_call 35; refine HLA.out.mono ?_; rintro e w2 ⟨rfl, tv2, h2, t2⟩; have H2 := Lib.hid h2; have T2 := Lib.hid t2; clear h2 t2)
  go_ret2
  exact ⟨_, rfl, Out.nil _ _ _ _, _, H2.out, T2.out⟩
set_option maxRecDepth 100000 in
set_option maxHeartbeats 2000000 in
theorem until_f (x : Th) (w : World) (h : Fl w B f p st g scap ts q cap tv) (hi : In_ w g st lv [x]) (hl : ts.length < 50000) : Calls Try.prog 59 #[.pointer (some ⟨f, 0, none⟩), lv] w fun e w' => ∃ nv, e = .returned (.tuple #[nv, .int .i64 0]) ∧ Out w w' B st nv [] ∧ ∃ tv', Fl w' B f p st g scap (ts ++ [⟨7, x.place, 0⟩]) q cap tv' ∧ Turn (FlIn f p q tv g st) (FlIn f p q tv' g st) w w' := by
  have HLA := Lib.hid (lay_f 7 x.place w h hl)
  obtain ⟨off, c, rfl, d0, d1, d2⟩ := hi.at0 h
  clear h hi
  go_enter Try.func59, Try.ntmps59
  go_wp2_with (go_at_call 35; refine HLA.out.mono ?_; rintro e w2 ⟨rfl, tv2, h2, t2⟩; have H2 := Lib.hid h2; have T2 := Lib.hid t2; clear h2 t2)
  go_ret2
  exact ⟨_, rfl, Out.nil _ _ _ _, _, H2.out, T2.out⟩
set_option maxRecDepth 100000 in
set_option maxHeartbeats 2000000 in
theorem repeat_f (x y : Th) (w : World) (h : Fl w B f p st g scap ts q cap tv) (hi : In_ w g st lv [x, y]) (hl : ts.length < 50000) : Calls Try.prog 61 #[.pointer (some ⟨f, 0, none⟩), lv] w fun e w' => ∃ nv, e = .returned (.tuple #[nv, .int .i64 0]) ∧ Out w w' B st nv [] ∧ ∃ tv', Fl w' B f p st g scap (patchT (ts ++ [⟨6, y.place, 0⟩]) x.place (ts ++ [(⟨6, y.place, 0⟩ : Tk)]).length) q cap tv' ∧ Turn (FlIn f p q tv g st) (FlIn f p q tv' g st) w w' := by
  have HLA := Lib.hid (lay_f 6 y.place w h hl)
  obtain ⟨off, c, rfl, d0, d1, d2, d3, d4, d5⟩ := hi.at1 h
  have HI := Lib.hid hi
  clear h hi
  go_enter Try.func61, Try.ntmps61
  go_wp2_with (first | (go_at_call 35; refine HLA.out.mono ?_; rintro e w2 ⟨rfl, tv2, h2, t2⟩; have H2 := Lib.hid h2; have T2 := Lib.hid t2; clear d0 d1 d2 d3 d4 d5; obtain ⟨off', c', e', d0, d1, d2, d3, d4, d5⟩ := HI.out.at1 h2; injection e' with e'; injection e' with e'; injection e' with _ e'; subst e'; clear h2 t2) | (go_at_call 79; refine (join_f _ _ H2.out).mono ?_; rintro e w3 ⟨⟨v, rfl⟩, h3, t3⟩; have H3 := Lib.hid h3; have T3 := Lib.hid t3; clear h3 t3))
  go_ret2
  exact ⟨_, rfl, Out.nil _ _ _ _, _, H3.out, T2.out.trans T3.out⟩
set_option maxRecDepth 100000 in
set_option maxHeartbeats 4000000 in
theorem while_f (x : Th) (w : World) (h : Fl w B f p st g scap ts q cap tv) (hi : In_ w g st lv [x]) (hl : ts.length < 50000) : Calls Try.prog 60 #[.pointer (some ⟨f, 0, none⟩), lv] w fun e w' => ∃ nv, e = .returned (.tuple #[nv, .int .i64 0]) ∧ Out w w' B st nv [⟨1, ts.length, [], .slice none 0 0⟩, x] ∧ ∃ tv', Fl w' B f p st g scap (ts ++ [⟨7, 0, 0⟩]) q cap tv' ∧ Turn (FlIn f p q tv g st) (FlIn f p q tv' g st) w w' := by
  have HON := Lib.hid (on_f 7 1 w h hl)
  have hlv : ∃ off c, lv = .slice (some ⟨g, off, none⟩) 1 c := by
    obtain ⟨off, c, e, _⟩ := hi.at0 h
    exact ⟨off, c, e⟩
  obtain ⟨off, c, rfl⟩ := hlv
  have HI := Lib.hid hi
  have hxs := hi.sub x (List.mem_singleton.2 rfl)
  clear h hi
  obtain ⟨n, hn⟩ : ∃ n, ts.length = n := ⟨_, rfl⟩
  rw [hn] at HON ⊢
  clear hn
  go_enter Try.func60, Try.ntmps60
  go_wp2_with (go_at_call 80; refine HON.out.mono ?_; rintro e w2 ⟨rfl, tv2, h2, t2⟩; have hfa := (Fr.refl (fun _ => False) w2).alloc (.cells #[.int .i64 1, .int .i64 n, .slice none 0 0] 64); have hb := Blk.new w2 64 #[.int .i64 1, .int .i64 n, .slice none 0 0]; have H2 := Lib.hid (h2.fr0 hfa); have T2 := Lib.hid (t2.trans (Turn.of0 hfa)); have HB := Lib.hid hb; clear h2 t2 hfa hb)
  obtain ⟨W3, hW3⟩ : ∃ W3, w2.alloc (.cells #[.int .i64 1, .int .i64 n, .slice none 0 0] 64) = W3 := ⟨_, rfl⟩
  obtain ⟨b3, hb3⟩ : ∃ b3, w2.heap.size = b3 := ⟨_, rfl⟩
  rw [hW3] at H2 T2 HB ⊢
  rw [hb3] at HB ⊢
  clear hW3 hb3
  obtain ⟨off', c', e', d0, d1, d2⟩ := HI.out.at0 H2.out
  injection e' with e'
  injection e' with e'
  injection e' with _ e'
  subst e'
  have hjx := H2.out.js x hxs
  obtain ⟨xk, xp, xs, xj⟩ := x
  dsimp only at d0 d1 d2 hjx ⊢
  obtain ⟨_, AJ, cj, hj, _⟩ := id hjx.1
  have HJ := Lib.hid hjx
  subst hj
  have z0 : W3.cell? ⟨b3, 0, none⟩ = some _ := HB.out.cell 0
  have z1 : W3.cell? ⟨b3, 1, none⟩ = some _ := HB.out.cell 1
  have z2 : W3.cell? ⟨b3, 2, none⟩ = some _ := HB.out.cell 2
  have HS := Lib.hid (show ∀ V, Fr0 W3 V → V.cell? ⟨b3, 0, none⟩ = some (.int .i64 1) ∧ V.cell? ⟨b3, 1, none⟩ = some (.int .i64 n) ∧ V.cell? ⟨b3, 2, none⟩ = some (.slice none 0 0) ∧ V.cell? ⟨g, off, none⟩ = some (.int .i64 xk) ∧ V.cell? ⟨g, off + 1, none⟩ = some (.int .i64 xp) ∧ V.cell? ⟨g, off + 2, none⟩ = some (.slice AJ xs.length cj) from fun V hV => ⟨(HB.out.fr0 hV).cell 0, (HB.out.fr0 hV).cell 1, (HB.out.fr0 hV).cell 2, (hV.cell (p := ⟨g, off, none⟩) (World.block_lt_of_cell? _ _ d0) (fun x => x)).trans d0, (hV.cell (p := ⟨g, off + 1, none⟩) (World.block_lt_of_cell? _ _ d1) (fun x => x)).trans d1, (hV.cell (p := ⟨g, off + 2, none⟩) (World.block_lt_of_cell? _ _ d2) (fun x => x)).trans d2⟩)
  have k1 := HS.out _ (Fr.refl (fun _ => False) W3).drew
  have k2 := HS.out _ ((Fr.refl (fun _ => False) W3).alloc (.cells #[.int .i64 1, .int .i64 n, .slice none 0 0, .int .i64 xk, .int .i64 xp, .slice AJ xs.length cj] 64)).drew
  clear z0 z1 z2 d0 d1 d2 hjx
  go_region_held3 (fun V => V.cell? ⟨b3, 0, none⟩ = some (.int .i64 1) ∧ V.cell? ⟨b3, 1, none⟩ = some (.int .i64 n) ∧ V.cell? ⟨b3, 2, none⟩ = some (.slice none 0 0) ∧ V.cell? ⟨g, off, none⟩ = some (.int .i64 xk) ∧ V.cell? ⟨g, off + 1, none⟩ = some (.int .i64 xp) ∧ V.cell? ⟨g, off + 2, none⟩ = some (.slice AJ xs.length cj)) (first | (with_reducible exact k1) | (with_reducible exact k2)) (fail)
  go_wp2_with fail
  go_ret2
  have hf := ((Fr.refl (fun _ => False) W3).alloc (.cells #[.int .i64 1, .int .i64 n, .slice none 0 0, .int .i64 xk, .int .i64 xp, .slice AJ xs.length cj] 64)).drew
  refine ⟨_, rfl, ⟨Rd.new W3 #[.int .i64 1, .int .i64 n, .slice none 0 0, .int .i64 xk, .int .i64 xp, .slice AJ xs.length cj] rfl 2, (fun A m c e => by injection e with e; injection e with e; rw [← e]), (fun e => by cases e), fun y hy => ?_⟩, _, H2.out.fr0 hf, T2.out.trans (Turn.of0 hf)⟩
  rcases (List.mem_cons.1 hy).imp id List.mem_singleton.1 with rfl | rfl
  · exact ⟨JR.nil _ _, fun k hk => by cases hk⟩
  · exact ⟨JR.fr HJ.out hf (fun _ _ e => e), fun k hk => .inl ⟨_, hxs, hk⟩⟩
set_option maxRecDepth 100000 in
set_option maxHeartbeats 4000000 in
theorem alike_f (x : Th) (w : World) (h : Fl w B f p st g scap ts q cap tv) (hi : In_ w g st lv [x]) (hl : ts.length < 50000) : Calls Try.prog 68 #[.pointer (some ⟨f, 0, none⟩), lv] w fun e w' => ∃ nv, e = .returned (.tuple #[nv, .int .i64 0]) ∧ Out w w' B st nv [x, ⟨5, ts.length, [], .slice none 0 0⟩] ∧ ∃ tv', Fl w' B f p st g scap (ts ++ [⟨13, 0, 0⟩]) q cap tv' ∧ Turn (FlIn f p q tv g st) (FlIn f p q tv' g st) w w' := by
  have HON := Lib.hid (on_f 13 5 w h hl)
  have hlv : ∃ off c, lv = .slice (some ⟨g, off, none⟩) 1 c := by
    obtain ⟨off, c, e, _⟩ := hi.at0 h
    exact ⟨off, c, e⟩
  obtain ⟨off, c, rfl⟩ := hlv
  have HI := Lib.hid hi
  have hxs := hi.sub x (List.mem_singleton.2 rfl)
  clear h hi
  obtain ⟨n, hn⟩ : ∃ n, ts.length = n := ⟨_, rfl⟩
  rw [hn] at HON ⊢
  clear hn
  go_enter Try.func68, Try.ntmps68
  go_wp2_with (go_at_call 80; refine HON.out.mono ?_; rintro e w2 ⟨rfl, tv2, h2, t2⟩; have hfa := (Fr.refl (fun _ => False) w2).alloc (.cells #[.int .i64 5, .int .i64 n, .slice none 0 0] 64); have hb := Blk.new w2 64 #[.int .i64 5, .int .i64 n, .slice none 0 0]; have H2 := Lib.hid (h2.fr0 hfa); have T2 := Lib.hid (t2.trans (Turn.of0 hfa)); have HB := Lib.hid hb; clear h2 t2 hfa hb)
  obtain ⟨W3, hW3⟩ : ∃ W3, w2.alloc (.cells #[.int .i64 5, .int .i64 n, .slice none 0 0] 64) = W3 := ⟨_, rfl⟩
  obtain ⟨b3, hb3⟩ : ∃ b3, w2.heap.size = b3 := ⟨_, rfl⟩
  rw [hW3] at H2 T2 HB ⊢
  rw [hb3] at HB ⊢
  clear hW3 hb3
  obtain ⟨off', c', e', d0, d1, d2⟩ := HI.out.at0 H2.out
  injection e' with e'
  injection e' with e'
  injection e' with _ e'
  subst e'
  have hjx := H2.out.js x hxs
  obtain ⟨xk, xp, xs, xj⟩ := x
  dsimp only at d0 d1 d2 hjx ⊢
  obtain ⟨_, AJ, cj, hj, _⟩ := id hjx.1
  have HJ := Lib.hid hjx
  subst hj
  have z0 : W3.cell? ⟨b3, 0, none⟩ = some _ := HB.out.cell 0
  have z1 : W3.cell? ⟨b3, 1, none⟩ = some _ := HB.out.cell 1
  have z2 : W3.cell? ⟨b3, 2, none⟩ = some _ := HB.out.cell 2
  have HS := Lib.hid (show ∀ V, Fr0 W3 V → V.cell? ⟨b3, 0, none⟩ = some (.int .i64 5) ∧ V.cell? ⟨b3, 1, none⟩ = some (.int .i64 n) ∧ V.cell? ⟨b3, 2, none⟩ = some (.slice none 0 0) ∧ V.cell? ⟨g, off, none⟩ = some (.int .i64 xk) ∧ V.cell? ⟨g, off + 1, none⟩ = some (.int .i64 xp) ∧ V.cell? ⟨g, off + 2, none⟩ = some (.slice AJ xs.length cj) from fun V hV => ⟨(HB.out.fr0 hV).cell 0, (HB.out.fr0 hV).cell 1, (HB.out.fr0 hV).cell 2, (hV.cell (p := ⟨g, off, none⟩) (World.block_lt_of_cell? _ _ d0) (fun x => x)).trans d0, (hV.cell (p := ⟨g, off + 1, none⟩) (World.block_lt_of_cell? _ _ d1) (fun x => x)).trans d1, (hV.cell (p := ⟨g, off + 2, none⟩) (World.block_lt_of_cell? _ _ d2) (fun x => x)).trans d2⟩)
  have k1 := HS.out _ (Fr.refl (fun _ => False) W3).drew
  have k2 := HS.out _ ((Fr.refl (fun _ => False) W3).alloc (.cells #[.int .i64 xk, .int .i64 xp, .slice AJ xs.length cj, .int .i64 5, .int .i64 n, .slice none 0 0] 64)).drew
  clear z0 z1 z2 d0 d1 d2 hjx
  go_region_held3 (fun V => V.cell? ⟨b3, 0, none⟩ = some (.int .i64 5) ∧ V.cell? ⟨b3, 1, none⟩ = some (.int .i64 n) ∧ V.cell? ⟨b3, 2, none⟩ = some (.slice none 0 0) ∧ V.cell? ⟨g, off, none⟩ = some (.int .i64 xk) ∧ V.cell? ⟨g, off + 1, none⟩ = some (.int .i64 xp) ∧ V.cell? ⟨g, off + 2, none⟩ = some (.slice AJ xs.length cj)) (first | (with_reducible exact k1) | (with_reducible exact k2)) (fail)
  go_wp2_with fail
  go_ret2
  have hf := ((Fr.refl (fun _ => False) W3).alloc (.cells #[.int .i64 xk, .int .i64 xp, .slice AJ xs.length cj, .int .i64 5, .int .i64 n, .slice none 0 0] 64)).drew
  refine ⟨_, rfl, ⟨Rd.new W3 #[.int .i64 xk, .int .i64 xp, .slice AJ xs.length cj, .int .i64 5, .int .i64 n, .slice none 0 0] rfl 2, (fun A m c e => by injection e with e; injection e with e; rw [← e]), (fun e => by cases e), fun y hy => ?_⟩, _, H2.out.fr0 hf, T2.out.trans (Turn.of0 hf)⟩
  rcases (List.mem_cons.1 hy).imp id List.mem_singleton.1 with rfl | rfl
  · exact ⟨JR.fr HJ.out hf (fun _ _ e => e), fun k hk => .inl ⟨_, hxs, hk⟩⟩
  · exact ⟨JR.nil _ _, fun k hk => by cases hk⟩
end
end Go.Proofs.Ytoldegajbonliaa
