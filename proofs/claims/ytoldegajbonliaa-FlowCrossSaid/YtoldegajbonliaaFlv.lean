/- Flow: what words do: Leave, where there is no loop. -/
import Derived.Test.YtoldegajbonliaaFbk
namespace Go.Proofs.Ytoldegajbonliaa
open Go Go.RowKit Go.Shelf
set_option linter.unusedVariables false
attribute [local go_sem] Oper.semAt_some

theorem keepsFrom_of {S : Nat → Prop} {B : Nat} {W W' : World} (h : Fr S W W') (hS : ∀ k, S k → k < B) : KeepsFrom B W W' :=
  ⟨h.size, fun k o hB hk _ => (h.block k (Array.getElem?_eq_some_iff.1 hk).1 (fun e => by have := hS k e; omega)).trans hk⟩
theorem keepsFrom_alloc (B : Nat) (W : World) (o : Obj) : KeepsFrom B W (W.alloc o) := keepsFrom_of ((Fr.refl (fun _ => False) W).alloc o) (fun _ h => h.elim)
section
variable {w w' : World} {B f p g scap q cap : Nat} {tv tv' lv : Value} {ts ts' : List Tk} {st l : List Th} {T : Nat → Prop}
theorem Fl.sl (h : Fl w B f p st g scap ts q cap tv) : ∀ x ∈ st, x.Sl := fun x hx => by
  obtain ⟨_, A, c, e, _⟩ := (h.js x hx).1
  exact ⟨A, _, c, e⟩
theorem Fl.thRow (h : Fl w B f p st g scap ts q cap tv) : ThRow w g st := fun i x hx => h.things hx
set_option maxRecDepth 100000 in
set_option maxHeartbeats 4000000 in
theorem leave_none (w : World) (h : Fl w B f p st g scap ts q cap tv) (hne : st ≠ []) (hno : ∀ x ∈ st, x.kind ≠ 3) : Calls Try.prog 66 #[.pointer (some ⟨f, 0, none⟩), lv] w fun e w' => e = .returned (.tuple #[.slice none 0 0, .int .i64 (-22)]) ∧ Fr0 w w' := by
  refine (callsIn_wide (n := 4)).1 ?_
  refine callsIn_of_wp_marks Try.func66 rfl trivial ?_ rfl
  simp only [Try.ntmps66, List.size_toArray, List.length_cons, List.length_nil, Nat.reduceAdd, Nat.reduceSub, Array.replicate_succ, Array.replicate_zero, List.push_toArray, List.append_toArray, List.nil_append, List.cons_append]
  obtain ⟨_, _, c2⟩ := h.cells
  have HR := Lib.hid h.thRow
  have HSL := Lib.hid h.sl
  have HNE := Lib.hid hne
  have hdeep := h.deep
  have hfl := h.fo.lt
  have hgl := h.glt
  obtain ⟨n, hn⟩ : ∃ n, st.length = n := ⟨_, rfl⟩
  rw [hn] at c2 hdeep
  have HN := Lib.hid hn
  have HNO := Lib.hid hno
  clear h hn hno hne
  have c2x : ((((w.alloc (.cells #[.pointer (some ⟨f, 0, none⟩)] 27)).alloc (.cells #[.slice none 0 0] 65)).alloc (.cells #[.int .i64 0] 3))).cell? ⟨f, 2, none⟩ = some (.slice (some ⟨g, 0, none⟩) n scap) :=
    (((((Fr.refl (fun _ => False) w).alloc _).alloc _).alloc _).cell (p := ⟨f, 2, none⟩) hfl (fun x => x)).trans c2
  gi_wp2_with (refine ⟨trivial, ?_⟩; gi_at_call 83; refine (callsIn_wide.2 (backt_any _ _ (some ⟨g, 0, none⟩) n scap rfl)).mono ?_; rintro e w' ⟨rfl, rfl⟩)
  obtain ⟨W0, hW0⟩ : ∃ W0, ((((w.alloc (.cells #[.pointer (some ⟨f, 0, none⟩)] 27)).alloc (.cells #[.slice none 0 0] 65)).alloc (.cells #[.int .i64 0] 3)).alloc (.cells #[.slice (some ⟨g, 0, none⟩) n scap] 65)) = W0 := ⟨_, rfl⟩
  rw [hW0]
  have hsz : W0.heap.size = w.heap.size + 4 := by rw [← hW0]; simp
  have hF0 : Fr0 w W0 := by
    rw [← hW0]
    exact ((((Fr.refl _ w).alloc _).alloc _).alloc _).alloc _
  have b4 : Blk W0 (w.heap.size + 1) 65 #[.slice none 0 0] := by
    rw [← hW0]
    have := ((Blk.new (w.alloc (.cells #[.pointer (some ⟨f, 0, none⟩)] 27)) 65 #[.slice none 0 0]).alloc (.cells #[.int .i64 0] 3)).alloc (.cells #[.slice (some ⟨g, 0, none⟩) n scap] 65)
    simpa using this
  have b5 : Blk W0 (w.heap.size + 2) 3 #[.int .i64 0] := by
    rw [← hW0]
    have := (Blk.new ((w.alloc (.cells #[.pointer (some ⟨f, 0, none⟩)] 27)).alloc (.cells #[.slice none 0 0] 65)) 3 #[.int .i64 0]).alloc (.cells #[.slice (some ⟨g, 0, none⟩) n scap] 65)
    simpa using this
  have bB : Blk W0 (w.heap.size + 3) 65 #[.slice (some ⟨g, 0, none⟩) n scap] := by
    rw [← hW0]
    have := Blk.new (((w.alloc (.cells #[.pointer (some ⟨f, 0, none⟩)] 27)).alloc (.cells #[.slice none 0 0] 65)).alloc (.cells #[.int .i64 0] 3)) 65 #[.slice (some ⟨g, 0, none⟩) n scap]
    simpa using this
  clear hW0
  have hrow : ThSl (fun _ => False) w.heap.size W0 (.slice (some ⟨g, 0, none⟩) n scap) st := ⟨_, scap, by rw [HN.out], fun _ => ⟨g, rfl, hgl, fun x => x, HR.out.fr hF0 hgl (fun x => x)⟩⟩
  refine wpIn_rangeFunc_ownH rfl (by omega) (gf := 87) (lb := #[.pointer (some ⟨w.heap.size + 3, 0, none⟩)]) rfl trivial (enters_of Try.func87 (by kernel_rfl) rfl)
    (backt_stops (fun _ => False) (w.heap.size + 3) w.heap.size _ st (by rw [HN.out]; omega) W0 (by omega) (by omega) (bB.cell 0) hrow) kpS_t (kpS_b (by omega) (by omega)) (Below.refl _ _) (fun _ => rfl)
    (fun (pre : List (TA st)) W => Fr (fun k => w.heap.size ≤ k) w W ∧ Blk W (w.heap.size + 1) 65 #[.slice none 0 0] ∧ Blk W (w.heap.size + 2) 3 #[.int .i64 0] ∧ w.heap.size + 4 ≤ W.heap.size)
    (fun _ _ _ => False)
    (fun pre W W' row ⟨h1, h2, h3, h4⟩ hg hr => ⟨h1.grown hg (fun k hk => .inl (by have := (hr k hk).1; omega)), h2.grown hg (fun e => by have := (hr _ e.symm).1; omega), h3.grown hg (fun e => by have := (hr _ e.symm).1; omega), Nat.le_trans h4 hg.size⟩)
    (fun _ _ _ _ _ hs _ _ => hs)
    ⟨hF0.of0, b4, b5, Nat.le_of_eq hsz.symm⟩
    (fun (x : TA st) a' W => ∃ g0 : Nat, w.heap.size + 4 ≤ g0 ∧ Blk W g0 64 #[.int .i64 x.1.2.kind, .int .i64 x.1.2.place, x.1.2.jv] ∧
      a' = { tmps := #[.pointer (some ⟨f, 0, none⟩), lv, .pointer (some ⟨w.heap.size, 0, none⟩), undef, .pointer (some ⟨w.heap.size + 1, 0, none⟩), .pointer (some ⟨w.heap.size + 1 + 1, 0, none⟩), .int .i64 (x.1.1 : Int), .pointer (some ⟨g0, 0, none⟩), undef, undef, .pointer (some ⟨f, 0, none⟩), .pointer (some ⟨f, 0, none⟩), .pointer (some ⟨f, 2, none⟩), .slice (some ⟨g, 0, none⟩) n scap, .func (.func 87) #[] #[.pointer (some ⟨w.heap.size + 1 + 1 + 1, 0, none⟩)],
        .int .i64 (x.1.1 : Int), .agg #[.int .i64 x.1.2.kind, .int .i64 x.1.2.place, x.1.2.jv], undef, undef, undef, undef, undef, undef, undef, undef, undef, undef, undef, undef, undef, undef, undef, undef, undef, undef, undef, undef, undef, undef, undef, undef], defers := [] })
    (fun x a' _ W W' row ⟨g, hg0, hgb, e⟩ hg hr => ⟨g, hg0, hgb.grown hg (fun e => by obtain ⟨_, o, ho, hc⟩ := hr _ e.symm; unfold Blk at hgb; rw [hgb] at ho; injection ho with ho; subst ho; cases hc), e⟩) ?assign ?body ?done ?stop
  case assign =>
    rintro l0 pre x W K ⟨h1, h2, h3, h4⟩ hK
    obtain ⟨A, m, c, hsx⟩ : ∃ A m c, x.1.2.jv = .slice A m c := HSL.out _ (List.mem_of_getElem? (x.2 HNE.out))
    obtain ⟨⟨i, ⟨xk, xp, xs, xj⟩⟩, hi⟩ := x
    dsimp only at hsx
    subst hsx
    gi_wp2
    have hfa := (Fr.refl (fun _ => False) W).alloc (.cells #[.int .i64 xk, .int .i64 xp, .slice A m c] 64)
    exact hK _ _ (keepsFrom_alloc _ _ _) ⟨hfa.of0, hfa.block _ (by omega) (fun x => x)⟩ ⟨h1.trans hfa.of0, h2.fr0 hfa, h3.fr0 hfa, Nat.le_trans h4 hfa.size⟩ ⟨W.heap.size, h4, Blk.new W _ _, rfl⟩
  case body =>
    rintro l0 pre x a' W hl0 hr ⟨h1, h2, h3, h4⟩ ⟨g0, hg0, hgb, rfl⟩ hlen
    have hxk : (x.1.2.kind == (3 : Int)) = false := by
      have := HNO.out _ (List.mem_of_getElem? (x.2 HNE.out))
      simpa using this
    have g0 := hgb.cell 0
    obtain ⟨i, hie⟩ : ∃ i, x.1.1 = i := ⟨_, rfl⟩
    gi_wp2
    exact ⟨KeepsFrom.refl _ _, ⟨Fr.refl _ _, rfl⟩, h1, h2, h3, h4⟩
  case done =>
    rintro D ys W hD rfl ⟨h1, h2, h3, h4⟩ hK
    have y4 := h2.frozen 0
    have y5 := h3.frozen 0
    have z4 := h2.cell 0
    have z5 := h3.cell 0
    gi_wp2
    have f4 := (Fr.refl (fun k => k = w.heap.size + 1) W).setCell (p := ⟨w.heap.size + 1, 0, none⟩) (.inl rfl) (.slice none 0 0)
    have f5 := (Fr.refl (fun k => k = w.heap.size + 2) (W.setCell ⟨w.heap.size + 1, 0, none⟩ (.slice none 0 0))).setCell (p := ⟨w.heap.size + 2, 0, none⟩) (.inl rfl) (.int .i64 (-22))
    have b4 := (h2.set_ 0 (.slice none 0 0)).fr f5 (by omega)
    have b5 := (h3.fr f4 (by omega)).set_ 0 (.int .i64 (-22))
    have hff := (h1.trans (f4.mono (fun k _ hk => by omega))).trans (f5.mono (fun k _ hk => by omega))
    simp only [List.setIfInBounds_toArray, List.set_cons_zero] at b4 b5
    have hK9 := (f5.block D (Nat.lt_of_lt_of_le (Array.getElem?_eq_some_iff.1 hK).1 f4.size) (by omega)).trans ((f4.block D (Array.getElem?_eq_some_iff.1 hK).1 (by omega)).trans hK)
    obtain ⟨W9, hW9⟩ : ∃ W9, (W.setCell ⟨w.heap.size + 1, 0, none⟩ (.slice none 0 0)).setCell ⟨w.heap.size + 2, 0, none⟩ (.int .i64 (-22)) = W9 := ⟨_, rfl⟩
    rw [show w.heap.size + 1 + 1 = w.heap.size + 2 from rfl]
    rw [hW9] at b4 b5 hff hK9 ⊢
    have hp := fr_put (W := W9) (S := fun k => w.heap.size + 4 ≤ k) (.deferred none) (show w.heap.size + 4 ≤ D by omega)
    have r4 := (b4.fr hp (by omega)).cell 0
    have r5 := (b5.fr hp (by omega)).cell 0
    have hpf := hff.trans (hp.mono (fun k _ hk => by omega))
    refine ⟨by simp, .inl ⟨_, _, rfl, run_takeDeferred hK9, ?_⟩⟩
    refine ⟨.tuple #[.slice none 0 0, .int .i64 (-22)], by simp [results, Try.results66, go_sem, r4, r5], rfl, hpf.mono (fun k hk h => by omega)⟩
  case stop =>
    rintro D c pre W _ _ h _
    exact h.elim
end
end Go.Proofs.Ytoldegajbonliaa
