/- Flow: pools and flows begun, a definition begun and ended. -/
import Derived.Test.YtoldegajbonliaaFdo
namespace Go.Proofs.Ytoldegajbonliaa
open Go Go.RowKit
set_option linter.unusedVariables false
attribute [local go_sem] Oper.semAt_some

section
variable {w w' : World} {B f p g scap q cap : Nat} {tv tv' lv : Value} {ts ts' : List Tk} {st l : List Th} {T : Nat → Prop}
set_option maxRecDepth 100000 in
theorem New_p (w : World) : Calls Try.prog 23 #[] w fun e w' => ∃ p, e = .returned (.pointer (some ⟨p, 0, none⟩)) ∧ Blk w' p PP #[.slice none 0 0, .int .i64 0] ∧ w.heap.size ≤ p ∧ Fr0 w w' := by
  go_enter Try.func23, Try.ntmps23
  go_wp2_with fail
  go_ret
  exact ⟨_, rfl, Blk.new w _ _, Nat.le_refl _, (Fr.refl _ w).alloc _⟩
set_option maxRecDepth 100000 in
theorem New_f (pv : Value) (hp : pv = .pointer none ∨ ∃ p, pv = .pointer (some ⟨p, 0, none⟩)) (w : World) : Calls Try.prog 22 #[pv] w fun e w' => ∃ f, e = .returned (.pointer (some ⟨f, 0, none⟩)) ∧ Blk w' f 67 #[pv, .int .i64 0, .slice none 0 0] ∧ w.heap.size ≤ f ∧ Fr0 w w' := by
  rcases hp with rfl | ⟨p, rfl⟩
  · go_enter Try.func22, Try.ntmps22
    go_wp2_with fail
    go_ret
    exact ⟨_, rfl, Blk.new w _ _, Nat.le_refl _, (Fr.refl _ w).alloc _⟩
  · go_enter Try.func22, Try.ntmps22
    go_wp2_with fail
    go_ret
    exact ⟨_, rfl, Blk.new w _ _, Nat.le_refl _, (Fr.refl _ w).alloc _⟩
set_option maxRecDepth 100000 in
set_option maxHeartbeats 2000000 in
theorem Open_p (w : World) (h : Blk w p PP #[.slice none 0 0, .int .i64 0]) (hB : B ≤ p ∧ B ≤ w.heap.size) : Calls Try.prog 9 #[.pointer (some ⟨p, 0, none⟩)] w fun e w' => e = .returned (.tuple #[.int .i64 1, .int .i64 0]) ∧ ∃ q cap, Pl PP w' B p q cap (.slice none 0 0) [] ∧ Fr (fun k => k = p) w w' ∧ w.heap.size ≤ q := by
  have c0 := h.cell 0
  have y0 := h.frozen 0
  have hpl := h.lt
  have HH := Lib.hid h
  obtain ⟨i0, hi0⟩ := info_parts3 infoTr
  have HI0 := Lib.hid hi0
  clear h hi0
  go_enter Try.func9, Try.ntmps9
  go_wp2_with (at_builtin; refine wpList_append_src (P := Try.prog) (t := 58) (e := 75) (size := 1) (n := 0) (m := 1) (base := w.heap.size) (i := i0) (bytes := 24) (v := .slice none 0 0) (xs := []) (news := [.slice none 0 0]) rfl (.tmp 18) (.tmp 19) rfl Try.underlying58 HI0.out.1 HI0.out.2.1 HI0.out.2.2.1 HI0.out.2.2.2 rfl (by decide) rfl rfl (World.ownsRow_nil _ _ _ _) (Rd.new w #[.slice none 0 0] rfl 1) (fun u hu => by simp at hu; subst hu; rfl) (by unfold maxLen; omega) (by omega) (by simp) ?_; intro v2 w2 ho2 hg2 hk2; have HO2 := Lib.hid ho2; obtain ⟨q, cap, rfl⟩ : ∃ q cap, v2 = .slice (some ⟨q, 0, none⟩) 1 cap := (by rcases ho2.2 with ⟨e, e0⟩ | ⟨g', c', cs, e, _⟩; exact absurd e0 (by decide); exact ⟨g', c', e⟩); have hf2 := ((Fr.refl (fun _ => False) w).alloc (.cells #[.slice none 0 0] 75)).grown hg2 (fun k hk => by cases hk); have HF2 := Lib.hid hf2; have c0 := (hf2.cell (p := ⟨p, 0, none⟩) hpl (fun x => x)).trans c0; have y0 := (hf2.frozen (p := ⟨p, 0, none⟩) hpl (fun x => x)).trans y0; clear ho2 hg2 hk2 hf2)
  go_ret2
  have hpo := (HH.out.fr0 HF2.out).set_ 0 (.slice (some ⟨q, 0, none⟩) 1 cap)
  simp only [List.setIfInBounds_toArray, List.set_cons_zero] at hpo
  have hff := (HF2.out.of0 (S := fun k => k = p)).setCell (p := ⟨p, 0, none⟩) (.inl rfl) (.slice (some ⟨q, 0, none⟩) 1 cap)
  obtain ⟨hlo, cs, hq, hc⟩ : w.heap.size ≤ q ∧ ∃ cs, Blk w2 q 75 cs ∧ cs[0]? = some (.slice none 0 0) := by
    rcases HO2.out.2 with ⟨e, _⟩ | ⟨g', c', cs, e, hb, hgg, hle, _, hsz, htk⟩
    · cases e
    · simp only [Value.slice.injEq, Option.some.injEq, Addr.mk.injEq, and_true, true_and] at e
      obtain ⟨rfl, rfl⟩ := e
      refine ⟨hb, cs, hgg, ?_⟩
      have := congrArg (fun l => l[0]?) htk
      rw [List.getElem?_take, if_pos (by decide), Array.getElem?_toList] at this
      exact this
  refine ⟨rfl, q, cap, ⟨hpo, ⟨cs, hq.far (p := ⟨p, 0, none⟩) (by dsimp only; omega) _, hc⟩, World.ownsRow_nil _ _ _ _, ⟨hB.1, by omega, Nat.le_trans hB.2 hff.size⟩, by simp⟩, hff, hlo⟩
set_option maxRecDepth 100000 in
theorem none_b (pv sv : Value) (d : Int) (w : World) (h : Blk w f 67 #[.pointer (some ⟨p, 0, none⟩), .int .i64 d, sv]) : Calls Try.prog 30 #[.pointer (some ⟨f, 0, none⟩)] w fun e w' => e = .returned (.bool false) ∧ w = w' := by
  have c0 := h.cell 0
  clear h
  go_enter Try.func30, Try.ntmps30
  go_wp2_with fail
  go_ret
  exact ⟨rfl, rfl⟩
set_option maxRecDepth 100000 in
theorem Def_b (pv sv : Value) (d : Int) (w : World) (h : Blk w f 67 #[pv, .int .i64 d, sv]) : Calls Try.prog 16 #[.pointer (some ⟨f, 0, none⟩)] w fun e w' => e = .returned (.int .i64 d) ∧ w = w' := by
  have c1 := h.cell 1
  clear h
  go_enter Try.func16, Try.ntmps16
  go_wp2_with fail
  go_ret
  exact ⟨rfl, rfl⟩
/-- The colon that stands below all. -/
def colonT : Th := ⟨6, 0, [], .slice none 0 0⟩
set_option maxRecDepth 100000 in
set_option maxHeartbeats 2000000 in
theorem Start_f (w : World) (h : Blk w f 67 #[.pointer (some ⟨p, 0, none⟩), .int .i64 0, .slice none 0 0]) (hp : Pl PP w B p q cap tv ts) (hB : B ≤ f) : Calls Try.prog 10 #[.pointer (some ⟨f, 0, none⟩), .int .i64 1] w fun e w' => e = .returned (.int .i64 0) ∧ ∃ g, Fl w' B f p [colonT] g 1 ts q cap tv ∧ Fr (fun k => k = f) w w' ∧ w.heap.size ≤ g := by
  have HNO := Lib.hid (none_b (.slice none 0 0) _ 0 w h)
  have HDE := Lib.hid (Def_b _ _ 0 w h)
  have y1 := h.frozen 1
  have y2 := h.frozen 2
  have c1 := h.cell 1
  have c2 := h.cell 2
  have hfl := h.lt
  have HH := Lib.hid h
  have HP := Lib.hid hp
  clear h hp
  go_enter Try.func10, Try.ntmps10
  go_wp2_with (first | (go_at_call 30; refine HNO.out.mono ?_; rintro e w1 ⟨rfl, rfl⟩) | (go_at_call 16; refine HDE.out.mono ?_; rintro e w1 ⟨rfl, rfl⟩))
  go_ret
  have hfo := ((HH.out.set_ 1 (.int .i64 1)).set_ 2 (.slice (some ⟨w.heap.size, 0, none⟩) 1 1)).alloc (.cells #[.int .i64 6, .int .i64 0, .slice none 0 0] 64)
  simp only [List.setIfInBounds_toArray, List.set_cons_zero, List.set_cons_succ] at hfo
  have hff := (((Fr.refl (fun k => k = f) w).setCell (p := ⟨f, 1, none⟩) (.inl rfl) (.int .i64 1)).setCell (p := ⟨f, 2, none⟩) (.inl rfl) (.slice (some ⟨w.heap.size, 0, none⟩) 1 1)).alloc (.cells #[.int .i64 6, .int .i64 0, .slice none 0 0] 64)
  have hbn := Blk.new ((w.setCell ⟨f, 1, none⟩ (.int .i64 1)).setCell ⟨f, 2, none⟩ (.slice (some ⟨w.heap.size, 0, none⟩) 1 1)) 64 #[.int .i64 6, .int .i64 0, .slice none 0 0]
  rw [show ((w.setCell ⟨f, 1, none⟩ (.int .i64 1)).setCell ⟨f, 2, none⟩ (.slice (some ⟨w.heap.size, 0, none⟩) 1 1)).heap.size = w.heap.size by simp [World.setCell]] at hbn
  refine ⟨rfl, w.heap.size, ⟨hfo, HP.out.fr hff (fun k hk he => HP.out.no HH.out (by decide) (by decide) (by decide) (he ▸ hk)), ⟨_, hbn, Nat.le_refl _, by simp, rfl⟩, fun x hx => ?_, ⟨hB, HP.out.lo.2.2⟩, by decide⟩, hff, Nat.le_refl _⟩
  obtain rfl : x = colonT := by simpa using hx
  exact JR.nil _ _
set_option maxRecDepth 100000 in
theorem Drop_b (pv sv : Value) (d : Int) (w : World) (h : Blk w f 67 #[pv, .int .i64 d, sv]) : Calls Try.prog 36 #[.pointer (some ⟨f, 0, none⟩)] w fun e w' => (∃ v, e = .returned v) ∧ Blk w' f 67 #[pv, .int .i64 0, .slice none 0 0] ∧ Fr (fun k => k = f) w w' := by
  have y1 := h.frozen 1
  have y2 := h.frozen 2
  have c1 := h.cell 1
  have c2 := h.cell 2
  have HH := Lib.hid h
  clear h
  go_enter Try.func36, Try.ntmps36
  go_wp2_with fail
  refine bodyPost_end (results_none rfl _ _ _) rfl ?_
  have hfo := (HH.out.set_ 1 (.int .i64 0)).set_ 2 (.slice none 0 0)
  simp only [List.setIfInBounds_toArray, List.set_cons_zero, List.set_cons_succ] at hfo
  exact ⟨⟨_, rfl⟩, hfo, ((Fr.refl (fun k => k = f) w).setCell (p := ⟨f, 1, none⟩) (.inl rfl) (.int .i64 0)).setCell (p := ⟨f, 2, none⟩) (.inl rfl) (.slice none 0 0)⟩
set_option maxRecDepth 100000 in
set_option maxHeartbeats 4000000 in
theorem Finish_f (x : Th) (w : World) (h : Fl w B f p [x] g scap ts q cap tv) (hx : x.kind = 6) (hl : ts.length < 50000) : Calls Try.prog 15 #[.pointer (some ⟨f, 0, none⟩)] w fun e w' => e = .returned (.int .i64 0) ∧ ∃ tv', Blk w' f 67 #[.pointer (some ⟨p, 0, none⟩), .int .i64 0, .slice none 0 0] ∧ Pl PP w' B p q cap tv' (ts ++ [⟨14, 0, 0⟩]) ∧ Fr (FlIn f p q tv g [x]) w w' := by
  have HNO := Lib.hid (none_f w h)
  have HLA := Lib.hid (lay_f 14 0 w h hl)
  obtain ⟨c0, c1, c2⟩ := h.cells
  have t0 := (h.things (i := 0) (x := x) rfl).1
  rw [hx] at t0
  clear h hx hl
  go_enter Try.func15, Try.ntmps15
  go_wp2_with (first | (go_at_call 30; refine HNO.out.mono ?_; rintro e w1 ⟨rfl, rfl⟩) | (go_at_call 35; refine HLA.out.mono ?_; rintro e w2 ⟨rfl, tv2, h2, t2⟩; have H2 := Lib.hid h2; have T2 := Lib.hid t2; clear h2 t2) | (go_at_call 36; refine (Drop_b _ _ _ _ H2.out.fo).mono ?_; rintro e w3 ⟨⟨v, rfl⟩, hb3, f3⟩))
  go_ret
  refine ⟨rfl, _, hb3, H2.out.pl.fr f3 (fun k hk he => H2.out.pl.no H2.out.fo (by decide) (by decide) (by decide) (he ▸ hk)), T2.out.1.then f3 (fun k _ hk => .inr (.inl hk))⟩
end
end Go.Proofs.Ytoldegajbonliaa
