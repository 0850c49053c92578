/- Flow: what words do: If, Ahead, Then. -/
import Derived.Test.YtoldegajbonliaaFf2
namespace Go.Proofs.Ytoldegajbonliaa
open Go Go.RowKit
set_option linter.unusedVariables false
attribute [local go_sem] Oper.semAt_some

/-- What a word tells: the things nv = news, whose rows lie as theirs did or are new. -/
structure Out (w w' : World) (B : Nat) (st : List Th) (nv : Value) (news : List Th) : Prop where
  rd : Rd w' nv news.length 3 (news.flatMap Th.cells)
  at0 : ∀ A n c, nv = .slice (some A) n c → A.spot = none
  nil0 : news = [] → nv = .slice none 0 0
  js : ∀ x ∈ news, JR w' B x.jv x.jumps ∧ ∀ k, x.jv.ownBlock = some k → (∃ y ∈ st, y.jv.ownBlock = some k) ∨ w.heap.size ≤ k
/-- A word's things, as they are handed in: the last ones of the stack. -/
structure In_ (w : World) (g : Nat) (st : List Th) (lv : Value) (l : List Th) : Prop where
  form : ∃ pre off c, st = pre ++ l ∧ lv = .slice (some ⟨g, off, none⟩) l.length c ∧ (l = [] ∨ off = pre.length * 3)
section
variable {w w' : World} {B f p g scap q cap : Nat} {tv tv' lv : Value} {ts ts' : List Tk} {st l : List Th} {T : Nat → Prop}
theorem Out.nil (w w' : World) (B : Nat) (st : List Th) : Out w w' B st (.slice none 0 0) [] := ⟨Rd.nil w' 3 none 0, (fun A n c e => by cases e), fun _ => rfl, fun x hx => (List.not_mem_nil hx).elim⟩
/-- A row of one thing just laid. -/
theorem Out.one (w w2 : World) (B : Nat) (st : List Th) (kind at_ : Int) : Out w (w2.alloc (.cells #[.int .i64 kind, .int .i64 at_, .slice none 0 0] 64)) B st (.slice (some ⟨w2.heap.size, 0, none⟩) 1 1) [⟨kind, at_, [], .slice none 0 0⟩] :=
  ⟨Rd.new w2 #[.int .i64 kind, .int .i64 at_, .slice none 0 0] rfl 1, (fun A n c e => by injection e with e; injection e with e; rw [← e]), (fun e => by cases e), fun x hx => by
    obtain rfl : x = ⟨kind, at_, [], .slice none 0 0⟩ := by simpa using hx
    exact ⟨JR.nil _ _, fun k hk => by cases hk⟩⟩
theorem In_.sub (h : In_ w g st lv l) : ∀ y ∈ l, y ∈ st := fun y hy => by
  obtain ⟨pre, _, _, e, _⟩ := h.form
  rw [e]
  exact List.mem_append_right _ hy
/-- The row of the stack. -/
theorem Fl.row (h : Fl w B f p st g scap ts q cap tv) {j : Nat} {u : Value} (hj : (st.flatMap Th.cells)[j]? = some u) : w.cell? ((⟨g, 0, none⟩ : Addr).add j) = some u := by
  obtain ⟨cs, hg, h1, h2, h3⟩ := h.sk
  have hjl : j < (st.flatMap Th.cells).length := (List.getElem?_eq_some_iff.1 hj).1
  rw [flatZ_len thz] at hjl
  rw [← h3, List.getElem?_take, if_pos hjl, Array.getElem?_toList] at hj
  rw [Addr.add_lit, Nat.zero_add, hg.cell]
  exact hj
theorem In_.cells (h : In_ w' g st lv l) (hf : Fl w B f p st g scap ts q cap tv) (hl : l ≠ []) : ∃ off c, lv = .slice (some ⟨g, off, none⟩) l.length c ∧ ∀ j u, (l.flatMap Th.cells)[j]? = some u → w.cell? ⟨g, off + j, none⟩ = some u := by
  obtain ⟨pre, off, c, e, e2, h2⟩ := h.form
  rcases h2 with h2 | rfl
  · exact absurd h2 hl
  · refine ⟨_, c, e2, fun j u hj => ?_⟩
    have h3 : (st.flatMap Th.cells)[pre.length * 3 + j]? = some u := by
      rw [e, List.flatMap_append, List.getElem?_append_right (by rw [flatZ_len thz]; omega), flatZ_len thz, Nat.add_sub_cancel_left]
      exact hj
    have h4 := hf.row h3
    rw [Addr.add_lit, Nat.zero_add] at h4
    exact h4
/-- The cells of the first thing; of two. -/
theorem In_.at0 {x : Th} (h : In_ w' g st lv [x]) (hf : Fl w B f p st g scap ts q cap tv) : ∃ off c, lv = .slice (some ⟨g, off, none⟩) 1 c ∧ w.cell? ⟨g, off, none⟩ = some (.int .i64 x.kind) ∧ w.cell? ⟨g, off + 1, none⟩ = some (.int .i64 x.place) ∧ w.cell? ⟨g, off + 2, none⟩ = some x.jv := by
  obtain ⟨off, c, e, hc⟩ := h.cells hf (by simp)
  exact ⟨off, c, e, hc 0 _ rfl, hc 1 _ rfl, hc 2 _ rfl⟩
theorem In_.at1 {x y : Th} (h : In_ w' g st lv [x, y]) (hf : Fl w B f p st g scap ts q cap tv) : ∃ off c, lv = .slice (some ⟨g, off, none⟩) 2 c ∧ w.cell? ⟨g, off, none⟩ = some (.int .i64 x.kind) ∧ w.cell? ⟨g, off + 1, none⟩ = some (.int .i64 x.place) ∧ w.cell? ⟨g, off + 2, none⟩ = some x.jv ∧ w.cell? ⟨g, off + 3, none⟩ = some (.int .i64 y.kind) ∧ w.cell? ⟨g, off + 3 + 1, none⟩ = some (.int .i64 y.place) ∧ w.cell? ⟨g, off + 3 + 2, none⟩ = some y.jv := by
  obtain ⟨off, c, e, hc⟩ := h.cells hf (by simp)
  exact ⟨off, c, e, hc 0 _ rfl, hc 1 _ rfl, hc 2 _ rfl, hc 3 _ rfl, hc 4 _ rfl, hc 5 _ rfl⟩
theorem Fl.glt (h : Fl w B f p st g scap ts q cap tv) : g < w.heap.size := by
  obtain ⟨cs, hg, _⟩ := h.sk
  exact hg.lt
set_option maxRecDepth 100000 in
set_option maxHeartbeats 2000000 in
theorem jump_f (op : Int) (w : World) (h : Fl w B f p st g scap ts q cap tv) (hl : ts.length < 50000) : Calls Try.prog 78 #[.pointer (some ⟨f, 0, none⟩), .int .i64 op] w fun e w' => ∃ nv, e = .returned (.tuple #[nv, .int .i64 0]) ∧ Out w w' B st nv [⟨1, ts.length, [], .slice none 0 0⟩] ∧ ∃ tv', Fl w' B f p st g scap (ts ++ [⟨op, 0, 0⟩]) q cap tv' ∧ Turn (FlIn f p q tv g st) (FlIn f p q tv' g st) w w' := by
  have HON := Lib.hid (on_f op 1 w h hl)
  obtain ⟨n, hn⟩ : ∃ n, ts.length = n := ⟨_, rfl⟩
  rw [hn] at HON ⊢
  clear h hn
  go_enter Try.func78, Try.ntmps78
  go_wp2_with (go_at_call 80; refine HON.out.mono ?_; rintro e w2 ⟨rfl, tv2, h2, t2⟩; have H2 := Lib.hid h2; have T2 := Lib.hid t2; clear h2 t2)
  go_ret2
  have hf := ((Fr.refl (fun _ => False) w2).alloc (.cells #[.int .i64 1, .int .i64 n, .slice none 0 0] 64)).alloc (.cells #[.int .i64 1, .int .i64 n, .slice none 0 0] 64)
  have hO := Out.one w (w2.alloc (.cells #[.int .i64 1, .int .i64 n, .slice none 0 0] 64)) B st 1 n
  rw [show (w2.alloc (.cells #[.int .i64 1, .int .i64 n, .slice none 0 0] 64)).heap.size = w2.heap.size + 1 by simp] at hO
  exact ⟨_, rfl, hO, _, H2.out.fr0 hf, T2.out.trans (Turn.of0 hf)⟩
set_option maxRecDepth 100000 in
theorem jumpIf_f (w : World) (h : Fl w B f p st g scap ts q cap tv) (hl : ts.length < 50000) : Calls Try.prog 53 #[.pointer (some ⟨f, 0, none⟩), lv] w fun e w' => ∃ nv, e = .returned (.tuple #[nv, .int .i64 0]) ∧ Out w w' B st nv [⟨1, ts.length, [], .slice none 0 0⟩] ∧ ∃ tv', Fl w' B f p st g scap (ts ++ [⟨7, 0, 0⟩]) q cap tv' ∧ Turn (FlIn f p q tv g st) (FlIn f p q tv' g st) w w' := by
  have HON := Lib.hid (jump_f 7 w h hl)
  clear h
  go_enter Try.func53, Try.ntmps53
  go_wp2_with (go_at_call 78; refine HON.out.mono ?_; rintro e w2 ⟨nv, rfl, ho, tv2, h2, t2⟩; have HO := Lib.hid ho; have H2 := Lib.hid h2; have T2 := Lib.hid t2; clear h2 t2 ho)
  go_ret2
  exact ⟨_, rfl, HO.out, _, H2.out, T2.out⟩
set_option maxRecDepth 100000 in
theorem then_f (x : Th) (w : World) (h : Fl w B f p st g scap ts q cap tv) (hi : In_ w g st lv [x]) : Calls Try.prog 55 #[.pointer (some ⟨f, 0, none⟩), lv] w fun e w' => ∃ nv, e = .returned (.tuple #[nv, .int .i64 0]) ∧ Out w w' B st nv [] ∧ ∃ tv', Fl w' B f p st g scap (patchT ts x.place ts.length) q cap tv' ∧ Turn (FlIn f p q tv g st) (FlIn f p q tv' g st) w w' := by
  obtain ⟨off, c, rfl, d0, d1, d2⟩ := hi.at0 h
  have HJO := Lib.hid (join_f x.place w h)
  clear h hi
  go_enter Try.func55, Try.ntmps55
  go_wp2_with (go_at_call 79; refine HJO.out.mono ?_; rintro e w2 ⟨⟨v, rfl⟩, h2, t2⟩; have H2 := Lib.hid h2; have T2 := Lib.hid t2; clear h2 t2)
  go_ret2
  exact ⟨_, rfl, Out.nil _ _ _ _, _, H2.out, T2.out⟩
end
end Go.Proofs.Ytoldegajbonliaa
