/- Flow: what the program's Do does, word by word. -/
import Derived.Test.YtoldegajbonliaaFawake
import Derived.Test.YtoldegajbonliaaFd7
namespace Go.Proofs.Ytoldegajbonliaa
open Go Go.RowKit
set_option linter.unusedVariables false
attribute [local go_sem] Oper.semAt_some

/-- A word's step: what stood below, what it takes, the tokens; and what they are then. -/
inductive St : Int → List Th → List Th → List Tk → List Th → List Th → List Tk → Prop where
  | if_ (pre : List Th) (ts : List Tk) (jv : Value) : St 1 pre [] ts pre [⟨1, ts.length, [], .slice none 0 0⟩] (ts ++ [⟨7, 0, 0⟩])
  | ahead (pre : List Th) (ts : List Tk) (jv : Value) : St 2 pre [] ts pre [⟨1, ts.length, [], .slice none 0 0⟩] (ts ++ [⟨6, 0, 0⟩])
  | then_ (pre : List Th) (x : Th) (ts : List Tk) (jv : Value) : St 3 pre [x] ts pre [] (patchT ts x.place ts.length)
  | else_ (pre : List Th) (x : Th) (ts : List Tk) (jv : Value) : St 4 pre [x] ts pre [⟨1, ts.length, [], .slice none 0 0⟩] (patchT (ts ++ [⟨6, 0, 0⟩]) x.place (ts ++ [(⟨6, 0, 0⟩ : Tk)]).length)
  | begin_ (pre : List Th) (ts : List Tk) (jv : Value) : St 5 pre [] ts pre [⟨2, ts.length, [], .slice none 0 0⟩] (ts)
  | again (pre : List Th) (x : Th) (ts : List Tk) (jv : Value) : St 6 pre [x] ts pre [] (ts ++ [⟨6, x.place, 0⟩])
  | until_ (pre : List Th) (x : Th) (ts : List Tk) (jv : Value) : St 7 pre [x] ts pre [] (ts ++ [⟨7, x.place, 0⟩])
  | while_ (pre : List Th) (x : Th) (ts : List Tk) (jv : Value) : St 8 pre [x] ts pre [⟨1, ts.length, [], .slice none 0 0⟩, x] (ts ++ [⟨7, 0, 0⟩])
  | repeat_ (pre : List Th) (x y : Th) (ts : List Tk) (jv : Value) : St 9 pre [x, y] ts pre [] (patchT (ts ++ [⟨6, y.place, 0⟩]) x.place (ts ++ [(⟨6, y.place, 0⟩ : Tk)]).length)
  | do_ (pre : List Th) (ts : List Tk) (jv : Value) : St 10 pre [] ts pre [⟨3, (ts ++ [(⟨8, 0, 0⟩ : Tk)]).length, [], .slice none 0 0⟩] (ts ++ [⟨8, 0, 0⟩])
  | qdo (pre : List Th) (ts : List Tk) (jv : Value) : St 11 pre [] ts pre [⟨3, (ts ++ [(⟨9, 0, 0⟩ : Tk)]).length, [(ts.length : Int)], jv⟩] (ts ++ [⟨9, 0, 0⟩])
  | loop (pre : List Th) (x : Th) (ts : List Tk) (jv : Value) : St 12 pre [x] ts pre [] (leadsT ts.length (ts ++ [⟨10, x.place, 0⟩]) x.jumps)
  | plus (pre : List Th) (x : Th) (ts : List Tk) (jv : Value) : St 13 pre [x] ts pre [] (leadsT ts.length (ts ++ [⟨11, x.place, 0⟩]) x.jumps)
  | case_ (pre : List Th) (ts : List Tk) (jv : Value) : St 15 pre [] ts pre [⟨4, 0, [], .slice none 0 0⟩] (ts)
  | of_ (pre : List Th) (x : Th) (ts : List Tk) (jv : Value) : St 16 pre [x] ts pre [x, ⟨5, ts.length, [], .slice none 0 0⟩] (ts ++ [⟨13, 0, 0⟩])
  | endof (pre : List Th) (x y : Th) (ts : List Tk) (jv : Value) : St 17 pre [x, y] ts pre [⟨4, 0, x.jumps ++ [(ts.length : Int)], jv⟩] (patchT (ts ++ [⟨6, 0, 0⟩]) y.place (ts ++ [(⟨6, 0, 0⟩ : Tk)]).length)
  | endcase (pre : List Th) (x : Th) (ts : List Tk) (jv : Value) : St 18 pre [x] ts pre [] (joinsT (ts ++ [⟨1, 8, 0⟩]) x.jumps)
  | leave (pre suf : List Th) (x : Th) (ts : List Tk) (jv : Value) (hx : x.kind = 3) (hs : ∀ y ∈ suf, y.kind ≠ 3) : St 14 (pre ++ x :: suf) [] ts (pre ++ ⟨3, x.place, x.jumps ++ [(ts.length : Int)], jv⟩ :: suf) [] (ts ++ [⟨12, 0, 0⟩])
section
variable {w w' : World} {B f p g scap q cap : Nat} {tv tv' lv : Value} {ts ts' : List Tk} {pre l : List Th} {T : Nat → Prop}
/-- What a word's Do answers and leaves. -/
def Done (k : Int) (w : World) (B f p : Nat) (pre l : List Th) (g scap : Nat) (ts : List Tk) (q cap : Nat) (tv : Value) : Prop :=
  Calls Try.prog 12 #[.pointer (some ⟨f, 0, none⟩), .int .i64 k] w fun e w' => e = .returned (.int .i64 0) ∧ ∃ pre' news ts' g' scap' tv', St k pre l ts pre' news ts' ∧ Fl w' B f p (pre' ++ news) g' scap' ts' q cap tv' ∧ Turn (FlIn f p q tv g (pre ++ l)) (FlIn f p q tv' g' (pre' ++ news)) w w'
theorem two_of {l : List Th} {a b : Int} (h : l.map Th.kind = [a, b]) : ∃ x y, l = [x, y] := by
  match l, h with
  | [x, y], _ => exact ⟨x, y, rfl⟩
theorem one_of {l : List Th} {a : Int} (h : l.map Th.kind = [a]) : ∃ x, l = [x] := by
  match l, h with
  | [x], _ => exact ⟨x, rfl⟩
theorem none_of {l : List Th} (h : l.map Th.kind = []) : l = [] := List.map_eq_nil_iff.1 h
theorem doP_1 (w : World) (h : Fl w B f p (pre ++ l) g scap ts q cap tv) (hK : l.map Th.kind = []) (hr : (pre ++ l).length < 64) (hl : ts.length < 50000) : Done 1 w B f p pre l g scap ts q cap tv := by
  obtain rfl := none_of hK
  have hD : DoesF 53 w B f p pre [] (fun pre' news => pre' = pre ∧ news = ([⟨1, ts.length, [], .slice none 0 0⟩] : List Th)) g scap ts (ts ++ [⟨7, 0, 0⟩]) q cap tv := fun V lv hV hi => by
    have hV' := h.fr0 hV
    simp only [List.append_nil] at hi hV' ⊢
    refine (jumpIf_f (lv := lv) V hV' hl).mono ?_
    rintro e w' ⟨nv, he, ho, ht⟩
    exact ⟨nv, pre, [], [⟨1, ts.length, [], .slice none 0 0⟩], he, ⟨rfl, rfl⟩, rfl, rfl, ho, (by simpa only [List.append_nil] using ht)⟩
  refine (do_more 1 _ [] 1 pre [] _ w h (fun _ _ => rfl) find_1 rfl (.inr ⟨rfl, hr⟩) (by rintro _ _ ⟨rfl, rfl⟩; exact ⟨by simp, by have := hr; have := h.deep; simp at *; omega⟩) hD).mono ?_
  rintro e w' ⟨rfl, pre', news, g', scap', tv', ⟨rfl, rfl⟩, hf', ht'⟩
  exact ⟨rfl, _, _, _, g', scap', tv', .if_ _  _ undef, hf', ht'⟩
theorem doP_2 (w : World) (h : Fl w B f p (pre ++ l) g scap ts q cap tv) (hK : l.map Th.kind = []) (hr : (pre ++ l).length < 64) (hl : ts.length < 50000) : Done 2 w B f p pre l g scap ts q cap tv := by
  obtain rfl := none_of hK
  have hD : DoesF 54 w B f p pre [] (fun pre' news => pre' = pre ∧ news = ([⟨1, ts.length, [], .slice none 0 0⟩] : List Th)) g scap ts (ts ++ [⟨6, 0, 0⟩]) q cap tv := fun V lv hV hi => by
    have hV' := h.fr0 hV
    simp only [List.append_nil] at hi hV' ⊢
    refine (jumpAhead_f (lv := lv) V hV' hl).mono ?_
    rintro e w' ⟨nv, he, ho, ht⟩
    exact ⟨nv, pre, [], [⟨1, ts.length, [], .slice none 0 0⟩], he, ⟨rfl, rfl⟩, rfl, rfl, ho, (by simpa only [List.append_nil] using ht)⟩
  refine (do_more 2 _ [] 1 pre [] _ w h (fun _ _ => rfl) find_2 rfl (.inr ⟨rfl, hr⟩) (by rintro _ _ ⟨rfl, rfl⟩; exact ⟨by simp, by have := hr; have := h.deep; simp at *; omega⟩) hD).mono ?_
  rintro e w' ⟨rfl, pre', news, g', scap', tv', ⟨rfl, rfl⟩, hf', ht'⟩
  exact ⟨rfl, _, _, _, g', scap', tv', .ahead _  _ undef, hf', ht'⟩
theorem doP_3 (w : World) (h : Fl w B f p (pre ++ l) g scap ts q cap tv) (hK : l.map Th.kind = [1]) (hl : ts.length < 50000) : Done 3 w B f p pre l g scap ts q cap tv := by
  obtain ⟨x, rfl⟩ := one_of hK
  have hD : DoesF 55 w B f p pre [x] (fun pre' news => pre' = pre ∧ news = ([] : List Th)) g scap ts (patchT ts x.place ts.length) q cap tv := fun V lv hV hi => by
    have hV' := h.fr0 hV
    refine (then_f x V hV' hi ).mono ?_
    rintro e w' ⟨nv, he, ho, ht⟩
    exact ⟨nv, pre, [x], [], he, ⟨rfl, rfl⟩, rfl, rfl, ho, ht⟩
  refine (do_none 3 _ [1] 0 pre [x] _ w h (fun _ _ => rfl) find_3 hK (.inl rfl) (by rintro _ _ ⟨rfl, rfl⟩; rfl) hD).mono ?_
  rintro e w' ⟨rfl, pre', scap', tv', ⟨rfl, _⟩, hf', ht'⟩
  refine ⟨rfl, _, _, _, g, scap', tv', .then_ _ _ _ undef, ?_, ?_⟩
  · rw [List.append_nil]; exact hf'
  · rw [List.append_nil]; exact ht'
theorem doP_4 (w : World) (h : Fl w B f p (pre ++ l) g scap ts q cap tv) (hK : l.map Th.kind = [1]) (hr : (pre ++ l).length < 64) (hl : ts.length < 50000) : Done 4 w B f p pre l g scap ts q cap tv := by
  obtain ⟨x, rfl⟩ := one_of hK
  have hD : DoesF 56 w B f p pre [x] (fun pre' news => pre' = pre ∧ news = ([⟨1, ts.length, [], .slice none 0 0⟩] : List Th)) g scap ts (patchT (ts ++ [⟨6, 0, 0⟩]) x.place (ts ++ [(⟨6, 0, 0⟩ : Tk)]).length) q cap tv := fun V lv hV hi => by
    have hV' := h.fr0 hV
    refine (otherwise_f x V hV' hi hl).mono ?_
    rintro e w' ⟨nv, he, ho, ht⟩
    exact ⟨nv, pre, [x], [⟨1, ts.length, [], .slice none 0 0⟩], he, ⟨rfl, rfl⟩, rfl, rfl, ho, ht⟩
  refine (do_more 4 _ [1] 0 pre [x] _ w h (fun _ _ => rfl) find_4 hK (.inl rfl) (by rintro _ _ ⟨rfl, rfl⟩; exact ⟨by simp, by have := hr; have := h.deep; simp at *; omega⟩) hD).mono ?_
  rintro e w' ⟨rfl, pre', news, g', scap', tv', ⟨rfl, rfl⟩, hf', ht'⟩
  exact ⟨rfl, _, _, _, g', scap', tv', .else_ _ _ _ undef, hf', ht'⟩
theorem doP_5 (w : World) (h : Fl w B f p (pre ++ l) g scap ts q cap tv) (hK : l.map Th.kind = []) (hr : (pre ++ l).length < 64) (hl : ts.length < 50000) : Done 5 w B f p pre l g scap ts q cap tv := by
  obtain rfl := none_of hK
  have hD : DoesF 57 w B f p pre [] (fun pre' news => pre' = pre ∧ news = ([⟨2, ts.length, [], .slice none 0 0⟩] : List Th)) g scap ts (ts) q cap tv := fun V lv hV hi => by
    have hV' := h.fr0 hV
    simp only [List.append_nil] at hi hV' ⊢
    refine (begin_f (lv := lv) V hV' ).mono ?_
    rintro e w' ⟨nv, he, ho, ht⟩
    exact ⟨nv, pre, [], [⟨2, ts.length, [], .slice none 0 0⟩], he, ⟨rfl, rfl⟩, rfl, rfl, ho, (by simpa only [List.append_nil] using ht)⟩
  refine (do_more 5 _ [] 1 pre [] _ w h (fun _ _ => rfl) find_5 rfl (.inr ⟨rfl, hr⟩) (by rintro _ _ ⟨rfl, rfl⟩; exact ⟨by simp, by have := hr; have := h.deep; simp at *; omega⟩) hD).mono ?_
  rintro e w' ⟨rfl, pre', news, g', scap', tv', ⟨rfl, rfl⟩, hf', ht'⟩
  exact ⟨rfl, _, _, _, g', scap', tv', .begin_ _  _ undef, hf', ht'⟩
theorem doP_6 (w : World) (h : Fl w B f p (pre ++ l) g scap ts q cap tv) (hK : l.map Th.kind = [2]) (hl : ts.length < 50000) : Done 6 w B f p pre l g scap ts q cap tv := by
  obtain ⟨x, rfl⟩ := one_of hK
  have hD : DoesF 58 w B f p pre [x] (fun pre' news => pre' = pre ∧ news = ([] : List Th)) g scap ts (ts ++ [⟨6, x.place, 0⟩]) q cap tv := fun V lv hV hi => by
    have hV' := h.fr0 hV
    refine (again_f x V hV' hi hl).mono ?_
    rintro e w' ⟨nv, he, ho, ht⟩
    exact ⟨nv, pre, [x], [], he, ⟨rfl, rfl⟩, rfl, rfl, ho, ht⟩
  refine (do_none 6 _ [2] 0 pre [x] _ w h (fun _ _ => rfl) find_6 hK (.inl rfl) (by rintro _ _ ⟨rfl, rfl⟩; rfl) hD).mono ?_
  rintro e w' ⟨rfl, pre', scap', tv', ⟨rfl, _⟩, hf', ht'⟩
  refine ⟨rfl, _, _, _, g, scap', tv', .again _ _ _ undef, ?_, ?_⟩
  · rw [List.append_nil]; exact hf'
  · rw [List.append_nil]; exact ht'
theorem doP_7 (w : World) (h : Fl w B f p (pre ++ l) g scap ts q cap tv) (hK : l.map Th.kind = [2]) (hl : ts.length < 50000) : Done 7 w B f p pre l g scap ts q cap tv := by
  obtain ⟨x, rfl⟩ := one_of hK
  have hD : DoesF 59 w B f p pre [x] (fun pre' news => pre' = pre ∧ news = ([] : List Th)) g scap ts (ts ++ [⟨7, x.place, 0⟩]) q cap tv := fun V lv hV hi => by
    have hV' := h.fr0 hV
    refine (until_f x V hV' hi hl).mono ?_
    rintro e w' ⟨nv, he, ho, ht⟩
    exact ⟨nv, pre, [x], [], he, ⟨rfl, rfl⟩, rfl, rfl, ho, ht⟩
  refine (do_none 7 _ [2] 0 pre [x] _ w h (fun _ _ => rfl) find_7 hK (.inl rfl) (by rintro _ _ ⟨rfl, rfl⟩; rfl) hD).mono ?_
  rintro e w' ⟨rfl, pre', scap', tv', ⟨rfl, _⟩, hf', ht'⟩
  refine ⟨rfl, _, _, _, g, scap', tv', .until_ _ _ _ undef, ?_, ?_⟩
  · rw [List.append_nil]; exact hf'
  · rw [List.append_nil]; exact ht'
theorem doP_8 (w : World) (h : Fl w B f p (pre ++ l) g scap ts q cap tv) (hK : l.map Th.kind = [2]) (hr : (pre ++ l).length < 64) (hl : ts.length < 50000) : Done 8 w B f p pre l g scap ts q cap tv := by
  obtain ⟨x, rfl⟩ := one_of hK
  have hD : DoesF 60 w B f p pre [x] (fun pre' news => pre' = pre ∧ news = ([⟨1, ts.length, [], .slice none 0 0⟩, x] : List Th)) g scap ts (ts ++ [⟨7, 0, 0⟩]) q cap tv := fun V lv hV hi => by
    have hV' := h.fr0 hV
    refine (while_f x V hV' hi hl).mono ?_
    rintro e w' ⟨nv, he, ho, ht⟩
    exact ⟨nv, pre, [x], [⟨1, ts.length, [], .slice none 0 0⟩, x], he, ⟨rfl, rfl⟩, rfl, rfl, ho, ht⟩
  refine (do_more 8 _ [2] 1 pre [x] _ w h (fun _ _ => rfl) find_8 hK (.inr ⟨rfl, hr⟩) (by rintro _ _ ⟨rfl, rfl⟩; exact ⟨by simp, by have := hr; have := h.deep; simp at *; omega⟩) hD).mono ?_
  rintro e w' ⟨rfl, pre', news, g', scap', tv', ⟨rfl, rfl⟩, hf', ht'⟩
  exact ⟨rfl, _, _, _, g', scap', tv', .while_ _ _ _ undef, hf', ht'⟩
theorem doP_9 (w : World) (h : Fl w B f p (pre ++ l) g scap ts q cap tv) (hK : l.map Th.kind = [1, 2]) (hl : ts.length < 50000) : Done 9 w B f p pre l g scap ts q cap tv := by
  obtain ⟨x, y, rfl⟩ := two_of hK
  have hD : DoesF 61 w B f p pre [x, y] (fun pre' news => pre' = pre ∧ news = ([] : List Th)) g scap ts (patchT (ts ++ [⟨6, y.place, 0⟩]) x.place (ts ++ [(⟨6, y.place, 0⟩ : Tk)]).length) q cap tv := fun V lv hV hi => by
    have hV' := h.fr0 hV
    refine (repeat_f x y V hV' hi hl).mono ?_
    rintro e w' ⟨nv, he, ho, ht⟩
    exact ⟨nv, pre, [x, y], [], he, ⟨rfl, rfl⟩, rfl, rfl, ho, ht⟩
  refine (do_none 9 _ [1, 2] 0 pre [x, y] _ w h (fun _ _ => rfl) find_9 hK (.inl rfl) (by rintro _ _ ⟨rfl, rfl⟩; rfl) hD).mono ?_
  rintro e w' ⟨rfl, pre', scap', tv', ⟨rfl, _⟩, hf', ht'⟩
  refine ⟨rfl, _, _, _, g, scap', tv', .repeat_ _ _ _ _ undef, ?_, ?_⟩
  · rw [List.append_nil]; exact hf'
  · rw [List.append_nil]; exact ht'
theorem doP_10 (w : World) (h : Fl w B f p (pre ++ l) g scap ts q cap tv) (hK : l.map Th.kind = []) (hr : (pre ++ l).length < 64) (hl : ts.length < 50000) : Done 10 w B f p pre l g scap ts q cap tv := by
  obtain rfl := none_of hK
  have hD : DoesF 62 w B f p pre [] (fun pre' news => pre' = pre ∧ news = ([⟨3, (ts ++ [(⟨8, 0, 0⟩ : Tk)]).length, [], .slice none 0 0⟩] : List Th)) g scap ts (ts ++ [⟨8, 0, 0⟩]) q cap tv := fun V lv hV hi => by
    have hV' := h.fr0 hV
    simp only [List.append_nil] at hi hV' ⊢
    refine (loop_f (lv := lv) V hV' hl).mono ?_
    rintro e w' ⟨nv, he, ho, ht⟩
    exact ⟨nv, pre, [], [⟨3, (ts ++ [(⟨8, 0, 0⟩ : Tk)]).length, [], .slice none 0 0⟩], he, ⟨rfl, rfl⟩, rfl, rfl, ho, (by simpa only [List.append_nil] using ht)⟩
  refine (do_more 10 _ [] 1 pre [] _ w h (fun _ _ => rfl) find_10 rfl (.inr ⟨rfl, hr⟩) (by rintro _ _ ⟨rfl, rfl⟩; exact ⟨by simp, by have := hr; have := h.deep; simp at *; omega⟩) hD).mono ?_
  rintro e w' ⟨rfl, pre', news, g', scap', tv', ⟨rfl, rfl⟩, hf', ht'⟩
  exact ⟨rfl, _, _, _, g', scap', tv', .do_ _  _ undef, hf', ht'⟩
theorem doP_11 (w : World) (h : Fl w B f p (pre ++ l) g scap ts q cap tv) (hK : l.map Th.kind = []) (hr : (pre ++ l).length < 64) (hl : ts.length < 50000) : Done 11 w B f p pre l g scap ts q cap tv := by
  obtain rfl := none_of hK
  have hD : DoesF 63 w B f p pre [] (fun pre' news => pre' = pre ∧ ∃ jv, news = ([⟨3, (ts ++ [(⟨9, 0, 0⟩ : Tk)]).length, [(ts.length : Int)], jv⟩] : List Th)) g scap ts (ts ++ [⟨9, 0, 0⟩]) q cap tv := fun V lv hV hi => by
    have hV' := h.fr0 hV
    simp only [List.append_nil] at hi hV' ⊢
    refine (maybe_f (lv := lv) V hV' hl).mono ?_
    rintro e w' ⟨nv, jv, he, ho, ht⟩
    exact ⟨nv, pre, [], [⟨3, (ts ++ [(⟨9, 0, 0⟩ : Tk)]).length, [(ts.length : Int)], jv⟩], he, ⟨rfl, jv, rfl⟩, rfl, rfl, ho, (by simpa only [List.append_nil] using ht)⟩
  refine (do_more 11 _ [] 1 pre [] _ w h (fun _ _ => rfl) find_11 rfl (.inr ⟨rfl, hr⟩) (by rintro _ _ ⟨rfl, _, rfl⟩; exact ⟨by simp, by have := hr; have := h.deep; simp at *; omega⟩) hD).mono ?_
  rintro e w' ⟨rfl, pre', news, g', scap', tv', ⟨rfl, jv, rfl⟩, hf', ht'⟩
  exact ⟨rfl, _, _, _, g', scap', tv', .qdo _  _ jv, hf', ht'⟩
theorem doP_12 (w : World) (h : Fl w B f p (pre ++ l) g scap ts q cap tv) (hK : l.map Th.kind = [3]) (hl : ts.length < 50000) (hj : ∀ x ∈ pre ++ l, x.jumps.length ≤ 100000) : Done 12 w B f p pre l g scap ts q cap tv := by
  obtain ⟨x, rfl⟩ := one_of hK
  have hD : DoesF 64 w B f p pre [x] (fun pre' news => pre' = pre ∧ news = ([] : List Th)) g scap ts (leadsT ts.length (ts ++ [⟨10, x.place, 0⟩]) x.jumps) q cap tv := fun V lv hV hi => by
    have hV' := h.fr0 hV
    refine (again1_f x V hV' hi hl (by have := hj x (by simp); omega)).mono ?_
    rintro e w' ⟨nv, he, ho, ht⟩
    exact ⟨nv, pre, [x], [], he, ⟨rfl, rfl⟩, rfl, rfl, ho, ht⟩
  refine (do_none 12 _ [3] 0 pre [x] _ w h (fun _ _ => rfl) find_12 hK (.inl rfl) (by rintro _ _ ⟨rfl, rfl⟩; rfl) hD).mono ?_
  rintro e w' ⟨rfl, pre', scap', tv', ⟨rfl, _⟩, hf', ht'⟩
  refine ⟨rfl, _, _, _, g, scap', tv', .loop _ _ _ undef, ?_, ?_⟩
  · rw [List.append_nil]; exact hf'
  · rw [List.append_nil]; exact ht'
theorem doP_13 (w : World) (h : Fl w B f p (pre ++ l) g scap ts q cap tv) (hK : l.map Th.kind = [3]) (hl : ts.length < 50000) (hj : ∀ x ∈ pre ++ l, x.jumps.length ≤ 100000) : Done 13 w B f p pre l g scap ts q cap tv := by
  obtain ⟨x, rfl⟩ := one_of hK
  have hD : DoesF 65 w B f p pre [x] (fun pre' news => pre' = pre ∧ news = ([] : List Th)) g scap ts (leadsT ts.length (ts ++ [⟨11, x.place, 0⟩]) x.jumps) q cap tv := fun V lv hV hi => by
    have hV' := h.fr0 hV
    refine (againBy_f x V hV' hi hl (by have := hj x (by simp); omega)).mono ?_
    rintro e w' ⟨nv, he, ho, ht⟩
    exact ⟨nv, pre, [x], [], he, ⟨rfl, rfl⟩, rfl, rfl, ho, ht⟩
  refine (do_none 13 _ [3] 0 pre [x] _ w h (fun _ _ => rfl) find_13 hK (.inl rfl) (by rintro _ _ ⟨rfl, rfl⟩; rfl) hD).mono ?_
  rintro e w' ⟨rfl, pre', scap', tv', ⟨rfl, _⟩, hf', ht'⟩
  refine ⟨rfl, _, _, _, g, scap', tv', .plus _ _ _ undef, ?_, ?_⟩
  · rw [List.append_nil]; exact hf'
  · rw [List.append_nil]; exact ht'
theorem doP_15 (w : World) (h : Fl w B f p (pre ++ l) g scap ts q cap tv) (hK : l.map Th.kind = []) (hr : (pre ++ l).length < 64) (hl : ts.length < 50000) : Done 15 w B f p pre l g scap ts q cap tv := by
  obtain rfl := none_of hK
  have hD : DoesF 67 w B f p pre [] (fun pre' news => pre' = pre ∧ news = ([⟨4, 0, [], .slice none 0 0⟩] : List Th)) g scap ts (ts) q cap tv := fun V lv hV hi => by
    have hV' := h.fr0 hV
    simp only [List.append_nil] at hi hV' ⊢
    refine (choose_f (lv := lv) V hV' ).mono ?_
    rintro e w' ⟨nv, he, ho, ht⟩
    exact ⟨nv, pre, [], [⟨4, 0, [], .slice none 0 0⟩], he, ⟨rfl, rfl⟩, rfl, rfl, ho, (by simpa only [List.append_nil] using ht)⟩
  refine (do_more 15 _ [] 1 pre [] _ w h (fun _ _ => rfl) find_15 rfl (.inr ⟨rfl, hr⟩) (by rintro _ _ ⟨rfl, rfl⟩; exact ⟨by simp, by have := hr; have := h.deep; simp at *; omega⟩) hD).mono ?_
  rintro e w' ⟨rfl, pre', news, g', scap', tv', ⟨rfl, rfl⟩, hf', ht'⟩
  exact ⟨rfl, _, _, _, g', scap', tv', .case_ _  _ undef, hf', ht'⟩
theorem doP_16 (w : World) (h : Fl w B f p (pre ++ l) g scap ts q cap tv) (hK : l.map Th.kind = [4]) (hr : (pre ++ l).length < 64) (hl : ts.length < 50000) : Done 16 w B f p pre l g scap ts q cap tv := by
  obtain ⟨x, rfl⟩ := one_of hK
  have hD : DoesF 68 w B f p pre [x] (fun pre' news => pre' = pre ∧ news = ([x, ⟨5, ts.length, [], .slice none 0 0⟩] : List Th)) g scap ts (ts ++ [⟨13, 0, 0⟩]) q cap tv := fun V lv hV hi => by
    have hV' := h.fr0 hV
    refine (alike_f x V hV' hi hl).mono ?_
    rintro e w' ⟨nv, he, ho, ht⟩
    exact ⟨nv, pre, [x], [x, ⟨5, ts.length, [], .slice none 0 0⟩], he, ⟨rfl, rfl⟩, rfl, rfl, ho, ht⟩
  refine (do_more 16 _ [4] 1 pre [x] _ w h (fun _ _ => rfl) find_16 hK (.inr ⟨rfl, hr⟩) (by rintro _ _ ⟨rfl, rfl⟩; exact ⟨by simp, by have := hr; have := h.deep; simp at *; omega⟩) hD).mono ?_
  rintro e w' ⟨rfl, pre', news, g', scap', tv', ⟨rfl, rfl⟩, hf', ht'⟩
  exact ⟨rfl, _, _, _, g', scap', tv', .of_ _ _ _ undef, hf', ht'⟩
theorem doP_17 (w : World) (h : Fl w B f p (pre ++ l) g scap ts q cap tv) (hK : l.map Th.kind = [4, 5]) (hr : (pre ++ l).length < 64) (hl : ts.length < 50000) (hj : ∀ x ∈ pre ++ l, x.jumps.length ≤ 100000) : Done 17 w B f p pre l g scap ts q cap tv := by
  obtain ⟨x, y, rfl⟩ := two_of hK
  have hD : DoesF 69 w B f p pre [x, y] (fun pre' news => pre' = pre ∧ ∃ jv, news = ([⟨4, 0, x.jumps ++ [(ts.length : Int)], jv⟩] : List Th)) g scap ts (patchT (ts ++ [⟨6, 0, 0⟩]) y.place (ts ++ [(⟨6, 0, 0⟩ : Tk)]).length) q cap tv := fun V lv hV hi => by
    have hV' := h.fr0 hV
    refine (endOf_f x y V hV' hi hl (by have := hj x (by simp); omega)).mono ?_
    rintro e w' ⟨nv, jv, he, ho, ht⟩
    exact ⟨nv, pre, [x, y], [⟨4, 0, x.jumps ++ [(ts.length : Int)], jv⟩], he, ⟨rfl, jv, rfl⟩, rfl, rfl, ho, ht⟩
  refine (do_more 17 _ [4, 5] 0 pre [x, y] _ w h (fun _ _ => rfl) find_17 hK (.inl rfl) (by rintro _ _ ⟨rfl, _, rfl⟩; exact ⟨by simp, by have := hr; have := h.deep; simp at *; omega⟩) hD).mono ?_
  rintro e w' ⟨rfl, pre', news, g', scap', tv', ⟨rfl, jv, rfl⟩, hf', ht'⟩
  exact ⟨rfl, _, _, _, g', scap', tv', .endof _ _ _ _ jv, hf', ht'⟩
theorem doP_18 (w : World) (h : Fl w B f p (pre ++ l) g scap ts q cap tv) (hK : l.map Th.kind = [4]) (hl : ts.length < 50000) (hj : ∀ x ∈ pre ++ l, x.jumps.length ≤ 100000) : Done 18 w B f p pre l g scap ts q cap tv := by
  obtain ⟨x, rfl⟩ := one_of hK
  have hD : DoesF 70 w B f p pre [x] (fun pre' news => pre' = pre ∧ news = ([] : List Th)) g scap ts (joinsT (ts ++ [⟨1, 8, 0⟩]) x.jumps) q cap tv := fun V lv hV hi => by
    have hV' := h.fr0 hV
    refine (endCase_f x V hV' hi hl (by have := hj x (by simp); omega)).mono ?_
    rintro e w' ⟨nv, he, ho, ht⟩
    exact ⟨nv, pre, [x], [], he, ⟨rfl, rfl⟩, rfl, rfl, ho, ht⟩
  refine (do_none 18 _ [4] 0 pre [x] _ w h (fun _ _ => rfl) find_18 hK (.inl rfl) (by rintro _ _ ⟨rfl, rfl⟩; rfl) hD).mono ?_
  rintro e w' ⟨rfl, pre', scap', tv', ⟨rfl, _⟩, hf', ht'⟩
  refine ⟨rfl, _, _, _, g, scap', tv', .endcase _ _ _ undef, ?_, ?_⟩
  · rw [List.append_nil]; exact hf'
  · rw [List.append_nil]; exact ht'
end
end Go.Proofs.Ytoldegajbonliaa
