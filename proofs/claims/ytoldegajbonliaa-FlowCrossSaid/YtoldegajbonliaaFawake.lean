/- Flow: what the document fixes. -/
import Derived.Test.YtoldegajbonliaaFst
import Derived.Test.YtoldegajbonliaaFfind
import Derived.Test.YtoldegajbonliaaFdo2
import Derived.Test.YtoldegajbonliaaFdo3
namespace Go.Proofs.Ytoldegajbonliaa
open Go Go.RowKit
set_option linter.unusedVariables false
attribute [local go_sem] Oper.semAt_some

abbrev RP : TypeId := 60
section
variable {w w' : World} {B f p g scap q cap : Nat} {tv tv' lv : Value} {ts ts' : List Tk} {st l : List Th} {T : Nat → Prop}
theorem Fl.no (h : Fl w B f p st g scap ts q cap tv) {k : Nat} {t : TypeId} {cs : Array Value} (hb : Blk w k t cs) (h1 : t ≠ PP) (h2 : t ≠ 75) (h3 : t ≠ 39) (h4 : t ≠ 67) (h5 : t ≠ 64) (h6 : t ≠ 3) : ¬ FlIn f p q tv g st k := by
  rintro (hk | rfl | rfl | ⟨x, hx, hk⟩)
  · exact h.pl.no hb h1 h2 h3 hk
  · exact Blk.ne_ hb h.fo h4 rfl
  · obtain ⟨cs', hg, _⟩ := h.sk
    exact Blk.ne_ hb hg h5 rfl
  · obtain ⟨_, cs', hb'⟩ := (h.js x hx).2 k hk
    exact Blk.ne_ hb hb' h6 rfl
end
set_option maxRecDepth 100000 in
set_option maxHeartbeats 2000000 in
theorem begun_16 (w : World) : Calls Try.prog 8 #[] w fun e w' => ∃ x p f q r, e = .returned (.pointer (some ⟨x, 0, none⟩)) ∧ Blk w' x 31 #[.pointer (some ⟨p, 0, none⟩), .pointer (some ⟨f, 0, none⟩), .pointer (some ⟨q, 0, none⟩), .pointer (some ⟨r, 0, none⟩)] ∧ Blk w' p PP #[.slice none 0 0, .int .i64 0] ∧ Blk w' f 67 #[.pointer (some ⟨p, 0, none⟩), .int .i64 0, .slice none 0 0] ∧ Blk w' q RP #[.slice none 0 0, .int .i64 0] ∧ Blk w' r 50 #[.pointer (some ⟨q, 0, none⟩), .int .i64 0, .slice none 0 0] ∧ (w.heap.size ≤ x ∧ w.heap.size ≤ p ∧ w.heap.size ≤ f ∧ w.heap.size ≤ q ∧ w.heap.size ≤ r) ∧ Fr0 w w' := by
  go_enter Try.func8, Try.ntmps8
  go_wp2_with (first | (go_at_call 23; refine (New_p _).mono ?_; rintro e w1 ⟨p, rfl, hp, hpl, hf1⟩) | (go_at_call 22; refine (New_f _ (.inr ⟨_, rfl⟩) _).mono ?_; rintro e w3 ⟨f, rfl, hf, hfl, hf3⟩))
  go_ret
  have hq := Blk.new w1 RP #[.slice none 0 0, .int .i64 0]
  have ha := (Fr.refl (fun _ => False) w1).alloc (.cells #[.slice none 0 0, .int .i64 0] RP)
  have hr := Blk.new w3 50 #[.pointer (some ⟨w1.heap.size, 0, none⟩), .int .i64 0, .slice none 0 0]
  have hx := Blk.new (w3.alloc (.cells #[.pointer (some ⟨w1.heap.size, 0, none⟩), .int .i64 0, .slice none 0 0] 50)) 31 #[.pointer (some ⟨p, 0, none⟩), .pointer (some ⟨f, 0, none⟩), .pointer (some ⟨w1.heap.size, 0, none⟩), .pointer (some ⟨w3.heap.size, 0, none⟩)]
  rw [show (w3.alloc (.cells #[.pointer (some ⟨w1.heap.size, 0, none⟩), .int .i64 0, .slice none 0 0] 50)).heap.size = w3.heap.size + 1 by simp] at hx
  have hb := ((Fr.refl (fun _ => False) w3).alloc (.cells #[.pointer (some ⟨w1.heap.size, 0, none⟩), .int .i64 0, .slice none 0 0] 50)).alloc (.cells #[.pointer (some ⟨p, 0, none⟩), .pointer (some ⟨f, 0, none⟩), .pointer (some ⟨w1.heap.size, 0, none⟩), .pointer (some ⟨w3.heap.size, 0, none⟩)] 31)
  have hs1 := hf1.size
  have hs2 := ha.size
  have hs3 := hf3.size
  exact ⟨_, p, f, _, _, rfl, hx, ((hp.fr0 ha).fr0 hf3).fr0 hb, hf.fr0 hb, (hq.fr0 hf3).fr0 hb, hr.alloc _, ⟨Nat.le_succ_of_le (Nat.le_trans hs1 (Nat.le_trans hs2 hs3)), hpl, Nat.le_trans hs1 (Nat.le_trans hs2 hfl), hs1, Nat.le_trans hs1 (Nat.le_trans hs2 hs3)⟩, ((hf1.trans ha).trans hf3).trans hb⟩
def origT : Th := ⟨1, 0, [], .slice none 0 0⟩
set_option maxRecDepth 100000 in
set_option maxHeartbeats 4000000 in
theorem awake16 (w : World) : Calls Try.prog 7 #[] w fun e w' => e = .returned (.bool true) ∧ Fr0 w w' := by
  go_enter Try.func7, Try.ntmps7
  go_wp2_with fail
  go_at_call 8
  refine (begun_16 _).mono ?_
  rintro e w1 ⟨x, p, f, q0, r, rfl, hx, hp, hf, hq, hr, ⟨hlx, hlp, hlf, _, _⟩, hfr⟩
  have x0 := hx.cell 0
  have x1 := hx.cell 1
  clear hq hr
  go_wp2_with fail
  go_at_call 9
  refine (Open_p (B := w.heap.size) _ hp ⟨hlp, hfr.size⟩).mono ?_
  rintro e w2 ⟨rfl, q, cap, hpl, hf2, hlq⟩
  have hx := hx.fr hf2 (fun e => Blk.ne_ hx hp (by decide) e)
  have hf := hf.fr hf2 (fun e => Blk.ne_ hf hp (by decide) e)
  have hfr := hfr.then hf2 (fun k hk he => by rw [he] at hk; omega)
  clear x0 x1 hp hf2
  have x0 := hx.cell 0
  have x1 := hx.cell 1
  go_wp2_with fail
  go_at_call 10
  refine (Start_f _ hf hpl hlf).mono ?_
  rintro e w3 ⟨rfl, g, hfl, hf3, hlg⟩
  have hx := hx.fr hf3 (fun e => Blk.ne_ hx hf (by decide) e)
  have hfr := hfr.then hf3 (fun k hk he => by rw [he] at hk; omega)
  clear x0 x1 hf hf3
  have x0 := hx.cell 0
  have x1 := hx.cell 1
  go_wp2_with fail
  go_at_call 12
  refine (do_more (ts' := [⟨7, 0, 0⟩]) 1 _ [] 1 [colonT] [] (fun pre' news => pre' = [colonT] ∧ news = [origT]) _ hfl (fun _ _ => rfl) find_1 rfl (.inr ⟨rfl, by decide⟩) (by rintro _ _ ⟨rfl, rfl⟩; exact ⟨by decide, by decide⟩) (fun V lv hV hi => (jumpIf_f (lv := lv) V (hfl.fr0 hV) (by decide)).mono (by rintro e w' ⟨nv, he, ho, ht⟩; exact ⟨nv, [colonT], [], [origT], he, ⟨rfl, rfl⟩, rfl, rfl, ho, ht⟩))).mono ?_
  rintro e w4 ⟨rfl, _, _, g4, s4, tv4, ⟨rfl, rfl⟩, hfl4, t4⟩
  have hx := hx.fr t4.1 (hfl.no hx (by decide) (by decide) (by decide) (by decide) (by decide) (by decide))
  have hfr := hfr.then t4.1 (fun k hk he => by have := (hfl.in_lo he).1; omega)
  clear x0 x1 hfl t4
  have x0 := hx.cell 0
  have x1 := hx.cell 1
  go_wp2_with fail
  go_at_call 12
  refine (do_none (ts' := [⟨7, 1, 0⟩]) 3 _ [1] 0 [colonT] [origT] (fun pre' news => pre' = [colonT] ∧ news = []) _ hfl4 (fun _ _ => rfl) find_3 rfl (.inl rfl) (by rintro _ _ ⟨rfl, rfl⟩; rfl) (fun V lv hV hi => (then_f origT V (hfl4.fr0 hV) hi).mono (by rintro e w' ⟨nv, he, ho, ht⟩; exact ⟨nv, [colonT], [origT], [], he, ⟨rfl, rfl⟩, rfl, rfl, ho, ht⟩))).mono ?_
  rintro e w5 ⟨rfl, _, s5, tv5, ⟨rfl, _⟩, hfl5, t5⟩
  have hx := hx.fr t5.1 (hfl4.no hx (by decide) (by decide) (by decide) (by decide) (by decide) (by decide))
  have hfr := hfr.then t5.1 (fun k hk he => by have := (hfl4.in_lo he).1; omega)
  clear x0 x1 hfl4 t5
  have x0 := hx.cell 0
  have x1 := hx.cell 1
  go_wp2_with fail
  go_at_call 15
  refine (Finish_f colonT _ hfl5 rfl (by decide)).mono ?_
  rintro e w6 ⟨rfl, tv6, hf6, hp6, f6⟩
  have hx := hx.fr f6 (hfl5.no hx (by decide) (by decide) (by decide) (by decide) (by decide) (by decide))
  have hfr := hfr.then f6 (fun k hk he => by have := (hfl5.in_lo he).1; omega)
  clear x0 x1 hfl5 f6
  have x0 := hx.cell 0
  have x1 := hx.cell 1
  have HAT := At_p 0 _ hp6
  rw [show atT ([⟨7, 1, 0⟩] ++ [⟨14, 0, 0⟩]) 0 = ⟨7, 1, 0⟩ from rfl, show decide ((0 : Int) ≤ 0 ∧ (0 : Int) < (([⟨7, 1, 0⟩] ++ [⟨14, 0, 0⟩] : List Tk).length : Nat)) = true from by decide] at HAT
  unfold Tk.val at HAT
  go_wp2_with fail
  go_at_call 18
  refine HAT.mono ?_
  rintro e w7 ⟨rfl, hf7⟩
  have hfr := hfr.trans hf7
  go_wp2_with fail
  go_ret
  exact ⟨rfl, hfr.alloc _⟩
end Go.Proofs.Ytoldegajbonliaa
