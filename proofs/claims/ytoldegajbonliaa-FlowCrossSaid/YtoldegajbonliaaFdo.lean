/- Flow: Do, whatever the word. -/
import Derived.Test.YtoldegajbonliaaFd1
import Derived.Laws.EntriesVeiled
namespace Go.Proofs.Ytoldegajbonliaa
open Go Go.RowKit
set_option linter.unusedVariables false
attribute [local go_sem] Oper.semAt_some

section
variable {w w' : World} {B f p g scap q cap : Nat} {tv tv' lv : Value} {ts ts' : List Tk} {st l : List Th} {T : Nat → Prop}
theorem Rd.fr0 {v : Value} {m size : Nat} {news : List Value} (h : Rd w v m size news) (hf : Fr0 w w') : Rd w' v m size news := by
  obtain ⟨h1, A', cap', e, h2⟩ := h
  refine ⟨h1, A', cap', e, fun hm => ?_⟩
  obtain ⟨b, off, eb, hc⟩ := h2 hm
  exact ⟨b, off, eb, fun j u hj => (hf.cell (p := ⟨b, off + j, none⟩) (World.block_lt_of_cell? _ _ (hc j u hj)) (fun x => x)).trans (hc j u hj)⟩
/-- What find tells of a word: a word's row. -/
def Finds (word : Int) (fn : FuncId) (K : List Int) (more : Int) : Prop := ∀ V : World, Calls Try.prog 33 #[.int .i64 word] V fun e w' => ∃ kv, e = .returned (.tuple #[.agg #[kv, .int .i64 more, .func (.func fn) #[] #[]], .bool true]) ∧ Fr0 V w' ∧ Rd w' kv K.length 1 (K.map (Value.int .i64))
/-- What a word's function does: to the tokens, to the stack, and what it lays on it (N: what stays and what is new). -/
def DoesF (fn : FuncId) (w : World) (B f p : Nat) (pre l : List Th) (N : List Th → List Th → Prop) (g scap : Nat) (ts ts' : List Tk) (q cap : Nat) (tv : Value) : Prop :=
  ∀ V lv, Fr0 w V → In_ V g (pre ++ l) lv l → Calls Try.prog fn #[.pointer (some ⟨f, 0, none⟩), lv] V fun e w' => ∃ nv pre' l' news, e = .returned (.tuple #[nv, .int .i64 0]) ∧ N pre' news ∧ pre'.length = pre.length ∧ l'.length = l.length ∧ Out V w' B (pre ++ l) nv news ∧ ∃ tv', Fl w' B f p (pre' ++ l') g scap ts' q cap tv' ∧ Turn (FlIn f p q tv g (pre ++ l)) (FlIn f p q tv' g (pre' ++ l')) V w'
theorem Fl.things (h : Fl w B f p st g scap ts q cap tv) {i : Nat} {x : Th} (hx : st[i]? = some x) : w.cell? ⟨g, i * 3, none⟩ = some (.int .i64 x.kind) ∧ w.cell? ⟨g, i * 3 + 1, none⟩ = some (.int .i64 x.place) ∧ w.cell? ⟨g, i * 3 + 2, none⟩ = some x.jv := by
  obtain ⟨cs, hg, h1, h2, h3⟩ := h.sk
  have hi : i < st.length := (List.getElem?_eq_some_iff.1 hx).1
  have hc : ∀ j, j < 3 → w.cell? ⟨g, i * 3 + j, none⟩ = x.cells[j]? := fun j hj => by
    rw [hg.cell]
    have e1 := flatZ_at thz hx hj
    rw [← h3, List.getElem?_take, if_pos (by omega)] at e1
    rw [← e1, Array.getElem?_toList]
  exact ⟨hc 0 (by omega), hc 1 (by omega), hc 2 (by omega)⟩
/-- The last things, as a word's function takes them. -/
theorem Fl.into {pre : List Th} (h : Fl w B f p (pre ++ l) g scap ts q cap tv) (c : Nat) : In_ w g (pre ++ l) (.slice (some ⟨g, pre.length * 3, none⟩) l.length c) l := by
  exact ⟨⟨pre, _, c, rfl, rfl, .inr rfl⟩⟩
/-- The last things taken off. -/
theorem Fl.cut {pre : List Th} (h : Fl w B f p (pre ++ l) g scap ts q cap tv) : Fl (w.setCell ⟨f, 2, none⟩ (.slice (some ⟨g, 0, none⟩) pre.length pre.length)) B f p pre g pre.length ts q cap tv ∧ Turn (FlIn f p q tv g (pre ++ l)) (FlIn f p q tv g pre) w (w.setCell ⟨f, 2, none⟩ (.slice (some ⟨g, 0, none⟩) pre.length pre.length)) := by
  obtain ⟨cs, hg, h1, h2, h3⟩ := h.sk
  rw [List.length_append] at h1 h3
  have hdeep := h.deep
  rw [List.length_append] at hdeep
  have hf := (Fr.refl (fun k => k = f) w).setCell (p := ⟨f, 2, none⟩) (.inl rfl) (.slice (some ⟨g, 0, none⟩) pre.length pre.length)
  have hfg : g ≠ f := fun e => Blk.ne_ hg h.fo (by decide) e
  have hfp : ∀ k, PlIn p q tv k → k ≠ f := fun k hk he => h.pl.no h.fo (by decide) (by decide) (by decide) (he ▸ hk)
  have hfj : ∀ x ∈ pre ++ l, ∀ k, x.jv.ownBlock = some k → k ≠ f := fun x hx k hk he => by
    obtain ⟨_, cs', hb⟩ := (h.js x hx).2 k hk
    exact Blk.ne_ hb h.fo (by decide) he
  have hfo := h.fo.set_ 2 (.slice (some ⟨g, 0, none⟩) pre.length pre.length)
  simp only [List.setIfInBounds_toArray, List.set_cons_zero, List.set_cons_succ] at hfo
  refine ⟨⟨hfo, h.pl.fr hf hfp, ⟨cs, hg.fr hf hfg, Nat.le_refl _, by have := Nat.mul_le_mul_right 3 (show pre.length ≤ scap by omega); omega, ?_⟩, fun x hx => (h.js x (List.mem_append_left _ hx)).fr hf (hfj x (List.mem_append_left _ hx)), h.lo, by omega⟩, hf.mono (fun k _ hk => .inr (.inl hk)), fun k hk => ?_⟩
  · have h4 := congrArg (List.take (pre.length * 3)) h3
    rw [List.take_take, List.flatMap_append, Nat.min_eq_left (by omega)] at h4
    rw [h4]
    exact List.take_left' (flatZ_len thz pre)
  · rcases hk with h5 | h5 | h5 | ⟨x, hx, h5⟩
    · exact .inl (.inl h5)
    · exact .inl (.inr (.inl h5))
    · exact .inl (.inr (.inr (.inl h5)))
    · exact .inl (.inr (.inr (.inr ⟨x, List.mem_append_left _ hx, h5⟩)))
theorem infoTh : (Try.prog.info? 64).map (fun i => (i.zero, i.size, i.bytes)) = some (some (.agg #[.int .i64 0, .int .i64 0, .slice none 0 0]), 3, 40) := by kernel_rfl
/-- Things laid on a stack that has been copied. -/
theorem Fl.push {pre news : List Th} {g2 cap2 k : Nat} (h : Fl w B f p (pre ++ l) g scap ts q cap tv) (hg : w.grownBy w' none) (ho : w'.ownsRow w.heap.size 64 3 (.slice (some ⟨g2, 0, none⟩) k cap2) k (pre.flatMap Th.cells ++ news.flatMap Th.cells)) (hk : k = (pre ++ news).length) (hd : k ≤ 64) (hj : ∀ x ∈ news, JR w B x.jv x.jumps) :
    Fl (w'.setCell ⟨f, 2, none⟩ (.slice (some ⟨g2, 0, none⟩) k cap2)) B f p (pre ++ news) g2 cap2 ts q cap tv ∧ Fr (fun i => i = f) w (w'.setCell ⟨f, 2, none⟩ (.slice (some ⟨g2, 0, none⟩) k cap2)) ∧ w.heap.size ≤ g2 := by
  have hf1 : Fr0 w w' := (Fr.refl (fun _ => False) w).grown hg (fun k hk => by cases hk)
  have hf : Fr (fun i => i = f) w (w'.setCell ⟨f, 2, none⟩ (.slice (some ⟨g2, 0, none⟩) k cap2)) := (hf1.of0 (S := fun i => i = f)).setCell (p := ⟨f, 2, none⟩) (.inl rfl) _
  have hfl := h.fo.lt
  have hbf : B ≤ w.heap.size := h.pl.lo.2.2
  have hfp : ∀ i, PlIn p q tv i → i ≠ f := fun i hi he => h.pl.no h.fo (by decide) (by decide) (by decide) (he ▸ hi)
  have hjr : ∀ x : Th, JR w B x.jv x.jumps → JR (w'.setCell ⟨f, 2, none⟩ (.slice (some ⟨g2, 0, none⟩) k cap2)) B x.jv x.jumps := fun x hx => hx.fr hf (fun i hi he => by
    obtain ⟨_, cs', hb⟩ := hx.2 i hi
    exact Blk.ne_ hb h.fo (by decide) he)
  obtain ⟨hb2, cs, hbk, hc1, hc2, hc3⟩ : w.heap.size ≤ g2 ∧ ∃ cs, Blk w' g2 64 cs ∧ k ≤ cap2 ∧ cs.size = cap2 * 3 ∧ cs.toList.take (k * 3) = pre.flatMap Th.cells ++ news.flatMap Th.cells := by
    rcases ho.2 with ⟨e, _⟩ | ⟨g', c', cs, e, hb, hgg, hle, _, hsz, htk⟩
    · cases e
    · simp only [Value.slice.injEq, Option.some.injEq, Addr.mk.injEq, and_true, true_and] at e
      obtain ⟨rfl, rfl⟩ := e
      exact ⟨hb, cs, hgg, hle, hsz, htk⟩
  have hfo := (h.fo.fr0 hf1).set_ 2 (.slice (some ⟨g2, 0, none⟩) k cap2)
  simp only [List.setIfInBounds_toArray, List.set_cons_zero, List.set_cons_succ] at hfo
  refine ⟨⟨by rw [← hk]; exact hfo, h.pl.fr hf hfp, ⟨cs, hbk.far (p := ⟨f, 2, none⟩) (by dsimp only; omega) _, by rw [← hk]; exact hc1, by omega, by rw [← hk, List.flatMap_append]; exact hc3⟩, fun x hx => ?_, ⟨h.lo.1, Nat.le_trans hbf hb2⟩, by rw [← hk]; exact hd⟩, hf, hb2⟩
  rcases List.mem_append.1 hx with hx | hx
  · exact hjr x (h.js x (List.mem_append_left _ hx))
  · exact hjr x (hj x hx)
end
end Go.Proofs.Ytoldegajbonliaa
