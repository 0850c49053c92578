/- Flow: what is compiled, and its stack. -/
import Derived.Test.YtoldegajbonliaaFp2
namespace Go.Proofs.Ytoldegajbonliaa
open Go Go.RowKit
set_option linter.unusedVariables false
attribute [local go_sem] Oper.semAt_some

/-- A thing of the stack. -/
structure Th where
  kind : Int
  place : Int
  jumps : List Int
  jv : Value
def Th.cells (t : Th) : List Value := [.int .i64 t.kind, .int .i64 t.place, t.jv]
def Th.val (t : Th) : Value := .agg #[.int .i64 t.kind, .int .i64 t.place, t.jv]
theorem thz : ∀ t : Th, t.cells.length = 3 := fun _ => rfl
/-- A row of ints that stays. -/
def JR (w : World) (B : Nat) (v : Value) (xs : List Int) : Prop := Rd w v xs.length 1 (xs.map (Value.int .i64)) ∧ ∀ k, v.ownBlock = some k → B ≤ k ∧ ∃ cs, Blk w k 3 cs
theorem JR.nil (w : World) (B : Nat) : JR w B (.slice none 0 0) [] := ⟨Rd.nil w 1 none 0, fun k hk => by cases hk⟩
theorem JR.fr {w w' : World} {B : Nat} {v : Value} {xs : List Int} {T : Nat → Prop} (h : JR w B v xs) (hf : Fr T w w') (hT : ∀ k, v.ownBlock = some k → ¬ T k) : JR w' B v xs := by
  obtain ⟨h1, h2⟩ := h
  obtain ⟨_, A, c, rfl, _⟩ := id h1
  refine ⟨h1.fr hf (fun a ha => ?_), fun k hk => ?_⟩
  · subst ha
    have h3 := h2 a.block (by cases a; rfl)
    obtain ⟨cs, hb⟩ := h3.2
    exact ⟨hT _ (by cases a; rfl), hb.lt⟩
  · obtain ⟨h3, cs, hb⟩ := h2 k hk
    exact ⟨h3, cs, hb.fr hf (hT k hk)⟩
/-- Flow f compiles definition 1 of pool p: its tokens ts, its stack st in block g. -/
structure Fl (w : World) (B f p : Nat) (st : List Th) (g scap : Nat) (ts : List Tk) (q cap : Nat) (tv : Value) : Prop where
  fo : Blk w f 67 #[.pointer (some ⟨p, 0, none⟩), .int .i64 1, .slice (some ⟨g, 0, none⟩) st.length scap]
  pl : Pl PP w B p q cap tv ts
  sk : ∃ cs, Blk w g 64 cs ∧ st.length ≤ scap ∧ scap * 3 ≤ cs.size ∧ cs.toList.take (st.length * 3) = st.flatMap Th.cells
  js : ∀ x ∈ st, JR w B x.jv x.jumps
  lo : B ≤ f ∧ B ≤ g
  deep : st.length ≤ 64
def FlIn (f p q : Nat) (tv : Value) (g : Nat) (st : List Th) (k : Nat) : Prop := PlIn p q tv k ∨ k = f ∨ k = g ∨ ∃ x ∈ st, x.jv.ownBlock = some k
section
variable {w w' : World} {B f p g scap q cap : Nat} {tv tv' : Value} {ts ts' : List Tk} {st : List Th} {T : Nat → Prop}
/-- A block of another type is none of the pool's. -/
theorem Pl.no {tp : TypeId} (h : Pl tp w B p q cap tv ts) {k : Nat} {t : TypeId} {cs : Array Value} (hb : Blk w k t cs) (h1 : t ≠ tp) (h2 : t ≠ 75) (h3 : t ≠ 39) : ¬ PlIn p q tv k := by
  rintro (rfl | rfl | hk)
  · exact Blk.ne_ hb h.po h1 rfl
  · obtain ⟨cur, hq, _⟩ := h.dr
    exact Blk.ne_ hb hq h2 rfl
  · rcases h.tr.2 with ⟨e, _⟩ | ⟨g', cap', cs', e, _, hg, _⟩
    · rw [e] at hk; cases hk
    · rw [e] at hk
      injection hk with hk
      subst hk
      exact Blk.ne_ hb (show Blk w g' 39 cs' from hg) h3 rfl
theorem Fl.in_lo (h : Fl w B f p st g scap ts q cap tv) {k : Nat} (hk : FlIn f p q tv g st k) : B ≤ k ∧ k < w.heap.size := by
  rcases hk with h1 | rfl | rfl | ⟨x, hx, h1⟩
  · exact h.pl.in_lo h1
  · exact ⟨h.lo.1, h.fo.lt⟩
  · obtain ⟨cs, hg, _⟩ := h.sk
    exact ⟨h.lo.2, hg.lt⟩
  · obtain ⟨h2, cs, hb⟩ := (h.js x hx).2 k h1
    exact ⟨h2, hb.lt⟩
/-- A call that turns the pool alone. -/
theorem Fl.pool (h : Fl w B f p st g scap ts q cap tv) (hp : Pl PP w' B p q cap tv' ts') (ht : Turn (PlIn p q tv) (PlIn p q tv') w w') : Fl w' B f p st g scap ts' q cap tv' ∧ Turn (FlIn f p q tv g st) (FlIn f p q tv' g st) w w' := by
  obtain ⟨cs, hg, hs⟩ := h.sk
  refine ⟨⟨h.fo.fr ht.1 (h.pl.no h.fo (by decide) (by decide) (by decide)), hp, ⟨cs, hg.fr ht.1 (h.pl.no hg (by decide) (by decide) (by decide)), hs⟩, fun x hx => (h.js x hx).fr ht.1 (fun k hk => ?_), h.lo, h.deep⟩, ht.1.mono (fun k _ hk => .inl hk), fun k hk => ?_⟩
  · obtain ⟨_, cs', hb⟩ := (h.js x hx).2 k hk
    exact h.pl.no hb (by decide) (by decide) (by decide)
  · rcases hk with h1 | h1
    · rcases ht.2 k h1 with h2 | h2
      · exact .inl (.inl h2)
      · exact .inr h2
    · exact .inl (.inr h1)
theorem Fl.fr (h : Fl w B f p st g scap ts q cap tv) (hf : Fr T w w') (hT : ∀ k, FlIn f p q tv g st k → ¬ T k) : Fl w' B f p st g scap ts q cap tv := by
  obtain ⟨cs, hg, hs⟩ := h.sk
  exact ⟨h.fo.fr hf (hT _ (.inr (.inl rfl))), h.pl.fr hf (fun k hk => hT k (.inl hk)), ⟨cs, hg.fr hf (hT _ (.inr (.inr (.inl rfl)))), hs⟩, fun x hx => (h.js x hx).fr hf (fun k hk => hT k (.inr (.inr (.inr ⟨x, hx, hk⟩)))), h.lo, h.deep⟩
theorem Fl.fr0 (h : Fl w B f p st g scap ts q cap tv) (hf : Fr0 w w') : Fl w' B f p st g scap ts q cap tv := h.fr hf fun _ _ x => x
theorem Fl.cells (h : Fl w B f p st g scap ts q cap tv) : w.cell? ⟨f, 0, none⟩ = some (.pointer (some ⟨p, 0, none⟩)) ∧ w.cell? ⟨f, 1, none⟩ = some (.int .i64 1) ∧ w.cell? ⟨f, 2, none⟩ = some (.slice (some ⟨g, 0, none⟩) st.length scap) := ⟨h.fo.cell 0, h.fo.cell 1, h.fo.cell 2⟩
set_option maxRecDepth 100000 in
theorem none_f (w : World) (h : Fl w B f p st g scap ts q cap tv) : Calls Try.prog 30 #[.pointer (some ⟨f, 0, none⟩)] w fun e w' => e = .returned (.bool false) ∧ w = w' := by
  obtain ⟨c0, _, _⟩ := h.cells
  clear h
  go_enter Try.func30, Try.ntmps30
  go_wp2_with fail
  go_ret
  exact ⟨rfl, rfl⟩
set_option maxRecDepth 100000 in
theorem Depth_f (w : World) (h : Fl w B f p st g scap ts q cap tv) : Calls Try.prog 14 #[.pointer (some ⟨f, 0, none⟩)] w fun e w' => e = .returned (.int .i64 st.length) ∧ w = w' := by
  obtain ⟨_, _, c2⟩ := h.cells
  clear h
  go_enter Try.func14, Try.ntmps14
  go_wp2_with fail
  go_ret
  exact ⟨rfl, rfl⟩
set_option maxRecDepth 100000 in
theorem here_f (w : World) (h : Fl w B f p st g scap ts q cap tv) : Calls Try.prog 81 #[.pointer (some ⟨f, 0, none⟩)] w fun e w' => e = .returned (.int .i64 ts.length) ∧ Fr0 w w' := by
  have HLE := Lib.hid (Len_p _ (h.fr0 (Fr.refl (fun _ => False) w).drew).pl)
  obtain ⟨c0, c1, _⟩ := h.cells
  clear h
  go_enter Try.func81, Try.ntmps81
  go_wp2_with fail
  go_region_held3 (fun V => V.cell? ⟨f, 0, none⟩ = some (.pointer (some ⟨p, 0, none⟩)) ∧ V.cell? ⟨f, 1, none⟩ = some (.int .i64 1)) (exact ⟨c0, c1⟩) (first | (go_at_call 17; refine HLE.out.mono ?_; rintro e w2 ⟨rfl, rfl⟩))
  go_wp2_with fail
  go_ret
  exact ⟨rfl, (Fr.refl _ _).drew⟩
set_option maxRecDepth 100000 in
set_option maxHeartbeats 2000000 in
theorem lay_f (op a : Int) (w : World) (h : Fl w B f p st g scap ts q cap tv) (hl : ts.length < 50000) : Calls Try.prog 35 #[.pointer (some ⟨f, 0, none⟩), .int .i64 op, .int .i64 a] w fun e w' => e = .returned (.tuple #[.int .i64 ts.length, .int .i64 0]) ∧ ∃ tv', Fl w' B f p st g scap (ts ++ [⟨op, a, 0⟩]) q cap tv' ∧ Turn (FlIn f p q tv g st) (FlIn f p q tv' g st) w w' := by
  have HH := Lib.hid (h.fr0 (Fr.refl (fun _ => False) w).drew)
  have HEM := Lib.hid (Emit_p ⟨op, a, 0⟩ _ HH.out.pl hl)
  obtain ⟨c0, c1, _⟩ := h.cells
  obtain ⟨n, hn⟩ : ∃ n, ts.length = n := ⟨_, rfl⟩
  unfold Tk.val at HEM
  rw [hn] at HEM ⊢
  clear h hn
  go_enter Try.func35, Try.ntmps35
  go_wp2_with fail
  go_region_held3 (fun V => V.cell? ⟨f, 0, none⟩ = some (.pointer (some ⟨p, 0, none⟩)) ∧ V.cell? ⟨f, 1, none⟩ = some (.int .i64 1)) (first | exact ⟨c0, c1⟩ | exact ⟨hx.1.cells.1, hx.1.cells.2.1⟩) (first | (go_at_call 13; refine HEM.out.mono ?_; rintro e w2 ⟨rfl, tv2, h2, t2⟩; have hx := HH.out.pool h2 t2))
  have HX := Lib.hid hx
  clear hx h2 t2
  go_wp2_with fail
  go_ret2
  exact ⟨rfl, _, HX.out.1, (Turn.of0 (Fr.refl (fun _ => False) w).drew).trans HX.out.2⟩
end
end Go.Proofs.Ytoldegajbonliaa
