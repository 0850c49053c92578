/- Flow: both sides begun; a word done on both. -/
import Derived.Test.YtoldegajbonliaaFr7
import Derived.Test.YtoldegajbonliaaFawake
namespace Go.Proofs.Ytoldegajbonliaa
open Go Go.RowKit
set_option linter.unusedVariables false
attribute [local go_sem] Oper.semAt_some

/-- One side: a state, told of a world and of its own blocks. -/
structure Side (B : Nat) (A : World → (Nat → Prop) → Prop) : Prop where
  fr : ∀ {w w' : World} {S T : Nat → Prop}, A w S → Fr T w w' → (∀ k, S k → ¬ T k) → A w' S
  lo : ∀ {w : World} {S : Nat → Prop} {k : Nat}, A w S → S k → B ≤ k ∧ k < w.heap.size
  no : ∀ {w : World} {S : Nat → Prop} {k : Nat} {cs : Array Value}, A w S → Blk w k 31 cs → ¬ S k
  no2 : ∀ {w : World} {S : Nat → Prop} {k : Nat} {cs : Array Value}, A w S → Blk w k 47 cs → ¬ S k
/-- The program's flow: its kinds and its tokens. -/
def FlS (B f p : Nat) (ks : List Int) (ts : List Tk) (w : World) (S : Nat → Prop) : Prop := ∃ st g scap q cap tv, Fl w B f p st g scap ts q cap tv ∧ st.map Th.kind = ks ∧ S = FlIn f p q tv g st
/-- The document's. -/
def RFS (B r p : Nat) (ks : List Int) (ts : List Tk) (w : World) (S : Nat → Prop) : Prop := ∃ xs lv q cap tv, RF w B r p xs lv ts q cap tv ∧ xs.map RT.kind = ks ∧ S = RFIn r p q tv lv xs
theorem FlS.side (B f p : Nat) (ks : List Int) (ts : List Tk) : Side B (FlS B f p ks ts) :=
  ⟨fun ⟨st, g, scap, q, cap, tv, h, e, e2⟩ hf hT => ⟨st, g, scap, q, cap, tv, h.fr hf (fun k hk => hT k (e2 ▸ hk)), e, e2⟩,
   fun ⟨st, g, scap, q, cap, tv, h, e, e2⟩ hk => h.in_lo (e2 ▸ hk),
   fun ⟨st, g, scap, q, cap, tv, h, e, e2⟩ hb hk => h.no hb (by decide) (by decide) (by decide) (by decide) (by decide) (by decide) (e2 ▸ hk),
   fun ⟨st, g, scap, q, cap, tv, h, e, e2⟩ hb hk => h.no hb (by decide) (by decide) (by decide) (by decide) (by decide) (by decide) (e2 ▸ hk)⟩
theorem RFS.side (B r p : Nat) (ks : List Int) (ts : List Tk) : Side B (RFS B r p ks ts) :=
  ⟨fun ⟨xs, lv, q, cap, tv, h, e, e2⟩ hf hT => ⟨xs, lv, q, cap, tv, h.fr hf (fun k hk => hT k (e2 ▸ hk)), e, e2⟩,
   fun ⟨xs, lv, q, cap, tv, h, e, e2⟩ hk => h.in_lo (e2 ▸ hk),
   fun ⟨xs, lv, q, cap, tv, h, e, e2⟩ hb hk => h.no hb (by decide) (by decide) (by decide) (by decide) (by decide) (by decide) (e2 ▸ hk),
   fun ⟨xs, lv, q, cap, tv, h, e, e2⟩ hb hk => h.no hb (by decide) (by decide) (by decide) (by decide) (by decide) (by decide) (e2 ▸ hk)⟩
/-- Both, apart from one another, and the pair that names them. -/
structure Bo (w : World) (x p f q r : Nat) (A C : World → (Nat → Prop) → Prop) (S R : Nat → Prop) : Prop where
  tw : Blk w x 31 #[.pointer (some ⟨p, 0, none⟩), .pointer (some ⟨f, 0, none⟩), .pointer (some ⟨q, 0, none⟩), .pointer (some ⟨r, 0, none⟩)]
  a : A w S
  c : C w R
  apart : ∀ k, S k → ¬ R k
section
variable {w w' : World} {B x p f q r : Nat} {A A' C C' : World → (Nat → Prop) → Prop} {S S' R R' T : Nat → Prop}
theorem Bo.fr (h : Bo w x p f q r A C S R) (sa : Side B A) (sc : Side B C) (hf : Fr T w w') (hx : ¬ T x) (hT : ∀ k, S k ∨ R k → ¬ T k) : Bo w' x p f q r A C S R :=
  ⟨h.tw.fr hf hx, sa.fr h.a hf (fun k hk => hT k (.inl hk)), sc.fr h.c hf (fun k hk => hT k (.inr hk)), h.apart⟩
theorem Bo.fr0 (h : Bo w x p f q r A C S R) (sa : Side B A) (sc : Side B C) (hf : Fr0 w w') : Bo w' x p f q r A C S R := h.fr sa sc hf (fun h => h) (fun _ _ h => h)
/-- The program's side turned. -/
theorem Bo.left (h : Bo w x p f q r A C S R) (sa : Side B A) (sc : Side B C) (ha : A' w' S') (ht : Turn S S' w w') : Bo w' x p f q r A' C S' R :=
  ⟨h.tw.fr ht.1 (sa.no h.a h.tw), ha, sc.fr h.c ht.1 (fun k hk hs => h.apart k hs hk), fun k hk hr => by
    rcases ht.2 k hk with h1 | h1
    · exact h.apart k h1 hr
    · have := (sc.lo h.c hr).2
      omega⟩
theorem Bo.right (h : Bo w x p f q r A C S R) (sa : Side B A) (sc : Side B C) (hc : C' w' R') (ht : Turn R R' w w') : Bo w' x p f q r A C' S R' :=
  ⟨h.tw.fr ht.1 (sc.no h.c h.tw), sa.fr h.a ht.1 (fun k hk hs => h.apart k hk hs), hc, fun k hk hr => by
    rcases ht.2 k hr with h1 | h1
    · exact h.apart k hk h1
    · have := (sa.lo h.a hk).2
      omega⟩
/-- What a call turns, of both. -/
theorem turnL (ht : Turn S S' w w') : Turn (fun k => S k ∨ R k) (fun k => S' k ∨ R k) w w' :=
  ⟨ht.1.mono (fun k _ hk => .inl hk), fun k hk => hk.elim (fun h => (ht.2 k h).imp .inl id) (fun h => .inl (.inr h))⟩
theorem turnR (ht : Turn R R' w w') : Turn (fun k => S k ∨ R k) (fun k => S k ∨ R' k) w w' :=
  ⟨ht.1.mono (fun k _ hk => .inr hk), fun k hk => hk.elim (fun h => .inl (.inl h)) (fun h => (ht.2 k h).imp .inr id)⟩
set_option maxRecDepth 100000 in
set_option maxHeartbeats 8000000 in
theorem does_1 (word t u : Int) (w : World) (h : Bo w x p f q r A C S R) (sa : Side B A) (sc : Side B C) (sa' : Side B A') (sc' : Side B C')
    (hP : ∀ V, A V S → Calls Try.prog 12 #[.pointer (some ⟨f, 0, none⟩), .int .i64 word] V fun e V' => e = .returned (.int .i64 t) ∧ ∃ S', A' V' S' ∧ Turn S S' V V')
    (hQ : ∀ V, C V R → Calls Try.prog 28 #[.pointer (some ⟨r, 0, none⟩), .int .i64 word] V fun e V' => e = .returned (.int .i64 u) ∧ ∃ R', C' V' R' ∧ Turn R R' V V') :
    Calls Try.prog 20 #[.pointer (some ⟨x, 0, none⟩), .agg #[.int .i64 1, .int .i64 word]] w fun e w' => e = .returned (.bool (t == u)) ∧ ∃ S' R', Bo w' x p f q r A' C' S' R' ∧ Turn (fun k => S k ∨ R k) (fun k => S' k ∨ R' k) w w' := by
  have hf := (Fr.refl (fun _ => False) w).alloc (.cells #[.int .i64 1, .int .i64 word] 47)
  have hbs := Blk.new w 47 #[.int .i64 1, .int .i64 word]
  have h0 := h.fr0 sa sc hf.drew
  have HBS := Lib.hid hbs.drew
  have HF := Lib.hid hf.drew
  have H0 := Lib.hid h0
  have HP := Lib.hid hP
  have HQ := Lib.hid hQ
  have s0 := hbs.cell 0
  have s1 := hbs.cell 1
  have x1 := (h.fr0 sa sc hf).tw.cell 1
  have x3 := (h.fr0 sa sc hf).tw.cell 3
  clear h hP hQ h0 hf hbs
  go_enter Try.func20, Try.ntmps20
  go_upto_region 3 with (fail)
  obtain ⟨W, hW⟩ : ∃ W, w.alloc (.cells #[.int .i64 1, .int .i64 word] 47) = W := ⟨_, rfl⟩
  obtain ⟨b, hb⟩ : ∃ b, w.heap.size = b := ⟨_, rfl⟩
  rw [hW] at HBS HF H0 s0 s1 x1 x3 ⊢
  rw [hb] at HBS s0 s1 ⊢
  clear hW hb
  go_region_held3 (fun V => V.cell? ⟨x, 1, none⟩ = some (.pointer (some ⟨f, 0, none⟩)) ∧ V.cell? ⟨x, 3, none⟩ = some (.pointer (some ⟨r, 0, none⟩)) ∧ V.cell? ⟨b, 1, none⟩ = some (.int .i64 word)) (first | exact ⟨x1, x3, s1⟩ | exact kk2 | exact kk1) (first | (go_at_call 12; refine (HP.out _ H0.out.a).mono ?_; rintro e w1 ⟨rfl, S1, a1, t1⟩; have HB1 := Lib.hid (H0.out.left sa sc a1 t1); have HX1 := Lib.hid (HBS.out.fr t1.1 (sa.no2 H0.out.a HBS.out)); have HT1 := Lib.hid (turnL (R := R) t1); have kk1 := (And.intro (HB1.out.tw.cell 1) (And.intro (HB1.out.tw.cell 3) (HX1.out.cell 1)))) | (go_at_call 28; refine (HQ.out _ HB1.out.c).mono ?_; rintro e w2 ⟨rfl, R2, c2, t2⟩; have HB2 := Lib.hid (HB1.out.right sa' sc c2 t2); have HX2 := Lib.hid (HX1.out.fr t2.1 (sc.no2 HB1.out.c HX1.out)); have HT2 := Lib.hid (HT1.out.trans (turnR t2)); have kk2 := (And.intro (HB2.out.tw.cell 1) (And.intro (HB2.out.tw.cell 3) (HX2.out.cell 1)))) | (go_at_call 28; refine (HQ.out _ H0.out.c).mono ?_; rintro e w1 ⟨rfl, R1, c1, t1⟩; have HB1 := Lib.hid (H0.out.right sa sc c1 t1); have HX1 := Lib.hid (HBS.out.fr t1.1 (sc.no2 H0.out.c HBS.out)); have HT1 := Lib.hid (turnR (S := S) t1); have kk1 := (And.intro (HB1.out.tw.cell 1) (And.intro (HB1.out.tw.cell 3) (HX1.out.cell 1)))) | (go_at_call 12; refine (HP.out _ HB1.out.a).mono ?_; rintro e w2 ⟨rfl, S2, a2, t2⟩; have HB2 := Lib.hid (HB1.out.left sa sc' a2 t2); have HX2 := Lib.hid (HX1.out.fr t2.1 (sa.no2 HB1.out.a HX1.out)); have HT2 := Lib.hid (HT1.out.trans (turnL t2)); have kk2 := (And.intro (HB2.out.tw.cell 1) (And.intro (HB2.out.tw.cell 3) (HX2.out.cell 1)))))
  all_goals
    go_wp2_with fail
    go_ret
    exact ⟨rfl, _, _, HB2.out, (Turn.of0 HF.out).trans HT2.out⟩
end
end Go.Proofs.Ytoldegajbonliaa
