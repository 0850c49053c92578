/- Flow: the words that pile up; the others, refused where a colon stands alone. -/
import Derived.Test.YtoldegajbonliaaFdop
import Derived.Test.YtoldegajbonliaaFr6
import Derived.Test.YtoldegajbonliaaFdoes
import Derived.Test.YtoldegajbonliaaFbad
import Derived.Test.YtoldegajbonliaaFbad2
import Derived.Test.YtoldegajbonliaaFbad3
import Derived.Test.YtoldegajbonliaaFlv
namespace Go.Proofs.Ytoldegajbonliaa
open Go Go.RowKit
set_option linter.unusedVariables false
attribute [local go_sem] Oper.semAt_some

/-- The words that take nothing and lay a thing: its kind; the token. -/
inductive Six : Int → Int → List Tk → Prop where
  | w1 : Six 1 1 [⟨7, 0, 0⟩]
  | w2 : Six 2 1 [⟨6, 0, 0⟩]
  | w5 : Six 5 2 []
  | w10 : Six 10 3 [⟨8, 0, 0⟩]
  | w11 : Six 11 3 [⟨9, 0, 0⟩]
  | w15 : Six 15 4 []
section
variable {w w' : World} {B x p f q r : Nat} {ks ls : List Int} {ts : List Tk} {S R : Nat → Prop} {word kd : Int} {tk : List Tk}
def DoP (f : Nat) (word t : Int) (A A' : World → (Nat → Prop) → Prop) (S : Nat → Prop) : Prop := ∀ V, A V S → Calls Try.prog 12 #[.pointer (some ⟨f, 0, none⟩), .int .i64 word] V fun e V' => e = .returned (.int .i64 t) ∧ ∃ S', A' V' S' ∧ Turn S S' V V'
def DoR (r : Nat) (word t : Int) (C C' : World → (Nat → Prop) → Prop) (R : Nat → Prop) : Prop := ∀ V, C V R → Calls Try.prog 28 #[.pointer (some ⟨r, 0, none⟩), .int .i64 word] V fun e V' => e = .returned (.int .i64 t) ∧ ∃ R', C' V' R' ∧ Turn R R' V V'
theorem FlS.len {V : World} (h : FlS B f p ks ts V S) : ks.length ≤ 64 ∧ ts.length ≤ 50000 := by
  obtain ⟨st, g, scap, q1, cap, tv, h, rfl, _⟩ := h
  exact ⟨by rw [List.length_map]; exact h.deep, h.pl.few⟩
theorem sixP (h6 : Six word kd tk) (hk : ks.length < 64) (hl : ts.length < 50000) : DoP f word 0 (FlS B f p ks ts) (FlS B f p (ks ++ [kd]) (ts ++ tk)) S := by
  rintro V ⟨st, g, scap, q1, cap, tv, h, rfl, rfl⟩
  have h' : Fl V B f p (st ++ []) g scap ts q1 cap tv := by rw [List.append_nil]; exact h
  rw [List.length_map] at hk
  have hr : (st ++ []).length < 64 := by rw [List.append_nil]; exact hk
  cases h6 with
  | w1 =>
    refine (doP_1 V h' rfl hr hl).mono ?_
    rintro e w' ⟨rfl, pre', news, ts', g', scap', tv', hst, hf, ht⟩
    rw [List.append_nil] at ht
    generalize hk : (1 : Int) = k at hst
    cases hst <;> first | (exfalso; omega) | skip
    exact ⟨rfl, _, ⟨_, _, _, _, _, _, hf, by simp, rfl⟩, ht⟩
  | w2 =>
    refine (doP_2 V h' rfl hr hl).mono ?_
    rintro e w' ⟨rfl, pre', news, ts', g', scap', tv', hst, hf, ht⟩
    rw [List.append_nil] at ht
    generalize hk : (2 : Int) = k at hst
    cases hst <;> first | (exfalso; omega) | skip
    exact ⟨rfl, _, ⟨_, _, _, _, _, _, hf, by simp, rfl⟩, ht⟩
  | w5 =>
    refine (doP_5 V h' rfl hr hl).mono ?_
    rintro e w' ⟨rfl, pre', news, ts', g', scap', tv', hst, hf, ht⟩
    rw [List.append_nil] at ht
    generalize hk : (5 : Int) = k at hst
    cases hst <;> first | (exfalso; omega) | skip
    exact ⟨rfl, _, ⟨_, _, _, _, _, _, (by rw [List.append_nil]; exact hf), by simp, rfl⟩, ht⟩
  | w10 =>
    refine (doP_10 V h' rfl hr hl).mono ?_
    rintro e w' ⟨rfl, pre', news, ts', g', scap', tv', hst, hf, ht⟩
    rw [List.append_nil] at ht
    generalize hk : (10 : Int) = k at hst
    cases hst <;> first | (exfalso; omega) | skip
    exact ⟨rfl, _, ⟨_, _, _, _, _, _, hf, by simp, rfl⟩, ht⟩
  | w11 =>
    refine (doP_11 V h' rfl hr hl).mono ?_
    rintro e w' ⟨rfl, pre', news, ts', g', scap', tv', hst, hf, ht⟩
    rw [List.append_nil] at ht
    generalize hk : (11 : Int) = k at hst
    cases hst <;> first | (exfalso; omega) | skip
    exact ⟨rfl, _, ⟨_, _, _, _, _, _, hf, by simp, rfl⟩, ht⟩
  | w15 =>
    refine (doP_15 V h' rfl hr hl).mono ?_
    rintro e w' ⟨rfl, pre', news, ts', g', scap', tv', hst, hf, ht⟩
    rw [List.append_nil] at ht
    generalize hk : (15 : Int) = k at hst
    cases hst <;> first | (exfalso; omega) | skip
    exact ⟨rfl, _, ⟨_, _, _, _, _, _, (by rw [List.append_nil]; exact hf), by simp, rfl⟩, ht⟩
theorem sixR (h6 : Six word kd tk) (hk : ks.length < 64) (hl : ts.length < 50000) : DoR r word 0 (RFS B r q ks ts) (RFS B r q (ks ++ [kd]) (ts ++ tk)) R := by
  rintro V ⟨xs, lv, q2, cap, tv, h, rfl, rfl⟩
  rw [List.length_map] at hk
  cases h6 with
  | w1 =>
    refine (doR_1 V h hk hl).mono ?_
    rintro e w' ⟨rfl, lv', tv', x, hx, hxk, ht⟩
    exact ⟨rfl, _, ⟨_, _, _, _, _, hx, by simp [hxk], rfl⟩, ht⟩
  | w2 =>
    refine (doR_2 V h hk hl).mono ?_
    rintro e w' ⟨rfl, lv', tv', x, hx, hxk, ht⟩
    exact ⟨rfl, _, ⟨_, _, _, _, _, hx, by simp [hxk], rfl⟩, ht⟩
  | w5 =>
    refine (doR_5 V h hk).mono ?_
    rintro e w' ⟨rfl, lv', tv', x, hx, hxk, ht⟩
    exact ⟨rfl, _, ⟨_, _, _, _, _, (by rw [List.append_nil]; exact hx), by simp [hxk], rfl⟩, ht⟩
  | w10 =>
    refine (doR_10 V h hk hl).mono ?_
    rintro e w' ⟨rfl, lv', tv', x, hx, hxk, ht⟩
    exact ⟨rfl, _, ⟨_, _, _, _, _, hx, by simp [hxk], rfl⟩, ht⟩
  | w11 =>
    refine (doR_11 V h hk hl).mono ?_
    rintro e w' ⟨rfl, lv', tv', x, hx, hxk, ht⟩
    exact ⟨rfl, _, ⟨_, _, _, _, _, hx, by simp [hxk], rfl⟩, ht⟩
  | w15 =>
    refine (doR_15 V h hk).mono ?_
    rintro e w' ⟨rfl, lv', tv', x, hx, hxk, ht⟩
    exact ⟨rfl, _, ⟨_, _, _, _, _, (by rw [List.append_nil]; exact hx), by simp [hxk], rfl⟩, ht⟩
theorem still0 {A : World → (Nat → Prop) → Prop} (sa : Side B A) {V V' : World} (ha : A V S) (hf : Fr0 V V') : ∃ S', A V' S' ∧ Turn S S' V V' := ⟨S, sa.fr ha hf (fun _ _ h => h), Turn.of0 hf⟩
theorem sixOverP (h6 : Six word kd tk) (hk : ks.length = 64) : DoP f word (-52) (FlS B f p ks ts) (FlS B f p ks ts) S := by
  intro V hA
  obtain ⟨st, g, scap, q1, cap, tv, h, e1, e2⟩ := id hA
  have h' : Fl V B f p (st ++ []) g scap ts q1 cap tv := by rw [List.append_nil]; exact h
  have h64 : (st ++ []).length = 64 := by rw [List.append_nil, ← List.length_map (f := Th.kind), e1]; exact hk
  have hfin : ∃ fn, Finds word fn [] 1 := by
    cases h6 with
    | w1 => exact ⟨_, find_1⟩
    | w2 => exact ⟨_, find_2⟩
    | w5 => exact ⟨_, find_5⟩
    | w10 => exact ⟨_, find_10⟩
    | w11 => exact ⟨_, find_11⟩
    | w15 => exact ⟨_, find_15⟩
  obtain ⟨fn, hF⟩ := hfin
  refine (do_over word fn [] 1 st [] V h' hF rfl rfl h64).mono ?_
  rintro e w' ⟨rfl, hf⟩
  exact ⟨rfl, still0 (FlS.side _ _ _ _ _) hA hf⟩
theorem sixOverR (h6 : Six word kd tk) (hk : ks.length = 64) : DoR r word (-52) (RFS B r q ks ts) (RFS B r q ks ts) R := by
  intro V hA
  obtain ⟨xs, lv, q2, cap, tv, h, e1, e2⟩ := id hA
  have h64 : xs.length = 64 := by rw [← List.length_map (f := RT.kind), e1]; exact hk
  have hfin : Needs word [] 1 ∧ (word == 14) = false := by
    cases h6 with
    | w1 => exact ⟨needs_1, rfl⟩
    | w2 => exact ⟨needs_2, rfl⟩
    | w5 => exact ⟨needs_5, rfl⟩
    | w10 => exact ⟨needs_10, rfl⟩
    | w11 => exact ⟨needs_11, rfl⟩
    | w15 => exact ⟨needs_15, rfl⟩
  refine (doR_over word [] hfin.1 (by decide) hfin.2 V h (by unfold isV; simp) h64).mono ?_
  rintro e w' ⟨rfl, hf⟩
  exact ⟨rfl, still0 (RFS.side _ _ _ _ _) hA hf⟩
theorem colon_of {st : List Th} (h : st.map Th.kind = [6]) : ∃ x, st = [x] ∧ x.kind = 6 := by
  obtain ⟨x, rfl⟩ := one_of h
  exact ⟨x, rfl, by simpa using h⟩
theorem shortP {fn : FuncId} {K : List Int} {more : Int} (hF : Finds word fn K more) (hs : 1 < K.length ∧ K.length ≤ 64) : DoP f word (-22) (FlS B f p [6] ts) (FlS B f p [6] ts) S := by
  intro V hA
  obtain ⟨st, g, scap, q1, cap, tv, h, e1, e2⟩ := id hA
  obtain ⟨x, rfl, hx⟩ := colon_of e1
  refine (do_short word fn K more hF V h hs.1 hs.2).mono ?_
  rintro e w' ⟨rfl, hf⟩
  exact ⟨rfl, still0 (FlS.side _ _ _ _ _) hA hf⟩
theorem kindP {fn : FuncId} {k : Int} {more : Int} (hF : Finds word fn [k] more) (hs : k ≠ 6) : DoP f word (-22) (FlS B f p [6] ts) (FlS B f p [6] ts) S := by
  intro V hA
  obtain ⟨st, g, scap, q1, cap, tv, h, e1, e2⟩ := id hA
  obtain ⟨x, rfl, hx⟩ := colon_of e1
  refine (do_kind word fn [k] more [] [x] V h rfl hF (by simp; omega)).mono ?_
  rintro e w' ⟨rfl, hf⟩
  exact ⟨rfl, still0 (FlS.side _ _ _ _ _) hA hf⟩
theorem badR {K : List Int} {more : Int} (hF : Needs word K more) (hK : K.length ≤ 64) (hs : isV ls K = false) : DoR r word (-22) (RFS B r q ls ts) (RFS B r q ls ts) R := by
  intro V hA
  obtain ⟨xs, lv, q2, cap, tv, h, e1, e2⟩ := id hA
  refine (doR_kind word K more hF hK V h (by unfold RT.ks; rw [e1]; exact hs)).mono ?_
  rintro e w' ⟨rfl, hf⟩
  exact ⟨rfl, still0 (RFS.side _ _ _ _ _) hA hf⟩
theorem nowordP (hn : ∀ k : Int, 1 ≤ k → k ≤ 18 → (word == k) = false) : DoP f word (-22) (FlS B f p ks ts) (FlS B f p ks ts) S := by
  intro V hA
  obtain ⟨st, g, scap, q1, cap, tv, h, e1, e2⟩ := id hA
  refine (do_noword word hn V h).mono ?_
  rintro e w' ⟨rfl, hf⟩
  exact ⟨rfl, still0 (FlS.side _ _ _ _ _) hA hf⟩
theorem nowordR (hn : ∀ k : Int, 1 ≤ k → k ≤ 18 → (word == k) = false) : DoR r word (-22) (RFS B r q ks ts) (RFS B r q ks ts) R := by
  intro V hA
  obtain ⟨xs, lv, q2, cap, tv, h, e1, e2⟩ := id hA
  refine (doR_noword word hn V h).mono ?_
  rintro e w' ⟨rfl, hf⟩
  exact ⟨rfl, still0 (RFS.side _ _ _ _ _) hA hf⟩
theorem leaveP (hne : ks ≠ []) (hno : ∀ k ∈ ks, k ≠ 3) : DoP f 14 (-22) (FlS B f p ks ts) (FlS B f p ks ts) S := by
  intro V hA
  obtain ⟨st, g, scap, q1, cap, tv, h, e1, e2⟩ := id hA
  have hne' : st ≠ [] := fun e => hne (by rw [← e1, e]; rfl)
  have hno' : ∀ x ∈ st, x.kind ≠ 3 := fun x hx => hno _ (by rw [← e1]; exact List.mem_map_of_mem hx)
  have h' : Fl V B f p (st ++ []) g scap ts q1 cap tv := by rw [List.append_nil]; exact h
  refine (do_stop 14 _ [] 0 st [] V h' (fun _ _ => rfl) find_14 rfl rfl (fun W lv hW _ => leave_none W (h.fr0 hW) hne' hno')).mono ?_
  rintro e w' ⟨rfl, hf⟩
  exact ⟨rfl, still0 (FlS.side _ _ _ _ _) hA hf⟩
theorem leaveR (hno : ∀ k ∈ ks, k ≠ 3) : DoR r 14 (-22) (RFS B r q ks ts) (RFS B r q ks ts) R := by
  intro V hA
  obtain ⟨xs, lv, q2, cap, tv, h, e1, e2⟩ := id hA
  have hno' : ∀ x ∈ xs, x.kind ≠ 3 := fun x hx => hno _ (by rw [← e1]; exact List.mem_map_of_mem hx)
  refine (doR_leave V h hno').mono ?_
  rintro e w' ⟨rfl, hf⟩
  exact ⟨rfl, still0 (RFS.side _ _ _ _ _) hA hf⟩
/-- Whatever the word: it piles up, or it is refused on both sides where a colon stands alone. -/
theorem deep_any (word : Int) : (∃ kd tk, Six word kd tk) ∨ ((word == 1) = false ∧ (∀ (B f p : Nat) (ts : List Tk) (S : Nat → Prop), DoP f word (-22) (FlS B f p [6] ts) (FlS B f p [6] ts) S) ∧ ∀ (B r q : Nat) (ts : List Tk) (R : Nat → Prop), DoR r word (-22) (RFS B r q [6] ts) (RFS B r q [6] ts) R) := by
  by_cases h1 : word = 1
  · subst h1
    exact .inl ⟨_, _, .w1⟩
  by_cases h2 : word = 2
  · subst h2
    exact .inl ⟨_, _, .w2⟩
  by_cases h3 : word = 3
  · subst h3
    exact .inr ⟨rfl, fun _ _ _ _ _ => kindP find_3 (by decide), fun _ _ _ _ _ => badR needs_3 (by decide) (by decide)⟩
  by_cases h4 : word = 4
  · subst h4
    exact .inr ⟨rfl, fun _ _ _ _ _ => kindP find_4 (by decide), fun _ _ _ _ _ => badR needs_4 (by decide) (by decide)⟩
  by_cases h5 : word = 5
  · subst h5
    exact .inl ⟨_, _, .w5⟩
  by_cases h6 : word = 6
  · subst h6
    exact .inr ⟨rfl, fun _ _ _ _ _ => kindP find_6 (by decide), fun _ _ _ _ _ => badR needs_6 (by decide) (by decide)⟩
  by_cases h7 : word = 7
  · subst h7
    exact .inr ⟨rfl, fun _ _ _ _ _ => kindP find_7 (by decide), fun _ _ _ _ _ => badR needs_7 (by decide) (by decide)⟩
  by_cases h8 : word = 8
  · subst h8
    exact .inr ⟨rfl, fun _ _ _ _ _ => kindP find_8 (by decide), fun _ _ _ _ _ => badR needs_8 (by decide) (by decide)⟩
  by_cases h9 : word = 9
  · subst h9
    exact .inr ⟨rfl, fun _ _ _ _ _ => shortP find_9 (by decide), fun _ _ _ _ _ => badR needs_9 (by decide) (by decide)⟩
  by_cases h10 : word = 10
  · subst h10
    exact .inl ⟨_, _, .w10⟩
  by_cases h11 : word = 11
  · subst h11
    exact .inl ⟨_, _, .w11⟩
  by_cases h12 : word = 12
  · subst h12
    exact .inr ⟨rfl, fun _ _ _ _ _ => kindP find_12 (by decide), fun _ _ _ _ _ => badR needs_12 (by decide) (by decide)⟩
  by_cases h13 : word = 13
  · subst h13
    exact .inr ⟨rfl, fun _ _ _ _ _ => kindP find_13 (by decide), fun _ _ _ _ _ => badR needs_13 (by decide) (by decide)⟩
  by_cases h14 : word = 14
  · subst h14
    exact .inr ⟨rfl, fun _ _ _ _ _ => leaveP (by simp) (by simp), fun _ _ _ _ _ => leaveR (by simp)⟩
  by_cases h15 : word = 15
  · subst h15
    exact .inl ⟨_, _, .w15⟩
  by_cases h16 : word = 16
  · subst h16
    exact .inr ⟨rfl, fun _ _ _ _ _ => kindP find_16 (by decide), fun _ _ _ _ _ => badR needs_16 (by decide) (by decide)⟩
  by_cases h17 : word = 17
  · subst h17
    exact .inr ⟨rfl, fun _ _ _ _ _ => shortP find_17 (by decide), fun _ _ _ _ _ => badR needs_17 (by decide) (by decide)⟩
  by_cases h18 : word = 18
  · subst h18
    exact .inr ⟨rfl, fun _ _ _ _ _ => kindP find_18 (by decide), fun _ _ _ _ _ => badR needs_18 (by decide) (by decide)⟩
  have hn : ∀ k : Int, 1 ≤ k → k ≤ 18 → (word == k) = false := fun k hk1 hk2 => by
    have : word ≠ k := by omega
    simpa using this
  exact .inr ⟨hn 1 (by decide) (by decide), fun _ _ _ _ _ => nowordP hn, fun _ _ _ _ _ => nowordR hn⟩
end
end Go.Proofs.Ytoldegajbonliaa
