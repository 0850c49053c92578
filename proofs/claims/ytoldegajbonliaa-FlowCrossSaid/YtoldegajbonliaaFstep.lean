/- Flow: the program's Do, whatever the word, by the kinds that stand. -/
import Derived.Test.YtoldegajbonliaaFdop
import Derived.Test.YtoldegajbonliaaFr4
import Derived.Test.YtoldegajbonliaaFbad
import Derived.Test.YtoldegajbonliaaFbad2
import Derived.Test.YtoldegajbonliaaFbad3
import Derived.Test.YtoldegajbonliaaFlv
import Derived.Test.YtoldegajbonliaaFlv3
namespace Go.Proofs.Ytoldegajbonliaa
open Go Go.RowKit
set_option linter.unusedVariables false
attribute [local go_sem] Oper.semAt_some

/-- A word's row: the kinds that it takes and lays. -/
def rowOf (k : Int) : Option (List Int × List Int) :=
  if k = 1 then some ([], [1]) else
  if k = 2 then some ([], [1]) else
  if k = 3 then some ([1], []) else
  if k = 4 then some ([1], [1]) else
  if k = 5 then some ([], [2]) else
  if k = 6 then some ([2], []) else
  if k = 7 then some ([2], []) else
  if k = 8 then some ([2], [1, 2]) else
  if k = 9 then some ([1, 2], []) else
  if k = 10 then some ([], [3]) else
  if k = 11 then some ([], [3]) else
  if k = 12 then some ([3], []) else
  if k = 13 then some ([3], []) else
  if k = 14 then some ([], []) else
  if k = 15 then some ([], [4]) else
  if k = 16 then some ([4], [4, 5]) else
  if k = 17 then some ([4, 5], [4]) else
  if k = 18 then some ([4], []) else
  none
/-- The kinds behind a word; none: it is refused. -/
def stepK (k : Int) (ks : List Int) : Option (List Int) :=
  match rowOf k with
  | none => none
  | some (K, N) => if isV ks K = true ∧ ¬ (k = 14 ∧ 3 ∉ ks) then some (ks.take (ks.length - K.length) ++ N) else none
section
variable {w w' : World} {B f p g scap q cap : Nat} {tv tv' lv : Value} {ts ts' : List Tk} {st pre l : List Th} {T : Nat → Prop}
theorem isV_of {a K : List Int} : isV (a ++ K) K = true := by
  unfold isV
  rw [decide_eq_true]
  refine ⟨by simp, ?_⟩
  rw [List.length_append, Nat.add_sub_cancel]
  exact List.drop_left' rfl
theorem take_of {K : List Int} (h : isV (st.map Th.kind) K = true) : ∃ pre l, st = pre ++ l ∧ l.map Th.kind = K := by
  unfold isV at h
  obtain ⟨h1, h2⟩ := of_decide_eq_true h
  refine ⟨st.take (st.length - K.length), st.drop (st.length - K.length), (List.take_append_drop _ _).symm, ?_⟩
  rw [List.map_drop]
  rwa [List.length_map] at h2
theorem refuse_of (word : Int) (fn : FuncId) (K : List Int) (more : Int) (hF : Finds word fn K more) (w : World) (h : Fl w B f p st g scap ts q cap tv) (hv : isV (st.map Th.kind) K = false) (hK : K.length ≤ 64) : Calls Try.prog 12 #[.pointer (some ⟨f, 0, none⟩), .int .i64 word] w fun e w' => e = .returned (.int .i64 (-22)) ∧ Fr0 w w' := by
  by_cases hs : st.length < K.length
  · exact do_short word fn K more hF w h hs hK
  · have h' : Fl w B f p (st.take (st.length - K.length) ++ st.drop (st.length - K.length)) g scap ts q cap tv := by rw [List.take_append_drop]; exact h
    refine do_kind word fn K more _ _ w h' (by rw [List.length_drop]; omega) hF (fun e => ?_)
    unfold isV at hv
    have := of_decide_eq_false hv
    refine this ⟨by rw [List.length_map]; omega, ?_⟩
    rw [List.map_drop] at e
    rw [List.length_map]
    exact e
theorem doP_14 (w : World) (h : Fl w B f p pre g scap ts q cap tv) (hl : ts.length < 50000) (hj : ∀ x ∈ pre, x.jumps.length ≤ 100000) (hs : ∃ x ∈ pre, x.kind = 3) : Done 14 w B f p pre [] g scap ts q cap tv := by
  have h' : Fl w B f p (pre ++ []) g scap ts q cap tv := by rw [List.append_nil]; exact h
  have hne : pre ≠ [] := by
    obtain ⟨x, hx, _⟩ := hs
    intro e
    rw [e] at hx
    cases hx
  have hD : DoesF 66 w B f p pre [] (fun pre' news => news = [] ∧ St 14 pre [] ts pre' [] (ts ++ [⟨12, 0, 0⟩])) g scap ts (ts ++ [⟨12, 0, 0⟩]) q cap tv := fun V lv hV hi => by
    refine (leave_some V (h.fr0 hV) hne hl (fun x hx => Nat.le_trans (hj x hx) (by decide)) hs).mono ?_
    rintro e w' ⟨rfl, k, y, jv, tv', hk, hb, hy, hno, hf, ht⟩
    have hsp : leftSt pre (pre.length - 1 - k) y ts.length jv = pre.take (pre.length - 1 - k) ++ ⟨3, y.place, y.jumps ++ [(ts.length : Int)], jv⟩ :: pre.drop (pre.length - 1 - k + 1) := by
      unfold leftSt
      exact List.set_eq_take_append_cons_drop.trans (if_pos (by omega))
    have hpx : pre[pre.length - 1 - k]? = some y := by
      have := (bwT pre k).2 hne
      rw [hb] at this
      exact this
    have hpe : pre = pre.take (pre.length - 1 - k) ++ y :: pre.drop (pre.length - 1 - k + 1) := by
      have h1 := (List.getElem?_eq_some_iff.1 hpx).2
      have h2 := (List.getElem?_eq_some_iff.1 hpx).1
      rw [← h1, ← List.drop_eq_getElem_cons h2, List.take_append_drop]
    have hsuf : ∀ z ∈ pre.drop (pre.length - 1 - k + 1), z.kind ≠ 3 := fun z hz => by
      obtain ⟨i, hi⟩ := List.getElem?_of_mem hz
      rw [List.getElem?_drop] at hi
      have hil := (List.getElem?_eq_some_iff.1 hi).1
      have hb2 := bwT_eq (k := pre.length - 1 - (pre.length - 1 - k + 1 + i)) (by omega) hi
      have := hno (pre.length - 1 - (pre.length - 1 - k + 1 + i)) (by omega)
      rw [hb2] at this
      exact this
    refine ⟨_, leftSt pre (pre.length - 1 - k) y ts.length jv, [], [], rfl, ⟨rfl, ?_⟩, by unfold leftSt; rw [List.length_set], rfl, Out.nil _ _ _ _, tv', by rw [List.append_nil]; exact hf, by rw [List.append_nil, List.append_nil]; exact ht⟩
    have hst := St.leave (pre.take (pre.length - 1 - k)) (pre.drop (pre.length - 1 - k + 1)) y ts jv hy hsuf
    rw [← hpe, ← hsp] at hst
    exact hst
  refine (do_none 14 _ [] 0 pre [] _ w h' (fun _ _ => rfl) find_14 rfl (.inl rfl) (fun _ _ h => h.1) hD).mono ?_
  rintro e w' ⟨rfl, pre', scap', tv', ⟨_, hst⟩, hf', ht'⟩
  refine ⟨rfl, _, _, _, g, scap', tv', hst, ?_, ?_⟩
  · rw [List.append_nil]; exact hf'
  · rw [List.append_nil, List.append_nil]; rw [List.append_nil] at ht'; exact ht'
/-- A word that is taken: the kinds. -/
theorem St.step {k : Int} {pre' news : List Th} (h : St k pre l ts pre' news ts') (K N : List Int) (hr : rowOf k = some (K, N)) (hl : l.map Th.kind = K) : stepK k ((pre ++ l).map Th.kind) = some ((pre' ++ news).map Th.kind) := by
  have hV : isV ((pre ++ l).map Th.kind) K = true := by rw [List.map_append, hl]; exact isV_of
  have ht : ((pre ++ l).map Th.kind).take (((pre ++ l).map Th.kind).length - K.length) = pre.map Th.kind := by
    rw [List.map_append, hl, List.length_append, Nat.add_sub_cancel]
    exact List.take_left' rfl
  unfold stepK
  rw [hr]
  dsimp only
  rw [ht]
  have hc : isV ((pre ++ l).map Th.kind) K = true ∧ ¬ (k = 14 ∧ 3 ∉ (pre ++ l).map Th.kind) := by
    refine ⟨hV, fun ⟨h14, hn⟩ => ?_⟩
    subst h14
    generalize hk : (14 : Int) = k at h
    cases h <;> first | (exfalso; omega) | skip
    rename_i hx _ _
    exact hn (List.mem_map.2 ⟨_, by simp, hx⟩)
  rw [if_pos hc, List.map_append]
  congr 1
  cases h <;> (rw [rowOf] at hr; simp at hr; obtain ⟨rfl, rfl⟩ := hr) <;> simp_all
/-- The program's Do, whatever the word. -/
theorem do_prog (word : Int) (w : World) (h : Fl w B f p st g scap ts q cap tv) (hne : st ≠ []) (hr : st.length < 64) (hl : ts.length < 50000) (hj : ∀ x ∈ st, x.jumps.length ≤ 100000) :
    (∃ pre l K N, st = pre ++ l ∧ rowOf word = some (K, N) ∧ l.map Th.kind = K ∧ Done word w B f p pre l g scap ts q cap tv) ∨
    (stepK word (st.map Th.kind) = none ∧ Calls Try.prog 12 #[.pointer (some ⟨f, 0, none⟩), .int .i64 word] w fun e w' => e = .returned (.int .i64 (-22)) ∧ Fr0 w w') := by
  by_cases h1 : word = 1
  · subst h1
    have h' : Fl w B f p (st ++ []) g scap ts q cap tv := by rw [List.append_nil]; exact h
    have hr' : (st ++ []).length < 64 := by rw [List.append_nil]; exact hr
    exact .inl ⟨st, [], [], [1], (List.append_nil _).symm, rfl, rfl, doP_1 w h' rfl hr' hl⟩
  by_cases h2 : word = 2
  · subst h2
    have h' : Fl w B f p (st ++ []) g scap ts q cap tv := by rw [List.append_nil]; exact h
    have hr' : (st ++ []).length < 64 := by rw [List.append_nil]; exact hr
    exact .inl ⟨st, [], [], [1], (List.append_nil _).symm, rfl, rfl, doP_2 w h' rfl hr' hl⟩
  by_cases h3 : word = 3
  · subst h3
    by_cases hv : isV (st.map Th.kind) [1] = true
    · obtain ⟨pre, l, rfl, hK⟩ := take_of hv
      exact .inl ⟨pre, l, _, _, rfl, rfl, hK, doP_3 w h hK hl⟩
    · have hv' : isV (st.map Th.kind) [1] = false := by simpa using hv
      refine .inr ⟨?_, refuse_of 3 _ [1] 0 find_3 w h hv' (by decide)⟩
      unfold stepK
      rw [show rowOf 3 = some ([1], []) from rfl]
      exact if_neg (fun hh => hv hh.1)
  by_cases h4 : word = 4
  · subst h4
    by_cases hv : isV (st.map Th.kind) [1] = true
    · obtain ⟨pre, l, rfl, hK⟩ := take_of hv
      exact .inl ⟨pre, l, _, _, rfl, rfl, hK, doP_4 w h hK hr hl⟩
    · have hv' : isV (st.map Th.kind) [1] = false := by simpa using hv
      refine .inr ⟨?_, refuse_of 4 _ [1] 0 find_4 w h hv' (by decide)⟩
      unfold stepK
      rw [show rowOf 4 = some ([1], [1]) from rfl]
      exact if_neg (fun hh => hv hh.1)
  by_cases h5 : word = 5
  · subst h5
    have h' : Fl w B f p (st ++ []) g scap ts q cap tv := by rw [List.append_nil]; exact h
    have hr' : (st ++ []).length < 64 := by rw [List.append_nil]; exact hr
    exact .inl ⟨st, [], [], [2], (List.append_nil _).symm, rfl, rfl, doP_5 w h' rfl hr' hl⟩
  by_cases h6 : word = 6
  · subst h6
    by_cases hv : isV (st.map Th.kind) [2] = true
    · obtain ⟨pre, l, rfl, hK⟩ := take_of hv
      exact .inl ⟨pre, l, _, _, rfl, rfl, hK, doP_6 w h hK hl⟩
    · have hv' : isV (st.map Th.kind) [2] = false := by simpa using hv
      refine .inr ⟨?_, refuse_of 6 _ [2] 0 find_6 w h hv' (by decide)⟩
      unfold stepK
      rw [show rowOf 6 = some ([2], []) from rfl]
      exact if_neg (fun hh => hv hh.1)
  by_cases h7 : word = 7
  · subst h7
    by_cases hv : isV (st.map Th.kind) [2] = true
    · obtain ⟨pre, l, rfl, hK⟩ := take_of hv
      exact .inl ⟨pre, l, _, _, rfl, rfl, hK, doP_7 w h hK hl⟩
    · have hv' : isV (st.map Th.kind) [2] = false := by simpa using hv
      refine .inr ⟨?_, refuse_of 7 _ [2] 0 find_7 w h hv' (by decide)⟩
      unfold stepK
      rw [show rowOf 7 = some ([2], []) from rfl]
      exact if_neg (fun hh => hv hh.1)
  by_cases h8 : word = 8
  · subst h8
    by_cases hv : isV (st.map Th.kind) [2] = true
    · obtain ⟨pre, l, rfl, hK⟩ := take_of hv
      exact .inl ⟨pre, l, _, _, rfl, rfl, hK, doP_8 w h hK hr hl⟩
    · have hv' : isV (st.map Th.kind) [2] = false := by simpa using hv
      refine .inr ⟨?_, refuse_of 8 _ [2] 1 find_8 w h hv' (by decide)⟩
      unfold stepK
      rw [show rowOf 8 = some ([2], [1, 2]) from rfl]
      exact if_neg (fun hh => hv hh.1)
  by_cases h9 : word = 9
  · subst h9
    by_cases hv : isV (st.map Th.kind) [1, 2] = true
    · obtain ⟨pre, l, rfl, hK⟩ := take_of hv
      exact .inl ⟨pre, l, _, _, rfl, rfl, hK, doP_9 w h hK hl⟩
    · have hv' : isV (st.map Th.kind) [1, 2] = false := by simpa using hv
      refine .inr ⟨?_, refuse_of 9 _ [1, 2] 0 find_9 w h hv' (by decide)⟩
      unfold stepK
      rw [show rowOf 9 = some ([1, 2], []) from rfl]
      exact if_neg (fun hh => hv hh.1)
  by_cases h10 : word = 10
  · subst h10
    have h' : Fl w B f p (st ++ []) g scap ts q cap tv := by rw [List.append_nil]; exact h
    have hr' : (st ++ []).length < 64 := by rw [List.append_nil]; exact hr
    exact .inl ⟨st, [], [], [3], (List.append_nil _).symm, rfl, rfl, doP_10 w h' rfl hr' hl⟩
  by_cases h11 : word = 11
  · subst h11
    have h' : Fl w B f p (st ++ []) g scap ts q cap tv := by rw [List.append_nil]; exact h
    have hr' : (st ++ []).length < 64 := by rw [List.append_nil]; exact hr
    exact .inl ⟨st, [], [], [3], (List.append_nil _).symm, rfl, rfl, doP_11 w h' rfl hr' hl⟩
  by_cases h12 : word = 12
  · subst h12
    by_cases hv : isV (st.map Th.kind) [3] = true
    · obtain ⟨pre, l, rfl, hK⟩ := take_of hv
      exact .inl ⟨pre, l, _, _, rfl, rfl, hK, doP_12 w h hK hl hj⟩
    · have hv' : isV (st.map Th.kind) [3] = false := by simpa using hv
      refine .inr ⟨?_, refuse_of 12 _ [3] 0 find_12 w h hv' (by decide)⟩
      unfold stepK
      rw [show rowOf 12 = some ([3], []) from rfl]
      exact if_neg (fun hh => hv hh.1)
  by_cases h13 : word = 13
  · subst h13
    by_cases hv : isV (st.map Th.kind) [3] = true
    · obtain ⟨pre, l, rfl, hK⟩ := take_of hv
      exact .inl ⟨pre, l, _, _, rfl, rfl, hK, doP_13 w h hK hl hj⟩
    · have hv' : isV (st.map Th.kind) [3] = false := by simpa using hv
      refine .inr ⟨?_, refuse_of 13 _ [3] 0 find_13 w h hv' (by decide)⟩
      unfold stepK
      rw [show rowOf 13 = some ([3], []) from rfl]
      exact if_neg (fun hh => hv hh.1)
  by_cases h14 : word = 14
  · subst h14
    by_cases hs : ∃ x ∈ st, x.kind = 3
    · exact .inl ⟨st, [], [], [], (List.append_nil _).symm, rfl, rfl, doP_14 w h hl hj hs⟩
    · have hno : ∀ x ∈ st, x.kind ≠ 3 := fun x hx e => hs ⟨x, hx, e⟩
      refine .inr ⟨?_, ?_⟩
      · have : (3 : Int) ∉ st.map Th.kind := fun hm => by
          obtain ⟨x, hx, e⟩ := List.mem_map.1 hm
          exact hno x hx e
        unfold stepK
        rw [show rowOf 14 = some ([], []) from rfl]
        exact if_neg (fun hh => hh.2 ⟨rfl, this⟩)
      · have h' : Fl w B f p (st ++ []) g scap ts q cap tv := by rw [List.append_nil]; exact h
        exact do_stop 14 _ [] 0 st [] w h' (fun _ _ => rfl) find_14 rfl rfl (fun W lv hW _ => leave_none W (h.fr0 hW) hne hno)
  by_cases h15 : word = 15
  · subst h15
    have h' : Fl w B f p (st ++ []) g scap ts q cap tv := by rw [List.append_nil]; exact h
    have hr' : (st ++ []).length < 64 := by rw [List.append_nil]; exact hr
    exact .inl ⟨st, [], [], [4], (List.append_nil _).symm, rfl, rfl, doP_15 w h' rfl hr' hl⟩
  by_cases h16 : word = 16
  · subst h16
    by_cases hv : isV (st.map Th.kind) [4] = true
    · obtain ⟨pre, l, rfl, hK⟩ := take_of hv
      exact .inl ⟨pre, l, _, _, rfl, rfl, hK, doP_16 w h hK hr hl⟩
    · have hv' : isV (st.map Th.kind) [4] = false := by simpa using hv
      refine .inr ⟨?_, refuse_of 16 _ [4] 1 find_16 w h hv' (by decide)⟩
      unfold stepK
      rw [show rowOf 16 = some ([4], [4, 5]) from rfl]
      exact if_neg (fun hh => hv hh.1)
  by_cases h17 : word = 17
  · subst h17
    by_cases hv : isV (st.map Th.kind) [4, 5] = true
    · obtain ⟨pre, l, rfl, hK⟩ := take_of hv
      exact .inl ⟨pre, l, _, _, rfl, rfl, hK, doP_17 w h hK hr hl hj⟩
    · have hv' : isV (st.map Th.kind) [4, 5] = false := by simpa using hv
      refine .inr ⟨?_, refuse_of 17 _ [4, 5] 0 find_17 w h hv' (by decide)⟩
      unfold stepK
      rw [show rowOf 17 = some ([4, 5], [4]) from rfl]
      exact if_neg (fun hh => hv hh.1)
  by_cases h18 : word = 18
  · subst h18
    by_cases hv : isV (st.map Th.kind) [4] = true
    · obtain ⟨pre, l, rfl, hK⟩ := take_of hv
      exact .inl ⟨pre, l, _, _, rfl, rfl, hK, doP_18 w h hK hl hj⟩
    · have hv' : isV (st.map Th.kind) [4] = false := by simpa using hv
      refine .inr ⟨?_, refuse_of 18 _ [4] 0 find_18 w h hv' (by decide)⟩
      unfold stepK
      rw [show rowOf 18 = some ([4], []) from rfl]
      exact if_neg (fun hh => hv hh.1)
  have hn : ∀ k : Int, 1 ≤ k → k ≤ 18 → (word == k) = false := fun k hk1 hk2 => by
    have : word ≠ k := by omega
    simpa using this
  refine .inr ⟨?_, do_noword word hn w h⟩
  have hro : rowOf word = none := by unfold rowOf; simp [*]
  unfold stepK
  rw [hro]
end
end Go.Proofs.Ytoldegajbonliaa
