/- The heap's chain of nodes and the list of blocks: what join, split and the rest do to the list. -/
import Derived.Test.YtedmdobfnkmccaaHeap
namespace Go.Proofs.Ytedmdobfnkmccaa
open Go Go.RowKit

def joinB (x : Bk) : List Bk → List Bk
  | [] => [x]
  | n :: R => if n.free then { x with size := x.size + n.size } :: R else x :: n :: R
theorem bks_app (A B : List Nd) : bks (A ++ B) = bks A ++ bks B := by simp [bks]
theorem bks_joinN (x : Nd) (R : List Nd) : bks (joinN x R) = joinB x.2 (bks R) := by
  cases R with
  | nil => rfl
  | cons n R => simp only [joinN, bks, List.map_cons, joinB]; split <;> rfl
theorem consN_joinB {x : Bk} (h : x.size ≠ 0) (hf : x.free = true) (R : List Bk) : consN x R = joinB x R := by
  unfold consN joinB
  rw [if_neg h]
  cases R with
  | nil => rfl
  | cons n R => simp [hf]
theorem consN_taken {x : Bk} (h : x.size ≠ 0) (hf : x.free = false) (R : List Bk) : consN x R = x :: R := by
  unfold consN
  rw [if_neg h]
  cases R with
  | nil => rfl
  | cons n R => simp [hf]
theorem noff_mid {A : List Bk} {t : Bk} {Y : List Bk} (hA : NoFF A) (ht : t.free = false) (hY : NoFF (t :: Y)) : NoFF (A ++ t :: Y) := by
  induction A with
  | nil => exact hY
  | cons x A ih =>
    cases A with
    | nil => exact ⟨fun k => by rw [ht] at k; simp at k, hY⟩
    | cons y A => exact ⟨hA.1, ih hA.2⟩
theorem noff_taken {t : Bk} {Y : List Bk} (ht : t.free = false) (hY : NoFF Y) : NoFF (t :: Y) := by
  cases Y with
  | nil => trivial
  | cons y Y => exact ⟨fun k => by rw [ht] at k; simp at k, hY⟩

theorem cut_eq {A B : List Bk} {x : Bk} {n z : Int} (pA : Pos A) (nA : NoFF A) (pB : Pos B) (nB : NoFF B) (hz : z ≠ 0) :
    cutL A x n z B = A ++ (if z = n then ⟨x.at_, z, false⟩ :: B else ⟨x.at_, z, false⟩ :: joinB ⟨x.at_ + z, n - z, true⟩ B) := by
  unfold cutL
  have e1 : norm (⟨x.at_, z, false⟩ :: ⟨x.at_ + z, n - z, true⟩ :: B) = (if z = n then ⟨x.at_, z, false⟩ :: B else ⟨x.at_, z, false⟩ :: joinB ⟨x.at_ + z, n - z, true⟩ B) := by
    rw [norm_cons, norm_cons, norm_self pB nB, consN_taken hz rfl]
    split
    · rename_i h
      subst h
      simp [consN]
    · rename_i h
      rw [consN_joinB (by dsimp only; omega) rfl]
  rw [norm_app, e1]
  refine foldr_far pA ?_
  split
  · exact noff_mid nA rfl (noff_taken rfl nB)
  · rename_i h
    refine noff_mid nA rfl (noff_taken rfl ?_)
    rw [← consN_joinB (by dsimp only; omega) rfl]
    exact consN_noff nB

/-- The free block before Y takes it in. -/
def backB (A : List Bk) (Y : List Bk) : List Bk :=
  match A.reverse with
  | [] => Y
  | p :: A' => if p.free then A'.reverse ++ joinB p Y else A ++ Y
theorem free_eq {A B : List Bk} {x : Bk} (pA : Pos A) (nA : NoFF A) (pB : Pos B) (nB : NoFF B) (hx : x.size ≠ 0) (hp : 0 < x.size) (hB : ∀ y ∈ B, 0 ≤ y.size) :
    norm (A ++ { x with free := true } :: B) = backB A (joinB { x with free := true } B) := by
  have hY : ∃ y Y, joinB { x with free := true } B = y :: Y ∧ y.free = true ∧ NoFF (y :: Y) ∧ y.size ≠ 0 := by
    have h1 : NoFF (joinB { x with free := true } B) := by rw [← consN_joinB (x := { x with free := true }) hx rfl]; exact consN_noff nB
    cases B with
    | nil => exact ⟨_, _, rfl, rfl, h1, hx⟩
    | cons n R =>
      simp only [joinB] at h1 ⊢
      split
      · rename_i hn
        rw [if_pos hn] at h1
        exact ⟨_, _, rfl, rfl, h1, by have := hB n (by simp); dsimp only; omega⟩
      · rename_i hn
        rw [if_neg hn] at h1
        exact ⟨_, _, rfl, rfl, h1, hx⟩
  rw [norm_app, norm_cons, norm_self pB nB, consN_joinB (x := { x with free := true }) hx rfl]
  obtain ⟨y, Y, e, hy, hn, hz⟩ := hY
  rw [e]
  unfold backB
  rcases List.eq_nil_or_concat A with rfl | ⟨A', p, rfl⟩
  · rfl
  rw [List.concat_eq_append, List.foldr_append, List.reverse_append]
  simp only [List.foldr_cons, List.foldr_nil, List.reverse_cons, List.reverse_nil, List.nil_append, List.singleton_append, List.reverse_reverse]
  rw [List.concat_eq_append] at pA nA
  have hp0 : p.size ≠ 0 := pA p (by simp)
  by_cases hpf : p.free = true
  · rw [if_pos hpf, consN_joinB hp0 hpf]
    refine foldr_far (fun u hu => pA u (by simp [hu])) ?_
    simp only [joinB, if_pos hy]
    refine noff_app nA _ (fun _ => hpf) ?_
    cases Y with
    | nil => trivial
    | cons u Y => exact ⟨fun k => hn.1 ⟨hy, k.2⟩, hn.2⟩
  · rw [if_neg hpf, consN_taken hp0 (by simpa using hpf), List.append_assoc]
    refine foldr_far (fun u hu => pA u (by simp [hu])) ?_
    exact noff_app nA _ (fun k => absurd k hpf) (noff_taken (by simpa using hpf) hn)

/-- The taken blocks: where they begin, and their nodes. -/
def tkn (L : List Nd) : List (Int × Nat) := (L.filter fun y => !y.2.free).map fun y => (y.2.at_, y.1)
theorem tkn_app (A B : List Nd) : tkn (A ++ B) = tkn A ++ tkn B := by simp [tkn]
theorem tkn_free {x : Nd} (h : x.2.free = true) (R : List Nd) : tkn (x :: R) = tkn R := by simp [tkn, h]
theorem tkn_taken {x : Nd} (h : x.2.free = false) (R : List Nd) : tkn (x :: R) = (x.2.at_, x.1) :: tkn R := by simp [tkn, h]
theorem tkn_joinN (x : Nd) (R : List Nd) : tkn (joinN x R) = tkn (x :: R) := by
  cases R with
  | nil => rfl
  | cons n R =>
    simp only [joinN]
    split
    · rename_i h
      cases hx : x.2.free with
      | true => rw [tkn_free (by rfl), tkn_free hx, tkn_free h]
      | false => rw [tkn_taken (by rfl), tkn_taken hx, tkn_free h]
    · rfl
theorem tkn_splitN (i : Nat) (z : Int) (x : Nd) (R : List Nd) : tkn (splitN i z x R) = tkn (x :: R) := by
  unfold splitN
  split
  · rfl
  · cases hx : x.2.free with
    | true => rw [tkn_free (by exact hx), tkn_joinN, tkn_free (by rfl), tkn_free hx]
    | false => rw [tkn_taken (by exact hx), tkn_joinN, tkn_free (by rfl), tkn_taken hx]

theorem ats_nodup {L : List Bk} {c d : Int} (h : Cov0 c d L) (hp : Pos L) : (L.map (·.at_)).Nodup := by
  induction L generalizing c with
  | nil => exact List.nodup_nil
  | cons x L ih =>
    obtain ⟨h1, h2, h3, h4⟩ := h
    simp only [List.map_cons, List.nodup_cons, List.mem_map, not_exists, not_and]
    refine ⟨fun y hy e => ?_, ih h4 fun y hy => hp y (by simp [hy])⟩
    have := (cov_le h4).2 y hy
    have := hp x (by simp)
    omega
theorem tkn_sub (L : List Nd) : ((tkn L).map (·.1)).Sublist ((bks L).map (·.at_)) := by
  induction L with
  | nil => exact List.Sublist.refl _
  | cons x L ih =>
    cases hx : x.2.free with
    | true => rw [tkn_free hx]; exact ih.cons _
    | false => rw [tkn_taken hx]; exact ih.cons_cons _
theorem tkn_nodup {L : List Nd} {c d : Int} (h : Cov0 c d (bks L)) (hp : Pos (bks L)) : ((tkn L).map (·.1)).Nodup := (ats_nodup h hp).sublist (tkn_sub L)

/-- A map that holds just the taken blocks. -/
def MapOk (f : Int → Option Value) (T : List (Int × Nat)) : Prop := ∀ a v, f a = some v ↔ ∃ i, (a, i) ∈ T ∧ v = ptr i
theorem MapOk.insert {f : Int → Option Value} {A B : List (Int × Nat)} {a : Int} {i : Nat} (h : MapOk f (A ++ B)) (hn : ((A ++ (a, i) :: B).map (·.1)).Nodup) : MapOk (fun j => if j = a then some (ptr i) else f j) (A ++ (a, i) :: B) := by
  have hA : ∀ k, (a, k) ∈ A ++ B → False := fun k hk => by
    rw [List.map_append, List.map_cons, List.nodup_append] at hn
    rcases List.mem_append.1 hk with hk | hk
    · exact hn.2.2 a (List.mem_map.2 ⟨_, hk, rfl⟩) a (by simp) rfl
    · exact (List.nodup_cons.1 hn.2.1).1 (List.mem_map.2 ⟨_, hk, rfl⟩)
  intro j v
  dsimp only
  split
  · rename_i e
    subst e
    constructor
    · intro e; injection e with e; exact ⟨i, by simp, e.symm⟩
    · rintro ⟨k, hk, rfl⟩
      have : k = i := by
        rcases List.mem_append.1 hk with hk | hk
        · exact (hA k (List.mem_append_left _ hk)).elim
        · rcases List.mem_cons.1 hk with e | hk
          · injection e
          · exact (hA k (List.mem_append_right _ hk)).elim
      rw [this]
  · rename_i hne
    rw [h j v]
    constructor
    · rintro ⟨k, hk, e⟩
      refine ⟨k, ?_, e⟩
      rcases List.mem_append.1 hk with hk | hk
      · exact List.mem_append_left _ hk
      · exact List.mem_append_right _ (List.mem_cons_of_mem _ hk)
    · rintro ⟨k, hk, e⟩
      refine ⟨k, ?_, e⟩
      rcases List.mem_append.1 hk with hk | hk
      · exact List.mem_append_left _ hk
      · rcases List.mem_cons.1 hk with e' | hk
        · injection e' with e1 e2; exact absurd e1 hne
        · exact List.mem_append_right _ hk
theorem MapOk.delete {f : Int → Option Value} {A B : List (Int × Nat)} {a : Int} {i : Nat} (h : MapOk f (A ++ (a, i) :: B)) (hn : ((A ++ (a, i) :: B).map (·.1)).Nodup) : MapOk (fun j => if j = a then none else f j) (A ++ B) := by
  have hA : ∀ k, (a, k) ∈ A ++ B → False := fun k hk => by
    rw [List.map_append, List.map_cons, List.nodup_append] at hn
    rcases List.mem_append.1 hk with hk | hk
    · exact hn.2.2 a (List.mem_map.2 ⟨_, hk, rfl⟩) a (by simp) rfl
    · exact (List.nodup_cons.1 hn.2.1).1 (List.mem_map.2 ⟨_, hk, rfl⟩)
  intro j v
  dsimp only
  split
  · rename_i e
    subst e
    constructor
    · intro e; cases e
    · rintro ⟨k, hk, rfl⟩
      exact (hA k hk).elim
  · rename_i hne
    rw [h j v]
    constructor
    · rintro ⟨k, hk, e⟩
      refine ⟨k, ?_, e⟩
      rcases List.mem_append.1 hk with hk | hk
      · exact List.mem_append_left _ hk
      · rcases List.mem_cons.1 hk with e' | hk
        · injection e' with e1 e2; exact absurd e1 hne
        · exact List.mem_append_right _ hk
    · rintro ⟨k, hk, e⟩
      refine ⟨k, ?_, e⟩
      rcases List.mem_append.1 hk with hk | hk
      · exact List.mem_append_left _ hk
      · exact List.mem_append_right _ (List.mem_cons_of_mem _ hk)

/-- A split of the blocks is one of the nodes. -/
theorem bks_split {L : List Nd} {A B : List Bk} {x : Bk} (h : bks L = A ++ x :: B) : ∃ A' i B', L = A' ++ (i, x) :: B' ∧ bks A' = A ∧ bks B' = B := by
  unfold bks at h
  rw [List.map_eq_append_iff] at h
  obtain ⟨A', l2, rfl, rfl, h2⟩ := h
  rw [List.map_eq_cons_iff] at h2
  obtain ⟨y, B', rfl, rfl, rfl⟩ := h2
  exact ⟨A', y.1, B', rfl, rfl, rfl⟩

end Go.Proofs.Ytedmdobfnkmccaa
