/- The heap's blocks as a list: what the laws behind a run need (numbers and lists alone). -/
import Derived.Test.YtedmdobfnkmccaaHfree
namespace Go.Proofs.Ytedmdobfnkmccaa

/-- Blocks from a on to b; was the one ahead free? -/
def CoverOk (a b : Int) (f : Bool) (R : List Bk) : Prop := Cov0 a b R ∧ Pos R ∧ NoFF R ∧ (f = true → ∀ x R', R = x :: R' → x.free = false)
theorem cover_start {a b : Int} {L : List Bk} (h : Inv a b L) : CoverOk a b false L := ⟨h.cov, h.pos, h.noff, fun e => by cases e⟩
theorem cover_step {a b : Int} {f : Bool} {x : Bk} {R : List Bk} (h : CoverOk a b f (x :: R)) :
    x.at_ = a ∧ 8 ≤ x.size ∧ x.size % 8 = 0 ∧ a + x.size ≤ b ∧ (f = true → x.free = false) ∧ CoverOk (a + x.size) b x.free R := by
  obtain ⟨⟨h1, h2, h3, h4⟩, hp, hn, hf⟩ := h
  have hx : x.size ≠ 0 := hp x (by simp)
  refine ⟨h1, by omega, h3, (cov_le h4).1, fun e => hf e x R rfl, h4, fun y hy => hp y (by simp [hy]), hn.tail, fun e y R' hy => ?_⟩
  subst hy
  cases hy : y.free with
  | false => rfl
  | true => exact absurd ⟨e, hy⟩ hn.1
theorem cover_end {a b : Int} {f : Bool} (h : CoverOk a b f []) : a = b := h.1

/-- All between c and a in one free block. -/
def freed (c a : Int) : List Bk := if a = c then [] else [⟨c, a - c, true⟩]
theorem freed_free {c a : Int} {s : Int} : ∀ y ∈ freed c a, takenAt s y = false := by
  intro y hy
  unfold freed at hy
  split at hy
  · cases hy
  · simp at hy; subst hy; simp [takenAt]
theorem freed_any {c a : Int} {x : Bk} {R : List Bk} (hx : x.at_ = a) (h0 : 0 < x.size) (hca : c ≤ a) (hp : Pos R) (hn : NoFF R) : norm (freed c a ++ { x with free := true } :: R) = norm (freed c (a + x.size) ++ R) := by
  obtain ⟨xa, xs, xf⟩ := x
  dsimp only at *
  subst hx
  have hR := norm_self hp hn
  unfold freed
  rw [if_neg (show ¬ xa + xs = c by omega)]
  by_cases ha : xa = c
  · rw [if_pos ha]
    subst ha
    rw [show xa + xs - xa = xs by omega]
    rfl
  · rw [if_neg ha]
    simp only [List.cons_append, List.nil_append, norm_cons, hR]
    have k1 : ¬ xs = 0 := by omega
    have k2 : ¬ xa - c = 0 := by omega
    have k3 : ¬ xa + xs - c = 0 := by omega
    have k4 : xa - c + xs = xa + xs - c := by omega
    cases R with
    | nil => simp [consN, k1, k2, k3, k4]
    | cons z R =>
      have k5 : xa - c + (xs + z.size) = xa + xs - c + z.size := by omega
      cases hz : z.free <;> simp [consN, hz, k1, k2, k3, k4, k5]
theorem freed_skip {c a b : Int} {x : Bk} {R : List Bk} (h : Cov0 a b (x :: R)) (hp : Pos (x :: R)) (hn : NoFF (x :: R)) (hx : x.free = true) (hca : c ≤ a) : norm (freed c a ++ x :: R) = norm (freed c (a + x.size) ++ R) := by
  have h0 : x.size ≠ 0 := hp x (by simp)
  obtain ⟨h1, h2, _, _⟩ := h
  rw [← freed_any h1 (by omega) hca (fun y hy => hp y (by simp [hy])) hn.tail]
  obtain ⟨xa, xs, xf⟩ := x
  dsimp only at hx
  subst hx
  rfl
theorem freed_take {c a b : Int} {x : Bk} {R : List Bk} (h : Cov0 a b (x :: R)) (hp : Pos (x :: R)) (hn : NoFF (x :: R)) (hx : x.free = false) (hca : c ≤ a) : freeR x.at_ (norm (freed c a ++ x :: R)) = (0, norm (freed c (a + x.size) ++ R)) := by
  have h0 : x.size ≠ 0 := hp x (by simp)
  obtain ⟨h1, h2, _, _⟩ := h
  have e1 : norm (freed c a ++ x :: R) = freed c a ++ x :: R := by
    refine norm_self (fun y hy => ?_) ?_
    · rcases List.mem_append.1 hy with hy | hy
      · unfold freed at hy
        split at hy
        · cases hy
        · simp at hy; subst hy; dsimp only; omega
      · exact hp y hy
    · unfold freed
      split
      · exact hn
      · exact ⟨fun k => by rw [hx] at k; exact absurd k.2 (by decide), hn⟩
  have e2 : pick (takenAt x.at_) (freed c a ++ x :: R) = some (freed c a, x, R) := pick_app freed_free (by simp [takenAt, hx])
  rw [e1]
  unfold freeR freeS
  rw [e2]
  dsimp only
  rw [freed_any h1 (by omega) hca (fun y hy => hp y (by simp [hy])) hn.tail]
theorem freed_end {c b : Int} (h : c < b) : norm (freed c b ++ []) = [⟨c, b - c, true⟩] := by
  unfold freed
  rw [if_neg (by omega)]
  simp [norm, consN]
  omega

/-- The first block that is great enough. -/
theorem first_at {n : Int} {A : List Bk} {x : Bk} {R : List Bk} (hn : 0 ≤ n ∧ n ≤ 1048576) (hA : ∀ y ∈ A, fit (rnd n) y = false) (hx : fit (rnd n) x = true) : (allocR n (A ++ x :: R)).1 = x.at_ ∧ (allocR n (A ++ x :: R)).2.1 = 0 := by
  unfold allocR allocS
  rw [if_pos hn, pick_app hA hx]
  exact ⟨rfl, rfl⟩
theorem first_none {n : Int} {L : List Bk} (hL : ∀ y ∈ L, fit (rnd n) y = false) : (allocR n L).1 = 0 ∧ (allocR n L).2.1 = -59 := by
  unfold allocR allocS
  rw [pick_none hL]
  simp
end Go.Proofs.Ytedmdobfnkmccaa
