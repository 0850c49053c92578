/- The heap's blocks as a list: first fit, freeing, resizing (numbers and lists alone). -/
import Derived.Test.YtedmdobfnkmccaaLib
namespace Go.Proofs.Ytedmdobfnkmccaa

/-- A piece of the heap. -/
structure Bk where
  at_ : Int
  size : Int
  free : Bool

/-- x before r: two free ones become one; one of no bytes goes. -/
def consN (x : Bk) (r : List Bk) : List Bk :=
  if x.size = 0 then r else
  match r with
  | [] => [x]
  | z :: r' => if x.free && z.free then { x with size := x.size + z.size } :: r' else x :: z :: r'
def norm (L : List Bk) : List Bk := L.foldr consN []
theorem norm_cons (x : Bk) (L : List Bk) : norm (x :: L) = consN x (norm L) := rfl
theorem norm_app (A C : List Bk) : norm (A ++ C) = A.foldr consN (norm C) := by simp [norm, List.foldr_append]

/-- No two free ones side by side. -/
def NoFF : List Bk → Prop
  | [] => True
  | [_] => True
  | x :: y :: L => ¬ (x.free = true ∧ y.free = true) ∧ NoFF (y :: L)
theorem NoFF.tail {x : Bk} {L : List Bk} (h : NoFF (x :: L)) : NoFF L := by
  cases L with
  | nil => trivial
  | cons y L => exact h.2
theorem NoFF.right {A C : List Bk} (h : NoFF (A ++ C)) : NoFF C := by
  induction A with
  | nil => exact h
  | cons x A ih => exact ih h.tail
theorem NoFF.left {A C : List Bk} (h : NoFF (A ++ C)) : NoFF A := by
  induction A with
  | nil => trivial
  | cons x A ih =>
    cases A with
    | nil => trivial
    | cons y A => exact ⟨h.1, ih h.2⟩

/-- Blocks that lie one behind the other from a on, to b. -/
def Cov0 : Int → Int → List Bk → Prop
  | a, b, [] => a = b
  | a, b, x :: L => x.at_ = a ∧ 0 ≤ x.size ∧ x.size % 8 = 0 ∧ Cov0 (a + x.size) b L
def Pos (L : List Bk) : Prop := ∀ x ∈ L, x.size ≠ 0
theorem cov_app {A C : List Bk} {a b : Int} : Cov0 a b (A ++ C) ↔ ∃ m, Cov0 a m A ∧ Cov0 m b C := by
  induction A generalizing a with
  | nil => simp [Cov0]
  | cons x A ih =>
    simp only [List.cons_append, Cov0, ih]
    constructor
    · rintro ⟨h1, h2, h3, m, h4, h5⟩; exact ⟨m, ⟨h1, h2, h3, h4⟩, h5⟩
    · rintro ⟨m, ⟨h1, h2, h3, h4⟩, h5⟩; exact ⟨h1, h2, h3, m, h4, h5⟩
theorem cov_le {L : List Bk} {a b : Int} (h : Cov0 a b L) : a ≤ b ∧ ∀ x ∈ L, a ≤ x.at_ ∧ 0 ≤ x.size ∧ x.size % 8 = 0 ∧ x.at_ + x.size ≤ b := by
  induction L generalizing a with
  | nil => simp only [Cov0] at h; subst h; exact ⟨Int.le_refl _, fun x hx => by cases hx⟩
  | cons x L ih =>
    obtain ⟨h1, h2, h3, h4⟩ := h
    obtain ⟨k1, k2⟩ := ih h4
    refine ⟨by omega, fun y hy => ?_⟩
    rcases List.mem_cons.1 hy with rfl | hy
    · exact ⟨by omega, h2, h3, by omega⟩
    · have := k2 y hy
      exact ⟨by omega, this.2.1, this.2.2.1, this.2.2.2⟩

theorem consN_cov {x : Bk} {r : List Bk} {a b : Int} (h : Cov0 a b (x :: r)) : Cov0 a b (consN x r) := by
  obtain ⟨h1, h2, h3, h4⟩ := h
  unfold consN
  split
  · rename_i h0; rw [h0, Int.add_zero] at h4; exact h4
  · cases r with
    | nil => exact ⟨h1, h2, h3, h4⟩
    | cons z r =>
      obtain ⟨k1, k2, k3, k4⟩ := h4
      dsimp only
      split
      · exact ⟨h1, by dsimp only; omega, by dsimp only; omega, by dsimp only; rw [← Int.add_assoc]; exact k4⟩
      · exact ⟨h1, h2, h3, k1, k2, k3, k4⟩
theorem consN_pos {x : Bk} {r : List Bk} {a b : Int} (h : Cov0 a b (x :: r)) (hp : Pos r) : Pos (consN x r) := by
  obtain ⟨h1, h2, h3, h4⟩ := h
  unfold consN
  split
  · exact hp
  · rename_i h0
    cases r with
    | nil => intro y hy; simp at hy; subst hy; exact h0
    | cons z r =>
      obtain ⟨k1, k2, k3, k4⟩ := h4
      dsimp only
      split
      · intro y hy
        rcases List.mem_cons.1 hy with rfl | hy
        · dsimp only; omega
        · exact hp y (by simp [hy])
      · intro y hy
        rcases List.mem_cons.1 hy with rfl | hy
        · exact h0
        · exact hp y hy
theorem consN_noff {x : Bk} {r : List Bk} (h : NoFF r) : NoFF (consN x r) := by
  unfold consN
  split
  · exact h
  · cases r with
    | nil => trivial
    | cons z r =>
      dsimp only
      split
      · rename_i hf
        simp at hf
        cases r with
        | nil => trivial
        | cons u r => exact ⟨fun k => h.1 ⟨hf.2, k.2⟩, h.2⟩
      · rename_i hf
        exact ⟨fun k => hf (by simp [k.1, k.2]), h⟩
theorem norm_inv {L : List Bk} {a b : Int} (h : Cov0 a b L) : Cov0 a b (norm L) ∧ Pos (norm L) ∧ NoFF (norm L) := by
  induction L generalizing a with
  | nil => exact ⟨h, (fun x hx => by cases hx), trivial⟩
  | cons x L ih =>
    obtain ⟨h1, h2, h3, h4⟩ := h
    obtain ⟨k1, k2, k3⟩ := ih h4
    rw [norm_cons]
    exact ⟨consN_cov ⟨h1, h2, h3, k1⟩, consN_pos (a := a) (b := b) ⟨h1, h2, h3, k1⟩ k2, consN_noff k3⟩

/-- What is always so of the heap's blocks. -/
structure Inv (a b : Int) (L : List Bk) : Prop where
  cov : Cov0 a b L
  pos : Pos L
  noff : NoFF L
theorem inv_norm {L : List Bk} {a b : Int} (h : Cov0 a b L) : Inv a b (norm L) := ⟨(norm_inv h).1, (norm_inv h).2.1, (norm_inv h).2.2⟩

/-- Where x does not join what follows. -/
theorem consN_far {x : Bk} {r : List Bk} (hx : x.size ≠ 0) (h : NoFF (x :: r)) : consN x r = x :: r := by
  unfold consN
  rw [if_neg hx]
  cases r with
  | nil => rfl
  | cons z r =>
    dsimp only
    rw [if_neg]
    intro k
    simp at k
    exact h.1 k
theorem foldr_far {A r : List Bk} (hp : Pos A) (h : NoFF (A ++ r)) : A.foldr consN r = A ++ r := by
  induction A with
  | nil => rfl
  | cons x A ih =>
    rw [List.foldr_cons, ih (fun y hy => hp y (by simp [hy])) h.tail]
    exact consN_far (hp x (by simp)) h
theorem norm_self {L : List Bk} (hp : Pos L) (h : NoFF L) : norm L = L := by
  have := foldr_far (A := L) (r := []) hp (by simpa using h)
  simpa [norm] using this

theorem noff_app {A : List Bk} {y : Bk} {C D : List Bk} (h : NoFF (A ++ y :: C)) (z : Bk) (hz : z.free = true → y.free = true) (hD : NoFF (z :: D)) : NoFF (A ++ z :: D) := by
  induction A with
  | nil => exact hD
  | cons x A ih =>
    cases A with
    | nil => exact ⟨fun k => h.1 ⟨k.1, hz k.2⟩, hD⟩
    | cons u A => exact ⟨h.1, ih h.2⟩

/-- The first block that a test lets through. -/
def pick (p : Bk → Bool) : List Bk → Option (List Bk × Bk × List Bk)
  | [] => none
  | x :: L => if p x then some ([], x, L) else (pick p L).map fun t => (x :: t.1, t.2.1, t.2.2)
theorem pick_app {p : Bk → Bool} {A : List Bk} {x : Bk} {B : List Bk} (hA : ∀ y ∈ A, p y = false) (hx : p x = true) : pick p (A ++ x :: B) = some (A, x, B) := by
  induction A with
  | nil => simp [pick, hx]
  | cons y A ih =>
    have h1 := hA y (by simp)
    simp [pick, h1, ih fun z hz => hA z (by simp [hz])]
theorem pick_none {p : Bk → Bool} {L : List Bk} (h : ∀ y ∈ L, p y = false) : pick p L = none := by
  induction L with
  | nil => rfl
  | cons y L ih => simp [pick, h y (by simp), ih fun z hz => h z (by simp [hz])]
theorem pick_spec {p : Bk → Bool} {L A : List Bk} {x : Bk} {B : List Bk} (h : pick p L = some (A, x, B)) : L = A ++ x :: B ∧ p x = true ∧ ∀ y ∈ A, p y = false := by
  induction L generalizing A with
  | nil => simp [pick] at h
  | cons y L ih =>
    simp only [pick] at h
    split at h
    · rename_i hy
      simp at h
      obtain ⟨rfl, rfl, rfl⟩ := h
      exact ⟨rfl, hy, fun z hz => by cases hz⟩
    · rename_i hy
      cases hq : pick p L with
      | none => rw [hq] at h; cases h
      | some t =>
        obtain ⟨A', x', B'⟩ := t
        rw [hq] at h
        simp at h
        obtain ⟨rfl, rfl, rfl⟩ := h
        obtain ⟨k1, k2, k3⟩ := ih hq
        refine ⟨by rw [k1]; rfl, k2, fun z hz => ?_⟩
        rcases List.mem_cons.1 hz with rfl | hz
        · simpa using hy
        · exact k3 z hz
theorem pick_none_spec {p : Bk → Bool} {L : List Bk} (h : pick p L = none) : ∀ y ∈ L, p y = false := by
  induction L with
  | nil => intro y hy; cases hy
  | cons x L ih =>
    simp only [pick] at h
    split at h
    · cases h
    · rename_i hx
      simp at h
      intro y hy
      rcases List.mem_cons.1 hy with rfl | hy
      · simpa using hx
      · exact ih h y hy

/-- Is a block free and great enough? Is it the taken one at an address? -/
def fit (s : Int) (x : Bk) : Bool := x.free && decide (s ≤ x.size)
def takenAt (a : Int) (x : Bk) : Bool := decide (x.at_ = a) && !x.free
/-- The size of n bytes. -/
def rnd (n : Int) : Int := (max n 1 + 7) / 8 * 8
theorem rnd_pos (n : Int) : 8 ≤ rnd n ∧ rnd n % 8 = 0 := by unfold rnd; omega

/-- A block becomes a taken one of s bytes; what is left over is free. -/
def cutL (A : List Bk) (x : Bk) (n s : Int) (B : List Bk) : List Bk := norm (A ++ ⟨x.at_, s, false⟩ :: ⟨x.at_ + s, n - s, true⟩ :: B)
def allocS (s : Int) (L : List Bk) : Option (Int × List Bk) :=
  match pick (fit s) L with
  | none => none
  | some (A, x, B) => some (x.at_, cutL A x x.size s B)
def freeS (a : Int) (L : List Bk) : Option (List Bk) :=
  match pick (takenAt a) L with
  | none => none
  | some (A, x, B) => some (norm (A ++ { x with free := true } :: B))
/-- The blocks that a resize joins: the one behind, if it is free and both together are great enough. -/
def growN (x : Bk) (s : Int) : List Bk → Option (Int × List Bk)
  | [] => none
  | z :: B => if z.free && decide (s ≤ x.size + z.size) then some (x.size + z.size, B) else none
def resizeS (a s : Int) (L : List Bk) : (Int × Int × Int) × List Bk :=
  match pick (takenAt a) L with
  | none => ((a, 0, -61), L)
  | some (A, x, B) =>
    if s ≤ x.size then ((a, x.size, 0), cutL A x x.size s B) else
    match growN x s B with
    | some (n, B') => ((a, x.size, 0), cutL A x n s B')
    | none =>
      match allocS s L with
      | none => ((a, 0, -61), L)
      | some (b, L1) => ((b, x.size, 0), (freeS a L1).getD L1)

theorem cutL_inv {A : List Bk} {x : Bk} {B : List Bk} {a b s : Int} (h : Cov0 a b (A ++ x :: B)) (hs : 8 ≤ s) (hs8 : s % 8 = 0) (hx : s ≤ x.size) : Inv a b (cutL A x x.size s B) := by
  refine inv_norm ?_
  obtain ⟨m, h1, h2, h3, h4, h5⟩ := cov_app.1 h
  refine cov_app.2 ⟨m, h1, h2, by dsimp only; omega, by dsimp only; omega, ?_⟩
  refine ⟨by dsimp only; omega, by dsimp only; omega, by dsimp only; omega, ?_⟩
  rw [show m + s + (x.size - s) = m + x.size by omega]
  exact h5
theorem cutL_inv2 {A : List Bk} {x z : Bk} {B : List Bk} {a b s : Int} (h : Cov0 a b (A ++ x :: z :: B)) (hs : 8 ≤ s) (hs8 : s % 8 = 0) (hx : s ≤ x.size + z.size) : Inv a b (cutL A x (x.size + z.size) s B) := by
  refine inv_norm ?_
  obtain ⟨m, h1, h2, h3, h4, h5, h6, h7, h8⟩ := cov_app.1 h
  refine cov_app.2 ⟨m, h1, h2, by dsimp only; omega, by dsimp only; omega, ?_⟩
  refine ⟨by dsimp only; omega, by dsimp only; omega, by dsimp only; omega, ?_⟩
  rw [show m + s + (x.size + z.size - s) = m + x.size + z.size by omega]
  exact h8
theorem allocS_inv {L : List Bk} {a b s c : Int} {L' : List Bk} (h : Inv a b L) (hs : 8 ≤ s) (hs8 : s % 8 = 0) (he : allocS s L = some (c, L')) : Inv a b L' := by
  unfold allocS at he
  cases hp : pick (fit s) L with
  | none => rw [hp] at he; cases he
  | some t =>
    obtain ⟨A, x, B⟩ := t
    rw [hp] at he
    simp at he
    obtain ⟨rfl, rfl⟩ := he
    obtain ⟨k1, k2, _⟩ := pick_spec hp
    subst k1
    simp [fit] at k2
    exact cutL_inv h.cov hs hs8 k2.2
theorem freeS_inv {L : List Bk} {a b c : Int} {L' : List Bk} (h : Inv a b L) (he : freeS c L = some L') : Inv a b L' := by
  unfold freeS at he
  cases hp : pick (takenAt c) L with
  | none => rw [hp] at he; cases he
  | some t =>
    obtain ⟨A, x, B⟩ := t
    rw [hp] at he
    simp at he
    subst he
    obtain ⟨k1, _, _⟩ := pick_spec hp
    subst k1
    refine inv_norm ?_
    obtain ⟨m, h1, h2⟩ := cov_app.1 h.cov
    exact cov_app.2 ⟨m, h1, h2⟩
theorem resizeS_inv {L : List Bk} {a b c s : Int} (h : Inv a b L) (hs : 8 ≤ s) (hs8 : s % 8 = 0) : Inv a b (resizeS c s L).2 := by
  unfold resizeS
  cases hp : pick (takenAt c) L with
  | none => exact h
  | some t =>
    obtain ⟨A, x, B⟩ := t
    dsimp only
    obtain ⟨k1, _, _⟩ := pick_spec hp
    split
    · rename_i hx
      dsimp only
      rw [k1] at h
      exact cutL_inv h.cov hs hs8 hx
    · cases hg : growN x s B with
      | some t =>
        obtain ⟨n, B'⟩ := t
        dsimp only
        cases B with
        | nil => simp [growN] at hg
        | cons z B =>
          simp only [growN] at hg
          split at hg
          · rename_i hz
            simp at hg hz
            obtain ⟨rfl, rfl⟩ := hg
            rw [k1] at h
            exact cutL_inv2 h.cov hs hs8 hz.2
          · cases hg
      | none =>
        dsimp only
        cases ha : allocS s L with
        | none => exact h
        | some t =>
          obtain ⟨e, L1⟩ := t
          dsimp only
          have h1 := allocS_inv h hs hs8 ha
          cases hf : freeS c L1 with
          | none => exact h1
          | some L2 => exact freeS_inv h1 hf

end Go.Proofs.Ytedmdobfnkmccaa
