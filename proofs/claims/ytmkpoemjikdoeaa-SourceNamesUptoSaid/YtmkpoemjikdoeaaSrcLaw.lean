/- The laws of chapter 17 behind Lay: where both stand; words one after another. -/
import Derived.Test.YtmkpoemjikdoeaaSrcNow
import Derived.Test.YtmkpoemjikdoeaaGrow2
namespace Go.Proofs.Ytmkpoemjikdoeaa
open Go Go.RowKit
set_option linter.unusedVariables false

/-- The law's own x, and its source. -/
structure L17 (B : Nat) (w : World) (x c p g q v : Nat) (bs L : List Int) (inn : Nat) (vi : Int) : Prop where
  two : Blk w x 33 #[.pointer (some ⟨p, 0, none⟩), .pointer (some ⟨c, 0, none⟩), .pointer (some ⟨q, 0, none⟩), .pointer (some ⟨v, 0, none⟩)]
  src : Src w c p g bs L inn vi
  lo : B ≤ x ∧ B ≤ c ∧ B ≤ p ∧ B ≤ g
section
variable {B : Nat} {w w' : World} {x c p g q v : Nat} {bs bs' L : List Int} {inn inn' : Nat} {vi vi' : Int}
theorem L17.cells (h : L17 B w x c p g q v bs L inn vi) : w.cell? ⟨x, 0, none⟩ = some (.pointer (some ⟨p, 0, none⟩)) ∧ w.cell? ⟨x, 1, none⟩ = some (.pointer (some ⟨c, 0, none⟩)) := ⟨h.two.cell 0, h.two.cell 1⟩
theorem L17.fr0 (h : L17 B w x c p g q v bs L inn vi) (hf : Fr0 w w') : L17 B w' x c p g q v bs L inn vi := ⟨h.two.fr0 hf, h.src.fr0 hf, h.lo⟩
theorem L17.far (h : L17 B w x c p g q v bs L inn vi) {S : Nat → Prop} (hf : Fr S w w') (hx : ¬ S x) (hc : ¬ S c) (hp : ¬ S p) (hg : ¬ S g) : L17 B w' x c p g q v bs L inn vi := ⟨h.two.fr hf hx, h.src.fr hf hp hg hc, h.lo⟩
theorem L17.ne (h : L17 B w x c p g q v bs L inn vi) : x ≠ g ∧ x ≠ c ∧ x ≠ p := ⟨h.two.ne_ h.src.sp.row (by decide), h.two.ne_ h.src.obj (by decide), h.two.ne_ h.src.sp.obj (by decide)⟩
theorem L17.step (h : L17 B w x c p g q v bs L inn vi) (hf : Fr1 g w w') (hs : Src w' c p g bs' L inn' vi') : L17 B w' x c p g q v bs' L inn' vi' ∧ Fr (fun k => B ≤ k) w w' :=
  ⟨⟨h.two.fr hf h.ne.1, hs, h.lo⟩, hf.mono fun k _ e => by rw [e]; exact h.lo.2.2.2⟩
/-- Of a row of ints of its own: none of its blocks is one of these. -/
theorem L17.own (h : L17 B w x c p g q v bs L inn vi) {base : Nat} {u : Value} {m : Nat} {zs : List Value} (ho : w.ownsRow base 3 1 u m zs) : ∀ k, u.ownBlock = some k → x ≠ k ∧ c ≠ k ∧ p ≠ k ∧ g ≠ k := by
  intro k hk
  rcases ho.2 with ⟨rfl, _⟩ | ⟨b, cap, cur, rfl, _, hb, _⟩
  · cases hk
  · simp only [Value.ownBlock, Option.some.injEq] at hk
    subst hk
    have hB : Blk w b 3 cur := hb
    exact ⟨h.two.ne_ hB (by decide), h.src.obj.ne_ hB (by decide), h.src.sp.obj.ne_ hB (by decide), h.src.sp.row.ne_ hB (by decide)⟩
end

/-- From where the next word is looked for; behind k words. -/
def stepN (L : List Int) (i : Nat) : Nat := nextP L.length (wordP 32 L i)
def runN (L : List Int) (i : Nat) : Nat → Nat
  | 0 => i
  | k + 1 => stepN L (runN L i k)
def atN (L : List Int) (i : Nat) (m : Nat) : List Int := (List.range m).map fun j => 65792 + (skipP 32 L (runN L i j) : Int)
def lenN (L : List Int) (i : Nat) (m : Nat) : List Int := (List.range m).map fun j => (wordP 32 L (runN L i j) : Int) - skipP 32 L (runN L i j)
theorem atN_succ (L : List Int) (i m : Nat) : atN L i (m + 1) = atN L i m ++ [65792 + (skipP 32 L (runN L i m) : Int)] := by simp [atN, List.range_succ]
theorem lenN_succ (L : List Int) (i m : Nat) : lenN L i (m + 1) = lenN L i m ++ [(wordP 32 L (runN L i m) : Int) - skipP 32 L (runN L i m)] := by simp [lenN, List.range_succ]
theorem atN_length (L : List Int) (i m : Nat) : (atN L i m).length = m := by simp [atN]
theorem lenN_length (L : List Int) (i m : Nat) : (lenN L i m).length = m := by simp [lenN]
theorem atN_at (L : List Int) (i : Nat) {m j : Nat} (hj : j < m) : (atN L i m)[j]? = some (65792 + (skipP 32 L (runN L i j) : Int)) := by simp [atN, hj]
theorem lenN_at (L : List Int) (i : Nat) {m j : Nat} (hj : j < m) : (lenN L i m)[j]? = some ((wordP 32 L (runN L i j) : Int) - skipP 32 L (runN L i j)) := by simp [lenN, hj]
end Go.Proofs.Ytmkpoemjikdoeaa
