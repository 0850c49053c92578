/- The program's data space: both, Move, Up, Down. -/
import Derived.Test.YtmkpoemjikdoeaaSame
import Derived.Test.YtmkpoemjikdoeaaCopy
namespace Go.Proofs.Ytmkpoemjikdoeaa
open Go Go.RowKit

section
variable {p g : Nat} {bs : List Int} {dict here : Int}
/-- What a move throws. -/
def bothT (L : Nat) (f t n : Int) : Int := if reachT L f n 0 = 0 then putT L t n else reachT L f n 0
/-- The bytes that it reads; that it writes. -/
def bothF (g L : Nat) (f _t n : Int) : Value := if reachT L f n 0 = 0 then reachV g L f n 0 else .slice none 0 0
def bothV (g L : Nat) (f t n : Int) : Value := if reachT L f n 0 = 0 then reachV g L t n (openT t n) else .slice none 0 0

theorem results_tmp3' {fn : Func} {t u v : Tmp} (h : fn.results = #[.tmp t, .tmp u, .tmp v]) (tmps : Array Value) (P : Program) (w : World) :
    (results fn tmps).run P w = .ok (.tuple #[tmps.getD t undef, tmps.getD u undef, tmps.getD v undef]) w := by simp [results, h]

/-- Where a move is made, all its bytes are there. -/
theorem bothT_zero {L : Nat} {f t n : Int} (h : bothT L f t n = 0) (hn : 1 ≤ n) : 65536 ≤ f ∧ f + n ≤ 65536 + L ∧ 65536 ≤ t ∧ t + n ≤ 65536 + L ∧ openT t n = 0 ∧ reachT L f n 0 = 0 := by
  unfold bothT at h
  split at h
  · rename_i h0
    obtain ⟨k1, k2, _⟩ := reachT_zero h0 hn
    obtain ⟨k3, k4, k5⟩ := reachT_zero h hn
    exact ⟨k1, k2, k3, k4, k5, h0⟩
  · rename_i h0
    exact absurd h h0
theorem both_in {L : Nat} {f t n : Int} (h : bothT L f t n = 0) (hn : 1 ≤ n) : bothF g L f t n = .slice (some ⟨g, (f - 65536).toNat, none⟩) n.toNat n.toNat ∧ bothV g L f t n = .slice (some ⟨g, (t - 65536).toNat, none⟩) n.toNat n.toNat := by
  obtain ⟨k1, k2, k3, k4, k5, k6⟩ := bothT_zero h hn
  unfold bothF bothV
  rw [if_pos k6, if_pos k6, reachV_in ⟨hn, k1, k2⟩ rfl, reachV_in ⟨hn, k3, k4⟩ k5]
  exact ⟨rfl, rfl⟩
theorem reachV_form (L : Nat) (a n r : Int) : ∃ A m c, reachV g L a n r = .slice A m c := by
  unfold reachV
  split
  · exact ⟨_, _, _, rfl⟩
  · exact ⟨_, _, _, rfl⟩
theorem both_out {L : Nat} {f t n : Int} (h : ¬ (bothT L f t n = 0 ∧ 1 ≤ n)) : (∃ A m c, bothF g L f t n = .slice A m c) ∧ bothV g L f t n = .slice none 0 0 := by
  unfold bothF bothV
  unfold bothT at h
  split at h
  · rename_i h0
    rw [if_pos h0, if_pos h0]
    refine ⟨reachV_form _ _ _ _, ?_⟩
    unfold reachV
    rw [if_neg (fun x => h ⟨x.2, by omega⟩)]
  · rename_i h0
    rw [if_neg h0, if_neg h0]
    exact ⟨⟨_, _, _, rfl⟩, rfl⟩

/-- The row behind a move. -/
def moveB (bs : List Int) (f t n : Int) : List Int := if bothT bs.length f t n = 0 then poke bs (t - 65536).toNat ((bs.drop (f - 65536).toNat).take n.toNat) else bs

end

end Go.Proofs.Ytmkpoemjikdoeaa
