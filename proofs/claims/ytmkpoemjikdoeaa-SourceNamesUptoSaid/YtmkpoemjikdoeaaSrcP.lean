/- The source's line in the data space: what lies where (numbers and lists alone). -/
import Derived.Test.YtmkpoemjikdoeaaPlays9
namespace Go.Proofs.Ytmkpoemjikdoeaa
open Go Go.RowKit

/-- Is a byte a delimiter? -/
def isD (d b : Int) : Bool := b == d || (d == 32 && decide (b < 32))
/-- The first place from i on that a test lets through; the line's length, if there is none. -/
def findP (P : Int → Bool) (L : List Int) (i : Nat) : Nat := i + (L.drop i).findIdx P
theorem findP_le (P : Int → Bool) (L : List Int) (i : Nat) (hi : i ≤ L.length) : i ≤ findP P L i ∧ findP P L i ≤ L.length := by
  unfold findP
  have := List.findIdx_le_length (p := P) (xs := L.drop i)
  simp at this
  omega
theorem findP_hit {P : Int → Bool} {L : List Int} {i k : Nat} {x : Int} (hk : ∀ j y, j < k → L[i + j]? = some y → P y = false) (hx : L[i + k]? = some x) (hP : P x = true) : findP P L i = i + k := by
  unfold findP
  congr 1
  have hlt : i + k < L.length := (List.getElem?_eq_some_iff.1 hx).1
  rw [List.findIdx_eq (by simp; omega)]
  refine ⟨?_, fun j hj => ?_⟩
  · rw [List.getElem_drop]
    rw [List.getElem?_eq_getElem hlt] at hx
    injection hx with hx
    rw [hx]; exact hP
  · rw [List.getElem_drop]
    have hjl : i + j < L.length := by omega
    simpa using hk j _ hj (List.getElem?_eq_getElem hjl)
theorem findP_miss {P : Int → Bool} {L : List Int} {i : Nat} (hi : i ≤ L.length) (hk : ∀ j y, L[i + j]? = some y → P y = false) : findP P L i = L.length := by
  unfold findP
  have : (L.drop i).findIdx P = (L.drop i).length := by
    rw [List.findIdx_eq_length]
    intro x hx
    obtain ⟨j, hj⟩ := List.getElem?_of_mem hx
    rw [List.getElem?_drop] at hj
    exact hk j x hj
  rw [this]
  simp
  omega

theorem reach_toIn : reachT 16384 65552 8 (alignT 8 65552) = 0 := by decide
theorem sys_toIn (bs : List Int) (hl : bs.length = 16384) (v : Int) : sysB bs 65552 v = poke bs 16 (leB v 8) := by
  unfold sysB
  rw [hl, if_pos reach_toIn]
  rfl
theorem get_toIn (bs : List Int) (hl : bs.length = 16384) (v : Int) (h0 : 0 ≤ v) (h1 : v ≤ 9223372036854775807) : getV (poke bs 16 (leB v 8)) 65552 8 = v := by
  have hp : (poke bs 16 (leB v 8)).length = 16384 := by rw [poke_length _ _ _ (by rw [leB_length]; omega), hl]
  unfold getV
  rw [hp, if_pos reach_toIn, show ((65552 : Int) - 65536).toNat = 16 from rfl, show (8 : Int).toNat = 8 from rfl]
  have := poke_take (bs := bs) (l := leB v 8) (off := 16) (by rw [leB_length]; omega)
  rw [leB_length] at this
  rw [this, leV_leB, show (2 : Int) ^ (8 * 8) = 18446744073709551616 by decide]
  exact wrap64_mod v ⟨by omega, h1⟩
/-- Bytes behind what is poked stay. -/
theorem poke_behind (bs l : List Int) (off k : Nat) (hk : off + l.length ≤ k) (hl : off + l.length ≤ bs.length) : (poke bs off l).drop k = bs.drop k := by
  apply List.ext_getElem?
  intro i
  rw [List.getElem?_drop, List.getElem?_drop, poke_get hl, if_neg (by omega)]
theorem line_sys (bs : List Int) (hl : bs.length = 16384) (v : Int) : (poke bs 16 (leB v 8)).drop 256 = bs.drop 256 :=
  poke_behind bs _ 16 256 (by rw [leB_length]; omega) (by rw [leB_length]; omega)
theorem line_lay (bs zs : List Int) (hl : bs.length = 16384) (hz : zs.length ≤ 1024) : ((poke bs 256 zs).drop 256).take zs.length = zs := poke_take (by omega)
theorem line_bytes (bs L : List Int) (hl : bs.length = 16384) (hL : (bs.drop 256).take L.length = L) (hn : L.length ≤ 1024) (i : Nat) (hi : i ≤ L.length) :
    bytesV bs (65792 + (i : Int)) ((L.length : Int) - i) = L.drop i ∧ reachT bs.length (65792 + (i : Int)) ((L.length : Int) - i) 0 = 0 := by
  have hr : reachT bs.length (65792 + (i : Int)) ((L.length : Int) - i) 0 = 0 := by
    unfold reachT
    rw [if_neg (by omega)]
    split
    · rfl
    · rw [if_pos ⟨by omega, by omega⟩]
  refine ⟨?_, hr⟩
  unfold bytesV
  rw [if_pos hr, show (65792 + (i : Int) - 65536).toNat = 256 + i by omega, show ((L.length : Int) - i).toNat = L.length - i by omega]
  have h2 := congrArg (List.drop i) hL
  rw [List.drop_take, List.drop_drop] at h2
  exact h2
end Go.Proofs.Ytmkpoemjikdoeaa
