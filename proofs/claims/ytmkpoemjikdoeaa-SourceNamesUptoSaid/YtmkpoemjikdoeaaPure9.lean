/- The data space: what was stored is read (numbers and lists alone). -/
import Derived.Test.YtmkpoemjikdoeaaNew
import Derived.Test.YtmkpoemjikdoeaaPut
namespace Go.Proofs.Ytmkpoemjikdoeaa
open Go Go.RowKit

theorem alignT_one (a : Int) : alignT 1 a = 0 := by unfold alignT; rw [if_pos (by omega)]

theorem poke_get {bs l : List Int} {off : Nat} (h : off + l.length ≤ bs.length) (i : Nat) :
    (poke bs off l)[i]? = if off ≤ i ∧ i < off + l.length then l[i - off]? else bs[i]? := by
  unfold poke
  rw [List.append_assoc, List.getElem?_append]
  simp only [List.length_take, Nat.min_eq_left (show off ≤ bs.length by omega)]
  by_cases h1 : i < off
  · rw [if_pos h1, if_neg (by omega), List.getElem?_take, if_pos h1]
  · rw [if_neg h1, List.getElem?_append]
    by_cases h2 : i - off < l.length
    · rw [if_pos h2, if_pos (by omega)]
    · rw [if_neg h2, if_neg (by omega), List.getElem?_drop]
      congr 1; omega

theorem poke_take {bs l : List Int} {off : Nat} (h : off + l.length ≤ bs.length) : ((poke bs off l).drop off).take l.length = l := by
  apply List.ext_getElem?
  intro i
  rw [List.getElem?_take]
  by_cases hi : i < l.length
  · rw [if_pos hi, List.getElem?_drop, poke_get h, if_pos (by omega)]
    congr 1; omega
  · rw [if_neg hi, List.getElem?_eq_none (by omega)]

theorem wrap64_mod (v : Int) (h : -9223372036854775808 ≤ v ∧ v ≤ 9223372036854775807) : wrap64 (v % 18446744073709551616) = v := by
  unfold wrap64; omega

theorem leV_leB (v : Int) (n : Nat) : leV (leB v n) = v % 2 ^ (8 * n) := by
  induction n generalizing v with
  | zero => simp [leB, leV]
  | succ n ih =>
    have e : leB v (n + 1) = (v % 256) :: leB (v / 256) n := by
      unfold leB
      rw [List.range_succ_eq_map, List.map_cons, List.map_map]
      congr 1
      · simp
      · apply List.map_congr_left
        intro i _
        simp only [Function.comp_apply]
        rw [show 8 * i.succ = 8 + 8 * i by omega, Int.pow_add, Int.ediv_ediv, if_neg (by simp), Int.sub_zero]; rfl
    rw [e]
    simp only [leV, ih]
    rw [show 8 * (n + 1) = 8 + 8 * n by omega, Int.pow_add, show (2 : Int) ^ 8 = 256 from rfl]
    have hK : (0 : Int) < 2 ^ (8 * n) := Int.pow_pos (by decide)
    generalize (2 : Int) ^ (8 * n) = K at hK
    have h1 := Int.emod_add_mul_ediv (v / 256) K
    have h2 := Int.emod_nonneg (v / 256) (show K ≠ 0 by omega)
    have h3 := Int.emod_lt_of_pos (v / 256) hK
    refine ((Int.ediv_emod_unique (q := v / 256 / K) (show 0 < 256 * K by omega)).2 ⟨?_, by omega, by omega⟩).2.symm
    rw [Int.mul_assoc]
    generalize K * (v / 256 / K) = M at h1
    omega

theorem getV_one {bs : List Int} {a : Int} (hb : Bytes bs) (h : reachT bs.length a 1 (alignT 1 a) = 0) : getV bs a 1 = bs.getD (a - 65536).toNat 0 := by
  obtain ⟨h1, h2, _⟩ := reachT_zero h (by omega)
  unfold getV
  rw [if_pos h]
  have hl : (a - 65536).toNat < bs.length := by omega
  rw [List.drop_eq_getElem_cons hl, List.getD_eq_getElem?_getD, List.getElem?_eq_getElem hl]
  have := hb.at_ hl
  simp only [show (1 : Int).toNat = 1 from rfl, List.take_succ_cons, List.take_zero, leV, Option.getD_some]
  unfold wrap64
  omega

theorem put_T {L : Nat} {a n : Int} (hn : 1 ≤ n) (h : reachT L a n (orT (alignT n a) (openT a n)) = 0) : 65536 ≤ a ∧ a + n ≤ 65536 + L ∧ alignT n a = 0 ∧ openT a n = 0 := by
  obtain ⟨h1, h2, h3⟩ := reachT_zero h hn
  unfold orT at h3
  split at h3
  · rename_i h4; exact ⟨h1, h2, h4, h3⟩
  · rename_i h4; exact absurd h3 h4

theorem putB_length {bs : List Int} {a v n : Int} (hn : 1 ≤ n) : (putB bs a v n).length = bs.length := by
  unfold putB
  split
  · rename_i h
    obtain ⟨h1, h2, _⟩ := put_T hn h
    exact poke_length _ _ _ (by rw [leB_length]; omega)
  · rfl

/-- What a store has stored is fetched. -/
theorem keeps_fetch {bs : List Int} {a v : Int} (hv : i64 v) (h : reachT bs.length a 8 (orT (alignT 8 a) (openT a 8)) = 0) :
    getV (putB bs a v 8) a 8 = v := by
  obtain ⟨h1, h2, h3, h4⟩ := put_T (by omega) h
  unfold getV
  rw [putB_length (by omega), if_pos (by rw [reachT_in ⟨by omega, h1, h2⟩]; exact h3)]
  unfold putB
  rw [if_pos h]
  have e := poke_take (bs := bs) (l := leB v (8 : Int).toNat) (off := (a - 65536).toNat) (by rw [leB_length]; omega)
  rw [leB_length] at e
  rw [e, leV_leB]
  exact wrap64_mod v hv

/-- Its bytes stand with the lowest first. -/
theorem keeps_byte {bs : List Int} (hb : Bytes bs) {a v : Int} (h : reachT bs.length a 8 (orT (alignT 8 a) (openT a 8)) = 0) (i : Nat) (hi : i < 8) :
    reachT (putB bs a v 8).length (a + i) 1 (alignT 1 (a + i)) = 0 ∧ getV (putB bs a v 8) (a + i) 1 = v / 2 ^ (8 * i) % 256 := by
  obtain ⟨h1, h2, h3, h4⟩ := put_T (by omega) h
  have hr : reachT (putB bs a v 8).length (a + i) 1 (alignT 1 (a + i)) = 0 := by
    rw [putB_length (by omega), alignT_one, reachT_in ⟨by omega, by omega, by omega⟩]
  refine ⟨hr, ?_⟩
  have hl : (a - 65536).toNat + (leB v 8).length ≤ bs.length := by rw [leB_length]; omega
  have e : putB bs a v 8 = poke bs (a - 65536).toNat (leB v 8) := by unfold putB; rw [if_pos h]; rfl
  rw [getV_one (by rw [e]; exact poke_bytes hb (leB_bytes _ _) _) hr, e, List.getD_eq_getElem?_getD, poke_get hl, if_pos (by rw [leB_length]; omega)]
  rw [show (a + i - 65536).toNat - (a - 65536).toNat = i by omega]
  simp [leB, hi]

/-- Another byte is as it was. -/
theorem keeps_other {bs : List Int} (hb : Bytes bs) {a v o : Int} (h : reachT bs.length a 8 (orT (alignT 8 a) (openT a 8)) = 0) (ho : o < a ∨ a + 8 ≤ o) :
    getV (putB bs a v 8) o 1 = getV bs o 1 := by
  obtain ⟨h1, h2, h3, h4⟩ := put_T (by omega) h
  have hl : (a - 65536).toNat + (leB v 8).length ≤ bs.length := by rw [leB_length]; omega
  have e : putB bs a v 8 = poke bs (a - 65536).toNat (leB v 8) := by unfold putB; rw [if_pos h]; rfl
  by_cases hr : reachT bs.length o 1 (alignT 1 o) = 0
  · obtain ⟨r1, r2, _⟩ := reachT_zero hr (by omega)
    rw [getV_one hb hr, getV_one (by rw [e]; exact poke_bytes hb (leB_bytes _ _) _) (by rw [putB_length (by omega)]; exact hr), e]
    rw [List.getD_eq_getElem?_getD, List.getD_eq_getElem?_getD, poke_get hl, if_neg (by rw [leB_length]; omega)]
  · unfold getV
    rw [putB_length (by omega), if_neg hr, if_neg hr]

theorem byte_of (v : Int) (i : Nat) (hi : i < 8) : IntKind.u64.wrap v / 2 ^ (8 * i) % 256 = v / 2 ^ (8 * i) % 256 := by
  obtain ⟨q, hq⟩ : ∃ q : Int, IntKind.u64.wrap v = v + 18446744073709551616 * q := by
    refine ⟨-(v / 18446744073709551616), ?_⟩
    simp [IntKind.wrap, IntKind.bits, IntKind.signed]; omega
  rw [hq]
  match i, hi with
  | 0, _ => simp only [Nat.mul_zero, Int.pow_zero, Int.ediv_one]; omega
  | 1, _ => rw [show (2 : Int) ^ (8 * 1) = 256 from rfl]; omega
  | 2, _ => rw [show (2 : Int) ^ (8 * 2) = 65536 from rfl]; omega
  | 3, _ => rw [show (2 : Int) ^ (8 * 3) = 16777216 from rfl]; omega
  | 4, _ => rw [show (2 : Int) ^ (8 * 4) = 4294967296 from rfl]; omega
  | 5, _ => rw [show (2 : Int) ^ (8 * 5) = 1099511627776 from rfl]; omega
  | 6, _ => rw [show (2 : Int) ^ (8 * 6) = 281474976710656 from rfl]; omega
  | 7, _ => rw [show (2 : Int) ^ (8 * 7) = 72057594037927936 from rfl]; omega

end Go.Proofs.Ytmkpoemjikdoeaa
