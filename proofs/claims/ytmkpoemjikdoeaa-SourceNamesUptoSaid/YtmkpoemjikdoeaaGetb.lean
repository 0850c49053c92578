/- The program's data space: 'get'. -/
import Derived.Test.YtmkpoemjikdoeaaGet
namespace Go.Proofs.Ytmkpoemjikdoeaa
open Go Go.RowKit Go.Shelf
attribute [local go_sem] Oper.semAt_some

/-- The number that has been gathered of bytes that came. -/
def uOf (l : List (Nat × By)) : Int := l.foldl (fun u x => (u * 256 + x.2.1) % 18446744073709551616) 0
theorem uOf_snoc (l : List (Nat × By)) (x : Nat × By) : uOf (l ++ [x]) = (uOf l * 256 + x.2.1) % 18446744073709551616 := by simp [uOf]
theorem uOf_bound (l : List (Nat × By)) : 0 ≤ uOf l ∧ uOf l ≤ 18446744073709551615 := by
  rcases List.eq_nil_or_concat l with rfl | ⟨m, x, rfl⟩
  · simp [uOf]
  · rw [List.concat_eq_append, uOf_snoc]; omega

theorem or_byte (u x : Int) (hx1 : 0 ≤ x) (hx2 : x ≤ 255) : bits .or .u64 (IntKind.u64.wrap (u * 256)) x = (u * 256 + x) % 18446744073709551616 := by
  obtain ⟨m, hm, hlt⟩ : ∃ m : Nat, (u * 256) % 18446744073709551616 = ((2 ^ 8 * m : Nat) : Int) ∧ m < 72057594037927936 := ⟨((u * 256) % 18446744073709551616 / 256).toNat, by omega, by omega⟩
  obtain ⟨y, rfl⟩ : ∃ y : Nat, x = (y : Int) := ⟨x.toNat, by omega⟩
  have hy : y < 2 ^ 8 := by omega
  rw [show IntKind.u64.wrap (u * 256) = ((2 ^ 8 * m : Nat) : Int) by rw [← hm]; simp [IntKind.wrap, IntKind.bits, IntKind.signed]]
  rw [u64_or_nat _ _ (by omega) (by omega), ← Nat.two_pow_add_eq_or_of_lt hy]
  omega

set_option maxRecDepth 100000 in
set_option maxHeartbeats 2000000 in
theorem get_any {p g : Nat} {bs : List Int} {dict here : Int} (a n : Int) (w : World) (h : Sp w p g bs dict here) (ha : i64 a) (hn : 1 ≤ n) (hn' : n ≤ 8) (zs : List Int) (hz : Bytes zs)
    (hI : BySl w.heap.size w (reachV g bs.length a n (alignT n a)) zs hz) :
    Calls Try.prog 43 #[.pointer (some ⟨p, 0, none⟩), .int .i64 a, .int .i64 n] w fun e w' => e = .returned (.tuple #[.int .i64 (wrap64 (uOf (upto (bwAt zs hz) zs.length))), .int .i64 (reachT bs.length a n (alignT n a))]) ∧ Fr0 w w' := by
  refine (callsIn_wide (n := 4)).1 ?_
  refine callsIn_of_wp_marks Try.func43 rfl trivial ?_ rfl
  simp only [Try.ntmps43, List.size_toArray, List.length_cons, List.length_nil, Nat.reduceAdd, Nat.reduceSub, Array.replicate_succ, Array.replicate_zero, List.push_toArray, List.append_toArray, List.nil_append, List.cons_append]
  have hy1 : Blk (w.alloc (.cells #[.int .i64 n] 3)) w.heap.size 3 #[.int .i64 n] := Blk.new w _ _
  have hx1 : Blk ((w.alloc (.cells #[.int .i64 n] 3)).alloc (.cells #[.func (.func 41) #[] #[.pointer (some ⟨w.heap.size, 0, none⟩)]] 75)) (w.heap.size + 1) 75 #[.func (.func 41) #[] #[.pointer (some ⟨w.heap.size, 0, none⟩)]] := by
    have := Blk.new (w.alloc (.cells #[.int .i64 n] 3)) 75 #[.func (.func 41) #[] #[.pointer (some ⟨w.heap.size, 0, none⟩)]]
    simpa using this
  obtain ⟨A, ln, cp, hsv⟩ : ∃ A ln cp, reachV g bs.length a n (alignT n a) = .slice A ln cp := by
    rcases hI with ⟨e, _⟩ | ⟨b, off, cap, e, _⟩
    · exact ⟨_, _, _, e⟩
    · exact ⟨_, _, _, e⟩
  have Hsv := Lib.hid hsv
  clear hsv
  have hr : i64 n := ⟨by omega, by omega⟩
  gi_wp2_with (first | (refine ⟨trivial, ?_⟩; gi_at_call 32; refine (callsIn_wide.2 (aligned_any n _)).mono ?_; rintro e w' ⟨rfl, rfl⟩) | (refine ⟨trivial, ?_⟩; gi_at_call 25; refine (callsIn_wide.2 (reachA a n n (w.heap.size + 1) w.heap.size _ ((h.alloc _).alloc _) ha hr (by omega) (hy1.alloc _) hx1)).mono ?_; rintro e w' ⟨rfl, rfl⟩) | (refine ⟨trivial, ?_⟩; gi_at_call 46; refine (callsIn_wide.2 (back_any _ _ A ln cp Hsv.out)).mono ?_; rintro e w' ⟨rfl, rfl⟩))
  obtain ⟨W0, hW0⟩ : ∃ W0, ((((w.alloc (.cells #[.int .i64 n] 3)).alloc (.cells #[.func (.func 41) #[] #[.pointer (some ⟨w.heap.size, 0, none⟩)]] 75)).alloc (.cells #[.int .u64 0] 81)).alloc (.cells #[reachV g bs.length a n (alignT n a)] 25)) = W0 := ⟨_, rfl⟩
  rw [hW0]
  have hsz : W0.heap.size = w.heap.size + 4 := by rw [← hW0]; simp
  have hB0 : Below w.heap.size w W0 := by
    rw [← hW0]
    exact ((((Below.refl _ w).alloc (Nat.le_refl _) _).alloc (by simp) _).alloc (by simp; omega) _).alloc (by simp; omega) _
  have bU : Boxed W0 (w.heap.size + 1 + 1) 81 (.int .u64 0) := by
    rw [← hW0]
    have := (Boxed.new ((w.alloc (.cells #[.int .i64 n] 3)).alloc (.cells #[.func (.func 41) #[] #[.pointer (some ⟨w.heap.size, 0, none⟩)]] 75)) 81 (.int .u64 0)).alloc (.cells #[reachV g bs.length a n (alignT n a)] 25)
    simpa using this
  have bN : Boxed W0 (w.heap.size + 1 + 1 + 1) 25 (reachV g bs.length a n (alignT n a)) := by
    rw [← hW0]
    have := Boxed.new (((w.alloc (.cells #[.int .i64 n] 3)).alloc (.cells #[.func (.func 41) #[] #[.pointer (some ⟨w.heap.size, 0, none⟩)]] 75)).alloc (.cells #[.int .u64 0] 81)) 25 (reachV g bs.length a n (alignT n a))
    simpa using this
  clear hW0 hy1 hx1
  have hlen : zs.length ≤ 140737488351232 := by
    have := h.len
    rcases hI with ⟨_, e⟩ | ⟨b, off, cap, e, _⟩
    · subst e; simp
    · unfold reachV at e
      split at e
      · injection e with _ e2 _; omega
      · cases e
  refine wpIn_rangeFunc_ownG rfl (by omega) (gf := 47) (lb := #[.pointer (some ⟨w.heap.size + 1 + 1 + 1, 0, none⟩)]) rfl trivial (enters_of Try.func47 (by kernel_rfl) rfl)
    (back_stops (w.heap.size + 1 + 1 + 1) w.heap.size _ zs hz hlen W0 (by omega) (by omega) bN.cell (hI.below hB0)) kpB_t (kpB_b (by omega) (by omega)) (Below.refl _ _) (fun _ => rfl)
    (fun pre W => Boxed W (w.heap.size + 1 + 1) 81 (.int .u64 (uOf pre)) ∧ Below w.heap.size w W)
    (fun _ _ _ => False)
    (OwnFrom.and (Own.from (boxed_own _ _ _) _) (ownFrom_below (Nat.le_refl _) (by omega)))
    (fun _ _ _ _ _ hs _ _ => hs)
    ⟨bU, hB0⟩
    (fun x => { tmps := #[.pointer (some ⟨p, 0, none⟩), .int .i64 a, .int .i64 n, undef, undef, undef, .int .i64 0, .int .i64 (reachT bs.length a n (alignT n a)), reachV g bs.length a n (alignT n a), .pointer (some ⟨w.heap.size + 1 + 1, 0, none⟩), undef, .int .u8 x.2.1,
      .tuple #[reachV g bs.length a n (alignT n a), .int .i64 (reachT bs.length a n (alignT n a))], .pointer (some ⟨p, 0, none⟩), .int .i64 a, .int .i64 n, .int .i64 n, .func (.func 41) #[] #[.pointer (some ⟨w.heap.size, 0, none⟩)], .slice (some ⟨w.heap.size + 1, 0, none⟩) 1 1,
      .tuple #[reachV g bs.length a n (alignT n a), .int .i64 (reachT bs.length a n (alignT n a))], reachV g bs.length a n (alignT n a), .int .i64 (reachT bs.length a n (alignT n a)), reachV g bs.length a n (alignT n a), .func (.func 47) #[] #[.pointer (some ⟨w.heap.size + 1 + 1 + 1, 0, none⟩)],
      .int .i64 (x.1 : Int), .int .u8 x.2.1, undef, undef, undef, undef, undef, undef, undef, undef], defers := [] }) ?assign ?body ?done ?stop
  case assign =>
    intro l x W K hK
    gi_wp2
    exact hK
  case body =>
    rintro l pre x W ⟨bW, hB⟩ _
    have hc := bW.cell
    have hf := bW.frozen
    obtain ⟨i, x, hx1, hx2⟩ := x
    gi_wp2
    rw [or_byte _ _ hx1 hx2]
    refine ⟨(KeepsOthers.setCell _ _ _).from _, ⟨(Below.refl w.heap.size W).setCell (p := ⟨w.heap.size + 1 + 1, 0, none⟩) (by simp; omega) _, Below.heap_setCell _ _ _ _ (by simp)⟩, ?_, hB.setCell (p := ⟨w.heap.size + 1 + 1, 0, none⟩) (by simp; omega) _⟩
    rw [uOf_snoc]
    exact bW.set _
  case done =>
    rintro D ys W hD rfl ⟨bW, hB⟩ hK
    have hc := bW.cell
    gi_wp2
    refine ⟨by simp, .inl ⟨_, _, rfl, run_takeDeferred hK, ?_⟩⟩
    exact ⟨_, results_tmp2 rfl _ _ _, rfl, Fr0.of (hB.trans (belowK_b (w := w) (Nat.le_refl _) W D _ _ (by omega) hK rfl rfl))⟩
  case stop =>
    rintro D c pre W _ _ h _
    exact h.elim

/-- The number that bytes are, the lowest first. -/
def leV : List Int → Int
  | [] => 0
  | x :: l => x + 256 * leV l
theorem leV_bound (l : List Int) (h : Bytes l) : 0 ≤ leV l ∧ leV l < 256 ^ l.length := by
  induction l with
  | nil => simp [leV]
  | cons x l ih =>
    have hx := h x (by simp)
    have hl := ih fun y hy => h y (by simp [hy])
    simp only [leV, List.length_cons, Int.pow_succ]
    omega
theorem leV_lt (l : List Int) (h : Bytes l) (hl : l.length ≤ 8) : 0 ≤ leV l ∧ leV l ≤ 18446744073709551615 := by
  have h1 := leV_bound l h
  have h2 : (256 : Int) ^ l.length ≤ 18446744073709551616 := by
    obtain ⟨k, hk⟩ : ∃ k, k = l.length := ⟨_, rfl⟩
    rw [← hk] at hl ⊢
    match k, hl with
    | 0, _ => decide
    | 1, _ => decide
    | 2, _ => decide
    | 3, _ => decide
    | 4, _ => decide
    | 5, _ => decide
    | 6, _ => decide
    | 7, _ => decide
    | 8, _ => decide
    | k + 9, h => omega
  omega
theorem uOf_le (zs : List Int) (hz : Bytes zs) (hl : zs.length ≤ 8) (k : Nat) (hk : k ≤ zs.length) : uOf (upto (bwAt zs hz) k) = leV (zs.drop (zs.length - k)) := by
  induction k with
  | zero => simp [upto, uOf, leV]
  | succ k ih =>
    rw [upto_succ, uOf_snoc, ih (by omega)]
    have hj : zs.length - (k + 1) < zs.length := by omega
    rw [List.drop_eq_getElem_cons hj]
    have e1 : zs.length - (k + 1) + 1 = zs.length - k := by omega
    rw [e1]
    have e2 : (bwAt zs hz k).2.1 = zs[zs.length - (k + 1)] := by
      simp only [bwAt, byAt]
      rw [dif_pos (by omega)]
      simp only [show zs.length - 1 - k = zs.length - (k + 1) by omega]
    rw [e2]
    have hb := leV_lt (zs[zs.length - (k + 1)] :: zs.drop (zs.length - k)) (by rw [← e1, ← List.drop_eq_getElem_cons hj]; exact hz.drop _) (by simp; omega)
    simp only [leV] at hb ⊢
    rw [Int.emod_eq_of_lt (by omega) (by omega)]
    omega

/-- The number that stands in n bytes at an address; 0 where they can't be read. -/
def getV (bs : List Int) (a n : Int) : Int := if reachT bs.length a n (alignT n a) = 0 then wrap64 (leV ((bs.drop (a - 65536).toNat).take n.toNat)) else 0

theorem reachT_zero {L : Nat} {a n r : Int} (h : reachT L a n r = 0) (hn : 1 ≤ n) : 65536 ≤ a ∧ a + n ≤ 65536 + L ∧ r = 0 := by
  unfold reachT at h
  rw [if_neg (by omega), if_neg (by omega)] at h
  split at h
  · rename_i x; exact ⟨x.1, x.2, h⟩
  · omega

theorem get_spec {p g : Nat} {bs : List Int} {dict here : Int} (a n : Int) (w : World) (h : Sp w p g bs dict here) (ha : i64 a) (hn : 1 ≤ n) (hn' : n ≤ 8) :
    Calls Try.prog 43 #[.pointer (some ⟨p, 0, none⟩), .int .i64 a, .int .i64 n] w fun e w' => e = .returned (.tuple #[.int .i64 (getV bs a n), .int .i64 (reachT bs.length a n (alignT n a))]) ∧ Fr0 w w' := by
  by_cases hr : reachT bs.length a n (alignT n a) = 0
  · obtain ⟨h1, h2, h3⟩ := reachT_zero hr hn
    have hlen : ((bs.drop (a - 65536).toNat).take n.toNat).length = n.toNat := by simp; omega
    have hz : Bytes ((bs.drop (a - 65536).toNat).take n.toNat) := (h.byt.drop _).take _
    refine (get_any a n w h ha hn hn' _ hz (.inr ⟨g, (a - 65536).toNat, n.toNat, ?_, h.row.lt, fun j hj => ?_⟩)).mono ?_
    · rw [reachV_in ⟨hn, h1, h2⟩ h3, hlen]
    · rw [h.row.cell, cells8_at]
      rw [hlen] at hj
      have e : (a - 65536).toNat + j < bs.length := by omega
      rw [List.getElem?_eq_getElem e]
      simp only [byAt]
      rw [dif_pos (by omega)]
      simp [List.getElem_take, List.getElem_drop]
    · rintro e w' ⟨rfl, hf⟩
      refine ⟨?_, hf⟩
      rw [uOf_le _ hz (by omega) _ (Nat.le_refl _)]
      simp [getV, hr]
  · refine (get_any a n w h ha hn hn' [] (fun x hx => by cases hx) (.inl ⟨reachV_bad hr, rfl⟩)).mono ?_
    rintro e w' ⟨rfl, hf⟩
    refine ⟨?_, hf⟩
    simp [getV, hr, upto, uOf, wrap64]

section
variable {p g : Nat} {bs : List Int} {dict here : Int}
set_option maxHeartbeats 400000 in
theorem Fetch_any (a : Int) (w : World) (h : Sp w p g bs dict here) (ha : i64 a) :
    Calls Try.prog 37 #[.pointer (some ⟨p, 0, none⟩), .int .i64 a] w fun e w' => e = .returned (.tuple #[.int .i64 (getV bs a 8), .int .i64 (reachT bs.length a 8 (alignT 8 a))]) ∧ Fr0 w w' := by
  go_enter Try.func37, Try.ntmps37
  go_wp2_with (go_at_call 43; refine (get_spec a 8 _ h ha (by omega) (by omega)).mono ?_; rintro e w1 ⟨rfl, hf⟩)
  go_ret2
  exact ⟨rfl, hf⟩
end

end Go.Proofs.Ytmkpoemjikdoeaa
