/- Flow: the document's Do, words that take nothing. -/
import Derived.Test.YtoldegajbonliaaFr6
namespace Go.Proofs.Ytoldegajbonliaa
open Go Go.RowKit
set_option linter.unusedVariables false
attribute [local go_sem] Oper.semAt_some

section
variable {w w' : World} {B r p q cap : Nat} {tv tv' lv lv' : Value} {ts ts' : List Tk} {xs : List RT} {T : Nat → Prop}
set_option maxRecDepth 100000 in
set_option maxHeartbeats 8000000 in
theorem turnb_1 (at_ : Int) (w : World) (h : RF w B r p xs lv ts q cap tv) (hn : xs.length < 64) : Calls Try.prog 52 #[.pointer (some ⟨r, 0, none⟩), .int .i64 1, .int .i64 at_] w fun e w' => (∃ v, e = .returned v) ∧ ∃ lv' x, RF w' B r p (xs ++ [x]) lv' ts q cap tv ∧ (x.kind = 1 ∧ x.to_.length ≤ 1) ∧ Turn (RFIn r p q tv lv xs) (RFIn r p q tv lv' (xs ++ [x])) w w' := by
  have HP := Lib.hid (fun (V : World) (n : Int) (hV : Fr0 w V) => push_r ⟨1, n, [], .slice none 0 0⟩ V (h.fr0 hV) ⟨OwnI.nil V B, by simp⟩ (fun y k hy hk e => by cases e) hn)
  clear h hn
  go_enter Try.func52, Try.ntmps52
  go_wp2_with (first | (go_at_call 72; refine (HP.out _ _ (Fr.refl (fun _ => False) w)).mono ?_; rintro e w2 ⟨⟨v, rfl⟩, lv2, h2, f2, l2⟩; have H2 := Lib.hid h2; have F2 := Lib.hid f2; have L2 := Lib.hid l2; clear h2 f2 l2))
  refine bodyPost_end (results_none rfl _ _ _) rfl ?_
  exact ⟨⟨_, rfl⟩, _, _, H2.out, ⟨rfl, by simp⟩, (Turn.of0 (Fr.refl (fun _ => False) w)).trans (RF.pushed F2.out L2.out (fun k hk => by cases hk))⟩
set_option maxRecDepth 100000 in
set_option maxHeartbeats 8000000 in
theorem doRb_1 (w : World) (h : RF w B r p xs lv ts q cap tv) (hn : xs.length < 64) (hl : ts.length < 50000) : Calls Try.prog 28 #[.pointer (some ⟨r, 0, none⟩), .int .i64 1] w fun e w' => e = .returned (.int .i64 0) ∧ ∃ lv' tv' x, RF w' B r p (xs ++ [x]) lv' (ts ++ [⟨7, 0, 0⟩]) q cap tv' ∧ (x.kind = 1 ∧ x.to_.length ≤ 1) ∧ Turn (RFIn r p q tv lv xs) (RFIn r p q tv' lv' (xs ++ [x])) w w' := by
  have HN := Lib.hid (fun V => needs_1 V)
  have HH := Lib.hid (fun V (hV : Fr0 w V) => h.fr0 hV)
  have HIS := Lib.hid (fun V kv (hV : Fr0 w V) (hk : Rd V kv 0 1 ([].map (Value.int .i64))) => isk_r [] kv V (h.fr0 hV) hk (by decide))
  rw [show isV (RT.ks xs) [] = true from by unfold isV; simp] at HIS
  obtain ⟨A, c, rfl⟩ := h.form
  obtain ⟨n, hnn⟩ : ∃ n, xs.length = n := ⟨_, rfl⟩
  have HNN := Lib.hid hnn
  have HL := Lib.hid hn
  rw [hnn] at hn ⊢
  clear h hnn
  go_enter Try.func28, Try.ntmps28
  go_wp2_with (first | (go_at_call 48; refine (HN.out _).mono ?_; rintro e w1 ⟨kv, rfl, hf1, hk1⟩; have HK1 := Lib.hid hk1; have HF1 := Lib.hid hf1; have c1 := (HH.out _ hf1).cells.2.1; clear hk1 hf1) | (go_at_call 49; refine (HIS.out _ _ HF1.out HK1.out).mono ?_; rintro e w2 ⟨rfl, hf2⟩; have HF2 := Lib.hid (HF1.out.trans hf2); have c2 := (HH.out _ HF2.out).cells.2.2; rw [HNN.out] at c2; clear hf2) | (go_at_call 51; refine (emit_r _ _ _ (HH.out _ HF2.out) hl).mono ?_; rintro e w3 ⟨rfl, tv3, h3, t3⟩; have H3 := Lib.hid h3; have T3 := Lib.hid t3; clear h3 t3) | (go_at_call 52; refine (turnb_1 _ _ H3.out HL.out).mono ?_; rintro e w4 ⟨⟨v, rfl⟩, lv4, x4, h4, k4, t4⟩))
  go_ret
  exact ⟨rfl, _, _, _, h4, k4, (Turn.of0 HF2.out).trans ((HNN.out ▸ T3.out).trans (HNN.out ▸ t4))⟩
set_option maxRecDepth 100000 in
set_option maxHeartbeats 8000000 in
theorem turnb_2 (at_ : Int) (w : World) (h : RF w B r p xs lv ts q cap tv) (hn : xs.length < 64) : Calls Try.prog 52 #[.pointer (some ⟨r, 0, none⟩), .int .i64 2, .int .i64 at_] w fun e w' => (∃ v, e = .returned v) ∧ ∃ lv' x, RF w' B r p (xs ++ [x]) lv' ts q cap tv ∧ (x.kind = 1 ∧ x.to_.length ≤ 1) ∧ Turn (RFIn r p q tv lv xs) (RFIn r p q tv lv' (xs ++ [x])) w w' := by
  have HP := Lib.hid (fun (V : World) (n : Int) (hV : Fr0 w V) => push_r ⟨1, n, [], .slice none 0 0⟩ V (h.fr0 hV) ⟨OwnI.nil V B, by simp⟩ (fun y k hy hk e => by cases e) hn)
  clear h hn
  go_enter Try.func52, Try.ntmps52
  go_wp2_with (first | (go_at_call 72; refine (HP.out _ _ (Fr.refl (fun _ => False) w)).mono ?_; rintro e w2 ⟨⟨v, rfl⟩, lv2, h2, f2, l2⟩; have H2 := Lib.hid h2; have F2 := Lib.hid f2; have L2 := Lib.hid l2; clear h2 f2 l2))
  refine bodyPost_end (results_none rfl _ _ _) rfl ?_
  exact ⟨⟨_, rfl⟩, _, _, H2.out, ⟨rfl, by simp⟩, (Turn.of0 (Fr.refl (fun _ => False) w)).trans (RF.pushed F2.out L2.out (fun k hk => by cases hk))⟩
set_option maxRecDepth 100000 in
set_option maxHeartbeats 8000000 in
theorem doRb_2 (w : World) (h : RF w B r p xs lv ts q cap tv) (hn : xs.length < 64) (hl : ts.length < 50000) : Calls Try.prog 28 #[.pointer (some ⟨r, 0, none⟩), .int .i64 2] w fun e w' => e = .returned (.int .i64 0) ∧ ∃ lv' tv' x, RF w' B r p (xs ++ [x]) lv' (ts ++ [⟨6, 0, 0⟩]) q cap tv' ∧ (x.kind = 1 ∧ x.to_.length ≤ 1) ∧ Turn (RFIn r p q tv lv xs) (RFIn r p q tv' lv' (xs ++ [x])) w w' := by
  have HN := Lib.hid (fun V => needs_2 V)
  have HH := Lib.hid (fun V (hV : Fr0 w V) => h.fr0 hV)
  have HIS := Lib.hid (fun V kv (hV : Fr0 w V) (hk : Rd V kv 0 1 ([].map (Value.int .i64))) => isk_r [] kv V (h.fr0 hV) hk (by decide))
  rw [show isV (RT.ks xs) [] = true from by unfold isV; simp] at HIS
  obtain ⟨A, c, rfl⟩ := h.form
  obtain ⟨n, hnn⟩ : ∃ n, xs.length = n := ⟨_, rfl⟩
  have HNN := Lib.hid hnn
  have HL := Lib.hid hn
  rw [hnn] at hn ⊢
  clear h hnn
  go_enter Try.func28, Try.ntmps28
  go_wp2_with (first | (go_at_call 48; refine (HN.out _).mono ?_; rintro e w1 ⟨kv, rfl, hf1, hk1⟩; have HK1 := Lib.hid hk1; have HF1 := Lib.hid hf1; have c1 := (HH.out _ hf1).cells.2.1; clear hk1 hf1) | (go_at_call 49; refine (HIS.out _ _ HF1.out HK1.out).mono ?_; rintro e w2 ⟨rfl, hf2⟩; have HF2 := Lib.hid (HF1.out.trans hf2); have c2 := (HH.out _ HF2.out).cells.2.2; rw [HNN.out] at c2; clear hf2) | (go_at_call 51; refine (emit_r _ _ _ (HH.out _ HF2.out) hl).mono ?_; rintro e w3 ⟨rfl, tv3, h3, t3⟩; have H3 := Lib.hid h3; have T3 := Lib.hid t3; clear h3 t3) | (go_at_call 52; refine (turnb_2 _ _ H3.out HL.out).mono ?_; rintro e w4 ⟨⟨v, rfl⟩, lv4, x4, h4, k4, t4⟩))
  go_ret
  exact ⟨rfl, _, _, _, h4, k4, (Turn.of0 HF2.out).trans ((HNN.out ▸ T3.out).trans (HNN.out ▸ t4))⟩
set_option maxRecDepth 100000 in
set_option maxHeartbeats 8000000 in
theorem turnb_5 (at_ : Int) (w : World) (h : RF w B r p xs lv ts q cap tv) (hn : xs.length < 64) : Calls Try.prog 52 #[.pointer (some ⟨r, 0, none⟩), .int .i64 5, .int .i64 at_] w fun e w' => (∃ v, e = .returned v) ∧ ∃ lv' x, RF w' B r p (xs ++ [x]) lv' ts q cap tv ∧ (x.kind = 2 ∧ x.to_.length ≤ 1) ∧ Turn (RFIn r p q tv lv xs) (RFIn r p q tv lv' (xs ++ [x])) w w' := by
  have HHE := Lib.hid (here_r w h)
  have HP := Lib.hid (fun (V : World) (n : Int) (hV : Fr0 w V) => push_r ⟨2, n, [], .slice none 0 0⟩ V (h.fr0 hV) ⟨OwnI.nil V B, by simp⟩ (fun y k hy hk e => by cases e) hn)
  clear h hn
  go_enter Try.func52, Try.ntmps52
  go_wp2_with (first | (go_at_call 76; refine HHE.out.mono ?_; rintro e w1 ⟨rfl, hf1⟩; have HF1 := Lib.hid hf1; clear hf1) | (go_at_call 72; refine (HP.out _ _ HF1.out).mono ?_; rintro e w2 ⟨⟨v, rfl⟩, lv2, h2, f2, l2⟩; have H2 := Lib.hid h2; have F2 := Lib.hid f2; have L2 := Lib.hid l2; clear h2 f2 l2))
  refine bodyPost_end (results_none rfl _ _ _) rfl ?_
  exact ⟨⟨_, rfl⟩, _, _, H2.out, ⟨rfl, by simp⟩, (Turn.of0 HF1.out).trans (RF.pushed F2.out L2.out (fun k hk => by cases hk))⟩
set_option maxRecDepth 100000 in
set_option maxHeartbeats 8000000 in
theorem doRb_5 (w : World) (h : RF w B r p xs lv ts q cap tv) (hn : xs.length < 64) : Calls Try.prog 28 #[.pointer (some ⟨r, 0, none⟩), .int .i64 5] w fun e w' => e = .returned (.int .i64 0) ∧ ∃ lv' tv' x, RF w' B r p (xs ++ [x]) lv' ts q cap tv' ∧ (x.kind = 2 ∧ x.to_.length ≤ 1) ∧ Turn (RFIn r p q tv lv xs) (RFIn r p q tv' lv' (xs ++ [x])) w w' := by
  have HN := Lib.hid (fun V => needs_5 V)
  have HH := Lib.hid (fun V (hV : Fr0 w V) => h.fr0 hV)
  have HIS := Lib.hid (fun V kv (hV : Fr0 w V) (hk : Rd V kv 0 1 ([].map (Value.int .i64))) => isk_r [] kv V (h.fr0 hV) hk (by decide))
  rw [show isV (RT.ks xs) [] = true from by unfold isV; simp] at HIS
  obtain ⟨A, c, rfl⟩ := h.form
  obtain ⟨n, hnn⟩ : ∃ n, xs.length = n := ⟨_, rfl⟩
  have HNN := Lib.hid hnn
  have HL := Lib.hid hn
  rw [hnn] at hn ⊢
  clear h hnn
  go_enter Try.func28, Try.ntmps28
  go_wp2_with (first | (go_at_call 48; refine (HN.out _).mono ?_; rintro e w1 ⟨kv, rfl, hf1, hk1⟩; have HK1 := Lib.hid hk1; have HF1 := Lib.hid hf1; have c1 := (HH.out _ hf1).cells.2.1; clear hk1 hf1) | (go_at_call 49; refine (HIS.out _ _ HF1.out HK1.out).mono ?_; rintro e w2 ⟨rfl, hf2⟩; have HF2 := Lib.hid (HF1.out.trans hf2); have c2 := (HH.out _ HF2.out).cells.2.2; rw [HNN.out] at c2; clear hf2) | (go_at_call 52; refine (turnb_5 _ _ (HH.out _ HF2.out) HL.out).mono ?_; rintro e w4 ⟨⟨v, rfl⟩, lv4, x4, h4, k4, t4⟩))
  go_ret
  exact ⟨rfl, _, _, _, h4, k4, (Turn.of0 HF2.out).trans (HNN.out ▸ t4)⟩
set_option maxRecDepth 100000 in
set_option maxHeartbeats 8000000 in
theorem turnb_10 (at_ : Int) (w : World) (h : RF w B r p xs lv ts q cap tv) (hn : xs.length < 64) : Calls Try.prog 52 #[.pointer (some ⟨r, 0, none⟩), .int .i64 10, .int .i64 at_] w fun e w' => (∃ v, e = .returned v) ∧ ∃ lv' x, RF w' B r p (xs ++ [x]) lv' ts q cap tv ∧ (x.kind = 3 ∧ x.to_.length ≤ 1) ∧ Turn (RFIn r p q tv lv xs) (RFIn r p q tv lv' (xs ++ [x])) w w' := by
  have HHE := Lib.hid (here_r w h)
  have HP := Lib.hid (fun (V : World) (n : Int) (hV : Fr0 w V) => push_r ⟨3, n, [], .slice none 0 0⟩ V (h.fr0 hV) ⟨OwnI.nil V B, by simp⟩ (fun y k hy hk e => by cases e) hn)
  clear h hn
  go_enter Try.func52, Try.ntmps52
  go_wp2_with (first | (go_at_call 76; refine HHE.out.mono ?_; rintro e w1 ⟨rfl, hf1⟩; have HF1 := Lib.hid hf1; clear hf1) | (go_at_call 72; refine (HP.out _ _ HF1.out).mono ?_; rintro e w2 ⟨⟨v, rfl⟩, lv2, h2, f2, l2⟩; have H2 := Lib.hid h2; have F2 := Lib.hid f2; have L2 := Lib.hid l2; clear h2 f2 l2))
  refine bodyPost_end (results_none rfl _ _ _) rfl ?_
  exact ⟨⟨_, rfl⟩, _, _, H2.out, ⟨rfl, by simp⟩, (Turn.of0 HF1.out).trans (RF.pushed F2.out L2.out (fun k hk => by cases hk))⟩
set_option maxRecDepth 100000 in
set_option maxHeartbeats 8000000 in
theorem doRb_10 (w : World) (h : RF w B r p xs lv ts q cap tv) (hn : xs.length < 64) (hl : ts.length < 50000) : Calls Try.prog 28 #[.pointer (some ⟨r, 0, none⟩), .int .i64 10] w fun e w' => e = .returned (.int .i64 0) ∧ ∃ lv' tv' x, RF w' B r p (xs ++ [x]) lv' (ts ++ [⟨8, 0, 0⟩]) q cap tv' ∧ (x.kind = 3 ∧ x.to_.length ≤ 1) ∧ Turn (RFIn r p q tv lv xs) (RFIn r p q tv' lv' (xs ++ [x])) w w' := by
  have HN := Lib.hid (fun V => needs_10 V)
  have HH := Lib.hid (fun V (hV : Fr0 w V) => h.fr0 hV)
  have HIS := Lib.hid (fun V kv (hV : Fr0 w V) (hk : Rd V kv 0 1 ([].map (Value.int .i64))) => isk_r [] kv V (h.fr0 hV) hk (by decide))
  rw [show isV (RT.ks xs) [] = true from by unfold isV; simp] at HIS
  obtain ⟨A, c, rfl⟩ := h.form
  obtain ⟨n, hnn⟩ : ∃ n, xs.length = n := ⟨_, rfl⟩
  have HNN := Lib.hid hnn
  have HL := Lib.hid hn
  rw [hnn] at hn ⊢
  clear h hnn
  go_enter Try.func28, Try.ntmps28
  go_wp2_with (first | (go_at_call 48; refine (HN.out _).mono ?_; rintro e w1 ⟨kv, rfl, hf1, hk1⟩; have HK1 := Lib.hid hk1; have HF1 := Lib.hid hf1; have c1 := (HH.out _ hf1).cells.2.1; clear hk1 hf1) | (go_at_call 49; refine (HIS.out _ _ HF1.out HK1.out).mono ?_; rintro e w2 ⟨rfl, hf2⟩; have HF2 := Lib.hid (HF1.out.trans hf2); have c2 := (HH.out _ HF2.out).cells.2.2; rw [HNN.out] at c2; clear hf2) | (go_at_call 51; refine (emit_r _ _ _ (HH.out _ HF2.out) hl).mono ?_; rintro e w3 ⟨rfl, tv3, h3, t3⟩; have H3 := Lib.hid h3; have T3 := Lib.hid t3; clear h3 t3) | (go_at_call 52; refine (turnb_10 _ _ H3.out HL.out).mono ?_; rintro e w4 ⟨⟨v, rfl⟩, lv4, x4, h4, k4, t4⟩))
  go_ret
  exact ⟨rfl, _, _, _, h4, k4, (Turn.of0 HF2.out).trans ((HNN.out ▸ T3.out).trans (HNN.out ▸ t4))⟩
set_option maxRecDepth 100000 in
set_option maxHeartbeats 8000000 in
theorem turnb_11 (at_ : Int) (w : World) (h : RF w B r p xs lv ts q cap tv) (hn : xs.length < 64) : Calls Try.prog 52 #[.pointer (some ⟨r, 0, none⟩), .int .i64 11, .int .i64 at_] w fun e w' => (∃ v, e = .returned v) ∧ ∃ lv' x, RF w' B r p (xs ++ [x]) lv' ts q cap tv ∧ (x.kind = 3 ∧ x.to_.length ≤ 1) ∧ Turn (RFIn r p q tv lv xs) (RFIn r p q tv lv' (xs ++ [x])) w w' := by
  have HHE := Lib.hid (here_r w h)
  have hbl := h.pl.lo.2.2
  have HP := Lib.hid (fun (V : World) (n : Int) (hV : Fr0 w V) => push_r ⟨3, n, [at_], .slice (some ⟨V.heap.size, 0, none⟩) 1 1⟩ (V.alloc (.cells #[.int .i64 at_] 3)) (h.fr0 (hV.alloc _)) ⟨OwnI.new V B at_ (Nat.le_trans hbl hV.size), by simp⟩ (fun y k hy hk e => by
    have h1 := (own_lo (h.js y hy).1 k hk).2
    have h2 := hV.size
    have h3 : V.heap.size = k := by simpa [Value.ownBlock] using e
    omega) hn)
  clear h hn
  go_enter Try.func52, Try.ntmps52
  go_wp2_with (first | (go_at_call 76; refine HHE.out.mono ?_; rintro e w1 ⟨rfl, hf1⟩; have HF1 := Lib.hid hf1; clear hf1) | (go_at_call 72; refine (HP.out _ _ HF1.out).mono ?_; rintro e w2 ⟨⟨v, rfl⟩, lv2, h2, f2, l2⟩; have H2 := Lib.hid h2; have F2 := Lib.hid f2; have L2 := Lib.hid l2; clear h2 f2 l2))
  refine bodyPost_end (results_none rfl _ _ _) rfl ?_
  have hfa := HF1.out.alloc (.cells #[.int .i64 at_] 3)
  have hz := hfa.size
  have hz1 := HF1.out.size
  have hT := (HF1.out.of0 (S := fun _ => False)).alloc (.cells #[.int .i64 at_] 3)
  refine ⟨⟨_, rfl⟩, _, _, H2.out, ⟨rfl, by simp⟩, hfa.of0.trans (F2.out.mono (fun k _ hk => hk.elim (fun h => .inr (.inl h)) (fun h => .inr (.inr (.inl h))))), fun k hk => ?_⟩
  rcases hk with h | h | h | ⟨y, hy, h⟩
  · exact .inl (.inl h)
  · exact .inl (.inr (.inl h))
  · exact (L2.out k h).imp (fun h => .inr (.inr (.inl h))) (fun h => Nat.le_trans hz h)
  · rcases List.mem_append.1 hy with hy | hy
    · exact .inl (.inr (.inr (.inr ⟨y, hy, h⟩)))
    · rw [List.mem_singleton.1 hy] at h
      have h3 : w1.heap.size = k := by simpa [Value.ownBlock] using h
      exact .inr (by omega)
set_option maxRecDepth 100000 in
set_option maxHeartbeats 8000000 in
theorem doRb_11 (w : World) (h : RF w B r p xs lv ts q cap tv) (hn : xs.length < 64) (hl : ts.length < 50000) : Calls Try.prog 28 #[.pointer (some ⟨r, 0, none⟩), .int .i64 11] w fun e w' => e = .returned (.int .i64 0) ∧ ∃ lv' tv' x, RF w' B r p (xs ++ [x]) lv' (ts ++ [⟨9, 0, 0⟩]) q cap tv' ∧ (x.kind = 3 ∧ x.to_.length ≤ 1) ∧ Turn (RFIn r p q tv lv xs) (RFIn r p q tv' lv' (xs ++ [x])) w w' := by
  have HN := Lib.hid (fun V => needs_11 V)
  have HH := Lib.hid (fun V (hV : Fr0 w V) => h.fr0 hV)
  have HIS := Lib.hid (fun V kv (hV : Fr0 w V) (hk : Rd V kv 0 1 ([].map (Value.int .i64))) => isk_r [] kv V (h.fr0 hV) hk (by decide))
  rw [show isV (RT.ks xs) [] = true from by unfold isV; simp] at HIS
  obtain ⟨A, c, rfl⟩ := h.form
  obtain ⟨n, hnn⟩ : ∃ n, xs.length = n := ⟨_, rfl⟩
  have HNN := Lib.hid hnn
  have HL := Lib.hid hn
  rw [hnn] at hn ⊢
  clear h hnn
  go_enter Try.func28, Try.ntmps28
  go_wp2_with (first | (go_at_call 48; refine (HN.out _).mono ?_; rintro e w1 ⟨kv, rfl, hf1, hk1⟩; have HK1 := Lib.hid hk1; have HF1 := Lib.hid hf1; have c1 := (HH.out _ hf1).cells.2.1; clear hk1 hf1) | (go_at_call 49; refine (HIS.out _ _ HF1.out HK1.out).mono ?_; rintro e w2 ⟨rfl, hf2⟩; have HF2 := Lib.hid (HF1.out.trans hf2); have c2 := (HH.out _ HF2.out).cells.2.2; rw [HNN.out] at c2; clear hf2) | (go_at_call 51; refine (emit_r _ _ _ (HH.out _ HF2.out) hl).mono ?_; rintro e w3 ⟨rfl, tv3, h3, t3⟩; have H3 := Lib.hid h3; have T3 := Lib.hid t3; clear h3 t3) | (go_at_call 52; refine (turnb_11 _ _ H3.out HL.out).mono ?_; rintro e w4 ⟨⟨v, rfl⟩, lv4, x4, h4, k4, t4⟩))
  go_ret
  exact ⟨rfl, _, _, _, h4, k4, (Turn.of0 HF2.out).trans ((HNN.out ▸ T3.out).trans (HNN.out ▸ t4))⟩
set_option maxRecDepth 100000 in
set_option maxHeartbeats 8000000 in
theorem turnb_15 (at_ : Int) (w : World) (h : RF w B r p xs lv ts q cap tv) (hn : xs.length < 64) : Calls Try.prog 52 #[.pointer (some ⟨r, 0, none⟩), .int .i64 15, .int .i64 at_] w fun e w' => (∃ v, e = .returned v) ∧ ∃ lv' x, RF w' B r p (xs ++ [x]) lv' ts q cap tv ∧ (x.kind = 4 ∧ x.to_.length ≤ 1) ∧ Turn (RFIn r p q tv lv xs) (RFIn r p q tv lv' (xs ++ [x])) w w' := by
  have HP := Lib.hid (fun (V : World) (n : Int) (hV : Fr0 w V) => push_r ⟨4, n, [], .slice none 0 0⟩ V (h.fr0 hV) ⟨OwnI.nil V B, by simp⟩ (fun y k hy hk e => by cases e) hn)
  clear h hn
  go_enter Try.func52, Try.ntmps52
  go_wp2_with (first | (go_at_call 72; refine (HP.out _ _ (Fr.refl (fun _ => False) w)).mono ?_; rintro e w2 ⟨⟨v, rfl⟩, lv2, h2, f2, l2⟩; have H2 := Lib.hid h2; have F2 := Lib.hid f2; have L2 := Lib.hid l2; clear h2 f2 l2))
  refine bodyPost_end (results_none rfl _ _ _) rfl ?_
  exact ⟨⟨_, rfl⟩, _, _, H2.out, ⟨rfl, by simp⟩, (Turn.of0 (Fr.refl (fun _ => False) w)).trans (RF.pushed F2.out L2.out (fun k hk => by cases hk))⟩
set_option maxRecDepth 100000 in
set_option maxHeartbeats 8000000 in
theorem doRb_15 (w : World) (h : RF w B r p xs lv ts q cap tv) (hn : xs.length < 64) : Calls Try.prog 28 #[.pointer (some ⟨r, 0, none⟩), .int .i64 15] w fun e w' => e = .returned (.int .i64 0) ∧ ∃ lv' tv' x, RF w' B r p (xs ++ [x]) lv' ts q cap tv' ∧ (x.kind = 4 ∧ x.to_.length ≤ 1) ∧ Turn (RFIn r p q tv lv xs) (RFIn r p q tv' lv' (xs ++ [x])) w w' := by
  have HN := Lib.hid (fun V => needs_15 V)
  have HH := Lib.hid (fun V (hV : Fr0 w V) => h.fr0 hV)
  have HIS := Lib.hid (fun V kv (hV : Fr0 w V) (hk : Rd V kv 0 1 ([].map (Value.int .i64))) => isk_r [] kv V (h.fr0 hV) hk (by decide))
  rw [show isV (RT.ks xs) [] = true from by unfold isV; simp] at HIS
  obtain ⟨A, c, rfl⟩ := h.form
  obtain ⟨n, hnn⟩ : ∃ n, xs.length = n := ⟨_, rfl⟩
  have HNN := Lib.hid hnn
  have HL := Lib.hid hn
  rw [hnn] at hn ⊢
  clear h hnn
  go_enter Try.func28, Try.ntmps28
  go_wp2_with (first | (go_at_call 48; refine (HN.out _).mono ?_; rintro e w1 ⟨kv, rfl, hf1, hk1⟩; have HK1 := Lib.hid hk1; have HF1 := Lib.hid hf1; have c1 := (HH.out _ hf1).cells.2.1; clear hk1 hf1) | (go_at_call 49; refine (HIS.out _ _ HF1.out HK1.out).mono ?_; rintro e w2 ⟨rfl, hf2⟩; have HF2 := Lib.hid (HF1.out.trans hf2); have c2 := (HH.out _ HF2.out).cells.2.2; rw [HNN.out] at c2; clear hf2) | (go_at_call 52; refine (turnb_15 _ _ (HH.out _ HF2.out) HL.out).mono ?_; rintro e w4 ⟨⟨v, rfl⟩, lv4, x4, h4, k4, t4⟩))
  go_ret
  exact ⟨rfl, _, _, _, h4, k4, (Turn.of0 HF2.out).trans (HNN.out ▸ t4)⟩
end
end Go.Proofs.Ytoldegajbonliaa
