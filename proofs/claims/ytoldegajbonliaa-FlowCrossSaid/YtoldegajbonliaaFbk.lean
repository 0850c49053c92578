/- slices.Backward over a row of things, ranged over. -/
import Derived.RangeFuncNested
import Derived.RangeFuncBox
import Derived.RangeFuncLeaves
import Derived.Shelf.Abstract
import Derived.Shelf.RegionOpen
import Derived.OwnWalkIn
import Derived.TacticsInMore
import Derived.LoopNIn
import Derived.LoopIn
import Derived.Test.YtoldegajbonliaaFdo
namespace Go.Proofs.Ytoldegajbonliaa
open Go Go.RowKit Go.Shelf
set_option linter.unusedVariables false
attribute [local go_sem] Oper.semAt_some

/-- What has come when k rounds are over. -/
def upto {α : Type} (f : Nat → α) (k : Nat) : List α := (List.range k).map f
theorem upto_succ {α : Type} (f : Nat → α) (k : Nat) : upto f (k + 1) = upto f k ++ [f k] := by simp [upto, List.range_succ]
theorem upto_length {α : Type} (f : Nat → α) (k : Nat) : (upto f k).length = k := by simp [upto]
/-- Its jumps lie in a row. -/
def Th.Sl (x : Th) : Prop := ∃ A n c, x.jv = .slice A n c
/-- A thing of a row, and its place. -/
abbrev TA (st : List Th) := { p : Nat × Th // st ≠ [] → st[p.1]? = some p.2 }
/-- The k-th of a row read backwards: its place and the thing. -/
def bwT (st : List Th) (k : Nat) : TA st := if h : 0 < st.length then ⟨(st.length - 1 - k, st[st.length - 1 - k]), fun _ => List.getElem?_eq_getElem (by omega)⟩ else ⟨(0, ⟨0, 0, [], .slice none 0 0⟩), fun h' => absurd (List.length_pos_iff.2 h') h⟩
theorem bwT_eq {st : List Th} {k j : Nat} {x : Th} (hj : st.length = k + 1 + j) (hx : st[j]? = some x) : (bwT st k).1 = (j, x) := by
  have e1 : st.length - 1 - k = j := by omega
  have e2 := (List.getElem?_eq_some_iff.1 hx).2
  unfold bwT
  rw [dif_pos (by omega)]
  simp only [e1, e2]

/-- What lay below n₀ and is not in S lies as it lay, and block x does. -/
def KpS (S : Nat → Prop) (n₀ x : Nat) (W W' : World) : Prop := Fr (fun k => n₀ ≤ k ∨ S k) W W' ∧ W'.heap[x]? = W.heap[x]?
theorem kpS_t {S : Nat → Prop} {n₀ x : Nat} {A B C : World} (h : KpS S n₀ x A B) (k : KpS S n₀ x B C) : KpS S n₀ x A C := ⟨h.1.trans k.1, k.2.trans h.2⟩
theorem fr_put {S : Nat → Prop} {W : World} {l : Nat} (o' : Obj) (hl : S l) : Fr S W (W.putObj l o') := ⟨rfl, rfl, rfl, by simp, fun k _ hk => World.putObj_heap_other (fun e => hk (e ▸ hl))⟩
theorem kpS_b {S : Nat → Prop} {n₀ x : Nat} {w : World} (hn : n₀ ≤ w.heap.size) (hx : x < w.heap.size) (W : World) (l : Nat) (o o' : Obj) (hl : w.heap.size ≤ l) (h1 : W.heap[l]? = some o) (h2 : o.isCells = false) (h3 : o.isWalk = false) : KpS S n₀ x W (W.putObj l o') :=
  ⟨fr_put o' (.inl (by omega)), World.putObj_heap_other (by omega)⟩

/-- The cells of a row of things in a block. -/
def ThRow (W : World) (b : Nat) (st : List Th) : Prop := ∀ i x, st[i]? = some x → W.cell? ⟨b, i * 3, none⟩ = some (.int .i64 x.kind) ∧ W.cell? ⟨b, i * 3 + 1, none⟩ = some (.int .i64 x.place) ∧ W.cell? ⟨b, i * 3 + 2, none⟩ = some x.jv
theorem ThRow.fr {S : Nat → Prop} {W W' : World} {b : Nat} {st : List Th} (h : ThRow W b st) (hf : Fr S W W') (hb : b < W.heap.size) (hS : ¬ S b) : ThRow W' b st := fun i x hx => by
  obtain ⟨h0, h1, h2⟩ := h i x hx
  exact ⟨(hf.cell (p := ⟨b, i * 3, none⟩) hb hS).trans h0, (hf.cell (p := ⟨b, i * 3 + 1, none⟩) hb hS).trans h1, (hf.cell (p := ⟨b, i * 3 + 2, none⟩) hb hS).trans h2⟩

set_option maxRecDepth 100000 in
set_option maxHeartbeats 4000000 in
theorem back1t_in (S : Nat → Prop) (l Bs n₀ b cap : Nat) (ws : List Th) (hreach : ws.length ≤ 1000000) (hb : b < n₀) (hSb : ¬ S b) (J Jx : List (TA ws) → World → Prop)
    (hY : ∀ pre x W, J pre W → pre.length < ws.length → YieldAt Fence.wide 2 Try.prog l #[.int .i64 (x.1.1 : Int), .agg #[.int .i64 x.1.2.kind, .int .i64 x.1.2.place, x.1.2.jv]] W fun e W' =>
      (e = .returned (.bool true) ∧ J (pre ++ [x]) W' ∧ KpS S n₀ Bs W W') ∨ (e = .returned (.bool false) ∧ Jx (pre ++ [x]) W'))
    (W : World) (hn : n₀ ≤ W.heap.size) (hBs : W.cell? ⟨Bs, 0, none⟩ = some (.slice (some ⟨b, 0, none⟩) ws.length cap)) (hc : ThRow W b ws) (h0 : J [] W) :
    CallsIn Fence.wide 3 Try.prog 87 #[.func (.yield l) #[] #[], .pointer (some ⟨Bs, 0, none⟩)] W fun e W' => (∃ v, e = .returned v) ∧
      ((∃ ys, ys = upto (bwT ws) ws.length ∧ J ys W') ∨ (∃ pre, (∃ k, k ≤ ws.length ∧ pre = upto (bwT ws) k) ∧ Jx pre W')) := by
  refine callsIn_of_wp Try.func87 rfl trivial ?_ rfl
  simp only [Try.ntmps87, List.size_toArray, List.length_cons, List.length_nil, Nat.reduceAdd, Nat.reduceSub, Array.replicate_succ, Array.replicate_zero, List.push_toArray, List.append_toArray, List.nil_append, List.cons_append]
  obtain ⟨n, hn'⟩ : ∃ n, ws.length = n := ⟨_, rfl⟩
  have HN := Lib.hid hn'
  rw [hn'] at hBs hY hreach ⊢
  have HC := Lib.hid hc
  have HY := Lib.hid hY
  clear hn' hc hY
  gi_wp2
  gi_loopw [3] (fun i wr => ∃ k : Nat, k ≤ n ∧ i = .int .i64 ((n : Int) - 1 - k) ∧ J (upto (bwT ws) k) wr ∧ KpS S n₀ Bs W wr)
    (fun i _ => (intOf i + 1).toNat)
  case atStart => exact ⟨0, Nat.zero_le _, by simp, h0, Fr.refl _ _, rfl⟩
  case round =>
    obtain ⟨k, hk, rfl, hJs, hnx⟩ := hrel
    have hBs' := (World.cell?_of_block (a := ⟨Bs, 0, none⟩) hnx.2).trans hBs
    by_cases hlt : k < n
    · obtain ⟨j, hj⟩ : ∃ j : Nat, n = k + 1 + j := ⟨n - 1 - k, by omega⟩
      obtain ⟨x, hx⟩ : ∃ x, ws[j]? = some x := ⟨_, List.getElem?_eq_getElem (by rw [HN.out]; omega)⟩
      obtain ⟨d0, d1, d2⟩ := (HC.out.fr hnx.1 (by omega) (fun e => e.elim (fun e => by omega) hSb)) j x hx
      obtain ⟨fn, tmps, assign, body, hy, hR⟩ := HY.out _ (bwT ws k) wr hJs (by rw [upto_length]; exact hlt)
      have e1 : (bwT ws k).1 = (j, x) := bwT_eq (by rw [HN.out]; exact hj) hx
      rw [e1] at hy
      dsimp only at hy
      rw [show ((n : Int) - 1 - k) = (j : Int) by omega]
      have h1 : j < n := by omega
      have Hj := Lib.hid hj
      have He := Lib.hid e1
      clear hj e1 hx
      gi_wp2
      refine hR.mono ?_
      rintro e W3 (⟨rfl, hJ3, hk3⟩ | ⟨rfl, hJx3⟩)
      · gi_wp2
        go_roundw
        case rel =>
          have hj := Hj.out
          exact ⟨k + 1, by omega, by congr 1 <;> omega, by rw [upto_succ]; exact hJ3, kpS_t hnx hk3⟩
        case measure => simp [intOf]
      · gi_wp2
        refine bodyPost_ret (results_none rfl _ _ _) rfl ?_
        exact ⟨⟨_, rfl⟩, .inr ⟨_, ⟨k + 1, by have := Hj.out; omega, by rw [upto_succ]⟩, hJx3⟩⟩
    · obtain rfl : k = n := by omega
      rw [show ((k : Int) - 1 - (k : Nat)) = -1 by omega]
      gi_wp2
      go_end0
      exact ⟨⟨_, rfl⟩, .inl ⟨_, rfl, hJs⟩⟩

set_option maxRecDepth 100000 in
set_option maxHeartbeats 1000000 in
theorem back1t_nil {ws : List Th} (l Bs cap : Nat) (A : Option Addr) (J : List (TA ws) → World → Prop) (W : World) (hBs : W.cell? ⟨Bs, 0, none⟩ = some (.slice A 0 cap)) (h0 : J [] W) :
    CallsIn Fence.wide 3 Try.prog 87 #[.func (.yield l) #[] #[], .pointer (some ⟨Bs, 0, none⟩)] W fun e W' => (∃ v, e = .returned v) ∧ J [] W' := by
  refine callsIn_of_wp Try.func87 rfl trivial ?_ rfl
  simp only [Try.ntmps87, List.size_toArray, List.length_cons, List.length_nil, Nat.reduceAdd, Nat.reduceSub, Array.replicate_succ, Array.replicate_zero, List.push_toArray, List.append_toArray, List.nil_append, List.cons_append]
  gi_wp2
  gi_loopw [3] (fun i wr => i = .int .i64 (-1) ∧ J [] wr) (fun _ _ => 0)
  case atStart => exact ⟨rfl, h0⟩
  case round =>
    obtain ⟨rfl, hJs⟩ := hrel
    gi_wp2
    go_end0
    exact ⟨⟨_, rfl⟩, hJs⟩

/-- The slice value sv holds the things ws, in a block below n₀ that is not in S; or there are none. -/
def ThSl (S : Nat → Prop) (n₀ : Nat) (W : World) (sv : Value) (ws : List Th) : Prop :=
  ∃ A cap, sv = .slice A ws.length cap ∧ (0 < ws.length → ∃ b, A = some ⟨b, 0, none⟩ ∧ b < n₀ ∧ ¬ S b ∧ ThRow W b ws)
theorem ThSl.fr {S S' : Nat → Prop} {n₀ : Nat} {W W' : World} {sv : Value} {ws : List Th} (h : ThSl S n₀ W sv ws) (hn : n₀ ≤ W.heap.size) (hf : Fr S' W W') (hS : ∀ k, k < n₀ → ¬ S k → ¬ S' k) : ThSl S n₀ W' sv ws := by
  obtain ⟨A, cap, e, h1⟩ := h
  refine ⟨A, cap, e, fun hp => ?_⟩
  obtain ⟨b, e1, hb, hs, hr⟩ := h1 hp
  exact ⟨b, e1, hb, hs, hr.fr hf (by omega) (hS b hb hs)⟩

theorem backt_stops (S : Nat → Prop) (Bs n₀ : Nat) (sv : Value) (ws : List Th) (hreach : ws.length ≤ 1000000) (w : World) (hBs : Bs < w.heap.size) (hn₀ : n₀ ≤ w.heap.size)
    (hc : w.cell? ⟨Bs, 0, none⟩ = some sv) (hI : ThSl S n₀ w sv ws) :
    SeqStopsK Fence.wide 3 Try.prog 87 #[.pointer (some ⟨Bs, 0, none⟩)] (fun x : TA ws => #[.int .i64 (x.1.1 : Int), .agg #[.int .i64 x.1.2.kind, .int .i64 x.1.2.place, x.1.2.jv]]) (KpS S n₀ Bs) (fun ys => ys = upto (bwT ws) ws.length)
      (fun pre => ∃ k, k ≤ ws.length ∧ pre = upto (bwT ws) k) ws.length w := fun l J Jx W hW _ _ hY h0 => by
  have hc' := (hW.cell (p := ⟨Bs, 0, none⟩) hBs).trans hc
  have hI' := hI.fr hn₀ (Fr.of_below hW) (fun k hk _ => by omega)
  obtain ⟨A, cap, rfl, h1⟩ := hI'
  rcases Nat.eq_zero_or_pos ws.length with h | h
  · obtain rfl := List.eq_nil_of_length_eq_zero h
    exact (back1t_nil l Bs cap A J W hc' h0).mono fun e W' ⟨he, hj⟩ => ⟨he, .inl ⟨_, rfl, hj⟩⟩
  · obtain ⟨b, rfl, hb, hs, hr⟩ := h1 h
    exact back1t_in S l Bs n₀ b cap ws hreach hb hs J Jx hY W (Nat.le_trans hn₀ hW.size) hc' hr h0

set_option maxHeartbeats 400000 in
theorem backt_any (sv : Value) (w : World) (a : Option Addr) (len cap : Nat) (hs : sv = .slice a len cap) :
    Calls Try.prog 83 #[sv] w fun e w' => e = .returned (.func (.func 87) #[] #[.pointer (some ⟨w.heap.size, 0, none⟩)]) ∧ w.alloc (.cells #[sv] 65) = w' := by
  subst hs
  go_enter Try.func83, Try.ntmps83
  go_wp2
  go_ret
  exact ⟨rfl, rfl⟩
end Go.Proofs.Ytoldegajbonliaa
