/- The program's data space: reading so many bytes as a number ('get'), a range over slices.Backward. -/
import Derived.RangeFuncNested
import Derived.RangeFuncBox
import Derived.RangeFuncLeaves
import Derived.Shelf.Abstract
import Derived.Shelf.RegionOpen
import Derived.OwnWalkIn
import Derived.TacticsInMore
import Derived.LoopNIn
import Derived.LoopIn
import Derived.Test.YtmkpoemjikdoeaaReach
namespace Go.Proofs.Ytmkpoemjikdoeaa
open Go Go.RowKit Go.Shelf
attribute [local go_sem] Oper.semAt_some

/-- A byte. -/
abbrev By := { b : Int // 0 ≤ b ∧ b ≤ 255 }
/-- What has come when k rounds are over. -/
def upto {α : Type} (f : Nat → α) (k : Nat) : List α := (List.range k).map f
theorem upto_succ {α : Type} (f : Nat → α) (k : Nat) : upto f (k + 1) = upto f k ++ [f k] := by simp [upto, List.range_succ]
theorem upto_length {α : Type} (f : Nat → α) (k : Nat) : (upto f k).length = k := by simp [upto]

/-- The byte at a place; 0 beyond. -/
def byAt (l : List Int) (hl : Bytes l) (i : Nat) : By := if h : i < l.length then ⟨l[i], hl.at_ h⟩ else ⟨0, by omega, by omega⟩
/-- The k-th of a row read backwards: its place and its byte. -/
def bwAt (l : List Int) (hl : Bytes l) (k : Nat) : Nat × By := (l.length - 1 - k, byAt l hl (l.length - 1 - k))

/-- What lay below n₀ lies as it lay, and block x does. -/
def KpB (n₀ x : Nat) (W W' : World) : Prop := Below n₀ W W' ∧ W'.heap[x]? = W.heap[x]?
theorem kpB_t {n₀ x : Nat} {A B C : World} (h : KpB n₀ x A B) (k : KpB n₀ x B C) : KpB n₀ x A C := ⟨h.1.trans k.1, k.2.trans h.2⟩
theorem kpB_b {n₀ x : Nat} {w : World} (hn : n₀ ≤ w.heap.size) (hx : x < w.heap.size) (W : World) (l : Nat) (o o' : Obj) (hl : w.heap.size ≤ l) (h1 : W.heap[l]? = some o) (h2 : o.isCells = false) (h3 : o.isWalk = false) : KpB n₀ x W (W.putObj l o') :=
  ⟨belowK_b hn W l o o' hl h1 h2 h3, World.putObj_heap_other (by omega)⟩

set_option maxRecDepth 100000 in
set_option maxHeartbeats 2000000 in
theorem back1_in (l Bs n₀ b off cap : Nat) (zs : List Int) (hz : Bytes zs) (hreach : zs.length ≤ 140737488351232) (hb : b < n₀) (J Jx : List (Nat × By) → World → Prop)
    (hY : ∀ pre x W, J pre W → pre.length < zs.length → YieldAt Fence.wide 2 Try.prog l #[.int .i64 (x.1 : Int), .int .u8 x.2.1] W fun e W' =>
      (e = .returned (.bool true) ∧ J (pre ++ [x]) W' ∧ KpB n₀ Bs W W') ∨ (e = .returned (.bool false) ∧ Jx (pre ++ [x]) W'))
    (W : World) (hBs : W.cell? ⟨Bs, 0, none⟩ = some (.slice (some ⟨b, off, none⟩) zs.length cap)) (hc : ∀ j, j < zs.length → W.cell? ⟨b, off + j, none⟩ = some (.int .u8 (byAt zs hz j).1)) (h0 : J [] W) :
    CallsIn Fence.wide 3 Try.prog 47 #[.func (.yield l) #[] #[], .pointer (some ⟨Bs, 0, none⟩)] W fun e W' => (∃ v, e = .returned v) ∧
      ((∃ ys, ys = upto (bwAt zs hz) zs.length ∧ J ys W') ∨ (∃ pre, (∃ k, k ≤ zs.length ∧ pre = upto (bwAt zs hz) k) ∧ Jx pre W')) := by
  refine callsIn_of_wp Try.func47 rfl trivial ?_ rfl
  simp only [Try.ntmps47, List.size_toArray, List.length_cons, List.length_nil, Nat.reduceAdd, Nat.reduceSub, Array.replicate_succ, Array.replicate_zero, List.push_toArray, List.append_toArray, List.nil_append, List.cons_append]
  gi_wp2
  gi_loopw [3] (fun i wr => ∃ k : Nat, k ≤ zs.length ∧ i = .int .i64 ((zs.length : Int) - 1 - k) ∧ J (upto (bwAt zs hz) k) wr ∧ KpB n₀ Bs W wr)
    (fun i _ => (intOf i + 1).toNat)
  case atStart => exact ⟨0, Nat.zero_le _, by simp, h0, Below.refl _ _, rfl⟩
  case round =>
    obtain ⟨k, hk, rfl, hJs, hnx⟩ := hrel
    have hBs' := (World.cell?_of_block (a := ⟨Bs, 0, none⟩) hnx.2).trans hBs
    by_cases hlt : k < zs.length
    · obtain ⟨j, hj⟩ : ∃ j : Nat, zs.length = k + 1 + j := ⟨zs.length - 1 - k, by omega⟩
      have hcx : wr.cell? ⟨b, off + j, none⟩ = some (.int .u8 (byAt zs hz j).1) := (hnx.1.cell (p := ⟨b, off + j, none⟩) hb).trans (hc j (by omega))
      obtain ⟨fn, tmps, assign, body, hy, hR⟩ := hY _ (bwAt zs hz k) wr hJs (by rw [upto_length]; exact hlt)
      have e1 : bwAt zs hz k = (j, byAt zs hz j) := by unfold bwAt; rw [show zs.length - 1 - k = j by omega]
      rw [e1] at hy hR
      dsimp only at hy
      rw [show ((zs.length : Int) - 1 - k) = (j : Int) by omega]
      generalize (byAt zs hz j).1 = bj at *
      have h1 : j < zs.length := by omega
      have Hj := Lib.hid hj
      have He := Lib.hid e1
      clear hj e1
      gi_wp2
      refine hR.mono ?_
      rintro e W3 (⟨rfl, hJ3, hk3⟩ | ⟨rfl, hJx3⟩)
      · gi_wp2
        go_roundw
        case rel =>
          have hj := Hj.out
          exact ⟨k + 1, by omega, by congr 1 <;> omega, by rw [upto_succ, He.out]; exact hJ3, kpB_t hnx hk3⟩
        case measure => simp [intOf]
      · gi_wp2
        refine bodyPost_ret (results_none rfl _ _ _) rfl ?_
        exact ⟨⟨_, rfl⟩, .inr ⟨_, ⟨k + 1, by have := Hj.out; omega, by rw [upto_succ, He.out]⟩, hJx3⟩⟩
    · obtain rfl : k = zs.length := by omega
      rw [show ((zs.length : Int) - 1 - (zs.length : Nat)) = -1 by omega]
      gi_wp2
      go_end0
      exact ⟨⟨_, rfl⟩, .inl ⟨_, rfl, hJs⟩⟩


set_option maxRecDepth 100000 in
set_option maxHeartbeats 1000000 in
theorem back1_nil_in (l Bs : Nat) (J : List (Nat × By) → World → Prop) (W : World) (hBs : W.cell? ⟨Bs, 0, none⟩ = some (.slice none 0 0)) (h0 : J [] W) :
    CallsIn Fence.wide 3 Try.prog 47 #[.func (.yield l) #[] #[], .pointer (some ⟨Bs, 0, none⟩)] W fun e W' => (∃ v, e = .returned v) ∧ J [] W' := by
  refine callsIn_of_wp Try.func47 rfl trivial ?_ rfl
  simp only [Try.ntmps47, List.size_toArray, List.length_cons, List.length_nil, Nat.reduceAdd, Nat.reduceSub, Array.replicate_succ, Array.replicate_zero, List.push_toArray, List.append_toArray, List.nil_append, List.cons_append]
  gi_wp2
  gi_loopw [3] (fun i wr => i = .int .i64 (-1) ∧ J [] wr) (fun _ _ => 0)
  case atStart => exact ⟨rfl, h0⟩
  case round =>
    obtain ⟨rfl, hJs⟩ := hrel
    gi_wp2
    go_end0
    exact ⟨⟨_, rfl⟩, hJs⟩

/-- The slice value sv holds the bytes zs in a block below n₀; or it is nil and there are none. -/
def BySl (n₀ : Nat) (W : World) (sv : Value) (zs : List Int) (hz : Bytes zs) : Prop :=
  (sv = .slice none 0 0 ∧ zs = []) ∨ ∃ b off cap, sv = .slice (some ⟨b, off, none⟩) zs.length cap ∧ b < n₀ ∧ ∀ j, j < zs.length → W.cell? ⟨b, off + j, none⟩ = some (.int .u8 (byAt zs hz j).1)
theorem BySl.below {n₀ : Nat} {A B : World} (h : Below n₀ A B) {sv : Value} {zs : List Int} {hz : Bytes zs} : BySl n₀ A sv zs hz → BySl n₀ B sv zs hz
  | .inl e => .inl e
  | .inr ⟨b, off, cap, e, hb, hc⟩ => .inr ⟨b, off, cap, e, hb, fun j hj => (h.cell (p := ⟨b, off + j, none⟩) hb).trans (hc j hj)⟩

theorem back_stops (Bs n₀ : Nat) (sv : Value) (zs : List Int) (hz : Bytes zs) (hreach : zs.length ≤ 140737488351232) (w : World) (hBs : Bs < w.heap.size) (hn₀ : n₀ ≤ w.heap.size)
    (hc : w.cell? ⟨Bs, 0, none⟩ = some sv) (hI : BySl n₀ w sv zs hz) :
    SeqStopsK Fence.wide 3 Try.prog 47 #[.pointer (some ⟨Bs, 0, none⟩)] (fun x : Nat × By => #[Value.int .i64 (x.1 : Int), Value.int .u8 x.2.1]) (KpB n₀ Bs) (fun ys => ys = upto (bwAt zs hz) zs.length)
      (fun pre => ∃ k, k ≤ zs.length ∧ pre = upto (bwAt zs hz) k) zs.length w := fun l J Jx W hW _ _ hY h0 => by
  have hc' := (hW.cell (p := ⟨Bs, 0, none⟩) hBs).trans hc
  rcases hI.below (hW.mono hn₀) with ⟨rfl, rfl⟩ | ⟨b, off, cap, rfl, hb, hcs⟩
  · exact (back1_nil_in l Bs J W hc' h0).mono fun e W' ⟨he, hj⟩ => ⟨he, .inl ⟨_, rfl, hj⟩⟩
  · exact back1_in l Bs n₀ b off cap zs hz hreach hb J Jx hY W hc' hcs h0

set_option maxHeartbeats 400000 in
theorem back_any (sv : Value) (w : World) (a : Option Addr) (len cap : Nat) (hs : sv = .slice a len cap) :
    Calls Try.prog 46 #[sv] w fun e w' => e = .returned (.func (.func 47) #[] #[.pointer (some ⟨w.heap.size, 0, none⟩)]) ∧ w.alloc (.cells #[sv] 25) = w' := by
  subst hs
  go_enter Try.func46, Try.ntmps46
  go_wp2
  go_ret
  exact ⟨rfl, rfl⟩

end Go.Proofs.Ytmkpoemjikdoeaa
