/- slices.Clone of ints. -/
import Derived.Test.YtoldegajbonliaaFd5
import Derived.LaidEqlPtr
namespace Go.Proofs.Ytoldegajbonliaa
open Go Go.RowKit
set_option linter.unusedVariables false
attribute [local go_sem] Oper.semAt_some

def RdI (w : World) (v : Value) (ts : List Int) : Prop := Rd w v ts.length 1 (ts.map (Value.int .i64))
theorem RdI.form {w : World} {v : Value} {ts : List Int} (h : RdI w v ts) : ∃ A cap, v = .slice A ts.length cap := by
  obtain ⟨_, A, cap, e, _⟩ := h
  exact ⟨A, cap, e⟩

def OwnI (w : World) (base : Nat) (v : Value) (zs : List Int) : Prop := w.ownsRow base 3 1 v zs.length (zs.map (Value.int .i64))
theorem infoI : (Try.prog.info? 3).map (fun i => (i.zero, i.size, i.bytes)) = some (some (.int .i64 0), 1, 8) := by kernel_rfl
theorem OwnI.nil (w : World) (B : Nat) : OwnI w B (.slice none 0 0) [] := World.ownsRow_nil _ _ _ _
theorem sliceNil (W : World) (A : Option Addr) (l c : Nat) : (binOp .eql 22 (.slice A l c) (.slice none 0 0)).run Try.prog W = .ok (.bool A.isNone) W := by
  simp only [binOp]
  simp [run_equal_slice_nil (P := Try.prog) W 22 _ A l c Try.underlying22]
set_option maxRecDepth 100000 in
set_option maxHeartbeats 2000000 in
theorem Clone_ints (v : Value) (xs : List Int) (w : World) (hv : RdI w v xs) (hl : xs.length ≤ 1000000) : Calls Try.prog 84 #[v] w fun e w' => ∃ u, e = .returned u ∧ OwnI w' w.heap.size u xs ∧ Fr0 w w' := by
  obtain ⟨i0, hi, hz0, hz1, hz2⟩ := info_parts3 infoI
  have HI := Lib.hid hi
  have HZ := Lib.hid (And.intro hz0 (And.intro hz1 hz2))
  obtain ⟨A, cap, rfl⟩ := hv.form
  have heq := fun W => sliceNil W A xs.length cap
  have hbz : (w.alloc (.cells #[] 3)).ownsRow w.heap.size 3 1 (.slice (some ⟨w.heap.size, 0, none⟩) 0 0) 0 [] := ⟨rfl, .inr ⟨w.heap.size, 0, #[], rfl, Nat.le_refl _, Blk.new w _ _, Nat.le_refl _, by unfold maxLen; omega, rfl, rfl⟩⟩
  have HBZ := Lib.hid hbz
  have hrd : RdI (w.alloc (.cells #[] 3)) (.slice A xs.length cap) xs := by
    obtain ⟨h1, A', cap', e, h2⟩ := hv
    refine ⟨h1, A', cap', e, fun hm => ?_⟩
    obtain ⟨b, off, eb, hc⟩ := h2 hm
    refine ⟨b, off, eb, fun j u hj => ?_⟩
    have h3 := hc j u hj
    have := World.block_lt_of_cell? _ _ h3
    exact (((Fr.refl (fun _ => False) w).alloc _).cell (p := ⟨b, off + j, none⟩) this (fun x => x)).trans h3
  have HRD := Lib.hid hrd
  have h0 : A = none → xs = [] := fun e => by
    obtain ⟨_, A', cap', e1, h2⟩ := hv
    injection e1 with e1
    rcases Nat.eq_zero_or_pos xs.length with h | h
    · exact List.eq_nil_of_length_eq_zero h
    · obtain ⟨b, off, eb, _⟩ := h2 h
      rw [← e1, e] at eb
      cases eb
  clear hv hi hz0 hz1 hz2 hbz hrd
  cases A with
  | none =>
    obtain rfl := h0 rfl
    have heq0 := fun W => sliceNil W none 0 cap
    rw [show ([] : List Int).length = 0 from rfl]
    clear heq
    go_enter Try.func84, Try.ntmps84
    go_wp2_with fail
    go_ret
    exact ⟨_, rfl, OwnI.nil _ _, Fr.refl _ _⟩
  | some ad =>
    obtain ⟨n, hn⟩ : ∃ n, xs.length = n := ⟨_, rfl⟩
    have HN := Lib.hid hn
    rw [hn] at heq HRD ⊢
    clear h0
    go_enter Try.func84, Try.ntmps84
    go_wp2_with (at_builtin; refine wpList_append_src (m := xs.length) (news := xs.map (Value.int .i64)) rfl (.tmp 5) (.tmp 6) rfl Try.underlying22 HI.out HZ.out.1 HZ.out.2.1 HZ.out.2.2 rfl (by decide) rfl rfl HBZ.out HRD.out (fun u hu => by obtain ⟨y, _, rfl⟩ := List.mem_map.1 hu; rfl) (by unfold maxLen; omega) (by omega) (by simp) ?_; intro v6 w6 ho6 hg6 hk6; have HO6 := Lib.hid ho6; have HF6 := Lib.hid (((Fr.refl (fun _ => False) w).alloc _).grown hg6 (fun j hj => .inr (own_lo HBZ.out j hj).1)); clear ho6 hg6 hk6)
    go_ret
    refine ⟨_, rfl, ?_, HF6.out⟩
    have := HO6.out
    simp only [Nat.zero_add, List.nil_append] at this
    exact this

end Go.Proofs.Ytoldegajbonliaa
