/- Names: Order; the law's ints. -/
import Derived.Test.YtmhjnbolngdijaaNadd
import Derived.Laws.Cover3
namespace Go.Proofs.Ytmhjnbolngdijaa
open Go Go.RowKit
set_option linter.unusedVariables false
attribute [local go_sem] Oper.semAt_some

set_option maxRecDepth 100000 in
/-- Rows of the same ints are alike. -/
theorem ints_same (u v : Value) (xs : List Int) (w : World) (hu : RdI w u xs) (hv : RdI w v xs) (hl : xs.length ≤ 1000000) : Calls Try.prog 18 #[u, v] w fun e w' => e = .returned (.bool true) ∧ Fr0 w w' := by
  obtain ⟨A, cap, rfl⟩ := hu.form
  obtain ⟨A2, cap2, rfl⟩ := hv.form
  obtain ⟨n, hn⟩ : ∃ n, xs.length = n := ⟨_, rfl⟩
  have HN := Lib.hid hn
  rw [hn] at hu hv hl ⊢
  have HU := Lib.hid hu
  have HV := Lib.hid hv
  clear hu hv hn
  go_enter Try.func18, Try.ntmps18
  go_wp2_with fail
  go_loopw [5] (fun i wr => ∃ j : Nat, j ≤ n ∧ i = .int .i64 j ∧ ∃ d, wr = w.drewN d) (fun i _ => n - (intOf i).toNat)
  case atStart => exact ⟨0, by omega, rfl, 0, rfl⟩
  case round =>
    obtain ⟨j, hj, rfl, d, rfl⟩ := hrel
    by_cases hjn : j < n
    · have hjI : (j : Int) < (n : Int) := by omega
      obtain ⟨x, hx⟩ : ∃ x, xs[j]? = some x := ⟨_, List.getElem?_eq_getElem (by rw [HN.out]; exact hjn)⟩
      obtain ⟨b, off, rfl, hc⟩ := HU.out.at_ hx
      obtain ⟨b2, off2, rfl, hc2⟩ := HV.out.at_ hx
      clear hx
      go_wp2_with fail
      go_region_held3 (fun V => V.cell? ⟨b, off + j, none⟩ = some (.int .i64 x) ∧ V.cell? ⟨b2, off2 + j, none⟩ = some (.int .i64 x)) (exact ⟨hc, hc2⟩) (fail)
      go_wp2_with fail
      exact ⟨⟨j + 1, by omega, by push_cast; rfl, d + 1, rfl⟩, by simp [intOf]; omega⟩
    · obtain rfl : j = n := by omega
      go_wp2_with fail
      go_ret
      exact ⟨rfl, (Fr.refl _ w).drewN _⟩

theorem sliceNil (W : World) (A : Option Addr) (l c : Nat) : (binOp .eql 41 (.slice A l c) (.slice none 0 0)).run Try.prog W = .ok (.bool A.isNone) W := by
  simp only [binOp]
  simp [run_equal_slice_nil (P := Try.prog) W 41 _ A l c Try.underlying41]
set_option maxRecDepth 100000 in
set_option maxHeartbeats 2000000 in
theorem Clone_ints (v : Value) (xs : List Int) (w : World) (hv : RdI w v xs) (hl : xs.length ≤ 1000000) : Calls Try.prog 41 #[v] w fun e w' => ∃ u, e = .returned u ∧ OwnI w' w.heap.size u xs ∧ Fr0 w w' := by
  obtain ⟨i0, hi, hz0, hz1, hz2⟩ := info_parts infoI
  have HI := Lib.hid hi
  have HZ := Lib.hid (And.intro hz0 (And.intro hz1 hz2))
  obtain ⟨A, cap, rfl⟩ := hv.form
  have heq := fun W => sliceNil W A xs.length cap
  have hbz : (w.alloc (.cells #[] 3)).ownsRow w.heap.size 3 1 (.slice (some ⟨w.heap.size, 0, none⟩) 0 0) 0 [] := ⟨rfl, .inr ⟨w.heap.size, 0, #[], rfl, Nat.le_refl _, Blk.new w _ _, Nat.le_refl _, by unfold maxLen; omega, rfl, rfl⟩⟩
  have HBZ := Lib.hid hbz
  have hrd : RdI (w.alloc (.cells #[] 3)) (.slice A xs.length cap) xs := by
    obtain ⟨h1, A', cap', e, h2⟩ := hv
    refine ⟨h1, A', cap', e, fun hm => ?_⟩
    obtain ⟨b, off, eb, hc⟩ := h2 hm
    refine ⟨b, off, eb, fun j u hj => ?_⟩
    have h3 := hc j u hj
    have := World.block_lt_of_cell? _ _ h3
    exact (((Fr.refl (fun _ => False) w).alloc _).cell (p := ⟨b, off + j, none⟩) this (fun x => x)).trans h3
  have HRD := Lib.hid hrd
  have h0 : A = none → xs = [] := fun e => by
    obtain ⟨_, A', cap', e1, h2⟩ := hv
    injection e1 with e1
    rcases Nat.eq_zero_or_pos xs.length with h | h
    · exact List.eq_nil_of_length_eq_zero h
    · obtain ⟨b, off, eb, _⟩ := h2 h
      rw [← e1, e] at eb
      cases eb
  clear hv hi hz0 hz1 hz2 hbz hrd
  cases A with
  | none =>
    obtain rfl := h0 rfl
    have heq0 := fun W => sliceNil W none 0 cap
    rw [show ([] : List Int).length = 0 from rfl]
    clear heq
    go_enter Try.func41, Try.ntmps41
    go_wp2_with fail
    go_ret
    exact ⟨_, rfl, OwnI.nil _ _, Fr.refl _ _⟩
  | some ad =>
    obtain ⟨n, hn⟩ : ∃ n, xs.length = n := ⟨_, rfl⟩
    have HN := Lib.hid hn
    rw [hn] at heq HRD ⊢
    clear h0
    go_enter Try.func41, Try.ntmps41
    go_wp2_with (at_builtin; refine wpList_append_src (m := xs.length) (news := xs.map (Value.int .i64)) rfl (.tmp 5) (.tmp 6) rfl Try.underlying41 HI.out HZ.out.1 HZ.out.2.1 HZ.out.2.2 rfl (by decide) rfl rfl HBZ.out HRD.out (fun u hu => by obtain ⟨y, _, rfl⟩ := List.mem_map.1 hu; rfl) (by unfold maxLen; omega) (by omega) (by simp) ?_; intro v6 w6 ho6 hg6 hk6; have HO6 := Lib.hid ho6; have HF6 := Lib.hid (((Fr.refl (fun _ => False) w).alloc _).grown hg6 (fun j hj => .inr (own_lo HBZ.out j hj).1)); clear ho6 hg6 hk6)
    go_ret
    refine ⟨_, rfl, ?_, HF6.out⟩
    have := HO6.out
    simp only [Nat.zero_add, List.nil_append] at this
    exact this

section
variable {B c m q : Nat} {wv ov : Value} {lists cur : Int} {order : List Int} {ws : List Wd} {tv : Int × ByteArray → Value}
set_option maxRecDepth 100000 in
theorem Order_nm (w : World) (h : Nm w B c m wv ov lists cur order ws q tv) (hol : order.length ≤ 1000000) : Calls Try.prog 17 #[.pointer (some ⟨c, 0, none⟩)] w fun e w' => ∃ u, e = .returned u ∧ OwnI w' w.heap.size u order ∧ Fr0 w w' := by
  have HNO := Lib.hid (none_nm w h)
  have HCL := Lib.hid (Clone_ints ov order w h.ord.rd hol)
  obtain ⟨c0, c1, c2, c3, c4⟩ := h.cells
  clear h
  go_enter Try.func17, Try.ntmps17
  go_wp2_with (first | (go_at_call 33; refine HNO.out.mono ?_; rintro e w' ⟨rfl, rfl⟩) | (go_at_call 41; refine HCL.out.mono ?_; rintro e w1 ⟨u, rfl, hu, hf⟩))
  go_ret
  exact ⟨u, rfl, hu, hf⟩
end
end Go.Proofs.Ytmhjnbolngdijaa
