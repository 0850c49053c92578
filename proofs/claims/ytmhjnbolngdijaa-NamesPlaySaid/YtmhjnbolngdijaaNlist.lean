/- Names: List, SetOrder. -/
import Derived.Test.YtmhjnbolngdijaaNord
namespace Go.Proofs.Ytmhjnbolngdijaa
open Go Go.RowKit
set_option linter.unusedVariables false
attribute [local go_sem] Oper.semAt_some

theorem RdI.fr0 {w w' : World} {v : Value} {xs : List Int} (h : RdI w v xs) (hf : Fr0 w w') : RdI w' v xs := by
  obtain ⟨h1, A', cap', e, h2⟩ := h
  refine ⟨h1, A', cap', e, fun hm => ?_⟩
  obtain ⟨b, off, eb, hc⟩ := h2 hm
  refine ⟨b, off, eb, fun j u hj => ?_⟩
  have h3 := hc j u hj
  have := World.block_lt_of_cell? _ _ h3
  exact (hf.cell (p := ⟨b, off + j, none⟩) this (fun x => x)).trans h3
section
variable {w w' : World} {B c m q : Nat} {wv ov : Value} {lists cur : Int} {order : List Int} {ws : List Wd} {tv : Int × ByteArray → Value}
/-- Its own cells turned, its rows not. -/
theorem Nm.setObj (h : Nm w B c m wv ov lists cur order ws q tv) {lists' cur' : Int} (hf : Fr (fun k => k = c) w w') (hob : Blk w' c 79 #[wv, .int .i64 lists', ov, .int .i64 cur', .map (some m)]) : Nm w' B c m wv ov lists' cur' order ws q tv :=
  ⟨hob, own_fr h.words hf (fun k hk e => word_own h.words h.obj (by decide) (e ▸ hk)), h.map.fr hf (fun e => h.ne_mc e), fun k hk => (h.rows k hk).fr hf (fun b hb e => blk_int_own (h.rows k hk) h.obj (by decide) (e ▸ hb)), h.apart, h.ord.fr hf (fun b hb e => blk_int_own h.ord h.obj (by decide) (e ▸ hb)), h.ordA, ⟨h.lo.1, h.lo.2.1, Nat.le_trans h.lo.2.2 hf.size⟩, h.few, h.byt⟩
/-- A new row for the order. -/
theorem Nm.setOrd (h : Nm w B c m wv ov lists cur order ws q tv) {u : Value} {ord' : List Int} (hu : OwnI w' w.heap.size u ord') (hf : Fr (fun k => k = c) w w') (hob : Blk w' c 79 #[wv, .int .i64 lists, u, .int .i64 cur, .map (some m)]) : Nm w' B c m wv u lists cur ord' ws q tv :=
  ⟨hob, own_fr h.words hf (fun k hk e => word_own h.words h.obj (by decide) (e ▸ hk)), h.map.fr hf (fun e => h.ne_mc e), fun k hk => (h.rows k hk).fr hf (fun b hb e => blk_int_own (h.rows k hk) h.obj (by decide) (e ▸ hb)), h.apart, own_mono hu h.lo.2.2, fun k b hk hb e => by have h1 := (own_lo (h.rows k hk) b hb).2; have h2 := (own_lo hu b e).1; omega, ⟨h.lo.1, h.lo.2.1, Nat.le_trans h.lo.2.2 hf.size⟩, h.few, h.byt⟩

set_option maxRecDepth 100000 in
theorem List_nm (w : World) (h : Nm w B c m wv ov lists cur order ws q tv) (hl : 0 ≤ lists) (hm : lists < 100) : Calls Try.prog 19 #[.pointer (some ⟨c, 0, none⟩)] w fun e w' => e = .returned (.tuple #[.int .i64 (lists + 1), .int .i64 0]) ∧ Nm w' B c m wv ov (lists + 1) cur order ws q tv ∧ Fr (fun k => k = c) w w' := by
  have HNO := Lib.hid (none_nm w h)
  have HH := Lib.hid h
  obtain ⟨c0, c1, c2, c3, c4⟩ := h.cells
  have hfz := h.obj.frozen 1
  have x1 : IntKind.i64.wrap (lists + 1) = lists + 1 := IntWalk.i64_in _ (by omega)
  have hob := h.obj.set_ 1 (.int .i64 (lists + 1))
  simp only [List.setIfInBounds_toArray, List.set_cons_succ, List.set_cons_zero] at hob
  have hob1 := hob.cell 1
  have HOB := Lib.hid hob
  clear h hob
  go_enter Try.func19, Try.ntmps19
  go_wp2_with (go_at_call 33; refine HNO.out.mono ?_; rintro e w' ⟨rfl, rfl⟩)
  go_ret2
  exact ⟨rfl, HH.out.setObj ((Fr.refl (fun k => k = c) w).setCell (p := ⟨c, 1, none⟩) (.inl rfl) _) HOB.out, (Fr.refl (fun k => k = c) w).setCell (p := ⟨c, 1, none⟩) (.inl rfl) _⟩

set_option maxRecDepth 100000 in
theorem List_full (w : World) (h : Nm w B c m wv ov lists cur order ws q tv) (hm : 100 ≤ lists) : Calls Try.prog 19 #[.pointer (some ⟨c, 0, none⟩)] w fun e w' => e = .returned (.tuple #[.int .i64 0, .int .i64 5]) ∧ w = w' := by
  have HNO := Lib.hid (none_nm w h)
  obtain ⟨c0, c1, c2, c3, c4⟩ := h.cells
  clear h
  go_enter Try.func19, Try.ntmps19
  go_wp2_with (go_at_call 33; refine HNO.out.mono ?_; rintro e w' ⟨rfl, rfl⟩)
  go_ret2
  exact ⟨rfl, rfl⟩

set_option maxRecDepth 100000 in
theorem notIs_nm (l : Int) (x : Nat) (w : World) (h : Nm w B c m wv ov lists cur order ws q tv) (hx : w.cell? ⟨x, 0, none⟩ = some (.pointer (some ⟨c, 0, none⟩))) : Calls Try.prog 43 (#[.int .i64 l] ++ #[.pointer (some ⟨x, 0, none⟩)]) w fun e w' => e = .returned (.bool (!decide (1 ≤ l ∧ l ≤ lists))) ∧ w = w' := by
  have hi := is_nm l w h
  generalize decide (1 ≤ l ∧ l ≤ lists) = d at *
  have HI := Lib.hid hi
  clear h hi
  simp only [List.append_toArray, List.cons_append, List.nil_append]
  go_enter Try.func43, Try.ntmps43
  go_wp2_with (go_at_call 44; refine HI.out.mono ?_; rintro e w' ⟨rfl, rfl⟩)
  go_ret
  exact ⟨rfl, rfl⟩
end

set_option maxRecDepth 100000 in
set_option maxHeartbeats 2000000 in
theorem IndexFunc_any (f : FuncId) (caps : Array Value) (p : Int → Bool) (v : Value) (xs : List Int) (w : World) (hv : RdI w v xs) (hl : xs.length ≤ 1000000) (hcf : ∀ (W : World) (args : Array Value), (callFunc f args).run Try.prog W = .ok (Next.enter f args) W)
    (hp : ∀ x, Calls Try.prog f (#[.int .i64 x] ++ caps) w fun e w' => e = .returned (.bool (p x)) ∧ w = w') : Calls Try.prog 63 #[v, .func (.func f) #[] caps] w fun e w' => ∃ i, e = .returned (.int .i64 i) ∧ decide (0 ≤ i) = xs.any p ∧ w = w' := by
  obtain ⟨A, cap, rfl⟩ := hv.form
  obtain ⟨n, hn⟩ : ∃ n, xs.length = n := ⟨_, rfl⟩
  have HN := Lib.hid hn
  rw [hn] at hv hl ⊢
  have HV := Lib.hid hv
  have HP := Lib.hid hp
  clear hv hn hp
  go_enter Try.func63, Try.ntmps63
  go_wp2_with fail
  go_loopw [8] (fun i wr => ∃ j : Nat, j ≤ n ∧ i = .int .i64 j ∧ wr = w ∧ xs.any p = (xs.drop j).any p) (fun i _ => n - (intOf i).toNat)
  case atStart => exact ⟨0, by omega, rfl, rfl, rfl⟩
  case round =>
    obtain ⟨j, hj, rfl, rfl, hany⟩ := hrel
    by_cases hjn : j < n
    · have hjI : (j : Int) < (n : Int) := by omega
      have hjl : j < xs.length := by rw [HN.out]; exact hjn
      obtain ⟨x, hx⟩ : ∃ x, xs[j]? = some x := ⟨_, List.getElem?_eq_getElem hjl⟩
      obtain ⟨b, off, rfl, hc⟩ := HV.out.at_ hx
      have hdr : xs.drop j = x :: xs.drop (j + 1) := by
        rw [List.drop_eq_getElem_cons hjl]
        rw [List.getElem?_eq_getElem hjl] at hx
        injection hx with hx
        rw [hx]
      rw [hdr, List.any_cons] at hany
      have hPx := HP.out x
      have HANY := Lib.hid hany
      clear hdr hany hx
      cases hpx : p x with
      | true =>
        rw [hpx] at hPx
        have HPX := Lib.hid hPx
        clear hPx
        go_wp2_with (refine HPX.out.mono ?_; rintro e w' ⟨rfl, rfl⟩)
        go_ret
        refine ⟨_, rfl, ?_, rfl⟩
        rw [HANY.out, hpx]
        simp
      | false =>
        rw [hpx] at hPx
        have HPX := Lib.hid hPx
        clear hPx
        go_wp2_with (refine HPX.out.mono ?_; rintro e w' ⟨rfl, rfl⟩)
        have h1 := HANY.out
        rw [hpx, Bool.false_or] at h1
        exact ⟨⟨j + 1, by omega, by push_cast; rfl, trivial, h1⟩, by simp [intOf]; omega⟩
    · obtain rfl : j = n := by omega
      have HANY := Lib.hid hany
      clear hany
      go_wp2_with fail
      go_ret
      refine ⟨_, rfl, ?_, rfl⟩
      rw [HANY.out, ← HN.out, List.drop_length]
      rfl

set_option maxRecDepth 100000 in
theorem ContainsFunc_any (f : FuncId) (caps : Array Value) (p : Int → Bool) (v : Value) (xs : List Int) (w : World) (hv : RdI w v xs) (hl : xs.length ≤ 1000000) (hcf : ∀ (W : World) (args : Array Value), (callFunc f args).run Try.prog W = .ok (Next.enter f args) W)
    (hp : ∀ x, Calls Try.prog f (#[.int .i64 x] ++ caps) w fun e w' => e = .returned (.bool (p x)) ∧ w = w') : Calls Try.prog 42 #[v, .func (.func f) #[] caps] w fun e w' => e = .returned (.bool (xs.any p)) ∧ w = w' := by
  have HIX := Lib.hid (IndexFunc_any f caps p v xs w hv hl hcf hp)
  clear hv hp hcf
  go_enter Try.func42, Try.ntmps42
  go_wp2_with (go_at_call 63; refine HIX.out.mono ?_; rintro e w' ⟨i, rfl, hi, rfl⟩)
  rw [← hi]
  go_ret
  exact ⟨rfl, rfl⟩

section
variable {B c m q : Nat} {wv ov : Value} {lists cur : Int} {order : List Int} {ws : List Wd} {tv : Int × ByteArray → Value}
/-- What SetOrder tells. -/
def ordV (lists : Int) (xs : List Int) : Int := if 16 < xs.length then 2 else if xs.any (fun l => !decide (1 ≤ l ∧ l ≤ lists)) then 4 else 0
set_option maxRecDepth 100000 in
set_option maxHeartbeats 2000000 in
theorem SetOrder_nm (v : Value) (xs : List Int) (w : World) (h : Nm w B c m wv ov lists cur order ws q tv) (hv : RdI w v xs) (hl : xs.length ≤ 1000000) : Calls Try.prog 20 #[.pointer (some ⟨c, 0, none⟩), v] w fun e w' => e = .returned (.int .i64 (ordV lists xs)) ∧ Fr (fun k => k = c) w w' ∧ ∃ ov', Nm w' B c m wv ov' lists cur (if ordV lists xs = 0 then xs else order) ws q tv := by
  have hf : Fr0 w (w.alloc (.cells #[.pointer (some ⟨c, 0, none⟩)] 24)) := (Fr.refl _ w).alloc _
  have hne : ¬ w.heap.size = c := by have := h.obj.lt; omega
  have hbx := Blk.new w 24 #[.pointer (some ⟨c, 0, none⟩)]
  have hN1 := h.fr0 hf
  have hx : (w.alloc (.cells #[.pointer (some ⟨c, 0, none⟩)] 24)).cell? ⟨w.heap.size, 0, none⟩ = some (.pointer (some ⟨c, 0, none⟩)) := hbx.cell 0
  have HNO := Lib.hid (none_nm _ hN1)
  have hv1 := hv.fr0 hf
  have HCF := Lib.hid (ContainsFunc_any 43 #[.pointer (some ⟨w.heap.size, 0, none⟩)] (fun l => !decide (1 ≤ l ∧ l ≤ lists)) v xs _ hv1 hl (fun _ _ => rfl) (fun l => notIs_nm l w.heap.size _ hN1 hx))
  have HCL := Lib.hid (fun V (hV : Fr0 (w.alloc (.cells #[.pointer (some ⟨c, 0, none⟩)] 24)) V) => Clone_ints v xs V (hv1.fr0 hV) hl)
  have HN1 := Lib.hid hN1
  have HF := Lib.hid hf
  have hlt := hN1.obj.lt
  have hfz := hN1.obj.frozen 2
  have hc2 := hN1.cells.2.2.1
  obtain ⟨A, cap, rfl⟩ := hv1.form
  obtain ⟨n, hn⟩ : ∃ n, xs.length = n := ⟨_, rfl⟩
  unfold ordV
  rw [hn] at HCF HCL hl ⊢
  generalize hany : xs.any (fun l => !decide (1 ≤ l ∧ l ≤ lists)) = any at *
  have HBX := Lib.hid hbx
  clear h hv hv1 hN1 hf hany hn hbx
  by_cases h1 : 16 < n
  · rw [if_pos h1, if_neg (by decide)]
    go_enter Try.func20, Try.ntmps20
    go_wp2_with (first | (go_at_call 33; refine HNO.out.mono ?_; rintro e w' ⟨rfl, rfl⟩))
    go_ret
    exact ⟨rfl, HF.out.of0, _, HN1.out⟩
  · rw [if_neg h1]
    cases any with
    | true =>
      rw [if_pos rfl, if_neg (by decide)]
      go_enter Try.func20, Try.ntmps20
      go_wp2_with (first | (go_at_call 33; refine HNO.out.mono ?_; rintro e w' ⟨rfl, rfl⟩) | (go_at_call 42; refine HCF.out.mono ?_; rintro e w' ⟨rfl, rfl⟩))
      go_ret
      exact ⟨rfl, HF.out.of0, _, HN1.out⟩
    | false =>
      rw [if_neg (by decide), if_pos rfl]
      go_enter Try.func20, Try.ntmps20
      go_wp2_with (first | (go_at_call 33; refine HNO.out.mono ?_; rintro e w' ⟨rfl, rfl⟩) | (go_at_call 42; refine HCF.out.mono ?_; rintro e w' ⟨rfl, rfl⟩))
      go_region_held3 (fun V => V.cell? ⟨w.heap.size, 0, none⟩ = some (.pointer (some ⟨c, 0, none⟩))) (first | exact hx | exact hx2 | exact (((Fr.refl (fun k => k = c) _).setCell (p := ⟨c, 2, none⟩) (.inl rfl) _).cell (p := ⟨w.heap.size, 0, none⟩) hbl2 hne).trans hx2) ((go_at_call 41; (with_reducible refine (HCL.out _ (Fr.refl _ _).drew).mono ?_); rintro e w2 ⟨u, rfl, hu, hf2⟩; replace hf2 := ((Fr.refl (fun _ => False) (w.alloc (.cells #[.pointer (some ⟨c, 0, none⟩)] 24))).drew).trans hf2; have hx2 := (hf2.cell (p := ⟨w.heap.size, 0, none⟩) HBX.out.lt (fun x => x)).trans hx; have hbl2 := Nat.lt_of_lt_of_le HBX.out.lt hf2.size; obtain ⟨A2, cap2, rfl⟩ := hu.rd.form; have hc22 := (hf2.cell (p := ⟨c, 2, none⟩) hlt (fun x => x)).trans hc2; have hfz2 := (hf2.frozen (p := ⟨c, 2, none⟩) hlt (fun x => x)).trans hfz; have HU := Lib.hid hu; have HF2 := Lib.hid hf2; clear hu hf2))
      all_goals
        have hob := (HN1.out.obj.fr0 HF2.out).set_ 2 (.slice A2 xs.length cap2)
        simp only [List.setIfInBounds_toArray, List.set_cons_succ, List.set_cons_zero] at hob
        have hf3 := (HF2.out.of0 (S := fun k => k = c)).setCell (p := ⟨c, 2, none⟩) (.inl rfl) (.slice A2 xs.length cap2)
        have hu3 := HU.out.fr ((Fr.refl (fun k => k = c) w2).setCell (p := ⟨c, 2, none⟩) (.inl rfl) (.slice A2 xs.length cap2)) (fun k hk e => by have h1 := (own_lo HU.out k hk).1; have h2 : (w.alloc (.cells #[.pointer (some ⟨c, 0, none⟩)] 24)).heap.size ≤ k := h1; omega)
        have hN3 := HN1.out.setOrd hu3 hf3 hob
        go_wp2_with fail
        go_ret
        exact ⟨rfl, (HF.out.of0 (S := fun k => k = c)).trans hf3, _, hN3⟩
end
end Go.Proofs.Ytmhjnbolngdijaa
