/- Names: the writers: List, SetOrder, SetCurrent. -/
import Derived.Test.YtmhjnbolngdijaaNrd
import Derived.Test.YtmhjnbolngdijaaNargs
namespace Go.Proofs.Ytmhjnbolngdijaa
open Go Go.RowKit
set_option linter.unusedVariables false
attribute [local go_sem] Oper.semAt_some

section
variable {w w' : World} {B c m : Nat} {wv ov : Value} {lists cur : Int} {order : List Int} {ws : List Wd} {P : Nat → Bool} {mf : Int × ByteArray → Option Value}
theorem Ng.setObj (h : Ng w B c m wv ov lists cur order ws P mf) {lists' cur' : Int} (hf : Fr (fun k => k = c) w w') (hob : NObj w' c m wv ov lists' cur') : Ng w' B c m wv ov lists' cur' order ws P mf :=
  ⟨hob, own_fr h.words hf (fun k hk e => word_own h.words h.obj.blk (by decide) (e ▸ hk)), h.map.fr hf (fun e => h.ne_mc e), fun k v hk => (h.rows k v hk).fr hf (fun b hb e => blk_int_own (h.rows k v hk) h.obj.blk (by decide) (e ▸ hb)), h.none_, h.apart, h.ord.fr hf (fun b hb e => blk_int_own h.ord h.obj.blk (by decide) (e ▸ hb)), h.ordA, ⟨h.lo.1, h.lo.2.1, Nat.le_trans h.lo.2.2 hf.size⟩, h.few, h.byt⟩
theorem Ng.setOrd (h : Ng w B c m wv ov lists cur order ws P mf) {u : Value} {ord' : List Int} (hu : OwnI w' w.heap.size u ord') (hf : Fr (fun k => k = c) w w') (hob : NObj w' c m wv u lists cur) : Ng w' B c m wv u lists cur ord' ws P mf :=
  ⟨hob, own_fr h.words hf (fun k hk e => word_own h.words h.obj.blk (by decide) (e ▸ hk)), h.map.fr hf (fun e => h.ne_mc e), fun k v hk => (h.rows k v hk).fr hf (fun b hb e => blk_int_own (h.rows k v hk) h.obj.blk (by decide) (e ▸ hb)), h.none_, h.apart, own_mono hu h.lo.2.2, fun k v b hk hb e => by have h1 := (own_lo (h.rows k v hk) b hb).2; have h2 := (own_lo hu b e).1; omega, ⟨h.lo.1, h.lo.2.1, Nat.le_trans h.lo.2.2 hf.size⟩, h.few, h.byt⟩
end

section
variable {B c : Nat} {s : St} {S : Nat → Prop}
/-- List: what it tells, what it leaves. -/
def listV (s : St) : Int × Int := if 100 ≤ s.lists then (0, 5) else (s.lists + 1, 0)
def listSt (s : St) : St := if 100 ≤ s.lists then s else { s with lists := s.lists + 1 }
set_option maxRecDepth 100000 in
theorem List_ng (w : World) (h : NgS w B c s S) (hl : 0 ≤ s.lists) : Calls Try.prog 19 #[.pointer (some ⟨c, 0, none⟩)] w fun e w' => e = .returned (.tuple #[.int .i64 (listV s).1, .int .i64 (listV s).2]) ∧ ∃ S', NgI w' B c (listSt s) S' ∧ Turn S S' w w' := by
  have HNO := Lib.hid (none_ng w h)
  clear h
  unfold listV listSt
  by_cases hm : 100 ≤ s.lists
  · rw [if_pos hm, if_pos hm]
    go_enter Try.func19, Try.ntmps19
    go_wp2_with (go_at_call 33; refine HNO.out.mono ?_; rintro e w1 ⟨rfl, S1, h1, ht, _⟩; have H1 := Lib.hid h1; obtain ⟨m, wv, ov, mf, hN, _⟩ := h1; have c1 := hN.cells.2.1; have HT := Lib.hid ht; clear hN ht)
    go_ret2
    exact ⟨rfl, S1, H1.out, HT.out⟩
  · rw [if_neg hm, if_neg hm]
    have hm' : s.lists < 100 := by omega
    have x1 : IntKind.i64.wrap (s.lists + 1) = s.lists + 1 := IntWalk.i64_in _ (by omega)
    go_enter Try.func19, Try.ntmps19
    go_wp2_with (go_at_call 33; refine HNO.out.mono ?_; rintro e w1 ⟨rfl, S1, h1, ht, _⟩; obtain ⟨m, wv, ov, mf, hN, hS⟩ := h1; have c1 := hN.cells.2.1; have hfz := hN.obj.blk.frozen 1; have hob := hN.obj.blk.set_ 1 (.int .i64 (s.lists + 1)); simp only [List.setIfInBounds_toArray, List.set_cons_succ, List.set_cons_zero] at hob; have hob1 := hob.cell 1; have HOB := Lib.hid hob; have HT := Lib.hid ht; have HN := Lib.hid hN; have HS := Lib.hid hS; clear hN ht hob hS)
    go_ret2
    have hf := (Fr.refl (fun k => k = c) w1).setCell (p := ⟨c, 1, none⟩) (.inl rfl) (.int .i64 (s.lists + 1))
    refine ⟨rfl, _, ⟨m, wv, ov, mf, HN.out.setObj hf HOB.out, rfl⟩, HT.out.trans ⟨hf.mono (fun k _ e => by rw [HS.out]; exact .inl e), fun k hk => .inl (by rw [HS.out]; exact hk)⟩⟩

/-- SetCurrent. -/
def curV (s : St) (l : Int) : Int := if 1 ≤ l ∧ l ≤ s.lists then 0 else 4
def curSt (s : St) (l : Int) : St := if 1 ≤ l ∧ l ≤ s.lists then { s with cur := l } else s
set_option maxRecDepth 100000 in
theorem SetCurrent_ng (l : Int) (w : World) (h : NgS w B c s S) : Calls Try.prog 25 #[.pointer (some ⟨c, 0, none⟩), .int .i64 l] w fun e w' => e = .returned (.int .i64 (curV s l)) ∧ ∃ S', NgI w' B c (curSt s l) S' ∧ Turn S S' w w' := by
  have HNO := Lib.hid (none_ng w h)
  clear h
  unfold curV curSt
  by_cases hm : 1 ≤ l ∧ l ≤ s.lists
  · rw [if_pos hm, if_pos hm]
    have hd : decide (1 ≤ l ∧ l ≤ s.lists) = true := decide_eq_true hm
    have HD := Lib.hid hd
    clear hm hd
    go_enter Try.func25, Try.ntmps25
    go_wp2_with (first | (go_at_call 33; refine HNO.out.mono ?_; rintro e w1 ⟨rfl, S1, h1, ht, _⟩; obtain ⟨m, wv, ov, mf, hN, hS⟩ := h1; have hi := is_ob l w1 hN.obj; rw [HD.out] at hi; have HI := Lib.hid hi; have c3 := hN.cells.2.2.2.1; have hfz := hN.obj.blk.frozen 3; have hob := hN.obj.blk.set_ 3 (.int .i64 l); simp only [List.setIfInBounds_toArray, List.set_cons_succ, List.set_cons_zero] at hob; have HOB := Lib.hid hob; have HT := Lib.hid ht; have HN := Lib.hid hN; have HS := Lib.hid hS; clear hN ht hob hS hi) | (go_at_call 44; refine HI.out.mono ?_; rintro e w' ⟨rfl, rfl⟩))
    go_ret
    have hf := (Fr.refl (fun k => k = c) w1).setCell (p := ⟨c, 3, none⟩) (.inl rfl) (.int .i64 l)
    refine ⟨rfl, _, ⟨m, wv, ov, mf, HN.out.setObj hf HOB.out, rfl⟩, HT.out.trans ⟨hf.mono (fun k _ e => by rw [HS.out]; exact .inl e), fun k hk => .inl (by rw [HS.out]; exact hk)⟩⟩
  · rw [if_neg hm, if_neg hm]
    have hd : decide (1 ≤ l ∧ l ≤ s.lists) = false := decide_eq_false hm
    have HD := Lib.hid hd
    clear hm hd
    go_enter Try.func25, Try.ntmps25
    go_wp2_with (first | (go_at_call 33; refine HNO.out.mono ?_; rintro e w1 ⟨rfl, S1, h1, ht, _⟩; have H1 := Lib.hid h1; obtain ⟨m, wv, ov, mf, hN, hS⟩ := h1; have hi := is_ob l w1 hN.obj; rw [HD.out] at hi; have HI := Lib.hid hi; have HT := Lib.hid ht; clear hN ht hS hi) | (go_at_call 44; refine HI.out.mono ?_; rintro e w' ⟨rfl, rfl⟩))
    go_ret
    exact ⟨rfl, S1, H1.out, HT.out⟩

set_option maxRecDepth 100000 in
theorem notIs_ng {m : Nat} {wv ov : Value} {lists cur : Int} (l : Int) (x : Nat) (w : World) (h : NObj w c m wv ov lists cur) (hx : w.cell? ⟨x, 0, none⟩ = some (.pointer (some ⟨c, 0, none⟩))) : Calls Try.prog 43 (#[.int .i64 l] ++ #[.pointer (some ⟨x, 0, none⟩)]) w fun e w' => e = .returned (.bool (!decide (1 ≤ l ∧ l ≤ lists))) ∧ w = w' := by
  have hi := is_ob l w h
  generalize decide (1 ≤ l ∧ l ≤ lists) = d at *
  have HI := Lib.hid hi
  clear h hi
  simp only [List.append_toArray, List.cons_append, List.nil_append]
  go_enter Try.func43, Try.ntmps43
  go_wp2_with (go_at_call 44; refine HI.out.mono ?_; rintro e w' ⟨rfl, rfl⟩)
  go_ret
  exact ⟨rfl, rfl⟩
/-- SetOrder. -/
def ordSt (s : St) (xs : List Int) : St := if ordV s.lists xs = 0 then { s with order := xs } else s
set_option maxRecDepth 100000 in
set_option maxHeartbeats 4000000 in
theorem SetOrder_ng (v : Value) (xs : List Int) (w : World) (h : NgS w B c s S) (hB : B ≤ w.heap.size) (hv : RowI w B v xs) (hl : xs.length ≤ 1000000) : Calls Try.prog 20 #[.pointer (some ⟨c, 0, none⟩), v] w fun e w' => e = .returned (.int .i64 (ordV s.lists xs)) ∧ ∃ S', NgI w' B c (ordSt s xs) S' ∧ Turn S S' w w' := by
  have hf : Fr0 w (w.alloc (.cells #[.pointer (some ⟨c, 0, none⟩)] 24)) := (Fr.refl _ w).alloc _
  have hbx := Blk.new w 24 #[.pointer (some ⟨c, 0, none⟩)]
  have hN0 := h.fr0 hf
  have hxS : ¬ S w.heap.size := fun e => by have := (h.lo e).2; omega
  have hxB : ∀ k, k < B → ¬ S k := fun k hk e => by have := (h.lo e).1; omega
  have HNO := Lib.hid (none_ng _ hN0)
  have hv1 := hv.fr0 hf
  obtain ⟨A, cap, rfl, _⟩ := id hv1
  unfold ordV ordSt ordV
  obtain ⟨n, hn⟩ : ∃ n, xs.length = n := ⟨_, rfl⟩
  have HN := Lib.hid hn
  obtain ⟨any, hany⟩ : ∃ any, xs.any (fun l => !decide (1 ≤ l ∧ l ≤ s.lists)) = any := ⟨_, rfl⟩
  have HANY := Lib.hid hany
  have HV1 := Lib.hid hv1
  rw [hn] at hl HV1 ⊢
  rw [hany]
  have HBX := Lib.hid hbx
  have HF := Lib.hid hf
  have HXS := Lib.hid hxS
  have HXB := Lib.hid hxB
  have HBS := Lib.hid (Nat.le_trans hB hf.size)
  clear h hv hv1 hN0 hf hany hn hbx hxS hxB hB
  by_cases h1 : 16 < n
  · rw [if_pos h1, if_neg (by decide)]
    go_enter Try.func20, Try.ntmps20
    go_wp2_with (first | (go_at_call 33; refine HNO.out.mono ?_; rintro e w1 ⟨rfl, S1, h1, ht, _⟩; have H1 := Lib.hid h1; have HT := Lib.hid ht; clear ht h1))
    go_ret
    exact ⟨rfl, S1, H1.out, (Turn.of0 HF.out).trans HT.out⟩
  · rw [if_neg h1]
    have hn16 : (n : Int) ≤ 16 := by omega
    have HIF := Lib.hid (fun (w1 : World) (S1 : Nat → Prop) (h1 : NgI w1 B c s S1) (ht : Turn S S1 (w.alloc (.cells #[.pointer (some ⟨c, 0, none⟩)] 24)) w1) => (show Calls Try.prog 42 #[.slice A n cap, .func (.func 43) #[] #[.pointer (some ⟨w.heap.size, 0, none⟩)]] w1 (fun e w' => e = .returned (.bool any) ∧ w1 = w') from by
      obtain ⟨m, wv, ov, mf, hN, hS⟩ := h1
      have hx1 := (HBX.out.fr ht.1 HXS.out).cell 0
      have hb := ht.1.below HBS.out HXB.out
      rw [← HANY.out]
      exact ContainsFunc_any 43 #[.pointer (some ⟨w.heap.size, 0, none⟩)] (fun l => !decide (1 ≤ l ∧ l ≤ s.lists)) (.slice A n cap) xs w1 (HV1.out.below hb).rd (by rw [HN.out]; exact hl) (fun _ _ => rfl) (fun l => notIs_ng l w.heap.size w1 hN.obj hx1)))
    cases any with
    | true =>
      rw [if_pos rfl, if_neg (by decide)]
      go_enter Try.func20, Try.ntmps20
      go_wp2_with (first | (go_at_call 33; refine HNO.out.mono ?_; rintro e w1 ⟨rfl, S1, h1, ht, _⟩; have HCF := Lib.hid (HIF.out w1 S1 h1 ht); have H1 := Lib.hid h1; have HT := Lib.hid ht; clear ht h1) | (go_at_call 42; refine HCF.out.mono ?_; rintro e w' ⟨rfl, rfl⟩))
      go_ret
      exact ⟨rfl, S1, H1.out, (Turn.of0 HF.out).trans HT.out⟩
    | false =>
      rw [if_neg (by decide), if_pos rfl]
      go_enter Try.func20, Try.ntmps20
      go_wp2_with (first | (go_at_call 33; refine HNO.out.mono ?_; rintro e w1 ⟨rfl, S1, h1, ht, _⟩; have HCF := Lib.hid (HIF.out w1 S1 h1 ht); have H1 := Lib.hid h1; have HT := Lib.hid ht; clear ht h1) | (go_at_call 42; refine HCF.out.mono ?_; rintro e w' ⟨rfl, rfl⟩))
      obtain ⟨m, wv, ov, mf, hN, hS⟩ := id H1.out
      have hbx1 := HBX.out.fr HT.out.1 HXS.out
      have hx := hbx1.cell 0
      have hne := hbx1.ne_ hN.obj.blk (by decide)
      have hlt := hN.obj.blk.lt
      have hfz := hN.obj.blk.frozen 2
      have hc2 := hN.cells.2.2.1
      have hb1 := HT.out.1.below HBS.out HXB.out
      have HCL := Lib.hid (fun V (hV : Fr0 w1 V) => Clone_ints (.slice A n cap) xs V (RdI.fr0 (HV1.out.below hb1).rd hV) (by rw [HN.out]; exact hl))
      have HN1 := Lib.hid hN
      have HS := Lib.hid hS
      have HBX1 := Lib.hid hbx1
      clear hN hS hb1 hbx1
      go_region_held3 (fun V => V.cell? ⟨w.heap.size, 0, none⟩ = some (.pointer (some ⟨c, 0, none⟩))) (first | exact hx | exact hx2 | exact (((Fr.refl (fun k => k = c) _).setCell (p := ⟨c, 2, none⟩) (.inl rfl) _).cell (p := ⟨w.heap.size, 0, none⟩) hbl2 hne).trans hx2) ((go_at_call 41; (with_reducible refine (HCL.out _ (Fr.refl _ _).drew).mono ?_); rintro e w2 ⟨u, rfl, hu, hf2⟩; replace hf2 := ((Fr.refl (fun _ => False) w1).drew).trans hf2; have hx2 := (hf2.cell (p := ⟨w.heap.size, 0, none⟩) HBX1.out.lt (fun x => x)).trans hx; have hbl2 := Nat.lt_of_lt_of_le HBX1.out.lt hf2.size; obtain ⟨A2, cap2, rfl⟩ := hu.rd.form; have hc22 := (hf2.cell (p := ⟨c, 2, none⟩) hlt (fun x => x)).trans hc2; have hfz2 := (hf2.frozen (p := ⟨c, 2, none⟩) hlt (fun x => x)).trans hfz; have HU := Lib.hid hu; have HF2 := Lib.hid hf2; clear hu hf2))
      all_goals
        have hob := (HN1.out.obj.blk.fr0 HF2.out).set_ 2 (.slice A2 xs.length cap2)
        simp only [List.setIfInBounds_toArray, List.set_cons_succ, List.set_cons_zero] at hob
        have hf3 := (HF2.out.of0 (S := fun k => k = c)).setCell (p := ⟨c, 2, none⟩) (.inl rfl) (.slice A2 xs.length cap2)
        have hul : ∀ k, (Value.slice A2 xs.length cap2).ownBlock = some k → w1.heap.size ≤ k := fun k hk => (own_lo HU.out k hk).1
        have hu3 := HU.out.fr ((Fr.refl (fun k => k = c) w2).setCell (p := ⟨c, 2, none⟩) (.inl rfl) (.slice A2 xs.length cap2)) (fun k hk e => by have := hul k hk; omega)
        have hN3 := HN1.out.setOrd hu3 hf3 hob
        go_wp2_with fail
        go_ret
        refine ⟨rfl, _, ⟨m, wv, _, mf, hN3, rfl⟩, ((Turn.of0 HF.out).trans HT.out).trans ⟨hf3.mono (fun k _ e => by rw [HS.out]; exact .inl e), fun k hk => ?_⟩⟩
        rw [HS.out]
        rcases hk with h | h | h | h | h
        · exact .inl (.inl h)
        · exact .inl (.inr (.inl h))
        · exact .inl (.inr (.inr (.inl h)))
        · exact .inr (hul k h)
        · exact .inl (.inr (.inr (.inr (.inr h))))
end
end Go.Proofs.Ytmhjnbolngdijaa
