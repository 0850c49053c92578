/- Names: Mark, Back. -/
import Derived.Test.YtmhjnbolngdijaaNmark
import Derived.BigQuiet
import Derived.RegionTactic
import Derived.LaidEqlPtr
import Derived.Deep.Cut
namespace Go.Proofs.Ytmhjnbolngdijaa
open Go Go.RowKit
set_option linter.unusedVariables false
attribute [local go_sem] Oper.semAt_some

theorem run_clearK {κ : Type} {enc : κ → Value} {P : Program} {K T V ty : TypeId} {w : World} {m : Nat} {f : κ → Option Value} (hT : P.underlying T = some (.map K V)) (h : MapK enc w m f) :
    ∃ w', (Builtin.clear_ #[T] ty #[.map (some m)]).run P w = .ok (.tuple #[]) w' ∧ Fr1 m w w' ∧ w'.heap.size = w.heap.size ∧ MapK enc w' m (fun _ => none) := by
  obtain ⟨E, c, hm, hk, hf⟩ := h
  have hlt : m < w.heap.size := (Array.getElem?_eq_some_iff.1 hm).1
  refine ⟨w.putObj m (.map #[] c), ?_, kfr_putObj _ _ _, by simp, _, _, World.putObj_heap_same hlt, ⟨fun e he => by simp at he, by simp⟩, fun k v => by simp⟩
  simp [Builtin.clear_, run_underlying hT, kgetObj_map hm, ksetObj_map _ hm]

theorem wpList_clearK {κ : Type} {enc : κ → Value} {P : Program} {K T V : TypeId} {w : World} {m : Nat} {f : κ → Option Value} {ops : Array Oper} {rest : List Oper} {o : Oper} {a : Act} {Q : Exit → Act → World → Prop} (hgd : o.guard = none) (x : Operand)
    (ho : o.op = .call { callee := .builtin .clear, args := #[x], argTypes := #[T] }) (hT : P.underlying T = some (.map K V)) (hx : a.eval x = .map (some m)) (h : MapK enc w m f)
    (hk : ∀ w', Fr1 m w w' → w'.heap.size = w.heap.size → MapK enc w' m (fun _ => none) → wpList P ops Q rest (a.put o.dst (.tuple #[])) w') : wpList P ops Q (o :: rest) a w := by
  obtain ⟨w', hrun, h1, h2, h3⟩ := run_clearK (P := P) (ty := o.type) hT h
  refine wpList_plain hgd fun K hK => ?_
  unfold Oper.wp execOp
  simp only [ho, resolve, invoke, builtin, Sem.run_bind, Sem.run_pure, Result.andThen_ok, List.map_toArray, List.map_cons, List.map_nil, hx, hrun]
  exact hK _ _ (hk w' h1 h2 h3)
theorem infoN : ∃ j, Try.prog.info? 79 = some j ∧ j.size ≠ 0 := by
  have h : (Try.prog.info? 79).map (·.size) = some 5 := by kernel_rfl
  cases hi : Try.prog.info? 79 with
  | none => rw [hi] at h; cases h
  | some j =>
    rw [hi] at h
    simp only [Option.map_some, Option.some.injEq] at h
    exact ⟨j, rfl, by omega⟩
theorem ptrSame (W : World) (c : Nat) : (binOp .neq 24 (.pointer (some ⟨c, 0, none⟩)) (.pointer (some ⟨c, 0, none⟩))).run Try.prog W = .ok (.bool false) W := by
  obtain ⟨j, hj, _⟩ := infoN
  have h : ∀ d : Nat, (Op.equalIn (d + 1) 24 (.pointer (some ⟨c, 0, none⟩)) (.pointer (some ⟨c, 0, none⟩))).run Try.prog W = .ok true W := fun d => by
    simp [Op.equalIn, run_underlying Try.underlying24, sizeOf, typeInfo, hj, run_sameAddr_same]
  simp only [binOp]
  simp [Op.equal, Op.maxDepth, h 9999]
theorem ptrOther (W : World) {a b : Nat} {ca cb : Array Value} {ta tb : TypeId} (hne : a ≠ b) (ha : Blk W a ta ca) (hb : Blk W b tb cb) : (binOp .neq 24 (.pointer (some ⟨a, 0, none⟩)) (.pointer (some ⟨b, 0, none⟩))).run Try.prog W = .ok (.bool true) W := by
  obtain ⟨j, hj, hsz⟩ := infoN
  have h : ∀ d : Nat, (Op.equalIn (d + 1) 24 (.pointer (some ⟨a, 0, none⟩)) (.pointer (some ⟨b, 0, none⟩))).run Try.prog W = .ok false W := fun d => by
    simp [Op.equalIn, run_underlying Try.underlying24, sizeOf, typeInfo, hj, hsz, run_sameAddr_other W (a := ⟨a, 0, none⟩) (b := ⟨b, 0, none⟩) (by simp) ha hb]
  simp only [binOp]
  simp [Op.equal, Op.maxDepth, h 9999]
/-- A region from one of its operations on, where what is left only reads. -/
theorem wpAny_quiet_from {P : Program} {md : Region.Mode} {l rest : List Oper} {k fuel : Nat} {listed : Array Bool} {a : Act} {w : World} {Q : Exit → Act → World → Prop} (hr : l.drop k = rest) (hs : Region.noSelect l.toArray = true) (hB : Region.lexFrom md l.toArray rest.length k listed = true) (hf : fuel = rest.length)
    (h : wpQuiet P l.toArray (fun w' => ∃ n, w' = w.drewN n) (fun a' => ∀ w', (∃ n, w' = w.drewN n) → Q .normal a' w') rest a) : wpAny P md l.toArray Q fuel listed a w := by
  subst hr hf
  refine wpAny_of_quiet (C := fun w' => ∃ n, w' = w.drewN n) (Q := fun a' => ∀ w', (∃ n, w' = w.drewN n) → Q .normal a' w') (fun _ w' hw' h => h w' hw') _ _ _ _ ⟨0, rfl⟩ ?_
  exact wpAnyQ_lex hs (l.drop k) k listed a (fun j => by simp) hB h

/-- A mark p of names c, in blocks M of its own. -/
def MkS (w : World) (B p c : Nat) (s : St) (M : Nat → Prop) : Prop := ∃ u v, Blk w p 93 #[.pointer (some ⟨c, 0, none⟩), u, .int .i64 s.lists, v, .int .i64 s.cur] ∧ w.ownsRow B 30 5 u s.ws.length (s.ws.flatMap Wd.cells) ∧ OwnI w B v s.order ∧ B ≤ p ∧ (s.ws.length ≤ 5000 ∧ ∀ x ∈ s.ws, (∀ y ∈ x.name, 0 ≤ y ∧ y ≤ 255) ∧ x.name.length ≤ 1000000) ∧ M = fun k => k = p ∨ u.ownBlock = some k ∨ v.ownBlock = some k
section
variable {w w' : World} {B p c : Nat} {s t : St} {S M T : Nat → Prop}
theorem MkS.lo (h : MkS w B p c s M) {k : Nat} (hk : M k) : B ≤ k ∧ k < w.heap.size := by
  obtain ⟨u, v, h1, h2, h3, h4, _, rfl⟩ := h
  rcases hk with rfl | hk | hk
  · exact ⟨h4, h1.lt⟩
  · exact own_lo h2 k hk
  · exact own_lo h3 k hk
theorem MkS.fr (h : MkS w B p c s M) (hf : Fr T w w') (hM : ∀ k, M k → ¬ T k) : MkS w' B p c s M := by
  obtain ⟨u, v, h1, h2, h3, h4, h5, rfl⟩ := h
  exact ⟨u, v, h1.fr hf (hM _ (.inl rfl)), own_fr h2 hf (fun k hk => hM k (.inr (.inl hk))), h3.fr hf (fun k hk => hM k (.inr (.inr hk))), h4, h5, rfl⟩
theorem MkS.mono {B' : Nat} (h : MkS w B p c s M) (hB : B' ≤ B) : MkS w B' p c s M := by
  obtain ⟨u, v, h1, h2, h3, h4, h5, rfl⟩ := h
  exact ⟨u, v, h1, own_mono h2 hB, own_mono h3 hB, Nat.le_trans hB h4, h5, rfl⟩

set_option maxRecDepth 100000 in
set_option maxHeartbeats 4000000 in
theorem Mark_ng (w : World) (h : NgS w B c s S) (hol : s.order.length ≤ 1000000) : Calls Try.prog 24 #[.pointer (some ⟨c, 0, none⟩)] w fun e w' => ∃ p M S', e = .returned (.pointer (some ⟨p, 0, none⟩)) ∧ MkS w' w.heap.size p c s M ∧ NgI w' B c s S' ∧ Turn S S' w w' ∧ ∀ k, M k → ¬ S' k := by
  have HNO := Lib.hid (none_ng _ h)
  clear h
  go_enter Try.func24, Try.ntmps24
  go_wp2_with (first | (go_at_call 33; refine HNO.out.mono ?_; rintro e w1 ⟨rfl, S1, h1, ht, _⟩; have H1 := Lib.hid h1; obtain ⟨m, wv, ov, mf, hN, hS⟩ := h1; have hfew := hN.few; have HBY := Lib.hid (And.intro hN.few hN.byt); have HCO := Lib.hid (copied_any wv ov s.lists s.cur s.ws s.order w1 (own_src hN.words) hN.ord.rd (by omega) hol); have c0 := hN.cells.1; have c1 := hN.cells.2.1; have c2 := hN.cells.2.2.1; have c3 := hN.cells.2.2.2.1; have HT := Lib.hid ht; clear hN hS ht hfew) | (go_at_call 46; refine HCO.out.mono ?_; rintro e w2 ⟨u, v, rfl, hu, hv, hf2⟩; have HU := Lib.hid hu; have HV := Lib.hid hv; have HF2 := Lib.hid hf2; clear hu hv hf2))
  go_ret
  have hfa := (Fr.refl (fun _ => False) w2).alloc (.cells #[.pointer (some ⟨c, 0, none⟩), u, .int .i64 s.lists, v, .int .i64 s.cur] 93)
  have hb := Blk.new w2 93 #[.pointer (some ⟨c, 0, none⟩), u, .int .i64 s.lists, v, .int .i64 s.cur]
  have hz1 := HT.out.1.size
  have hz2 := HF2.out.size
  refine ⟨w2.heap.size, _, S1, rfl, ⟨u, v, hb, own_fr (own_mono HU.out hz1) hfa (fun _ _ x => x), own_fr (own_mono HV.out hz1) hfa (fun _ _ x => x), Nat.le_trans hz1 hz2, HBY.out, rfl⟩, (H1.out.fr0 HF2.out).fr0 hfa, (HT.out.trans (Turn.of0 HF2.out)).trans (Turn.of0 hfa), fun k hk hS => ?_⟩
  have hl := (H1.out.lo hS).2
  rcases hk with rfl | hk | hk
  · omega
  · have := (own_lo HU.out k hk).1; omega
  · have := (own_lo HV.out k hk).1; omega

set_option maxRecDepth 100000 in
set_option maxHeartbeats 4000000 in
theorem Back_nil (w : World) (h : NgS w B c s S) : Calls Try.prog 23 #[.pointer (some ⟨c, 0, none⟩), .pointer none] w fun e w' => e = .returned (.int .i64 1) ∧ ∃ S', NgI w' B c s S' ∧ Turn S S' w w' := by
  have HNO := Lib.hid (none_ng _ (h.fr0 (Fr.refl (fun _ => False) w).drew))
  clear h
  go_enter Try.func23, Try.ntmps23
  go_wp2_with fail
  refine wp_region_any (by kernel_rfl) ?_
  change wpAny _ _ _ _ _ _ _ (World.drew _)
  refine wpAny_ready (rs := [0]) (by kernel_rfl) (by simp) ?_
  refine AllReady.cons rfl (fun K hK => ?_) AllReady.nil
  go_simp
  refine hK _ _ ?_
  clear hK K
  refine wpAny_ready (rs := [1]) (by kernel_rfl) (by simp) ?_
  refine AllReady.cons rfl (fun K hK => ?_) AllReady.nil
  go_simp
  go_at_call 33
  refine HNO.out.mono ?_
  rintro e w1 ⟨rfl, S1, h1, ht, _⟩
  go_wp2
  refine wpAny_quiet_from (k := 2) (by simp only [List.drop_succ_cons, List.drop_zero]) (by kernel_rfl) (by kernel_rfl) rfl ?_
  repeat (go_big_quiet_step (fail))
  refine wpQuiet_nil ?_
  intro _ hw'
  obtain ⟨nq, rfl⟩ := hw'
  all_goals
    go_wp2_with fail
    go_ret
    exact ⟨rfl, S1, h1.fr0 ((Fr.refl _ _).drewN _), ((Turn.of0 (Fr.refl (fun _ => False) w).drew).trans ht).trans (Turn.of0 ((Fr.refl _ _).drewN _))⟩
/-- Back: what it tells, what it leaves. -/
def backV (s t : St) : Int := if s.ws.length < t.ws.length ∨ s.lists < t.lists then 1 else 0
def backSt (s t : St) : St := if s.ws.length < t.ws.length ∨ s.lists < t.lists then s else t
set_option maxRecDepth 100000 in
set_option maxHeartbeats 8000000 in
theorem Back_ng (w : World) (h : NgS w B c s S) {Bm : Nat} (hm : MkS w Bm p c t M) (hMS : ∀ k, M k → ¬ S k) (hol : t.order.length ≤ 1000000) : Calls Try.prog 23 #[.pointer (some ⟨c, 0, none⟩), .pointer (some ⟨p, 0, none⟩)] w fun e w' => e = .returned (.int .i64 (backV s t)) ∧ ∃ S', NgI w' B c (backSt s t) S' ∧ Turn S S' w w' := by
  have HNO := Lib.hid (none_ng _ (h.fr0 (Fr.refl (fun _ => False) w).drew))
  have HM := Lib.hid (hm.fr (Fr.refl (fun _ => False) w).drew (fun _ _ x => x))
  have HMS := Lib.hid hMS
  unfold backV backSt
  obtain ⟨n, hn⟩ : ∃ n, s.ws.length = n := ⟨_, rfl⟩
  obtain ⟨k, hk⟩ : ∃ k, t.ws.length = k := ⟨_, rfl⟩
  have HN := Lib.hid hn
  have HK := Lib.hid hk
  rw [hn, hk]
  have HOL := Lib.hid hol
  clear h hm hMS hn hk hol
  have hps := fun W => ptrSame W c
  by_cases h1 : n < k
  · rw [if_pos (.inl h1), if_pos (.inl h1)]
    have hd : decide (n < k) = true := decide_eq_true h1
    go_enter Try.func23, Try.ntmps23
    go_wp2_with fail
    refine wp_region_any (by kernel_rfl) ?_
    change wpAny _ _ _ _ _ _ _ (World.drew _)
    refine wpAny_ready (rs := [0]) (by kernel_rfl) (by simp) ?_
    refine AllReady.cons rfl (fun K hK => ?_) AllReady.nil
    go_simp
    refine hK _ _ ?_
    clear hK K
    refine wpAny_ready (rs := [1]) (by kernel_rfl) (by simp) ?_
    refine AllReady.cons rfl (fun K hK => ?_) AllReady.nil
    go_simp
    go_at_call 33
    refine HNO.out.mono ?_
    rintro e w1 ⟨rfl, S1, h1, ht, _⟩; have H1 := Lib.hid h1; have HT := Lib.hid ht; obtain ⟨m, wv, ov, mf, hN, hS⟩ := h1; have hM1 := HM.out.fr ht.1 HMS.out; obtain ⟨u, v, hu1, hu2, hu3, hu4, hu5, hu6⟩ := hM1; have c0 := hN.cells.1; have c1 := hN.cells.2.1; obtain ⟨A, cap, hA⟩ := hN.wform; rw [HN.out] at hA; subst hA; obtain ⟨_, A2, cap2, hA2, _⟩ := own_src hu2; rw [HK.out] at hA2; subst hA2; have q0 := hu1.cell 0; have q1 := hu1.cell 1; have q2 := hu1.cell 2; clear hN hS hu1 hu2 hu3 hu4 hu5 hu6 ht
    go_wp2
    refine wpAny_quiet_from (k := 2) (by simp only [List.drop_succ_cons, List.drop_zero]) (by kernel_rfl) (by kernel_rfl) rfl ?_
    repeat (go_big_quiet_step (fail))
    refine wpQuiet_nil ?_
    intro _ hw'
    obtain ⟨nq, rfl⟩ := hw'
    go_wp2_with fail
    go_ret
    exact ⟨rfl, S1, H1.out.fr0 ((Fr.refl _ _).drewN _), ((Turn.of0 (Fr.refl (fun _ => False) w).drew).trans HT.out).trans (Turn.of0 ((Fr.refl _ _).drewN _))⟩
  · have hd : decide (n < k) = false := decide_eq_false h1
    by_cases h2 : s.lists < t.lists
    · rw [if_pos (.inr h2), if_pos (.inr h2)]
      have hd2 : decide (s.lists < t.lists) = true := decide_eq_true h2
      go_enter Try.func23, Try.ntmps23
      go_wp2_with fail
      refine wp_region_any (by kernel_rfl) ?_
      change wpAny _ _ _ _ _ _ _ (World.drew _)
      refine wpAny_ready (rs := [0]) (by kernel_rfl) (by simp) ?_
      refine AllReady.cons rfl (fun K hK => ?_) AllReady.nil
      go_simp
      refine hK _ _ ?_
      clear hK K
      refine wpAny_ready (rs := [1]) (by kernel_rfl) (by simp) ?_
      refine AllReady.cons rfl (fun K hK => ?_) AllReady.nil
      go_simp
      go_at_call 33
      refine HNO.out.mono ?_
      rintro e w1 ⟨rfl, S1, h1, ht, _⟩; have H1 := Lib.hid h1; have HT := Lib.hid ht; obtain ⟨m, wv, ov, mf, hN, hS⟩ := h1; have hM1 := HM.out.fr ht.1 HMS.out; obtain ⟨u, v, hu1, hu2, hu3, hu4, hu5, hu6⟩ := hM1; have c0 := hN.cells.1; have c1 := hN.cells.2.1; obtain ⟨A, cap, hA⟩ := hN.wform; rw [HN.out] at hA; subst hA; obtain ⟨_, A2, cap2, hA2, _⟩ := own_src hu2; rw [HK.out] at hA2; subst hA2; have q0 := hu1.cell 0; have q1 := hu1.cell 1; have q2 := hu1.cell 2; clear hN hS hu1 hu2 hu3 hu4 hu5 hu6 ht
      go_wp2
      refine wpAny_quiet_from (k := 2) (by simp only [List.drop_succ_cons, List.drop_zero]) (by kernel_rfl) (by kernel_rfl) rfl ?_
      repeat (go_big_quiet_step (fail))
      refine wpQuiet_nil ?_
      intro _ hw'
      obtain ⟨nq, rfl⟩ := hw'
      go_wp2_with fail
      go_ret
      exact ⟨rfl, S1, H1.out.fr0 ((Fr.refl _ _).drewN _), ((Turn.of0 (Fr.refl (fun _ => False) w).drew).trans HT.out).trans (Turn.of0 ((Fr.refl _ _).drewN _))⟩
    · rw [if_neg (by omega), if_neg (by omega)]
      have hd2 : decide (s.lists < t.lists) = false := decide_eq_false h2
      go_enter Try.func23, Try.ntmps23
      go_wp2_with fail
      refine wp_region_any (by kernel_rfl) ?_
      change wpAny _ _ _ _ _ _ _ (World.drew _)
      refine wpAny_ready (rs := [0]) (by kernel_rfl) (by simp) ?_
      refine AllReady.cons rfl (fun K hK => ?_) AllReady.nil
      go_simp
      refine hK _ _ ?_
      clear hK K
      refine wpAny_ready (rs := [1]) (by kernel_rfl) (by simp) ?_
      refine AllReady.cons rfl (fun K hK => ?_) AllReady.nil
      go_simp
      go_at_call 33
      refine HNO.out.mono ?_
      rintro e w1 ⟨rfl, S1, h1, ht, _⟩; have H1 := Lib.hid h1; have HT := Lib.hid ht; obtain ⟨m, wv, ov, mf, hN, hS⟩ := h1; have hM1 := HM.out.fr ht.1 HMS.out; obtain ⟨u, v, hu1, hu2, hu3, hu4, hu5, hu6⟩ := hM1; have c0 := hN.cells.1; have c1 := hN.cells.2.1; obtain ⟨A, cap, hA⟩ := hN.wform; rw [HN.out] at hA; subst hA; obtain ⟨_, A2, cap2, hA2, _⟩ := own_src hu2; rw [HK.out] at hA2; subst hA2; have q0 := hu1.cell 0; have q1 := hu1.cell 1; have q2 := hu1.cell 2; have HNN := Lib.hid hN; have HSS := Lib.hid hS; have HU1 := Lib.hid hu1; have HU2 := Lib.hid hu2; have HU3 := Lib.hid hu3; have HU5 := Lib.hid hu5; have HU6 := Lib.hid hu6; clear hN hS hu1 hu2 hu3 hu4 hu5 hu6 ht
      go_wp2
      refine wpAny_quiet_from (k := 2) (by simp only [List.drop_succ_cons, List.drop_zero]) (by kernel_rfl) (by kernel_rfl) rfl ?_
      repeat (go_big_quiet_step (fail))
      refine wpQuiet_nil ?_
      intro _ hw'
      obtain ⟨nq, rfl⟩ := hw'
      have hN2 := HNN.out.fr0 ((Fr.refl (fun _ => False) w1).drewN nq)
      have hb2 := HU1.out.fr0 ((Fr.refl (fun _ => False) w1).drewN nq)
      have HCO := Lib.hid (copied_any (.slice A2 k cap2) v t.lists t.cur t.ws t.order (w1.drewN nq) (own_src (own_fr HU2.out ((Fr.refl (fun _ => False) w1).drewN nq) (fun _ _ x => x)) |> fun h => by rw [← HK.out] at h ⊢; exact h) (HU3.out.fr ((Fr.refl (fun _ => False) w1).drewN nq) (fun _ _ x => x)).rd (by have := HU5.out.1; omega) HOL.out)
      have z1 := hb2.cell 1
      have z2 := hb2.cell 2
      have z3 := hb2.cell 3
      have z4 := hb2.cell 4
      have HN2 := Lib.hid hN2
      clear hN2 hb2 c0 c1 q0 q1 q2
      go_upto_region 4 with (first | (go_at_call 46; refine HCO.out.mono ?_; rintro e w2 ⟨u', v', rfl, hu, hv, hf2⟩; have HU := Lib.hid hu; have HV := Lib.hid hv; have HF2 := Lib.hid hf2; obtain ⟨_, A3, cap3, rfl, _⟩ := own_src hu; obtain ⟨A4, cap4, rfl⟩ := hv.rd.form; have hob := HN2.out.obj.blk.fr0 hf2; have y0 := hob.frozen 0; have y1 := hob.frozen 1; have y2 := hob.frozen 2; have y3 := hob.frozen 3; have p0 := hob.cell 0; have p1 := hob.cell 1; have p2 := hob.cell 2; have p3 := hob.cell 3; have p4 := hob.cell 4; have HOB := Lib.hid hob; clear hu hv hf2 hob))
      have hob3 := (((HOB.out.set_ 0 (.slice A3 t.ws.length cap3)).set_ 1 (.int .i64 t.lists)).set_ 2 (.slice A4 t.order.length cap4)).set_ 3 (.int .i64 t.cur)
      simp only [List.setIfInBounds_toArray, List.set_cons_succ, List.set_cons_zero] at hob3
      have hf3 := ((((Fr.refl (fun q => q = c) w2).setCell (p := ⟨c, 0, none⟩) (.inl rfl) (.slice A3 t.ws.length cap3)).setCell (p := ⟨c, 1, none⟩) (.inl rfl) (.int .i64 t.lists)).setCell (p := ⟨c, 2, none⟩) (.inl rfl) (.slice A4 t.order.length cap4)).setCell (p := ⟨c, 3, none⟩) (.inl rfl) (.int .i64 t.cur)
      obtain ⟨W3, hW3⟩ : ∃ W3, ((((w2.setCell ⟨c, 0, none⟩ (.slice A3 t.ws.length cap3)).setCell ⟨c, 1, none⟩ (.int .i64 t.lists)).setCell ⟨c, 2, none⟩ (.slice A4 t.order.length cap4)).setCell ⟨c, 3, none⟩ (.int .i64 t.cur)) = W3 := ⟨_, rfl⟩
      rw [hW3] at hob3 hf3 ⊢
      have hmap3 := ((HN2.out.map.fr HF2.out (fun x => x)).fr hf3 (fun e => HN2.out.ne_mc e))
      have huw : ∀ q, (Value.slice A3 t.ws.length cap3).ownBlock = some q → w1.heap.size ≤ q := fun q hq => (own_lo HU.out q hq).1
      have hvw : ∀ q, (Value.slice A4 t.order.length cap4).ownBlock = some q → w1.heap.size ≤ q := fun q hq => (own_lo HV.out q hq).1
      have hlt1 : ∀ q, NgIn c m (.slice A n cap) ov mf q → B ≤ q ∧ q < w1.heap.size := fun q hq => HNN.out.in_lo hq
      have hc1 := hlt1 c (.inl rfl)
      have hm1 := hlt1 m (.inr (.inl rfl))
      have hu3 := own_fr HU.out hf3 (fun q hq e => by have := huw q hq; omega)
      have hv3 := own_fr HV.out hf3 (fun q hq e => by have := hvw q hq; omega)
      have hB1 := HNN.out.lo.2.2
      have HU3' := Lib.hid hu3
      have HV3' := Lib.hid hv3
      have HOB3 := Lib.hid hob3
      have HF3 := Lib.hid hf3
      have HMAP := Lib.hid hmap3
      have HUW := Lib.hid huw
      have HVW := Lib.hid hvw
      have g0 := hob3.cell 0
      have g4 := hob3.cell 4
      clear hob3 hf3 hW3 hmap3 huw hvw hlt1 hu3 hv3 p0 p1 p2 p3 p4 y0 y1 y2 y3 z1 z2 z3 z4 hps hd hd2
      go_upto_region 5 with (refine wpList_clearK (m := m) rfl (.tmp 59) rfl Try.underlying77 rfl HMAP.out ?_; intro w4 hf4 hs4 hm4; have HF4 := Lib.hid hf4; have HM4 := Lib.hid hm4; have g0' := (hf4.cell (p := ⟨c, 0, none⟩) HOB3.out.lt (fun e => HN2.out.ne_mc e.symm)).trans g0; clear hf4 hm4 hs4)
      have hz1 : w1.heap.size ≤ w2.heap.size := HF2.out.size
      have hN0 : Ng w4 B c m (.slice A3 t.ws.length cap3) (.slice A4 t.order.length cap4) t.lists t.cur t.order t.ws (fun i => decide (i < 0)) (fun _ => none) := by
        refine ⟨HOB3.out.fr HF4.out (fun e => HN2.out.ne_mc e.symm), own_mono (own_fr HU3'.out HF4.out (fun q hq e => by have := HUW.out q hq; omega)) hB1, HM4.out, ?_, fun key _ => ?_, ?_, own_mono (own_fr HV3'.out HF4.out (fun q hq e => by have := HVW.out q hq; omega)) hB1, ?_, ⟨hc1.1, hm1.1, ?_⟩, HU5.out.1, HU5.out.2⟩
        · intro key v hk
          cases hk
        · refine List.eq_nil_iff_forall_not_mem.2 (fun x hx => ?_)
          obtain ⟨i, y, _, hP, _⟩ := toksP_mem.1 hx
          simp at hP
        · intro k k' v v' b hk
          cases hk
        · intro k v b hk
          cases hk
        · have := HF3.out.size
          have := HF4.out.size
          omega
      have ht0 : Turn (NgIn c m (.slice A n cap) ov mf) (NgIn c m (.slice A3 t.ws.length cap3) (.slice A4 t.order.length cap4) (fun _ => none)) w1 w4 := by
        refine ⟨((((Fr.refl (fun _ => False) w1).drewN nq).trans HF2.out).of0.trans (HF3.out.mono (S' := NgIn c m (.slice A n cap) ov mf) (fun q _ e => .inl e))).trans (HF4.out.mono (fun q _ e => .inr (.inl e))), fun q hq => ?_⟩
        rcases hq with h | h | h | h | ⟨key, v, h, _⟩
        · exact .inl (.inl h)
        · exact .inl (.inr (.inl h))
        · exact .inr (HUW.out q h)
        · exact .inr (HVW.out q h)
        · cases h
      have HN0 := Lib.hid hN0
      have HT0 := Lib.hid ht0
      have HHS : S1 = NgIn c m (.slice A n cap) ov mf := HSS.out
      rw [← HHS] at HT0
      clear hN0 ht0 g0 g4 HM4 HOB3 HF3 HF4 HU3' HV3' HMAP HCO HHS
      obtain ⟨kw, hkw⟩ : ∃ kw, t.ws.length = kw := ⟨_, rfl⟩
      rw [HK.out] at g0'
      go_wp2_with fail
      go_loopw [66] (fun i wr => ∃ (j : Nat) (mf' : Int × ByteArray → Option Value), j ≤ k ∧ i = .int .i64 j ∧ Ng wr B c m (.slice A3 t.ws.length cap3) (.slice A4 t.order.length cap4) t.lists t.cur t.order t.ws (fun i => decide (i < j)) mf' ∧ Turn S1 (NgIn c m (.slice A3 t.ws.length cap3) (.slice A4 t.order.length cap4) mf') w1 wr) (fun i _ => k - (intOf i).toNat)
      case atStart => exact ⟨0, _, by omega, rfl, HN0.out, HT0.out⟩
      case round =>
        obtain ⟨j, mf', hj, rfl, hNj, htj⟩ := hrel
        by_cases hjk : j < k
        · have hjI : (j : Int) < (k : Int) := by omega
          have hk5 : k ≤ 5000 := by have := HU5.out.1; rw [HK.out] at this; exact this
          have x1 : IntKind.i64.wrap ((j : Int) + 1) = (j : Int) + 1 := IntWalk.i64_in _ (by omega)
          obtain ⟨y, hy⟩ : ∃ y, t.ws[j]? = some y := ⟨_, List.getElem?_eq_getElem (by rw [HK.out]; exact hjk)⟩
          have HLY := Lib.hid (lay_ng j y wr hNj hy (by simp))
          have HTJ := Lib.hid htj
          clear hNj htj hy
          go_wp2_with (go_at_call 35; refine HLY.out.mono ?_; rintro e w6 ⟨rfl, mf6, hN6, ht6⟩; have HN6 := Lib.hid hN6; have HT6 := Lib.hid ht6; clear hN6 ht6)
          refine ⟨⟨j + 1, mf6, by omega, by push_cast; rfl, HN6.out.congr (fun key => toksP_congr fun i => ?_), HTJ.out.trans HT6.out⟩, by simp [intOf]; omega⟩
          unfold withP
          constructor
          · rintro ⟨x, g1, g2, g3⟩
            refine ⟨x, g1, ?_, g3⟩
            simp at g2 ⊢
            omega
          · rintro ⟨x, g1, g2, g3⟩
            refine ⟨x, g1, ?_, g3⟩
            simp at g2 ⊢
            omega
        · obtain rfl : j = k := by omega
          have HNJ := Lib.hid hNj
          have HTJ := Lib.hid htj
          clear hNj htj
          go_wp2_with fail
          go_ret
          have hNf := HNJ.out.congr (P' := fun _ => true) (fun key => by
            have := toksP_lt t.ws key
            rw [HK.out] at this
            exact this.symm)
          exact ⟨rfl, _, ⟨m, _, _, mf', hNf, rfl⟩, ((Turn.of0 (Fr.refl (fun _ => False) w).drew).trans HT.out).trans HTJ.out⟩
end
end Go.Proofs.Ytmhjnbolngdijaa
