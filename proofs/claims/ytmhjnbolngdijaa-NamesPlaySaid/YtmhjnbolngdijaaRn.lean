/- The document's names (bobbinref14): where they stand; New, right, List, SetCurrent, Add, Get, Set. -/
import Derived.Test.YtmhjnbolngdijaaNbk
namespace Go.Proofs.Ytmhjnbolngdijaa
open Go Go.RowKit
set_option linter.unusedVariables false
attribute [local go_sem] Oper.semAt_some

/-- The object of the document's names. -/
def RObj (w : World) (c : Nat) (lv ov : Value) (lists cur : Int) : Prop := Blk w c 67 #[lv, .int .i64 lists, ov, .int .i64 cur]
/-- The document's names c hold s, in blocks S of their own. -/
def RnS (w : World) (B c : Nat) (s : St) (S : Nat → Prop) : Prop := ∃ lv ov, RObj w c lv ov s.lists s.cur ∧ w.ownsRow B 71 5 lv s.ws.length (s.ws.flatMap Wd.cells) ∧ OwnI w B ov s.order ∧ B ≤ c ∧ B ≤ w.heap.size ∧ (s.ws.length ≤ 5000 ∧ ∀ x ∈ s.ws, (∀ y ∈ x.name, 0 ≤ y ∧ y ≤ 255) ∧ x.name.length ≤ 1000000) ∧ S = fun k => k = c ∨ lv.ownBlock = some k ∨ ov.ownBlock = some k

theorem rword_own {w : World} {B k n : Nat} {u : Value} {xs : List Value} {e t : TypeId} {size : Nat} {cs : Array Value} (h : w.ownsRow B e size u n xs) (hb : Blk w k t cs) (ht : t ≠ e) : u.ownBlock ≠ some k := by
  intro hk
  rcases h.2 with ⟨rfl, _⟩ | ⟨b, cap, cur, rfl, _, hc, _⟩
  · cases hk
  · simp only [Value.ownBlock, Option.some.injEq] at hk
    subst hk
    have hB : Blk w b e cur := hc
    exact hb.ne_ hB ht rfl
theorem rows_apart {w : World} {B B' n n' : Nat} {u u' : Value} {xs xs' : List Value} {e e' : TypeId} {size size' : Nat} (h : w.ownsRow B e size u n xs) (h' : w.ownsRow B' e' size' u' n' xs') (ht : e ≠ e') : ∀ k, u.ownBlock = some k → u'.ownBlock ≠ some k := fun k hk => by
  rcases h.2 with ⟨rfl, _⟩ | ⟨b, cap, cur, rfl, _, hc, _⟩
  · cases hk
  · simp only [Value.ownBlock, Option.some.injEq] at hk
    subst hk
    have hB : Blk w b e cur := hc
    exact rword_own h' hB ht
section
variable {w w' : World} {B c : Nat} {s : St} {S T : Nat → Prop}
theorem RnS.lo (h : RnS w B c s S) {k : Nat} (hk : S k) : B ≤ k ∧ k < w.heap.size := by
  obtain ⟨lv, ov, h1, h2, h3, h4, h5, h6, rfl⟩ := h
  rcases hk with rfl | hk | hk
  · exact ⟨h4, Blk.lt h1⟩
  · exact own_lo h2 k hk
  · exact own_lo h3 k hk
theorem RnS.fr (h : RnS w B c s S) (hf : Fr T w w') (hS : ∀ k, S k → ¬ T k) : RnS w' B c s S := by
  obtain ⟨lv, ov, h1, h2, h3, h4, h5, h6, rfl⟩ := h
  exact ⟨lv, ov, Blk.fr h1 hf (hS _ (.inl rfl)), own_fr h2 hf (fun k hk => hS k (.inr (.inl hk))), h3.fr hf (fun k hk => hS k (.inr (.inr hk))), h4, Nat.le_trans h5 hf.size, h6, rfl⟩
theorem RnS.fr0 (h : RnS w B c s S) (hf : Fr0 w w') : RnS w' B c s S := h.fr hf fun _ _ x => x
theorem RnS.mono {B' : Nat} (h : RnS w B c s S) (hB : B' ≤ B) : RnS w B' c s S := by
  obtain ⟨lv, ov, h1, h2, h3, h4, h5, h6, rfl⟩ := h
  exact ⟨lv, ov, h1, own_mono h2 hB, own_mono h3 hB, by omega, by omega, h6, rfl⟩

set_option maxRecDepth 100000 in
theorem New_rn (w : World) : Calls Try.prog 45 #[] w fun e w' => ∃ c S, e = .returned (.pointer (some ⟨c, 0, none⟩)) ∧ RnS w' w.heap.size c initSt S ∧ Fr0 w w' := by
  go_enter Try.func45, Try.ntmps45
  go_wp2_with fail
  go_ret
  have h1 : Blk ((w.alloc (.cells #[.int .i64 1] 3)).alloc (.cells #[.slice none 0 0, .int .i64 1, .slice (some ⟨w.heap.size, 0, none⟩) 1 1, .int .i64 1] 67)) w.heap.size 3 #[.int .i64 1] := (Blk.new w _ _).alloc _
  have h2 : Blk ((w.alloc (.cells #[.int .i64 1] 3)).alloc (.cells #[.slice none 0 0, .int .i64 1, .slice (some ⟨w.heap.size, 0, none⟩) 1 1, .int .i64 1] 67)) (w.heap.size + 1) 67 #[.slice none 0 0, .int .i64 1, .slice (some ⟨w.heap.size, 0, none⟩) 1 1, .int .i64 1] := by
    have := Blk.new (w.alloc (.cells #[.int .i64 1] 3)) 67 #[.slice none 0 0, .int .i64 1, .slice (some ⟨w.heap.size, 0, none⟩) 1 1, .int .i64 1]
    simpa using this
  have hf : Fr0 w ((w.alloc (.cells #[.int .i64 1] 3)).alloc (.cells #[.slice none 0 0, .int .i64 1, .slice (some ⟨w.heap.size, 0, none⟩) 1 1, .int .i64 1] 67)) := ((Fr.refl _ w).alloc _).alloc _
  refine ⟨w.heap.size + 1, _, rfl, ⟨_, _, h2, World.ownsRow_nil _ _ _ _, ownI_mk (zs := [1]) (Nat.le_refl _) h1 rfl (by simp) (by unfold maxLen; omega) (fun k x hx => ?_), by omega, hf.size, ⟨by simp [initSt], fun x hx => by cases hx⟩, rfl⟩, hf⟩
  cases k with
  | zero => simp at hx; subst hx; rfl
  | succ k => simp at hx

set_option maxRecDepth 100000 in
set_option maxHeartbeats 2000000 in
theorem right_rn {lv ov : Value} {lists cur : Int} (x : Wd) (w : World) (h : RObj w c lv ov lists cur) : Calls Try.prog 64 #[.pointer (some ⟨c, 0, none⟩), x.val] w fun e w' => e = .returned (.int .i64 (wrongV lists x)) ∧ Fr0 w w' := by
  have hf : Fr0 w (w.alloc (.cells #[.string (strOfNums x.name), .int .i64 x.xt, .int .i64 x.list, .bool x.imm, .bool x.only] 71)) := (Fr.refl _ w).alloc _
  have hsz : (strOfNums x.name).size = x.name.length := strOfNums_size _
  have c1 := (Blk.fr0 h hf).cell 1
  unfold Wd.val wrongV
  obtain ⟨n, hn⟩ : ∃ n, x.name.length = n := ⟨_, rfl⟩
  rw [hn] at hsz ⊢
  have HF := Lib.hid hf
  clear h hn hf
  rcases (show n = 0 ∨ (0 < n ∧ 63 < n) ∨ (0 < n ∧ n ≤ 63 ∧ (1 ≤ x.list ∧ x.list ≤ lists)) ∨ (0 < n ∧ n ≤ 63 ∧ x.list < 1) ∨ (0 < n ∧ n ≤ 63 ∧ 1 ≤ x.list ∧ lists < x.list) by omega) with h1 | ⟨h1, h2⟩ | ⟨h1, h2, h3, h4⟩ | ⟨h1, h2, h3⟩ | ⟨h1, h2, h3, h4⟩
  · rw [if_pos (.inl h1)]
    subst h1
    go_enter Try.func64, Try.ntmps64
    go_wp2_with fail
    go_ret
    exact ⟨rfl, HF.out⟩
  · rw [if_pos (.inr h2)]
    have h1I : (1 : Int) ≤ (n : Int) := by omega
    have h2I : (63 : Int) < (n : Int) := by omega
    go_enter Try.func64, Try.ntmps64
    go_wp2_with fail
    go_ret
    exact ⟨rfl, HF.out⟩
  · rw [if_neg (by omega), if_pos ⟨h3, h4⟩]
    have h1I : (1 : Int) ≤ (n : Int) := by omega
    have h2I : (n : Int) ≤ 63 := by omega
    have hd1 : decide (x.list < 1) = false := decide_eq_false (by omega)
    have hd2 : decide (lists < x.list) = false := decide_eq_false (by omega)
    go_enter Try.func64, Try.ntmps64
    go_wp2_with fail
    go_quiet (fail)
    go_wp2_with fail
    go_ret
    exact ⟨rfl, HF.out.drewN _⟩
  · rw [if_neg (by omega), if_neg (by omega)]
    have h1I : (1 : Int) ≤ (n : Int) := by omega
    have h2I : (n : Int) ≤ 63 := by omega
    have hd1 : decide (x.list < 1) = true := decide_eq_true h3
    go_enter Try.func64, Try.ntmps64
    go_wp2_with fail
    go_quiet (fail)
    go_wp2_with fail
    go_ret
    exact ⟨rfl, HF.out.drewN _⟩
  · rw [if_neg (by omega), if_neg (by omega)]
    have h1I : (1 : Int) ≤ (n : Int) := by omega
    have h2I : (n : Int) ≤ 63 := by omega
    have hd1 : decide (x.list < 1) = false := decide_eq_false (by omega)
    have hd2 : decide (lists < x.list) = true := decide_eq_true h4
    go_enter Try.func64, Try.ntmps64
    go_wp2_with fail
    go_quiet (fail)
    go_wp2_with fail
    go_ret
    exact ⟨rfl, HF.out.drewN _⟩

theorem RObj.cells {lv ov : Value} {lists cur : Int} (h : RObj w c lv ov lists cur) : w.cell? ⟨c, 0, none⟩ = some lv ∧ w.cell? ⟨c, 1, none⟩ = some (.int .i64 lists) ∧ w.cell? ⟨c, 2, none⟩ = some ov ∧ w.cell? ⟨c, 3, none⟩ = some (.int .i64 cur) := ⟨Blk.cell h 0, Blk.cell h 1, Blk.cell h 2, Blk.cell h 3⟩
theorem RObj.blk {lv ov : Value} {lists cur : Int} (h : RObj w c lv ov lists cur) : Blk w c 67 #[lv, .int .i64 lists, ov, .int .i64 cur] := h
/-- Its own cells turned, its rows not. -/
theorem RnS.obj {lists' cur' : Int} {lv ov : Value} (h1 : RObj w c lv ov s.lists s.cur) (h2 : w.ownsRow B 71 5 lv s.ws.length (s.ws.flatMap Wd.cells)) (h3 : OwnI w B ov s.order) (h4 : B ≤ c) (h5 : B ≤ w.heap.size) (h6 : s.ws.length ≤ 5000 ∧ ∀ x ∈ s.ws, (∀ y ∈ x.name, 0 ≤ y ∧ y ≤ 255) ∧ x.name.length ≤ 1000000)
    (hf : Fr (fun k => k = c) w w') (hob : RObj w' c lv ov lists' cur') : RnS w' B c ⟨lists', cur', s.order, s.ws⟩ (fun k => k = c ∨ lv.ownBlock = some k ∨ ov.ownBlock = some k) :=
  ⟨lv, ov, hob, own_fr h2 hf (fun k hk e => rword_own h2 h1.blk (by decide) (e ▸ hk)), h3.fr hf (fun k hk e => blk_int_own h3 h1.blk (by decide) (e ▸ hk)), h4, Nat.le_trans h5 hf.size, h6, rfl⟩

set_option maxRecDepth 100000 in
theorem List_rn (w : World) (h : RnS w B c s S) (hl : 0 ≤ s.lists) : Calls Try.prog 53 #[.pointer (some ⟨c, 0, none⟩)] w fun e w' => e = .returned (.tuple #[.int .i64 (listV s).1, .int .i64 (listV s).2]) ∧ ∃ S', RnS w' B c (listSt s) S' ∧ Turn S S' w w' := by
  have HH := Lib.hid h
  obtain ⟨lv, ov, h1, h2, h3, h4, h5, h6, hS⟩ := h
  obtain ⟨c0, c1, c2, c3⟩ := h1.cells
  unfold listV listSt
  by_cases hm : 100 ≤ s.lists
  · rw [if_pos hm, if_pos hm]
    clear h1 h2 h3 h6 hS
    go_enter Try.func53, Try.ntmps53
    go_wp2_with fail
    go_ret2
    exact ⟨rfl, S, HH.out, Turn.refl _ _⟩
  · rw [if_neg hm, if_neg hm]
    have hm' : s.lists < 100 := by omega
    have x1 : IntKind.i64.wrap (s.lists + 1) = s.lists + 1 := IntWalk.i64_in _ (by omega)
    have hfz := h1.blk.frozen 1
    have hob := h1.blk.set_ 1 (.int .i64 (s.lists + 1))
    simp only [List.setIfInBounds_toArray, List.set_cons_succ, List.set_cons_zero] at hob
    have hf := (Fr.refl (fun k => k = c) w).setCell (p := ⟨c, 1, none⟩) (.inl rfl) (.int .i64 (s.lists + 1))
    have hob1 := hob.cell 1
    have HR := Lib.hid (RnS.obj h1 h2 h3 h4 h5 h6 hf hob)
    have HF := Lib.hid hf
    have HS := Lib.hid hS
    clear h1 h2 h3 h6 hS hob hf
    go_enter Try.func53, Try.ntmps53
    go_wp2_with fail
    go_ret2
    exact ⟨rfl, _, HR.out, HF.out.mono (fun k _ e => by rw [HS.out]; exact .inl e), fun k hk => .inl (by rw [HS.out]; exact hk)⟩
set_option maxRecDepth 100000 in
theorem SetCurrent_rn (l : Int) (w : World) (h : RnS w B c s S) : Calls Try.prog 55 #[.pointer (some ⟨c, 0, none⟩), .int .i64 l] w fun e w' => e = .returned (.int .i64 (curV s l)) ∧ ∃ S', RnS w' B c (curSt s l) S' ∧ Turn S S' w w' := by
  have HH := Lib.hid h
  obtain ⟨lv, ov, h1, h2, h3, h4, h5, h6, hS⟩ := h
  obtain ⟨c0, c1, c2, c3⟩ := h1.cells
  unfold curV curSt
  rcases (show l < 1 ∨ (1 ≤ l ∧ s.lists < l) ∨ (1 ≤ l ∧ l ≤ s.lists) by omega) with hm | ⟨hm, hm2⟩ | ⟨hm, hm2⟩
  · rw [if_neg (by omega), if_neg (by omega)]
    clear h1 h2 h3 h6 hS
    go_enter Try.func55, Try.ntmps55
    go_wp2_with fail
    go_ret
    exact ⟨rfl, S, HH.out, Turn.refl _ _⟩
  · rw [if_neg (by omega), if_neg (by omega)]
    clear h1 h2 h3 h6 hS
    go_enter Try.func55, Try.ntmps55
    go_wp2_with fail
    go_ret
    exact ⟨rfl, S, HH.out, Turn.refl _ _⟩
  · rw [if_pos ⟨hm, hm2⟩, if_pos ⟨hm, hm2⟩]
    have hfz := h1.blk.frozen 3
    have hob := h1.blk.set_ 3 (.int .i64 l)
    simp only [List.setIfInBounds_toArray, List.set_cons_succ, List.set_cons_zero] at hob
    have hf := (Fr.refl (fun k => k = c) w).setCell (p := ⟨c, 3, none⟩) (.inl rfl) (.int .i64 l)
    have HR := Lib.hid (RnS.obj h1 h2 h3 h4 h5 h6 hf hob)
    have HF := Lib.hid hf
    have HS := Lib.hid hS
    clear h1 h2 h3 h6 hS hob hf
    go_enter Try.func55, Try.ntmps55
    go_wp2_with fail
    go_ret
    exact ⟨rfl, _, HR.out, HF.out.mono (fun k _ e => by rw [HS.out]; exact .inl e), fun k hk => .inl (by rw [HS.out]; exact hk)⟩

set_option maxRecDepth 100000 in
set_option maxHeartbeats 4000000 in
theorem Get_rn (nt : Int) (w : World) (h : RnS w B c s S) : Calls Try.prog 48 #[.pointer (some ⟨c, 0, none⟩), .int .i64 nt] w fun e w' => e = .returned (.tuple #[(getW s.ws nt).val, .int .i64 (hasV s.ws.length nt)]) ∧ Fr0 w w' := by
  have hf : Fr0 w (w.alloc (.cells #[.string ⟨#[]⟩, .int .i64 0, .int .i64 0, .bool false, .bool false] 71)) := (Fr.refl _ w).alloc _
  have hbx := Blk.new w 71 #[.string ⟨#[]⟩, .int .i64 0, .int .i64 0, .bool false, .bool false]
  obtain ⟨lv, ov, h1, h2, h3, h4, h5, h6, hS⟩ := h.fr0 hf
  obtain ⟨_, A, cap, hA, _⟩ := own_src h2
  obtain ⟨c0, c1, c2, c3⟩ := h1.cells
  have y0 := hbx.frozen 0
  have y1 := hbx.frozen 1
  have y2 := hbx.frozen 2
  have y3 := hbx.frozen 3
  have y4 := hbx.frozen 4
  have q0 := hbx.cell 0
  have q1 := hbx.cell 1
  have q2 := hbx.cell 2
  have q3 := hbx.cell 3
  have q5 := hbx.cell 4
  unfold Wd.val getW hasV
  have H2 := Lib.hid h2
  obtain ⟨n, hn⟩ : ∃ n, s.ws.length = n := ⟨_, rfl⟩
  have hn5 := h6.1
  rw [hn] at hA hn5 ⊢
  subst hA
  have HN := Lib.hid hn
  have HBX := Lib.hid hbx
  have HF := Lib.hid hf
  clear h h1 h2 h3 h6 hS hn hbx hf
  rcases (show nt < 1 ∨ (1 ≤ nt ∧ (n : Int) < nt) ∨ (1 ≤ nt ∧ nt ≤ (n : Int)) by omega) with hm | ⟨hm, hm2⟩ | ⟨hm, hm2⟩
  · rw [if_neg (by omega), if_neg (by omega)]
    go_enter Try.func48, Try.ntmps48
    go_wp2_with fail
    exact bodyPost_ret (v := .tuple #[.agg #[.string ⟨#[]⟩, .int .i64 0, .int .i64 0, .bool false, .bool false], .int .i64 4]) (by simp [results, Try.results48, go_sem]) rfl ⟨rfl, (Fr.refl _ w).alloc _⟩
  · rw [if_neg (by omega), if_neg (by omega)]
    go_enter Try.func48, Try.ntmps48
    go_wp2_with fail
    exact bodyPost_ret (v := .tuple #[.agg #[.string ⟨#[]⟩, .int .i64 0, .int .i64 0, .bool false, .bool false], .int .i64 4]) (by simp [results, Try.results48, go_sem]) rfl ⟨rfl, (Fr.refl _ w).alloc _⟩
  · rw [if_pos ⟨hm, hm2⟩, if_pos ⟨hm, hm2⟩]
    obtain ⟨i, rfl⟩ : ∃ i : Nat, nt = (i : Int) + 1 := ⟨(nt - 1).toNat, by omega⟩
    rw [show ((i : Int) + 1 - 1).toNat = i by omega]
    obtain ⟨x, hx⟩ : ∃ x, s.ws[i]? = some x := ⟨_, List.getElem?_eq_getElem (by rw [HN.out]; omega)⟩
    rw [wdAt_eq hx]
    obtain ⟨b, cap', hA, _, d0, d1, d2, d3, d4⟩ := words_cells H2.out hx
    injection hA with hA
    subst hA
    have hiI : (i : Int) < (n : Int) := by omega
    have hi0 : (0 : Int) ≤ (i : Int) := by omega
    have x1 : IntKind.i64.wrap ((i : Int) + 1 - 1) = (i : Int) := by rw [IntWalk.i64_in _ (by omega)]; omega
    clear hx
    go_enter Try.func48, Try.ntmps48
    go_wp2_with fail
    exact bodyPost_ret (v := .tuple #[.agg #[.string (strOfNums x.name), .int .i64 x.xt, .int .i64 x.list, .bool x.imm, .bool x.only], .int .i64 0]) (by simp [results, Try.results48, go_sem]) rfl ⟨rfl, (Fr.refl _ w).alloc _⟩

theorem infoR5 : ∃ i0, Try.prog.info? 71 = some i0 ∧ ∃ z0, i0.zero = some z0 ∧ z0.cells.size = 5 ∧ i0.size = 5 ∧ i0.bytes = 40 := by
  have hiw : (Try.prog.info? 71).map (fun i => (i.zero.map (·.cells.size), i.size, i.bytes)) = some (some 5, 5, 40) := by kernel_rfl
  cases hi : Try.prog.info? 71 with
  | none => rw [hi] at hiw; cases hiw
  | some i0 =>
    rw [hi] at hiw
    simp only [Option.map_some, Option.some.injEq, Prod.mk.injEq] at hiw
    obtain ⟨h1, h2, h3⟩ := hiw
    cases hz : i0.zero with
    | none => rw [hz] at h1; cases h1
    | some z0 =>
      rw [hz] at h1
      simp only [Option.map_some, Option.some.injEq] at h1
      exact ⟨i0, rfl, z0, hz, h1, h2, h3⟩
set_option maxRecDepth 100000 in
set_option maxHeartbeats 8000000 in
theorem Add_rn (x : Wd) (hx : (∀ y ∈ x.name, 0 ≤ y ∧ y ≤ 255) ∧ x.name.length ≤ 1000000) (w : World) (h : RnS w B c s S) (hl : s.ws.length < 5000) : Calls Try.prog 47 #[.pointer (some ⟨c, 0, none⟩), x.val] w fun e w' => e = .returned (.tuple #[.int .i64 (addV s x).1, .int .i64 (addV s x).2]) ∧ ∃ S', RnS w' B c (addSt s x) S' ∧ Turn S S' w w' := by
  have hf : Fr0 w (w.alloc (.cells #[.string (strOfNums x.name), .int .i64 x.xt, .int .i64 x.list, .bool x.imm, .bool x.only] 71)) := (Fr.refl _ w).alloc _
  have hbx := Blk.new w 71 #[.string (strOfNums x.name), .int .i64 x.xt, .int .i64 x.list, .bool x.imm, .bool x.only]
  have HH := Lib.hid (h.fr0 hf)
  obtain ⟨lv, ov, h1, h2, h3, h4, h5, h6, hS⟩ := h.fr0 hf
  have hwr := right_rn x _ h1
  have HBX := Lib.hid hbx
  have HF := Lib.hid hf
  have HX := Lib.hid hx
  have H1 := Lib.hid h1
  have H2 := Lib.hid h2
  have H3 := Lib.hid h3
  have H6 := Lib.hid h6
  have HS := Lib.hid hS
  obtain ⟨_, A, cap, hA, _⟩ := own_src h2
  subst hA
  obtain ⟨n, hn⟩ : ∃ n, s.ws.length = n := ⟨_, rfl⟩
  have HN := Lib.hid hn
  rw [hn] at hl H1 H2 HS
  have hlI : (n : Int) < 5000 := by omega
  unfold addV addSt
  rw [hn]
  by_cases hb : wrongV s.lists x = 0
  · rw [if_pos hb, if_pos hb]
    rw [hb] at hwr
    unfold Wd.val at hwr ⊢
    have HWR := Lib.hid hwr
    clear h hf hbx hx hn hb h1 h2 h3 h6 hS hwr
    go_enter Try.func47, Try.ntmps47
    go_wp2_with (go_at_call 64; refine HWR.out.mono ?_; rintro e w2 ⟨rfl, hf1⟩; have HB2 := Lib.hid (HBX.out.fr0 hf1); have HF1 := Lib.hid hf1; have HO2 := Lib.hid (Blk.fr0 H1.out hf1); have c0 := Blk.cell HO2.out 0; clear hf1)
    obtain ⟨i0, hi0, z0, hzz, hzs, hz1, hz2⟩ := infoR5
    have HI0 := Lib.hid (And.intro hi0 (And.intro hzz (And.intro hzs (And.intro hz1 hz2))))
    have HM2 := Lib.hid (own_fr H2.out HF1.out (fun _ _ x => x))
    have HOW := Lib.hid (show ∀ o : Obj, ((w2.alloc o).drew).ownsRow B 71 5 (.slice A n cap) n (s.ws.flatMap Wd.cells) from fun o => own_fr HM2.out (((Fr.refl (fun _ => False) w2).alloc o).drew) (fun _ _ x => x))
    have HONE := Lib.hid (show ∀ u ∈ x.cells, u.oneCell' = true from fun u hu => by
      simp [Wd.cells] at hu
      rcases hu with rfl | rfl | rfl | rfl | rfl <;> rfl)
    have hbl := Nat.le_trans h5 HF1.out.size
    have k0 : w2.cell? ⟨w.heap.size, 0, none⟩ = some (.string (strOfNums x.name)) := HB2.out.cell 0
    have k1 : w2.cell? ⟨w.heap.size, 1, none⟩ = some (.int .i64 x.xt) := HB2.out.cell 1
    have k2 : w2.cell? ⟨w.heap.size, 2, none⟩ = some (.int .i64 x.list) := HB2.out.cell 2
    have k3 : w2.cell? ⟨w.heap.size, 3, none⟩ = some (.bool x.imm) := HB2.out.cell 3
    have k5 : w2.cell? ⟨w.heap.size, 4, none⟩ = some (.bool x.only) := HB2.out.cell 4
    have hcl := Blk.lt HO2.out
    have y0 := Blk.frozen HO2.out 0
    have HRD := Lib.hid (show Rd ((w2.alloc (.cells #[.string (strOfNums x.name), .int .i64 x.xt, .int .i64 x.list, .bool x.imm, .bool x.only] 71)).drew) (.slice (some ⟨w2.heap.size, 0, none⟩) 1 1) 1 5 x.cells from Rd.new w2 #[.string (strOfNums x.name), .int .i64 x.xt, .int .i64 x.list, .bool x.imm, .bool x.only] rfl 1)
    have HFA := Lib.hid (show Fr0 w2 ((w2.alloc (.cells #[.string (strOfNums x.name), .int .i64 x.xt, .int .i64 x.list, .bool x.imm, .bool x.only] 71)).drew) from ((Fr.refl _ w2).alloc _).drew)
    have HNC := Lib.hid (fun hh => rword_own (k := c) HM2.out (RObj.blk HO2.out) (by decide) hh)
    clear hi0 hzz hzs hz1 hz2
    go_region_law (refine step_append_src (P := Try.prog) (t := 65) (e := 71) (size := 5) (n := n) (m := 1) (base := B) (i := i0) (z := z0) (bytes := 40) (v := .slice A n cap) (xs := s.ws.flatMap Wd.cells) (news := x.cells) rfl (.tmp 23) (.tmp 25) rfl Try.underlying65 HI0.out.1 HI0.out.2.1 HI0.out.2.2.2.1 HI0.out.2.2.2.2 HI0.out.2.2.1 (by decide) rfl rfl (HOW.out _) HRD.out HONE.out (by unfold maxLen; omega) (by omega) (Nat.le_trans hbl HFA.out.size) ?_; intro v2 w3 ho2 hg2 hk2; have HO3 := Lib.hid ho2; obtain ⟨_, A2, cap2, rfl, _⟩ := own_src ho2; have HK2 := Lib.hid hk2; have hfg := (HFA.out.of0 (S := fun k => k = c ∨ (Value.slice A n cap).ownBlock = some k)).grown hg2 (fun k hk => .inl (.inr hk)); have HFG := Lib.hid hfg; have hFq := (Fr.refl (fun k => (Value.slice A n cap).ownBlock = some k) _).grown hg2 (fun k hk => .inl hk); have hclq := Nat.lt_of_lt_of_le hcl HFA.out.size; have b0 := (hFq.cell (p := ⟨c, 0, none⟩) hclq HNC.out).trans ((HFA.out.cell (p := ⟨c, 0, none⟩) hcl (fun x => x)).trans c0); have b1 := (hFq.frozen (p := ⟨c, 0, none⟩) hclq HNC.out).trans ((HFA.out.frozen (p := ⟨c, 0, none⟩) hcl (fun x => x)).trans y0); have HOB2 := Lib.hid (Blk.fr (Blk.fr0 HO2.out HFA.out) hFq HNC.out); clear hFq hclq ho2 hg2 hk2 hfg)
    all_goals
      have hob := Blk.set_ HOB2.out 0 (.slice A2 (n + 1) cap2)
      simp only [List.setIfInBounds_toArray, List.set_cons_zero] at hob
      have hff := (Fr.refl (fun k => k = c) w3).setCell (p := ⟨c, 0, none⟩) (.inl rfl) (.slice A2 (n + 1) cap2)
      have ho3 := own_fr HO3.out hff (fun k hk e => rword_own HO3.out HOB2.out (by decide) (e ▸ hk))
      have hf3 := HFG.out.setCell (p := ⟨c, 0, none⟩) (.inl (.inl rfl)) (.slice A2 (n + 1) cap2)
      generalize hw3 : w3.setCell ⟨c, 0, none⟩ (.slice A2 (n + 1) cap2) = w4 at *
      have b3 : w4.cell? ⟨c, 0, none⟩ = some (.slice A2 (n + 1) cap2) := hob.cell 0
      have HF3 := Lib.hid hf3
      have HO4 := Lib.hid ho3
      have HOB := Lib.hid hob
      clear hob hf3 b0 b1 ho3 hff hw3
      go_wp2_with fail
      go_ret2
      have h3 := H3.out.fr HF1.out (fun _ _ x => x)
      have hordd : ∀ k, ov.ownBlock = some k → ¬ (k = c ∨ (Value.slice A n cap).ownBlock = some k) := fun k hk e => e.elim (fun e => blk_int_own h3 (RObj.blk HO2.out) (by decide) (e ▸ hk)) (rows_apart h3 HM2.out (by decide) k hk)
      refine ⟨rfl, _, ⟨.slice A2 (n + 1) cap2, ov, HOB.out, ?_, h3.fr HF3.out hordd, h4, Nat.le_trans hbl HF3.out.size, ⟨by rw [List.length_append, HN.out, List.length_singleton]; omega, fun y hy => ?_⟩, rfl⟩, (((Turn.of0 HF.out).trans (Turn.of0 HF1.out)).1.then HF3.out (fun k _ e => ?_)), fun k hk => ?_⟩
      · rw [List.length_append, List.flatMap_append, HN.out]
        simpa using HO4.out
      · rcases List.mem_append.1 hy with hy | hy
        · exact H6.out.2 y hy
        · obtain rfl := List.mem_singleton.1 hy
          exact HX.out
      · rw [HS.out]
        exact e.elim .inl (fun e => .inr (.inl e))
      · rw [HS.out]
        rcases hk with h | h | h
        · exact .inl (.inl h)
        · rcases HK2.out with h2 | h2
          · rw [h2] at h
            exact .inl (.inr (.inl h))
          · rw [h2] at h
            injection h with h
            have := HFA.out.size
            have := HF.out.size
            have := HF1.out.size
            exact .inr (by omega)
        · exact .inl (.inr (.inr h))
  · rw [if_neg hb, if_neg hb]
    obtain ⟨e0, he0⟩ : ∃ e0, wrongV s.lists x = e0 := ⟨_, rfl⟩
    rw [he0] at hb hwr ⊢
    unfold Wd.val at hwr ⊢
    have hq : (e0 == 0) = false := by simp; exact hb
    have HWR := Lib.hid hwr
    clear h hf hbx hx hn he0 h1 h2 h3 h6 hS hwr
    go_enter Try.func47, Try.ntmps47
    go_wp2_with (go_at_call 64; refine HWR.out.mono ?_; rintro e w2 ⟨rfl, hf1⟩; have HF1 := Lib.hid hf1; clear hf1)
    go_ret2
    exact ⟨rfl, S, HH.out.fr0 HF1.out, (Turn.of0 HF.out).trans (Turn.of0 HF1.out)⟩
end
end Go.Proofs.Ytmhjnbolngdijaa
