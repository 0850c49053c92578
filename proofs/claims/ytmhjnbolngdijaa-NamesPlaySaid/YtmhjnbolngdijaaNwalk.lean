/- Names: Walk: a walk through a list's words, the newest first. -/
import Derived.Test.YtmhjnbolngdijaaNback
import Derived.Test.YtmhjnbolngdijaaNord
namespace Go.Proofs.Ytmhjnbolngdijaa
open Go Go.RowKit Go.Shelf
set_option linter.unusedVariables false
attribute [local go_sem] Oper.semAt_some

theorem keepsFrom_of {S : Nat → Prop} {B : Nat} {W W' : World} (h : Fr S W W') (hS : ∀ k, S k → k < B) : KeepsFrom B W W' :=
  ⟨h.size, fun k o hB hk _ => (h.block k (Array.getElem?_eq_some_iff.1 hk).1 (fun e => by have := hS k e; omega)).trans hk⟩
theorem keepsFrom_alloc (B : Nat) (W : World) (o : Obj) : KeepsFrom B W (W.alloc o) := keepsFrom_of ((Fr.refl (fun _ => False) W).alloc o) (fun _ h => h.elim)
/-- Those of a list. -/
def sel (l : Int) (pre : List WA) : List WA := pre.filter fun x => decide (x.1.2.list = l)
theorem sel_yes {l : Int} {pre : List WA} {x : WA} (h : x.1.2.list = l) : sel l (pre ++ [x]) = sel l pre ++ [x] := by
  unfold sel
  rw [List.filter_append]
  simp [h]
theorem sel_no {l : Int} {pre : List WA} {x : WA} (h : x.1.2.list ≠ l) : sel l (pre ++ [x]) = sel l pre := by
  unfold sel
  rw [List.filter_append]
  simp [h]
theorem sel_len (l : Int) (pre : List WA) : (sel l pre).length ≤ pre.length := List.length_filter_le _ _

set_option maxRecDepth 100000 in
set_option maxHeartbeats 4000000 in
theorem walk1_any (f : FuncId) (caps : Array Value) (S : Nat → Prop) (I : List WA → World → Prop) (Ix : List WA → World → Prop) (lb tb : Nat) (sv : Value) (l : Int) (ws : List Wd) (w : World)
    (hcf : ∀ (W : World) (args : Array Value), (callFunc f args).run Try.prog W = .ok (Next.enter f args) W) (hreach : ws.length ≤ 1000000) (hby : ∀ x ∈ ws, ∀ y ∈ x.name, 0 ≤ y ∧ y ≤ 255)
    (hlb : w.cell? ⟨lb, 0, none⟩ = some sv) (htb : w.cell? ⟨tb, 0, none⟩ = some (.int .i64 l)) (htS : ¬ S tb) (hrow : WdSl S w.heap.size w sv ws) (hS : ∀ k, S k → k < w.heap.size) (h0 : I [] w)
    (hI : ∀ pre W W', I pre W → w.heap.size ≤ W.heap.size → Fr (fun k => w.heap.size ≤ k) W W' → I pre W') (hIx : ∀ pre W W', Ix pre W → w.heap.size ≤ W.heap.size → Fr (fun k => w.heap.size ≤ k) W W' → Ix pre W')
    (hst : ∀ (pre : List WA) (x : WA) W, pre.length < ws.length → x.1.2.list = l → I pre W → Fr (fun k => S k ∨ w.heap.size ≤ k) w W → Calls Try.prog f (#[.int .i64 ((x.1.1 : Int) + 1), .agg #[.string (strOfNums x.1.2.name), .int .i64 x.1.2.xt, .int .i64 x.1.2.list, .bool x.1.2.imm, .bool x.1.2.only]] ++ caps) W fun e W' => ((e = .returned (.bool true) ∧ I (pre ++ [x]) W') ∨ (e = .returned (.bool false) ∧ Ix (pre ++ [x]) W')) ∧ Fr S W W') :
    Calls Try.prog 39 #[.func (.func f) #[] caps, .pointer (some ⟨lb, 0, none⟩), .pointer (some ⟨tb, 0, none⟩)] w fun e w' => e = .returned (.tuple #[]) ∧ (I (sel l (upto (bwW ws) ws.length)) w' ∨ ∃ k, k ≤ ws.length ∧ Ix (sel l (upto (bwW ws) k)) w') ∧ Fr S w w' := by
  refine (callsIn_wide (n := 4)).1 ?_
  refine callsIn_of_wp_marks Try.func39 rfl trivial ?_ rfl
  simp only [Try.ntmps39, List.size_toArray, List.length_cons, List.length_nil, Nat.reduceAdd, Nat.reduceSub, Array.replicate_succ, Array.replicate_zero, List.push_toArray, List.append_toArray, List.nil_append, List.cons_append]
  obtain ⟨A, cap, hsv, hr1⟩ := hrow
  have HSV := Lib.hid hsv
  have HROW := Lib.hid (show WdSl S w.heap.size w sv ws from ⟨A, cap, hsv, hr1⟩)
  have hlbl := World.block_lt_of_cell? _ _ hlb
  have htbl := World.block_lt_of_cell? _ _ htb
  dsimp only at hlbl htbl
  have HI := Lib.hid hI
  have HIX := Lib.hid hIx
  have HST := Lib.hid hst
  have HS := Lib.hid hS
  have H0 := Lib.hid h0
  clear hsv hr1 hI hIx hst hS h0
  gi_wp2_with (refine ⟨trivial, ?_⟩; gi_at_call 40; refine (callsIn_wide.2 (backw_any _ _ A ws.length cap HSV.out)).mono ?_; rintro e w' ⟨rfl, rfl⟩)
  obtain ⟨W0, hW0⟩ : ∃ W0, ((w.alloc (.cells #[.func (.func f) #[] caps] 40)).alloc (.cells #[sv] 74)) = W0 := ⟨_, rfl⟩
  rw [hW0]
  have hsz : W0.heap.size = w.heap.size + 2 := by rw [← hW0]; simp
  have hF0 : Fr0 w W0 := by
    rw [← hW0]
    exact ((Fr.refl _ w).alloc _).alloc _
  have bY : Blk W0 w.heap.size 40 #[.func (.func f) #[] caps] := by
    rw [← hW0]
    exact (Blk.new w _ _).alloc _
  have bB : Blk W0 (w.heap.size + 1) 74 #[sv] := by
    rw [← hW0]
    have := Blk.new (w.alloc (.cells #[.func (.func f) #[] caps] 40)) 74 #[sv]
    simpa using this
  clear hW0
  refine wpIn_rangeFunc_ownH rfl (by omega) (gf := 62) (lb := #[.pointer (some ⟨w.heap.size + 1, 0, none⟩)]) rfl trivial (enters_of Try.func62 (by kernel_rfl) rfl)
    (backw_stops S (w.heap.size + 1) w.heap.size sv ws hreach hby W0 (by omega) (by omega) (bB.cell 0) (HROW.out.fr (Nat.le_refl _) hF0 (fun _ _ _ x => x))) kpS_t (kpS_b (by omega) (by omega)) (Below.refl _ _) (fun _ => rfl)
    (fun pre W => I (sel l pre) W ∧ Fr (fun k => S k ∨ w.heap.size ≤ k) w W ∧ Blk W w.heap.size 40 #[.func (.func f) #[] caps] ∧ w.heap.size + 2 ≤ W.heap.size)
    (fun c pre W => c = .ret ∧ Ix (sel l pre) W ∧ Fr (fun k => S k ∨ w.heap.size ≤ k) w W)
    (fun pre W W' row ⟨h1, h2, h3, h4⟩ hg hr => ⟨HI.out _ _ _ h1 (h2.size) ((Fr.refl _ W).grown hg (fun k hk => .inl (by have := (hr k hk).1; omega))), h2.grown hg (fun k hk => .inl (.inr (by have := (hr k hk).1; omega))), h3.grown hg (fun e => by have := (hr _ e.symm).1; omega), Nat.le_trans h4 hg.size⟩)
    (fun c pre W W' row ⟨h0, h1, h2⟩ hg hr => ⟨h0, HIX.out _ _ _ h1 (h2.size) ((Fr.refl _ W).grown hg (fun k hk => .inl (by have := (hr k hk).1; omega))), h2.grown hg (fun k hk => .inl (.inr (by have := (hr k hk).1; omega)))⟩)
    ⟨HI.out _ _ _ H0.out (Nat.le_refl _) hF0.of0, hF0.of0, bY, Nat.le_of_eq hsz.symm⟩
    (fun x a' W => ∃ g : Nat, w.heap.size + 2 ≤ g ∧ Blk W g 30 #[.string (strOfNums x.1.2.name), .int .i64 x.1.2.xt, .int .i64 x.1.2.list, .bool x.1.2.imm, .bool x.1.2.only] ∧
      a' = { tmps := #[.func (.func f) #[] caps, .pointer (some ⟨lb, 0, none⟩), .pointer (some ⟨tb, 0, none⟩), .pointer (some ⟨w.heap.size, 0, none⟩), .int .i64 (x.1.1 : Int), .pointer (some ⟨g, 0, none⟩), sv, .func (.func 62) #[] #[.pointer (some ⟨w.heap.size + 1, 0, none⟩)],
        .int .i64 (x.1.1 : Int), .agg #[.string (strOfNums x.1.2.name), .int .i64 x.1.2.xt, .int .i64 x.1.2.list, .bool x.1.2.imm, .bool x.1.2.only], undef, undef, undef, undef, undef, undef, undef, undef, undef, undef, undef, undef], defers := [] })
    (fun x a' _ W W' row ⟨g, hg0, hgb, e⟩ hg hr => ⟨g, hg0, hgb.grown hg (fun e => by obtain ⟨_, o, ho, hc⟩ := hr _ e.symm; unfold Blk at hgb; rw [hgb] at ho; injection ho with ho; subst ho; cases hc), e⟩) ?assign ?body ?done ?stop
  case assign =>
    rintro l0 pre x W K ⟨h1, h2, h3, h4⟩ hK
    gi_wp2
    have hfa := (Fr.refl (fun _ => False) W).alloc (.cells #[.string (strOfNums x.1.2.name), .int .i64 x.1.2.xt, .int .i64 x.1.2.list, .bool x.1.2.imm, .bool x.1.2.only] 30)
    exact hK _ _ (keepsFrom_alloc _ _ _) ⟨hfa.of0, hfa.block _ (by omega) (fun x => x)⟩ ⟨HI.out _ _ _ h1 h2.size hfa.of0, h2.trans hfa.of0, h3.fr0 hfa, Nat.le_trans h4 hfa.size⟩ ⟨W.heap.size, h4, Blk.new W _ _, rfl⟩
  case body =>
    rintro l0 pre x a' W hl0 hr ⟨h1, h2, h3, h4⟩ ⟨g, hg0, hgb, rfl⟩ hlen
    have hi := x.2.1
    obtain ⟨i, hie⟩ : ∃ i, x.1.1 = i := ⟨_, rfl⟩
    have g0 := hgb.cell 0
    have g1 := hgb.cell 1
    have g2 := hgb.cell 2
    have g3 := hgb.cell 3
    have g4 := hgb.cell 4
    have k0 := h3.cell 0
    have x1 : IntKind.i64.wrap ((i : Int) + 1) = (i : Int) + 1 := IntWalk.i64_in _ (by omega)
    have ht := (h2.cell (p := ⟨tb, 0, none⟩) htbl (fun e => e.elim htS (fun e => by dsimp only at e; omega))).trans htb
    by_cases hxl : x.1.2.list = l
    · have hC := HST.out (sel l pre) x W (Nat.lt_of_le_of_lt (sel_len l pre) hlen) hxl h1 h2
      rw [hie] at hC ⊢
      rw [hxl] at g2 hC
      have HC := Lib.hid hC
      have HXL := Lib.hid hxl
      have HIE := Lib.hid hie
      clear hC hxl hie
      gi_wp2_with (refine ⟨trivial, ?_⟩; refine (CallsIn.inRound l0 (callsIn_wide.2 HC.out)).mono ?_; rintro e w1 ⟨⟨rfl, hi1⟩ | ⟨rfl, hi1⟩, hf1⟩)
      · exact ⟨keepsFrom_of hf1 (fun k hk => by have := HS.out k hk; omega), ⟨hf1.mono (fun k hk h => .inr h), hf1.block _ (by omega) (fun e => by have := HS.out _ e; omega)⟩, by rw [sel_yes HXL.out]; exact hi1, h2.trans (hf1.mono (fun k hk h => .inl h)), h3.fr hf1 (fun e => by have := HS.out _ e; omega), Nat.le_trans h4 hf1.size⟩
      · exact ⟨keepsFrom_of hf1 (fun k hk => by have := HS.out k hk; omega), rfl, by rw [sel_yes HXL.out]; exact hi1, h2.trans (hf1.mono (fun k hk h => .inl h))⟩
    · have hq : (x.1.2.list == l) = false := by simp; exact hxl
      have HXL := Lib.hid hxl
      rw [hie]
      clear hxl
      gi_wp2
      refine ⟨(fun f h => by cases h), ?_⟩
      gi_wp2
      exact ⟨KeepsFrom.refl _ _, ⟨Fr.refl _ _, rfl⟩, by rw [sel_no HXL.out]; exact h1, h2, h3, h4⟩
  case done =>
    rintro D ys W hD rfl ⟨h1, h2, h3, h4⟩ hK
    gi_wp2
    refine ⟨by simp, .inl ⟨_, _, rfl, run_takeDeferred hK, ?_⟩⟩
    have hp := fr_put (W := W) (S := fun k => w.heap.size ≤ k) (.deferred none) (show w.heap.size ≤ D by omega)
    refine ⟨_, results_none rfl _ _ _, rfl, .inl (HI.out _ _ _ h1 h2.size hp), ?_⟩
    exact (h2.trans (hp.mono (fun _ _ h => .inr h))).mono (fun k hk h => h.elim id (fun h => by omega))
  case stop =>
    rintro D c pre W hD ⟨k, hk, rfl⟩ ⟨rfl, h1, h2⟩ hK
    gi_wp2
    refine ⟨by simp, .inl ⟨_, _, rfl, run_takeDeferred hK, ?_⟩⟩
    have hp := fr_put (W := W) (S := fun k => w.heap.size ≤ k) (.deferred none) (show w.heap.size ≤ D by omega)
    refine ⟨_, results_none rfl _ _ _, rfl, .inr ⟨k, hk, HIX.out _ _ _ h1 h2.size hp⟩, ?_⟩
    exact (h2.trans (hp.mono (fun _ _ h => .inr h))).mono (fun k hk h => h.elim id (fun h => by omega))

theorem wsliceNil (W : World) (A : Option Addr) (l c : Nat) : (binOp .eql 74 (.slice A l c) (.slice none 0 0)).run Try.prog W = .ok (.bool A.isNone) W := by
  simp only [binOp]
  simp [run_equal_slice_nil (P := Try.prog) W 74 _ A l c Try.underlying74]
theorem infoW5 : ∃ i0, Try.prog.info? 30 = some i0 ∧ ∃ z0, i0.zero = some z0 ∧ z0.cells.size = 5 ∧ i0.size = 5 ∧ i0.bytes = 40 := by
  have hiw := infoW
  cases hi : Try.prog.info? 30 with
  | none => rw [hi] at hiw; cases hiw
  | some i0 =>
    rw [hi] at hiw
    simp only [Option.map_some, Option.some.injEq, Prod.mk.injEq] at hiw
    obtain ⟨h1, h2, h3⟩ := hiw
    cases hz : i0.zero with
    | none => rw [hz] at h1; cases h1
    | some z0 =>
      rw [hz] at h1
      simp only [Option.map_some, Option.some.injEq] at h1
      exact ⟨i0, rfl, z0, hz, h1, h2, h3⟩
theorem wcells_one {ws : List Wd} : ∀ u ∈ ws.flatMap Wd.cells, u.oneCell' = true := fun u hu => by
  obtain ⟨x, _, hx⟩ := List.mem_flatMap.1 hu
  simp [Wd.cells] at hx
  rcases hx with rfl | rfl | rfl | rfl | rfl <;> rfl
theorem wcells_len (ws : List Wd) : (ws.flatMap Wd.cells).length = ws.length * 5 := by
  induction ws with
  | nil => rfl
  | cons a l ih => rw [List.flatMap_cons, List.length_append, ih, List.length_cons, show a.cells.length = 5 from rfl]; omega
set_option maxRecDepth 100000 in
set_option maxHeartbeats 2000000 in
theorem Clone_words (v : Value) (ws : List Wd) (w : World) (hv : Rd w v ws.length 5 (ws.flatMap Wd.cells)) (hl : ws.length ≤ 1000000) : Calls Try.prog 38 #[v] w fun e w' => ∃ u, e = .returned u ∧ w'.ownsRow w.heap.size 30 5 u ws.length (ws.flatMap Wd.cells) ∧ Fr0 w w' := by
  obtain ⟨i0, hi, z0, hz0, hz1, hz2, hz3⟩ := infoW5
  have HI := Lib.hid hi
  have HZ := Lib.hid (And.intro hz0 (And.intro hz1 (And.intro hz2 hz3)))
  obtain ⟨h1, A, cap, rfl, h2⟩ := hv
  have heq := fun W => wsliceNil W A ws.length cap
  have hbz : (w.alloc (.cells #[] 30)).ownsRow w.heap.size 30 5 (.slice (some ⟨w.heap.size, 0, none⟩) 0 0) 0 [] := ⟨rfl, .inr ⟨w.heap.size, 0, #[], rfl, Nat.le_refl _, Blk.new w _ _, Nat.le_refl _, by unfold maxLen; omega, rfl, rfl⟩⟩
  have HBZ := Lib.hid hbz
  have hrd : Rd (w.alloc (.cells #[] 30)) (.slice A ws.length cap) ws.length 5 (ws.flatMap Wd.cells) := by
    refine ⟨h1, A, cap, rfl, fun hm => ?_⟩
    obtain ⟨b, off, eb, hc⟩ := h2 hm
    refine ⟨b, off, eb, fun j u hj => ?_⟩
    have h3 := hc j u hj
    have := World.block_lt_of_cell? _ _ h3
    exact (((Fr.refl (fun _ => False) w).alloc _).cell (p := ⟨b, off + j, none⟩) this (fun x => x)).trans h3
  have HRD := Lib.hid hrd
  have h0 : A = none → ws = [] := fun e => by
    rcases Nat.eq_zero_or_pos ws.length with h | h
    · exact List.eq_nil_of_length_eq_zero h
    · obtain ⟨b, off, eb, _⟩ := h2 h
      rw [e] at eb
      cases eb
  clear h1 h2 hi hz0 hz1 hz2 hz3 hbz hrd
  cases A with
  | none =>
    obtain rfl := h0 rfl
    have heq0 := fun W => wsliceNil W none 0 cap
    rw [show ([] : List Wd).length = 0 from rfl]
    clear heq
    go_enter Try.func38, Try.ntmps38
    go_wp2_with fail
    go_ret
    exact ⟨_, rfl, World.ownsRow_nil _ _ _ _, Fr.refl _ _⟩
  | some ad =>
    obtain ⟨n, hn⟩ : ∃ n, ws.length = n := ⟨_, rfl⟩
    have HN := Lib.hid hn
    have HL := Lib.hid (wcells_len ws)
    rw [hn] at heq HRD hl ⊢
    clear h0 hn
    go_enter Try.func38, Try.ntmps38
    go_wp2_with (at_builtin; refine wpList_append_src (m := n) (news := ws.flatMap Wd.cells) (size := 5) (bytes := 40) rfl (.tmp 5) (.tmp 6) rfl Try.underlying74 HI.out HZ.out.1 HZ.out.2.2.1 HZ.out.2.2.2 HZ.out.2.1 (by decide) rfl rfl HBZ.out HRD.out wcells_one (by unfold maxLen; omega) (by omega) (by simp) ?_; intro v6 w6 ho6 hg6 hk6; have HO6 := Lib.hid ho6; have HF6 := Lib.hid (((Fr.refl (fun _ => False) w).alloc _).grown hg6 (fun j hj => .inr (own_lo HBZ.out j hj).1)); clear ho6 hg6 hk6)
    go_ret
    refine ⟨_, rfl, ?_, HF6.out⟩
    have := HO6.out
    simp only [Nat.zero_add, List.nil_append] at this
    exact this

/-- The words' slice that a walk goes through. -/
theorem wdRow_of_own {W : World} {B n : Nat} {u : Value} {ws : List Wd} (h : W.ownsRow B 30 5 u ws.length (ws.flatMap Wd.cells)) {S : Nat → Prop} (hS : ∀ k, u.ownBlock = some k → k < n ∧ ¬ S k) : WdSl S n W u ws := by
  rcases h.2 with ⟨e, e0⟩ | ⟨g, cap, cs, e, hb, hg, hle, hm, hsz, htk⟩
  · subst e
    exact ⟨none, 0, by rw [e0], fun h => by omega⟩
  · subst e
    refine ⟨_, cap, rfl, fun _ => ⟨g, rfl, (hS g rfl).1, (hS g rfl).2, fun i x hx => ?_⟩⟩
    have hi := (List.getElem?_eq_some_iff.1 hx).1
    have hc : ∀ j, j < 5 → W.cell? ⟨g, i * 5 + j, none⟩ = x.cells[j]? := fun j hj => by
      rw [cell_of_row W g (i * 5 + j) cs _ _ hg]
      have e1 := flat_at hx hj
      rw [← htk, List.getElem?_take, if_pos (by omega)] at e1
      rw [← e1, Array.getElem?_toList]
    exact ⟨hc 0 (by omega), hc 1 (by omega), hc 2 (by omega), hc 3 (by omega), hc 4 (by omega)⟩

section
variable {B c m q : Nat} {wv ov : Value} {lists cur : Int} {order : List Int} {ws : List Wd} {tv : Int × ByteArray → Value}
set_option maxRecDepth 100000 in
set_option maxHeartbeats 2000000 in
theorem Walk_nm (l : Int) (w : World) (h : Nm w B c m wv ov lists cur order ws q tv) : Calls Try.prog 15 #[.pointer (some ⟨c, 0, none⟩), .int .i64 l] w fun e w' => ∃ lb tb u, e = .returned (.func (.func 39) #[] #[.pointer (some ⟨lb, 0, none⟩), .pointer (some ⟨tb, 0, none⟩)]) ∧ w.heap.size ≤ lb ∧ w.heap.size ≤ tb ∧ Blk w' lb 74 #[u] ∧ Blk w' tb 3 #[.int .i64 l] ∧ w'.ownsRow w.heap.size 30 5 u ws.length (ws.flatMap Wd.cells) ∧ Fr0 w w' := by
  have hf : Fr0 w ((w.alloc (.cells #[.int .i64 l] 3)).alloc (.cells #[.slice none 0 0] 74)) := ((Fr.refl _ w).alloc _).alloc _
  have hb1 : Blk ((w.alloc (.cells #[.int .i64 l] 3)).alloc (.cells #[.slice none 0 0] 74)) w.heap.size 3 #[.int .i64 l] := (Blk.new w _ _).alloc _
  have hb2 : Blk ((w.alloc (.cells #[.int .i64 l] 3)).alloc (.cells #[.slice none 0 0] 74)) (w.heap.size + 1) 74 #[.slice none 0 0] := by
    have := Blk.new (w.alloc (.cells #[.int .i64 l] 3)) 74 #[.slice none 0 0]
    simpa using this
  have HNO := Lib.hid (none_nm _ (h.fr0 hf))
  have hfew := h.few
  have HCL := Lib.hid (Clone_words wv ws _ (own_src (h.fr0 hf).words) (by omega))
  have hc0 := (h.fr0 hf).cells.1
  have HF := Lib.hid hf
  have HB1 := Lib.hid hb1
  have HB2 := Lib.hid hb2
  clear h hf hb1 hb2
  go_enter Try.func15, Try.ntmps15
  go_wp2_with (first | (go_at_call 33; refine HNO.out.mono ?_; rintro e w' ⟨rfl, rfl⟩) | (go_at_call 38; refine HCL.out.mono ?_; rintro e w2 ⟨u, rfl, hu, hf2⟩; have b2 := HB2.out.fr0 hf2; have b0 := b2.frozen 0; have b3 := b2.cell 0; obtain ⟨_, A, cap, rfl, _⟩ := own_src hu; have HB22 := Lib.hid b2; have HB12 := Lib.hid (HB1.out.fr0 hf2); have HU := Lib.hid hu; have HF2 := Lib.hid (HF.out.trans hf2); clear b2 hu hf2))
  go_ret
  have hb := HB22.out.set_ 0 (.slice A ws.length cap)
  simp only [List.setIfInBounds_toArray, List.set_cons_zero] at hb
  have hs : w.heap.size ≤ ((w.alloc (.cells #[.int .i64 l] 3)).alloc (.cells #[.slice none 0 0] 74)).heap.size := HF.out.size
  refine ⟨_, _, _, rfl, by omega, Nat.le_refl _, hb, HB12.out.far (p := ⟨w.heap.size + 1, 0, none⟩) (by dsimp only; omega) _, ?_, HF2.out.setCell (p := ⟨w.heap.size + 1, 0, none⟩) (.inr (by dsimp only; omega)) _⟩
  refine own_mono (own_fr HU.out ((Fr.refl (fun k => k = w.heap.size + 1) w2).setCell (p := ⟨w.heap.size + 1, 0, none⟩) (.inl rfl) _) (fun k hk e => ?_)) hs
  exact word_own HU.out HB22.out (by decide) (e ▸ hk)
end
def isF : Option TypeDesc → Bool
  | some (.func ..) => true
  | _ => false
theorem funcU : isF (Try.prog.underlying 38) = true := by kernel_rfl
theorem eqIn_func {P : Program} {t : TypeId} (h : isF (P.underlying t) = true) (d : Nat) (W : World) (f : FuncId) (g caps : Array Value) : (Op.equalIn (d + 1) t (.func (.func f) g caps) .nilFunc).run P W = .ok false W := by
  cases hu : P.underlying t with
  | none => rw [hu] at h; cases h
  | some t =>
    rw [hu] at h
    cases t <;> first | (cases h; done) | skip
    simp only [Op.equalIn, Sem.run_bind, run_underlying hu, Result.andThen_ok]
    rfl
theorem funcNe (W : World) (f : FuncId) (g caps : Array Value) : (binOp .neq 38 (.func (.func f) g caps) .nilFunc).run Try.prog W = .ok (.bool true) W := by
  have := eqIn_func funcU 9999 W f g caps
  simp only [binOp]
  simp [Op.equal, Op.maxDepth, this]
theorem funcEq (W : World) (f : FuncId) (g caps : Array Value) : (binOp .eql 38 (.func (.func f) g caps) .nilFunc).run Try.prog W = .ok (.bool false) W := by
  have := eqIn_func funcU 9999 W f g caps
  simp only [binOp]
  simp [Op.equal, Op.maxDepth, this]
end Go.Proofs.Ytmhjnbolngdijaa
