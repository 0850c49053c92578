/- Flow: the document's turn: Leave, EndOf. -/
import Derived.Test.YtoldegajbonliaaFr10
namespace Go.Proofs.Ytoldegajbonliaa
open Go Go.RowKit
set_option linter.unusedVariables false
attribute [local go_sem] Oper.semAt_some

section
variable {w w' : World} {B r p q cap g c i : Nat} {tv tv' lv lv' v : Value} {ts ts' : List Tk} {xs : List RT} {T : Nat → Prop} {x : RT} {a : Int}
/-- A thing's row, a token more. -/
def moreT (xs : List RT) (i : Nat) (x : RT) (a : Int) (v : Value) : List RT := xs.set i ⟨x.kind, x.place, x.to_ ++ [a], v⟩
theorem RF.grow (h : RF w B r p xs (.slice (some ⟨g, 0, none⟩) xs.length c) ts q cap tv) (hi : xs[i]? = some x) (hg : w.grownBy w' x.tv.ownBlock) (ho : OwnI w' B v (x.to_ ++ [a])) (hk : v.ownBlock = x.tv.ownBlock ∨ v.ownBlock = some w.heap.size) (hl : x.to_.length < 1000) :
    RF (w'.setCell ⟨g, i * 3 + 2, none⟩ v) B r p (moreT xs i x a v) (.slice (some ⟨g, 0, none⟩) xs.length c) ts q cap tv ∧ Turn (RFIn r p q tv (.slice (some ⟨g, 0, none⟩) xs.length c) xs) (RFIn r p q tv (.slice (some ⟨g, 0, none⟩) xs.length c) (moreT xs i x a v)) w (w'.setCell ⟨g, i * 3 + 2, none⟩ v) := by
  have hx := List.mem_of_getElem? hi
  have hil := (List.getElem?_eq_some_iff.1 hi).1
  have f1 := (Fr.refl (fun k => x.tv.ownBlock = some k) w).grown hg (fun k hk => .inl hk)
  have f2 := (Fr.refl (fun k => k = g) w').setCell (p := ⟨g, i * 3 + 2, none⟩) (.inl rfl) v
  have hlen : (moreT xs i x a v).length = xs.length := by unfold moreT; rw [List.length_set]
  have hint : ∀ k, x.tv.ownBlock = some k → ∃ cs, Blk w k 3 cs := fun k hk => own_blk (h.js x hx).1 hk
  have hgb : ∃ cs, Blk w g 89 cs := own_blk h.ls rfl
  obtain ⟨gcs, hgb⟩ := hgb
  have hgn : ∀ k, (∃ cs, Blk w k 3 cs) → k ≠ g := fun k ⟨cs, hb⟩ => Blk.ne_ hb hgb (by decide)
  have hgx : ¬ x.tv.ownBlock = some g := fun e => hgn g (hint g e) rfl
  have hgb' := hgb.fr f1 hgx
  have hrn : ¬ x.tv.ownBlock = some r := fun e => by
    obtain ⟨cs, hb⟩ := hint r e
    exact Blk.ne_ hb h.fo (by decide) rfl
  have hfo := h.fo.fr f1 hrn
  have hpl := h.pl.fr f1 (fun k hk e => by
    obtain ⟨cs, hb⟩ := hint k e
    exact h.pl.no hb (by decide) (by decide) (by decide) hk)
  have hls := own_fr h.ls f1 (fun k hk e => hgx (by
    have : g = k := by simpa [Value.ownBlock] using hk
    rw [this]
    exact e))
  have hoth : ∀ (j : Nat) (y : RT), xs[j]? = some y → j ≠ i → OwnI w' B y.tv y.to_ := fun j y hj hne => own_fr (h.js y (List.mem_of_getElem? hj)).1 f1 (fun k hk e => hne (h.dj j i y x k hj hi hk e))
  have hog2 : ∀ (u : Value) (is : List Int), OwnI w' B u is → OwnI (w'.setCell ⟨g, i * 3 + 2, none⟩ v) B u is := fun u is hu => own_fr hu ((Fr.refl (fun k => k = g) w').setCell (p := ⟨g, i * 3 + 2, none⟩) (.inl rfl) v) (fun k hk e => by
    subst e
    obtain ⟨cs, hb⟩ := own_blk hu hk
    exact Blk.ne_ hb hgb' (by decide) rfl)
  have hat : ∀ (j : Nat) (y : RT), (moreT xs i x a v)[j]? = some y → (j = i ∧ y = ⟨x.kind, x.place, x.to_ ++ [a], v⟩) ∨ (j ≠ i ∧ xs[j]? = some y) := fun j y hj => by
    unfold moreT at hj
    rw [List.getElem?_set] at hj
    split at hj
    · rename_i e
      exact .inl ⟨e.symm, (Option.some.inj hj).symm⟩
    · rename_i e
      exact .inr ⟨fun e2 => e e2.symm, hj⟩
  have hnew : ∀ k, v.ownBlock = some k → ∀ (j : Nat) (y : RT), xs[j]? = some y → y.tv.ownBlock = some k → j = i := fun k hv j y hj hy => by
    rcases hk with e | e
    · exact h.dj j i y x k hj hi hy (e ▸ hv)
    · rw [e] at hv
      have := (own_lo (h.js y (List.mem_of_getElem? hj)).1 k hy).2
      have : w.heap.size = k := by simpa using hv
      omega
  refine ⟨⟨hfo.fr f2 (fun e => Blk.ne_ hfo hgb' (by decide) e), hpl.fr f2 (fun k hk e => hpl.no hgb' (by decide) (by decide) (by decide) (e ▸ hk)), ?_, fun y hy => ?_, fun j l y z k hj hl' h1 h2 => ?_, h.lo, by rw [hlen]; exact h.few⟩, f1.mono (fun k _ hk => .inr (.inr (.inr ⟨x, hx, hk⟩))) |>.then f2 (fun k _ hk => hk ▸ .inr (.inr (.inl rfl))), fun k hk' => ?_⟩
  · rw [hlen]
    exact rowZ_set (j := 2) (x' := ⟨x.kind, x.place, x.to_ ++ [a], v⟩) rtz hls rfl hi (by omega) rfl
  · obtain ⟨j, hj⟩ := List.getElem?_of_mem hy
    rcases hat j y hj with ⟨_, rfl⟩ | ⟨hne, hj⟩
    · exact ⟨hog2 _ _ ho, by simp; omega⟩
    · exact ⟨hog2 _ _ (hoth j y hj hne), (h.js y (List.mem_of_getElem? hj)).2⟩
  · rcases hat j y hj with ⟨e1, rfl⟩ | ⟨n1, j1⟩ <;> rcases hat l z hl' with ⟨e2, rfl⟩ | ⟨n2, j2⟩
    · omega
    · exact absurd (hnew k h1 l z j2 h2) n2
    · exact absurd (hnew k h2 j y j1 h1) n1
    · exact h.dj j l y z k j1 j2 h1 h2
  · rcases hk' with h1 | h1 | h1 | ⟨y, hy, h1⟩
    · exact .inl (.inl h1)
    · exact .inl (.inr (.inl h1))
    · exact .inl (.inr (.inr (.inl h1)))
    · obtain ⟨j, hj⟩ := List.getElem?_of_mem hy
      rcases hat j y hj with ⟨_, rfl⟩ | ⟨_, hj⟩
      · rcases hk with e | e
        · exact .inl (.inr (.inr (.inr ⟨x, hx, e ▸ h1⟩)))
        · have : w.heap.size = k := by simpa using e.symm.trans h1
          exact .inr (by omega)
      · exact .inl (.inr (.inr (.inr ⟨y, List.mem_of_getElem? hj, h1⟩)))
theorem moreT_kinds (hi : xs[i]? = some x) : (moreT xs i x a v).map RT.kind = xs.map RT.kind := by
  unfold moreT
  rw [List.map_set]
  apply List.ext_getElem?
  intro j
  rw [List.getElem?_set]
  split
  · rename_i e
    subst e
    have hil := (List.getElem?_eq_some_iff.1 hi).1
    rw [List.length_map, if_pos hil, List.getElem?_map, hi]
    rfl
  · rfl
theorem moreT_len {M : Nat} (hi : xs[i]? = some x) (hM : ∀ y ∈ xs, y.to_.length ≤ M) : ∀ y ∈ moreT xs i x a v, y.to_.length ≤ M + 1 := fun y hy => by
  rcases List.mem_or_eq_of_mem_set hy with hy | rfl
  · exact Nat.le_succ_of_le (hM y hy)
  · have := hM x (List.mem_of_getElem? hi)
    simp
    omega
set_option maxRecDepth 100000 in
set_option maxHeartbeats 16000000 in
theorem turn_14 (at_ : Int) (M : Nat) (w : World) (h : RF w B r p xs lv ts q cap tv) (hs : ∃ x ∈ xs, x.kind = 3) (hM : ∀ x ∈ xs, x.to_.length ≤ M) (hM2 : M < 1000) : Calls Try.prog 52 #[.pointer (some ⟨r, 0, none⟩), .int .i64 14, .int .i64 at_] w fun e w' => (∃ v, e = .returned v) ∧ TurnR w B r p xs lv ts q cap tv M (xs.map RT.kind) w' := by
  have HLA := Lib.hid (last_r w h)
  have HH := Lib.hid h
  have HM := Lib.hid hM
  have HS := Lib.hid hs
  have HM2 := Lib.hid hM2
  clear h hM hs
  go_enter Try.func52, Try.ntmps52
  go_wp2_with fail
  go_at_call 50
  refine HLA.out.mono ?_
  rintro e w1 ⟨li, rfl, hli, rfl⟩
  obtain ⟨i, x, rfl, hix⟩ : ∃ (i : Nat) (x : RT), li = (i : Int) ∧ xs[i]? = some x := by
    rcases hli with ⟨_, hno⟩ | ⟨pre, x, suf, e, _, _, e2⟩
    · obtain ⟨x, hx, h3⟩ := HS.out
      exact absurd h3 (hno x hx)
    · refine ⟨pre.length, x, e2, ?_⟩
      rw [e, List.getElem?_append_right (Nat.le_refl _), Nat.sub_self]
      rfl
  obtain ⟨AJ, mj, cj, hj⟩ := HH.out.shape (List.mem_of_getElem? hix)
  obtain ⟨xk, xp, xt, xv⟩ := x
  dsimp only at hj
  subst hj
  have HLT := Lib.hid (show mj < 1000 from by
    have h1 := HM.out _ (List.mem_of_getElem? hix)
    have h2 : xt.length = mj := by
      obtain ⟨_, A, c, e, _⟩ := own_src (HH.out.js _ (List.mem_of_getElem? hix)).1
      injection e with _ e _
      exact e.symm
    dsimp only at h1
    omega)
  have HX := Lib.hid hix
  clear hix hli
  go_wp2_with fail
  have hrd := HH.out
  obtain ⟨gt, ct, et, d0, d1, d2, d3⟩ := hrd.things HX.out
  obtain ⟨_, _, r2⟩ := hrd.cells
  have hL := (hrd.js _ (List.mem_of_getElem? HX.out)).2
  have hrl := hrd.fo.lt
  have hgl : gt < w.heap.size := World.block_lt_of_cell? _ _ d2
  have hmj : xt.length = mj := by
    obtain ⟨_, A, c, e, _⟩ := own_src (hrd.js _ (List.mem_of_getElem? HX.out)).1
    injection e with _ e _
    exact e.symm
  rw [et] at r2
  obtain ⟨nx, hnx⟩ : ∃ nx, (xs).length = nx := ⟨_, rfl⟩
  rw [hnx] at r2
  have hix : i < nx := by rw [← hnx]; exact (List.getElem?_eq_some_iff.1 HX.out).1
  have hixI : (i : Int) < (nx : Int) := by omega
  have hix0 : (0 : Int) ≤ (i : Int) := by omega
  have HTO := Lib.hid (hrd.js _ (List.mem_of_getElem? HX.out)).1
  have HDM := Lib.hid (And.intro hmj (And.intro hnx et))
  dsimp only at hL d2
  rw [hmj] at hL
  have HLL := Lib.hid hL
  have HD3 := Lib.hid d3
  obtain ⟨i0, hi0⟩ := info_parts3 infoI
  have HI0 := Lib.hid hi0
  have HOW := Lib.hid (show ∀ o : Obj, ((w.alloc o).drew).ownsRow B 3 1 (.slice AJ mj cj) mj (xt.map (Value.int .i64)) from fun o => by
    have h := own_fr HTO.out (((Fr.refl (fun _ => False) w).alloc o).drew) (fun _ _ x => x)
    rwa [HDM.out.1] at h)
  have HRD := Lib.hid (show Rd ((w.alloc (.cells #[.int .i64 at_] 3)).drew) (.slice (some ⟨w.heap.size, 0, none⟩) 1 1) 1 1 [.int .i64 at_] from Rd.new w #[.int .i64 at_] rfl 1)
  have HBL := Lib.hid (show B ≤ ((w.alloc (.cells #[.int .i64 at_] 3)).drew).heap.size from Nat.le_trans hrd.pl.lo.2.2 (((Fr.refl (fun _ => False) w).alloc _).drew).size)
  have HLM := Lib.hid (show mj + 1 ≤ maxLen ∧ (mj + 1) * 8 ≤ 140737488355328 from by unfold maxLen; omega)
  have HIG := Lib.hid (show ∀ k, (Value.slice AJ mj cj).ownBlock = some k → k ≠ gt ∧ k ≠ r from fun k hk => by
    obtain ⟨cs, hb⟩ := own_blk HTO.out hk
    have hg' := own_blk hrd.ls (k := gt) (by rw [et]; rfl)
    obtain ⟨cs', hb'⟩ := hg'
    exact ⟨Blk.ne_ hb hb' (by decide), Blk.ne_ hb hrd.fo (by decide)⟩)
  clear hrd hmj hnx hL et d0 d1 hi0
  go_region_law (refine step_append_src (P := Try.prog) (t := 22) (e := 3) (size := 1) (n := mj) (m := 1) (base := B) (i := i0) (bytes := 8) (v := .slice AJ mj cj) (xs := xt.map (Value.int .i64)) (news := [.int .i64 at_]) rfl (.tmp 229) (.tmp 231) rfl Try.underlying22 HI0.out.1 HI0.out.2.1 HI0.out.2.2.1 HI0.out.2.2.2 rfl (by decide) rfl rfl (HOW.out _) HRD.out (fun u hu => by simp at hu; subst hu; rfl) HLM.out.1 HLM.out.2 HBL.out ?_; intro u2 u3 ho2 hg2 hk2; have HO3 := Lib.hid ho2; have HG3 := Lib.hid hg2; have HK3 := Lib.hid hk2; obtain ⟨_, A2, cap2, rfl, _⟩ := own_src ho2; have hfg := ((((Fr.refl (fun k => (Value.slice AJ mj cj).ownBlock = some k) w).alloc (.cells #[.int .i64 at_] 3)).drew).grown hg2 (fun k hk => .inl hk)); have r2 := (hfg.cell (p := ⟨r, 2, none⟩) hrl (fun e => (HIG.out _ e).2 rfl)).trans r2; have d2 := (hfg.cell (p := ⟨gt, i * 3 + 2, none⟩) hgl (fun e => (HIG.out _ e).1 rfl)).trans d2; have d3 := (hfg.frozen (p := ⟨gt, i * 3 + 2, none⟩) hgl (fun e => (HIG.out _ e).1 rfl)).trans d3; clear ho2 hg2 hk2 hfg)
  all_goals
    go_wp2_with fail
    refine bodyPost_end (results_none rfl _ _ _) rfl ?_
    have hfa := ((Fr.refl (fun _ => False) w).alloc (.cells #[.int .i64 at_] 3)).drew
    have hra := HH.out.fr0 hfa
    rw [HDM.out.2.2] at hra
    have hoo : OwnI u3 B (.slice A2 (mj + 1) cap2) (xt ++ [at_]) := by
      unfold OwnI
      rw [List.length_append, List.map_append, HDM.out.1]
      exact HO3.out
    have hgr := hra.grow (a := at_) HX.out HG3.out hoo HK3.out (by rw [HDM.out.1]; exact HLT.out)
    refine ⟨⟨_, rfl⟩, _, _, _, hgr.1, moreT_kinds HX.out, rfl, moreT_len HX.out HM.out, ?_⟩
    have ht := (Turn.of0 (S := RFIn r p q tv lv (xs)) hfa)
    rw [HDM.out.2.2] at ht ⊢
    exact ht.trans hgr.2
set_option maxRecDepth 100000 in
set_option maxHeartbeats 16000000 in
theorem turn_17 (at_ : Int) (x y : RT) (M : Nat) (w : World) (h : RF w B r p ((xs ++ [x]) ++ [y]) lv ts q cap tv) (hM : ∀ z ∈ (xs ++ [x]) ++ [y], z.to_.length ≤ M) (hM2 : M < 1000) : Calls Try.prog 52 #[.pointer (some ⟨r, 0, none⟩), .int .i64 17, .int .i64 at_] w fun e w' => (∃ v, e = .returned v) ∧ TurnR w B r p ((xs ++ [x]) ++ [y]) lv ts q cap tv M (xs.map RT.kind ++ [x.kind]) w' := by
  obtain ⟨Ay, my, cy, hy⟩ := h.shape (x := y) (by simp)
  obtain ⟨ky, py, ty, vy⟩ := y
  dsimp only at hy
  subst hy
  have hfdy := fun W => fieldAt ky py Ay my cy W
  obtain ⟨AJ, mj, cj, hj⟩ := h.shape (x := x) (by simp)
  have hmx : x.to_.length = mj := by
    obtain ⟨_, A, c, e, _⟩ := own_src (h.js x (by simp)).1
    rw [hj] at e
    injection e with _ e _
    exact e.symm
  have HLT := Lib.hid (show mj < 1000 from by
    have h1 := hM x (by simp)
    omega)
  obtain ⟨xk, xp, xt, xv⟩ := x
  dsimp only at hj
  subst hj
  have hfew := h.few
  simp only [List.length_append, List.length_cons, List.length_nil] at hfew
  have HFEW := Lib.hid hfew
  have HH := Lib.hid h
  have HM := Lib.hid hM
  obtain ⟨c0, c1⟩ := h.c01
  clear h hM hM2 hmx hfew
  go_enter Try.func52, Try.ntmps52
  go_wp2_with fail
  have HD0 := Lib.hid (HH.out.fr0 (Fr.refl (fun _ => False) w).drew)
  have k00 := HD0.out.c01
  go_region_held3 (fun V => V.cell? ⟨r, 0, none⟩ = some (.pointer (some ⟨p, 0, none⟩)) ∧ V.cell? ⟨r, 1, none⟩ = some (.int .i64 1)) (first | exact k00 | exact kk3 | exact kk2 | exact kk1) (first | (go_at_call 75; refine (pop_r _ _ HD0.out).mono ?_; rintro e w1 ⟨rfl, lv1, h1, o1, t1⟩; have HA1 := Lib.hid h1; have HT1 := Lib.hid t1; have kk1 := h1.c01; clear h1 o1 t1) | (go_at_call 76; refine (here_r _ HA1.out).mono ?_; rintro e w2 ⟨rfl, f2⟩; have HA2 := Lib.hid (HA1.out.fr0 f2); have HT2 := Lib.hid (HT1.out.trans (Turn.of0 f2)); have kk2 := HA2.out.c01; clear f2) | (go_at_call 76; refine (here_r _ HD0.out).mono ?_; rintro e w1 ⟨rfl, f1⟩; have HC1 := Lib.hid (HD0.out.fr0 f1); have HF1 := Lib.hid f1; have kk1 := HC1.out.c01; clear f1) | (go_at_call 75; refine (pop_r _ _ HC1.out).mono ?_; rintro e w2 ⟨rfl, lv1, h2, o2, t2⟩; have HA2 := Lib.hid h2; have HT2 := Lib.hid ((Turn.of0 HF1.out).trans t2); have kk2 := h2.c01; clear h2 o2 t2) | (go_at_call 74; refine (Patch_r _ _ _ HA2.out.pl).mono ?_; rintro e w3 ⟨rfl, hp3, f3⟩; have hq3 := HA2.out.patched hp3 f3; have HP3 := Lib.hid hq3.1; have HT3 := Lib.hid (((Turn.of0 (Fr.refl (fun _ => False) w).drew).trans HT2.out).trans hq3.2); have kk3 := hq3.1.c01; clear hp3 f3 hq3))
  all_goals
    clear k00 kk1 kk2 kk3 c0 c1
    have HX := Lib.hid (show (xs ++ [(⟨xk, xp, xt, .slice AJ mj cj⟩ : RT)])[xs.length]? = some ⟨xk, xp, xt, .slice AJ mj cj⟩ from by rw [List.getElem?_append_right (Nat.le_refl _), Nat.sub_self]; rfl)
    obtain ⟨L0, lc0, el⟩ := HP3.out.form
    have hlx : (xs ++ [(⟨xk, xp, xt, .slice AJ mj cj⟩ : RT)]).length = xs.length + 1 := by simp
    have rr2 := HP3.out.cells.2.2
    rw [el, hlx] at rr2
    obtain ⟨nn, hnn⟩ : ∃ nn, xs.length = nn := ⟨_, rfl⟩
    rw [hnn] at rr2
    have hwn : IntKind.i64.wrap ((nn : Int) + 1 - 1) = (nn : Int) := by have := HFEW.out; rw [IntWalk.i64_in _ (by omega)]; omega
    have hwn2 : IntKind.i64.wrap (((nn + 1 : Nat) : Int) - 1) = (nn : Int) := by have := HFEW.out; rw [IntWalk.i64_in _ (by omega)]; omega
    have hwn3 : IntKind.i64.wrap (nn : Int) = (nn : Int) := by have := HFEW.out; exact IntWalk.i64_in _ (by omega)
    go_wp2_with fail
    clear rr2 hwn hwn2 hwn3 el hlx
    subst hnn
    have hrd := HP3.out
    obtain ⟨gt, ct, et, d0, d1, d2, d3⟩ := hrd.things HX.out
    obtain ⟨_, _, r2⟩ := hrd.cells
    have hL := (hrd.js _ (List.mem_of_getElem? HX.out)).2
    have hrl := hrd.fo.lt
    have hgl : gt < w3.heap.size := World.block_lt_of_cell? _ _ d2
    have hmj : xt.length = mj := by
      obtain ⟨_, A, c, e, _⟩ := own_src (hrd.js _ (List.mem_of_getElem? HX.out)).1
      injection e with _ e _
      exact e.symm
    rw [et] at r2
    obtain ⟨nx, hnx⟩ : ∃ nx, (xs ++ [(⟨xk, xp, xt, .slice AJ mj cj⟩ : RT)]).length = nx := ⟨_, rfl⟩
    rw [hnx] at r2
    have hix : xs.length < nx := by rw [← hnx]; exact (List.getElem?_eq_some_iff.1 HX.out).1
    have hixI : (xs.length : Int) < (nx : Int) := by omega
    have hix0 : (0 : Int) ≤ (xs.length : Int) := by omega
    have HTO := Lib.hid (hrd.js _ (List.mem_of_getElem? HX.out)).1
    have HDM := Lib.hid (And.intro hmj (And.intro hnx et))
    dsimp only at hL d2
    rw [hmj] at hL
    have HLL := Lib.hid hL
    have HD3 := Lib.hid d3
    obtain ⟨i0, hi0⟩ := info_parts3 infoI
    have HI0 := Lib.hid hi0
    have HOW := Lib.hid (show ∀ o : Obj, ((w3.alloc o).drew).ownsRow B 3 1 (.slice AJ mj cj) mj (xt.map (Value.int .i64)) from fun o => by
      have h := own_fr HTO.out (((Fr.refl (fun _ => False) w3).alloc o).drew) (fun _ _ x => x)
      rwa [HDM.out.1] at h)
    have HRD := Lib.hid (show Rd ((w3.alloc (.cells #[.int .i64 at_] 3)).drew) (.slice (some ⟨w3.heap.size, 0, none⟩) 1 1) 1 1 [.int .i64 at_] from Rd.new w3 #[.int .i64 at_] rfl 1)
    have HBL := Lib.hid (show B ≤ ((w3.alloc (.cells #[.int .i64 at_] 3)).drew).heap.size from Nat.le_trans hrd.pl.lo.2.2 (((Fr.refl (fun _ => False) w3).alloc _).drew).size)
    have HLM := Lib.hid (show mj + 1 ≤ maxLen ∧ (mj + 1) * 8 ≤ 140737488355328 from by unfold maxLen; omega)
    have HIG := Lib.hid (show ∀ k, (Value.slice AJ mj cj).ownBlock = some k → k ≠ gt ∧ k ≠ r from fun k hk => by
      obtain ⟨cs, hb⟩ := own_blk HTO.out hk
      have hg' := own_blk hrd.ls (k := gt) (by rw [et]; rfl)
      obtain ⟨cs', hb'⟩ := hg'
      exact ⟨Blk.ne_ hb hb' (by decide), Blk.ne_ hb hrd.fo (by decide)⟩)
    clear hrd hmj hnx hL et d0 d1 hi0
    go_region_law (refine step_append_src (P := Try.prog) (t := 22) (e := 3) (size := 1) (n := mj) (m := 1) (base := B) (i := i0) (bytes := 8) (v := .slice AJ mj cj) (xs := xt.map (Value.int .i64)) (news := [.int .i64 at_]) rfl (.tmp 280) (.tmp 282) rfl Try.underlying22 HI0.out.1 HI0.out.2.1 HI0.out.2.2.1 HI0.out.2.2.2 rfl (by decide) rfl rfl (HOW.out _) HRD.out (fun u hu => by simp at hu; subst hu; rfl) HLM.out.1 HLM.out.2 HBL.out ?_; intro u2 u3 ho2 hg2 hk2; have HO3 := Lib.hid ho2; have HG3 := Lib.hid hg2; have HK3 := Lib.hid hk2; obtain ⟨_, A2, cap2, rfl, _⟩ := own_src ho2; have hfg := ((((Fr.refl (fun k => (Value.slice AJ mj cj).ownBlock = some k) w3).alloc (.cells #[.int .i64 at_] 3)).drew).grown hg2 (fun k hk => .inl hk)); have r2 := (hfg.cell (p := ⟨r, 2, none⟩) hrl (fun e => (HIG.out _ e).2 rfl)).trans r2; have d2 := (hfg.cell (p := ⟨gt, xs.length * 3 + 2, none⟩) hgl (fun e => (HIG.out _ e).1 rfl)).trans d2; have d3 := (hfg.frozen (p := ⟨gt, xs.length * 3 + 2, none⟩) hgl (fun e => (HIG.out _ e).1 rfl)).trans d3; clear ho2 hg2 hk2 hfg)
    all_goals
      go_wp2_with fail
      refine bodyPost_end (results_none rfl _ _ _) rfl ?_
      have hfa := ((Fr.refl (fun _ => False) w3).alloc (.cells #[.int .i64 at_] 3)).drew
      have hra := HP3.out.fr0 hfa
      rw [HDM.out.2.2] at hra
      have hoo : OwnI u3 B (.slice A2 (mj + 1) cap2) (xt ++ [at_]) := by
        unfold OwnI
        rw [List.length_append, List.map_append, HDM.out.1]
        exact HO3.out
      have hgr := hra.grow (a := at_) HX.out HG3.out hoo HK3.out (by rw [HDM.out.1]; exact HLT.out)
      refine ⟨⟨_, rfl⟩, _, _, _, hgr.1, (moreT_kinds HX.out).trans (by simp), patchT_len _ _ _, moreT_len HX.out (fun y hy => HM.out y (List.mem_append_left _ hy)), ?_⟩
      have ht := (Turn.of0 (S := RFIn r p q tv lv1 (xs ++ [(⟨xk, xp, xt, .slice AJ mj cj⟩ : RT)])) hfa)
      have hz := HT3.out
      rw [HDM.out.2.2] at ht hz
      have hy := hz.trans (ht.trans hgr.2)
      exact (by simpa only [List.append_assoc, List.cons_append, List.nil_append] using hy)
end
end Go.Proofs.Ytoldegajbonliaa
