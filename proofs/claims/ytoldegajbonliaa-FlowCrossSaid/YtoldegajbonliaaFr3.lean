/- Flow: the document's flow: its stack; emit, here, push, is, last. -/
import Derived.Test.YtoldegajbonliaaFr1
import Derived.Test.YtoldegajbonliaaFr2
import Derived.Test.YtoldegajbonliaaFd6
namespace Go.Proofs.Ytoldegajbonliaa
open Go Go.RowKit
set_option linter.unusedVariables false
attribute [local go_sem] Oper.semAt_some

/-- A thing of the document's stack. -/
structure RT where
  kind : Int
  place : Int
  to_ : List Int
  tv : Value
def RT.cells (t : RT) : List Value := [.int .i64 t.kind, .int .i64 t.place, t.tv]
theorem rtz : ∀ t : RT, t.cells.length = 3 := fun _ => rfl
/-- The document's flow r compiles definition 1 of pool p: its stack xs in row lv. -/
structure RF (w : World) (B r p : Nat) (xs : List RT) (lv : Value) (ts : List Tk) (q cap : Nat) (tv : Value) : Prop where
  fo : Blk w r 50 #[.pointer (some ⟨p, 0, none⟩), .int .i64 1, lv]
  pl : Pl RP w B p q cap tv ts
  ls : w.ownsRow B 89 3 lv xs.length (xs.flatMap RT.cells)
  js : ∀ x ∈ xs, OwnI w B x.tv x.to_ ∧ x.to_.length ≤ 1000
  dj : ∀ (i j : Nat) (x y : RT) (k : Nat), xs[i]? = some x → xs[j]? = some y → x.tv.ownBlock = some k → y.tv.ownBlock = some k → i = j
  lo : B ≤ r
  few : xs.length ≤ 64
def RFIn (r p q : Nat) (tv lv : Value) (xs : List RT) (k : Nat) : Prop := PlIn p q tv k ∨ k = r ∨ lv.ownBlock = some k ∨ ∃ x ∈ xs, x.tv.ownBlock = some k
theorem own_blk {w : World} {B n size : Nat} {e : TypeId} {v : Value} {xs : List Value} (h : w.ownsRow B e size v n xs) {k : Nat} (hk : v.ownBlock = some k) : ∃ cs, Blk w k e cs := by
  rcases h.2 with ⟨e, _⟩ | ⟨g', cap', cs, e, _, hg, _⟩
  · rw [e] at hk; cases hk
  · rw [e] at hk
    injection hk with hk
    subst hk
    exact ⟨cs, hg⟩
section
variable {w w' : World} {B r p q cap : Nat} {tv tv' lv : Value} {ts ts' : List Tk} {xs : List RT} {T : Nat → Prop}
theorem RF.in_lo (h : RF w B r p xs lv ts q cap tv) {k : Nat} (hk : RFIn r p q tv lv xs k) : B ≤ k ∧ k < w.heap.size := by
  rcases hk with h1 | rfl | h1 | ⟨x, hx, h1⟩
  · exact h.pl.in_lo h1
  · exact ⟨h.lo, h.fo.lt⟩
  · exact own_lo h.ls k h1
  · exact own_lo (h.js x hx).1 k h1
theorem RF.fr (h : RF w B r p xs lv ts q cap tv) (hf : Fr T w w') (hT : ∀ k, RFIn r p q tv lv xs k → ¬ T k) : RF w' B r p xs lv ts q cap tv :=
  ⟨h.fo.fr hf (hT _ (.inr (.inl rfl))), h.pl.fr hf (fun k hk => hT k (.inl hk)), own_fr h.ls hf (fun k hk => hT k (.inr (.inr (.inl hk)))), fun x hx => ⟨own_fr (h.js x hx).1 hf (fun k hk => hT k (.inr (.inr (.inr ⟨x, hx, hk⟩)))), (h.js x hx).2⟩, h.dj, h.lo, h.few⟩
theorem RF.fr0 (h : RF w B r p xs lv ts q cap tv) (hf : Fr0 w w') : RF w' B r p xs lv ts q cap tv := h.fr hf fun _ _ x => x
theorem RF.form (h : RF w B r p xs lv ts q cap tv) : ∃ A c, lv = .slice A xs.length c := by
  obtain ⟨_, A, c, e, _⟩ := own_src h.ls
  exact ⟨A, c, e⟩
/-- No block of another type is the flow's. -/
theorem RF.no (h : RF w B r p xs lv ts q cap tv) {k : Nat} {t : TypeId} {cs : Array Value} (hb : Blk w k t cs) (h1 : t ≠ RP) (h2 : t ≠ 75) (h3 : t ≠ 39) (h4 : t ≠ 50) (h5 : t ≠ 89) (h6 : t ≠ 3) : ¬ RFIn r p q tv lv xs k := by
  rintro (hk | rfl | hk | ⟨x, hx, hk⟩)
  · exact h.pl.no hb h1 h2 h3 hk
  · exact Blk.ne_ hb h.fo h4 rfl
  · obtain ⟨cs', hg⟩ := own_blk h.ls hk
    exact Blk.ne_ hb hg h5 rfl
  · obtain ⟨cs', hg⟩ := own_blk (h.js x hx).1 hk
    exact Blk.ne_ hb hg h6 rfl
/-- A call that turns the pool alone. -/
theorem RF.pool (h : RF w B r p xs lv ts q cap tv) (hp : Pl RP w' B p q cap tv' ts') (ht : Turn (PlIn p q tv) (PlIn p q tv') w w') : RF w' B r p xs lv ts' q cap tv' ∧ Turn (RFIn r p q tv lv xs) (RFIn r p q tv' lv xs) w w' := by
  refine ⟨⟨h.fo.fr ht.1 (h.pl.no h.fo (by decide) (by decide) (by decide)), hp, own_fr h.ls ht.1 (fun k hk => ?_), fun x hx => ⟨own_fr (h.js x hx).1 ht.1 (fun k hk => ?_), (h.js x hx).2⟩, h.dj, h.lo, h.few⟩, ht.1.mono (fun k _ hk => .inl hk), fun k hk => ?_⟩
  · obtain ⟨cs', hb⟩ := own_blk h.ls hk
    exact h.pl.no hb (by decide) (by decide) (by decide)
  · obtain ⟨cs', hb⟩ := own_blk (h.js x hx).1 hk
    exact h.pl.no hb (by decide) (by decide) (by decide)
  · rcases hk with h1 | h1
    · rcases ht.2 k h1 with h2 | h2
      · exact .inl (.inl h2)
      · exact .inr h2
    · exact .inl (.inr h1)
theorem RF.cells (h : RF w B r p xs lv ts q cap tv) : w.cell? ⟨r, 0, none⟩ = some (.pointer (some ⟨p, 0, none⟩)) ∧ w.cell? ⟨r, 1, none⟩ = some (.int .i64 1) ∧ w.cell? ⟨r, 2, none⟩ = some lv := ⟨h.fo.cell 0, h.fo.cell 1, h.fo.cell 2⟩
theorem RF.things (h : RF w B r p xs lv ts q cap tv) {i : Nat} {x : RT} (hx : xs[i]? = some x) : ∃ g c, lv = .slice (some ⟨g, 0, none⟩) xs.length c ∧ w.cell? ⟨g, i * 3, none⟩ = some (.int .i64 x.kind) ∧ w.cell? ⟨g, i * 3 + 1, none⟩ = some (.int .i64 x.place) ∧ w.cell? ⟨g, i * 3 + 2, none⟩ = some x.tv ∧ w.frozen? ⟨g, i * 3 + 2, none⟩ = false := by
  obtain ⟨g, c, e, _, _, hc⟩ := rowZ_cells rtz h.ls rfl hx
  exact ⟨g, c, e, (hc 0 (by omega)).1, (hc 1 (by omega)).1, (hc 2 (by omega)).1, (hc 2 (by omega)).2⟩
set_option maxRecDepth 100000 in
set_option maxHeartbeats 2000000 in
theorem emit_r (op a : Int) (w : World) (h : RF w B r p xs lv ts q cap tv) (hl : ts.length < 50000) : Calls Try.prog 51 #[.pointer (some ⟨r, 0, none⟩), .int .i64 op, .int .i64 a] w fun e w' => e = .returned (.tuple #[.int .i64 ts.length, .int .i64 0]) ∧ ∃ tv', RF w' B r p xs lv (ts ++ [⟨op, a, 0⟩]) q cap tv' ∧ Turn (RFIn r p q tv lv xs) (RFIn r p q tv' lv xs) w w' := by
  have HH := Lib.hid (h.fr0 (Fr.refl (fun _ => False) w).drew)
  have HEM := Lib.hid (Emit_r ⟨op, a, 0⟩ _ HH.out.pl hl)
  obtain ⟨c0, c1, _⟩ := h.cells
  obtain ⟨n, hn⟩ : ∃ n, ts.length = n := ⟨_, rfl⟩
  unfold Tk.val at HEM
  rw [hn] at HEM ⊢
  clear h hn
  go_enter Try.func51, Try.ntmps51
  go_wp2_with fail
  go_region_held3 (fun V => V.cell? ⟨r, 0, none⟩ = some (.pointer (some ⟨p, 0, none⟩)) ∧ V.cell? ⟨r, 1, none⟩ = some (.int .i64 1)) (first | exact ⟨c0, c1⟩ | exact ⟨hx.1.cells.1, hx.1.cells.2.1⟩) (first | (go_at_call 43; refine HEM.out.mono ?_; rintro e w2 ⟨rfl, tv2, h2, t2⟩; have hx := HH.out.pool h2 t2))
  have HX := Lib.hid hx
  clear hx h2 t2
  go_wp2_with fail
  go_ret2
  exact ⟨rfl, _, HX.out.1, (Turn.of0 (Fr.refl (fun _ => False) w).drew).trans HX.out.2⟩
set_option maxRecDepth 100000 in
theorem here_r (w : World) (h : RF w B r p xs lv ts q cap tv) : Calls Try.prog 76 #[.pointer (some ⟨r, 0, none⟩)] w fun e w' => e = .returned (.int .i64 ts.length) ∧ Fr0 w w' := by
  have HLE := Lib.hid (Len_r _ (h.fr0 (Fr.refl (fun _ => False) w).drew).pl)
  obtain ⟨c0, c1, _⟩ := h.cells
  clear h
  go_enter Try.func76, Try.ntmps76
  go_wp2_with fail
  go_region_held3 (fun V => V.cell? ⟨r, 0, none⟩ = some (.pointer (some ⟨p, 0, none⟩)) ∧ V.cell? ⟨r, 1, none⟩ = some (.int .i64 1)) (exact ⟨c0, c1⟩) (first | (go_at_call 85; refine HLE.out.mono ?_; rintro e w2 ⟨rfl, rfl⟩))
  go_wp2_with fail
  go_ret
  exact ⟨rfl, (Fr.refl _ _).drew⟩
theorem infoRT : (Try.prog.info? 89).map (fun i => (i.zero, i.size, i.bytes)) = some (some (.agg #[.int .i64 0, .int .i64 0, .slice none 0 0]), 3, 40) := by kernel_rfl
set_option maxRecDepth 100000 in
set_option maxHeartbeats 4000000 in
theorem push_r (x : RT) (w : World) (h : RF w B r p xs lv ts q cap tv) (hx : OwnI w B x.tv x.to_ ∧ x.to_.length ≤ 1000) (hd : ∀ (y : RT) (k : Nat), y ∈ xs → y.tv.ownBlock = some k → x.tv.ownBlock ≠ some k) (hn : xs.length < 64) : Calls Try.prog 72 #[.pointer (some ⟨r, 0, none⟩), .agg #[.int .i64 x.kind, .int .i64 x.place, x.tv]] w fun e w' => (∃ v, e = .returned v) ∧ ∃ lv', RF w' B r p (xs ++ [x]) lv' ts q cap tv ∧ Fr (fun k => k = r ∨ lv.ownBlock = some k) w w' ∧ ∀ k, lv'.ownBlock = some k → lv.ownBlock = some k ∨ w.heap.size ≤ k := by
  obtain ⟨AJ, cj, hj⟩ : ∃ AJ cj, x.tv = .slice AJ x.to_.length cj := by
    obtain ⟨_, A, c, e, _⟩ := own_src hx.1
    exact ⟨A, c, e⟩
  obtain ⟨m, hm⟩ : ∃ m, x.to_.length = m := ⟨_, rfl⟩
  rw [hm] at hj
  rw [hj]
  have hf := (Fr.refl (fun _ => False) w).alloc (.cells #[.int .i64 x.kind, .int .i64 x.place, .slice AJ m cj] 89)
  have hbx := Blk.new w 89 #[.int .i64 x.kind, .int .i64 x.place, .slice AJ m cj]
  have h2 := h.fr0 hf
  obtain ⟨A, c, rfl⟩ := h.form
  obtain ⟨W, hW⟩ : ∃ W, w.alloc (.cells #[.int .i64 x.kind, .int .i64 x.place, .slice AJ m cj] 89) = W := ⟨_, rfl⟩
  obtain ⟨g5, hg5⟩ : ∃ g5, w.heap.size = g5 := ⟨_, rfl⟩
  have HW := Lib.hid hW
  have HG5 := Lib.hid hg5
  rw [hW] at hf hbx h2
  rw [hg5] at hbx
  have HH := Lib.hid h2
  have HBX := Lib.hid hbx
  have HF := Lib.hid hf
  have HXX := Lib.hid (And.intro hx.2 (And.intro (own_fr hx.1 hf (fun _ _ x => x)) hd))
  obtain ⟨n, hnn⟩ : ∃ n, xs.length = n := ⟨_, rfl⟩
  have HN := Lib.hid hnn
  have HM := Lib.hid (And.intro hm hj)
  rw [hnn] at hn ⊢
  obtain ⟨xk, hxk⟩ : ∃ xk, x.kind = xk := ⟨_, rfl⟩
  obtain ⟨xp, hxp⟩ : ∃ xp, x.place = xp := ⟨_, rfl⟩
  have HXK := Lib.hid (And.intro hxk hxp)
  rw [hxk, hxp] at HW HBX ⊢
  have HLO := Lib.hid hn
  clear h h2 hf hbx hnn hW hg5 hx hd hm hj hxk hxp hn
  go_enter Try.func72, Try.ntmps72
  go_upto_region 1 with (fail)
  rw [HW.out, HG5.out]
  have hhc := HH.out.cells
  have hfo := HH.out.fo
  rw [HN.out] at hhc hfo
  have r2 := hhc.2.2
  have y2 := hfo.frozen 2
  have g0 : W.cell? ⟨g5, 0, none⟩ = some (.int .i64 xk) := HBX.out.cell 0
  have g1 : W.cell? ⟨g5, 1, none⟩ = some (.int .i64 xp) := HBX.out.cell 1
  have g2 : W.cell? ⟨g5, 2, none⟩ = some (.slice AJ m cj) := HBX.out.cell 2
  have hrl := hfo.lt
  have hgl := HBX.out.lt
  have htr : W.ownsRow B 89 3 (.slice A n c) n (xs.flatMap RT.cells) := by
    have := HH.out.ls
    rwa [HN.out] at this
  have HTR := Lib.hid htr
  have HNR := Lib.hid (show ∀ k, (Value.slice A n c).ownBlock = some k → k ≠ r from fun k hk he => by
    obtain ⟨cs, hb⟩ := own_blk htr hk
    exact Blk.ne_ hb hfo (by decide) he)
  obtain ⟨i0, hi0⟩ := info_parts3 infoRT
  have HI0 := Lib.hid hi0
  have HOW := Lib.hid (show ∀ o : Obj, ((W.alloc o).drew).ownsRow B 89 3 (.slice A n c) n (xs.flatMap RT.cells) from fun o => own_fr HTR.out (((Fr.refl (fun _ => False) W).alloc o).drew) (fun _ _ x => x))
  have HRD := Lib.hid (show Rd ((W.alloc (.cells #[.int .i64 xk, .int .i64 xp, .slice AJ m cj] 89)).drew) (.slice (some ⟨W.heap.size, 0, none⟩) 1 1) 1 3 [.int .i64 xk, .int .i64 xp, .slice AJ m cj] from Rd.new W #[.int .i64 xk, .int .i64 xp, .slice AJ m cj] rfl 1)
  have HONE := Lib.hid (show ∀ u ∈ [Value.int .i64 xk, .int .i64 xp, .slice AJ m cj], u.oneCell' = true from fun u hu => by
    simp at hu
    rcases hu with rfl | rfl | rfl <;> rfl)
  have HBL := Lib.hid (show B ≤ ((W.alloc (.cells #[.int .i64 xk, .int .i64 xp, .slice AJ m cj] 89)).drew).heap.size from Nat.le_trans HH.out.pl.lo.2.2 (((Fr.refl (fun _ => False) W).alloc _).drew).size)
  have hlm : (n + 1) * 40 ≤ 140737488355328 := by have := HLO.out; omega
  have hlm2 : n + 1 ≤ maxLen := by have := HLO.out; unfold maxLen; omega
  have HLM := Lib.hid (And.intro hlm hlm2)
  have HFO := Lib.hid hfo
  clear hlm hlm2 htr hi0 hfo hhc
  go_region_law (refine step_append_src (P := Try.prog) (t := 48) (e := 89) (size := 3) (n := n) (m := 1) (base := B) (i := i0) (bytes := 40) (v := .slice A n c) (xs := xs.flatMap RT.cells) (news := [.int .i64 xk, .int .i64 xp, .slice AJ m cj]) rfl (.tmp 8) (.tmp 10) rfl Try.underlying48 HI0.out.1 HI0.out.2.1 HI0.out.2.2.1 HI0.out.2.2.2 rfl (by decide) rfl rfl (HOW.out _) HRD.out HONE.out HLM.out.2 HLM.out.1 HBL.out ?_; intro v2 w3 ho2 hg2 hk2; have HO3 := Lib.hid ho2; obtain ⟨_, A2, cap2, rfl, _⟩ := own_src ho2; have HK2 := Lib.hid hk2; have hfg := ((((Fr.refl (fun k => (Value.slice A n c).ownBlock = some k) W).alloc (.cells #[.int .i64 xk, .int .i64 xp, .slice AJ m cj] 89)).drew).grown hg2 (fun k hk => .inl hk)); have r2 := (hfg.cell (p := ⟨r, 2, none⟩) HFO.out.lt (fun e => HNR.out _ e rfl)).trans r2; have y2 := (hfg.frozen (p := ⟨r, 2, none⟩) HFO.out.lt (fun e => HNR.out _ e rfl)).trans y2; have HFG := Lib.hid hfg; clear ho2 hg2 hk2 hfg)
  all_goals
    go_wp2_with fail
    refine bodyPost_end (results_none rfl _ _ _) rfl ?_
    have hfo3 := (HFO.out.fr HFG.out (fun e => HNR.out _ e rfl)).set_ 2 (.slice A2 (n + 1) cap2)
    simp only [List.setIfInBounds_toArray, List.set_cons_zero, List.set_cons_succ] at hfo3
    have hf3 := (Fr.refl (fun k => k = r) w3).setCell (p := ⟨r, 2, none⟩) (.inl rfl) (.slice A2 (n + 1) cap2)
    have hff := (HFG.out.mono (S' := fun k => k = r ∨ (Value.slice A n c).ownBlock = some k) (fun k _ hk => .inr hk)).then hf3 (fun k _ hk => .inl hk)
    have hz := HF.out.size
    have hHH := HH.out
    have hpl : ∀ k, PlIn p q tv k → ¬ (k = r ∨ (Value.slice A n c).ownBlock = some k) := fun k hk he => by
      rcases he with rfl | he
      · exact hHH.pl.no hHH.fo (by decide) (by decide) (by decide) hk
      · obtain ⟨cs, hb⟩ := own_blk HTR.out he
        exact hHH.pl.no hb (by decide) (by decide) (by decide) hk
    have hin : ∀ (v : Value) (is : List Int), OwnI W B v is → ∀ k, v.ownBlock = some k → ¬ (k = r ∨ (Value.slice A n c).ownBlock = some k) := fun v is hv k hk he => by
      obtain ⟨cs, hb⟩ := own_blk hv hk
      rcases he with rfl | he
      · exact Blk.ne_ hb hHH.fo (by decide) rfl
      · obtain ⟨cs', hb'⟩ := own_blk HTR.out he
        exact Blk.ne_ hb hb' (by decide) rfl
    have hlen : (xs ++ [x]).length = n + 1 := by simp [HN.out]
    have hfl : (xs ++ [x]).flatMap RT.cells = xs.flatMap RT.cells ++ [.int .i64 xk, .int .i64 xp, .slice AJ m cj] := by
      rw [List.flatMap_append]
      simp [RT.cells, HXK.out.1, HXK.out.2, HM.out.2]
    refine ⟨⟨_, rfl⟩, .slice A2 (n + 1) cap2, ⟨hfo3, hHH.pl.fr hff hpl, ?_, ?_, ?_, hHH.lo, by rw [hlen]; exact HLO.out⟩, (HF.out.of0 (S := fun k => k = r ∨ (Value.slice A n c).ownBlock = some k)).trans hff, ?_⟩
    · rw [hlen, hfl]
      refine own_fr HO3.out hf3 (fun k hk he => ?_)
      subst he
      rcases HK2.out with h1 | h1
      · exact HNR.out _ (h1 ▸ hk) rfl
      · rw [h1] at hk
        simp at hk
        have := HFO.out.lt
        omega
    · intro y hy
      rcases List.mem_append.1 hy with hy | hy
      · exact ⟨own_fr (hHH.js y hy).1 hff (hin _ _ (hHH.js y hy).1), (hHH.js y hy).2⟩
      · obtain rfl : y = x := by simpa using hy
        exact ⟨own_fr HXX.out.2.1 hff (hin _ _ HXX.out.2.1), HXX.out.1⟩
    · intro i j y z k hi hj' hk1 hk2
      rw [List.getElem?_append] at hi hj'
      have hd := HXX.out.2.2
      split at hi <;> split at hj'
      · exact hHH.dj i j y z k hi hj' hk1 hk2
      · obtain rfl : z = x := by
          rw [List.getElem?_singleton] at hj'
          split at hj'
          · exact (Option.some.inj hj').symm
          · cases hj'
        exact absurd hk2 (hd y k (List.mem_of_getElem? hi) hk1)
      · obtain rfl : y = x := by
          rw [List.getElem?_singleton] at hi
          split at hi
          · exact (Option.some.inj hi).symm
          · cases hi
        exact absurd hk1 (hd z k (List.mem_of_getElem? hj') hk2)
      · rw [List.getElem?_singleton] at hi hj'
        split at hi
        · split at hj'
          · omega
          · cases hj'
        · cases hi
    · intro k hk
      rcases HK2.out with h1 | h1
      · exact .inl (h1 ▸ hk)
      · rw [h1] at hk
        simp at hk
        exact .inr (by have := HW.out; omega)
end
end Go.Proofs.Ytoldegajbonliaa
