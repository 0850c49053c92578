/- Flow: the document's pool: is, Len, Open, Emit. -/
import Derived.Test.YtoldegajbonliaaFawake
import Derived.Deep.Cut
import Derived.Deep.CutRange
namespace Go.Proofs.Ytoldegajbonliaa
open Go Go.RowKit
set_option linter.unusedVariables false
attribute [local go_sem] Oper.semAt_some

section
variable {w : World} {B p q cap : Nat} {tv : Value} {ts : List Tk} {S : Nat → Prop}
set_option maxRecDepth 100000 in
theorem is_r (w : World) (h : Pl RP w B p q cap tv ts) : Calls Try.prog 73 #[.pointer (some ⟨p, 0, none⟩), .int .i64 1] w fun e w' => e = .returned (.bool true) ∧ w = w' := by
  obtain ⟨c0, _, _⟩ := h.cells
  clear h
  go_enter Try.func73, Try.ntmps73
  go_wp2_with fail
  go_ret
  exact ⟨rfl, rfl⟩
set_option maxRecDepth 100000 in
theorem Len_r (w : World) (h : Pl RP w B p q cap tv ts) : Calls Try.prog 85 #[.pointer (some ⟨p, 0, none⟩), .int .i64 1] w fun e w' => e = .returned (.int .i64 ts.length) ∧ w = w' := by
  have HIS := Lib.hid (is_r w h)
  obtain ⟨c0, _, c2⟩ := h.cells
  obtain ⟨A, c, rfl⟩ := h.form
  clear h
  go_enter Try.func85, Try.ntmps85
  go_wp2_with (go_at_call 73; refine HIS.out.mono ?_; rintro e w' ⟨rfl, rfl⟩)
  go_ret
  exact ⟨rfl, rfl⟩
set_option maxRecDepth 100000 in
set_option maxHeartbeats 8000000 in
theorem Emit_r (x : Tk) (w : World) (h : Pl RP w B p q cap tv ts) (hl : ts.length < 50000) : Calls Try.prog 43 #[.pointer (some ⟨p, 0, none⟩), .int .i64 1, x.val] w fun e w' => e = .returned (.tuple #[.int .i64 ts.length, .int .i64 0]) ∧ ∃ tv', Pl RP w' B p q cap tv' (ts ++ [x]) ∧ Turn (PlIn p q tv) (PlIn p q tv') w w' := by
  have hf := (Fr.refl (fun _ => False) w).alloc (.cells #[.int .i64 x.op, .int .i64 x.a, .int .i64 x.b] 39)
  have hbx := Blk.new w 39 #[.int .i64 x.op, .int .i64 x.a, .int .i64 x.b]
  have h2 := h.fr hf (fun _ _ x => x)
  have HPL := Lib.hid (fun k (hk : PlIn p q tv k) => h.in_lo hk)
  obtain ⟨W, hW⟩ : ∃ W, w.alloc (.cells #[.int .i64 x.op, .int .i64 x.a, .int .i64 x.b] 39) = W := ⟨_, rfl⟩
  obtain ⟨g5, hg5⟩ : ∃ g5, w.heap.size = g5 := ⟨_, rfl⟩
  have HW := Lib.hid hW
  have HG5 := Lib.hid hg5
  rw [hW] at hf hbx h2
  rw [hg5] at hbx
  have HH := Lib.hid h2
  have HBX := Lib.hid hbx
  have HF := Lib.hid hf
  have HIS := Lib.hid (is_r W h2)
  obtain ⟨c0, c1, c2⟩ := h2.cells
  obtain ⟨A, c, rfl⟩ := h.form
  have HTR := Lib.hid h2.tr
  have y1 := h2.po.frozen 1
  obtain ⟨n, hn⟩ : ∃ n, ts.length = n := ⟨_, rfl⟩
  have HN := Lib.hid hn
  rw [hn] at c1 c2 HTR hl ⊢
  have hnI : (n : Int) < 50000 := by omega
  have HWR := Lib.hid (show IntKind.i64.wrap ((n : Int) + 1) = (n : Int) + 1 from by rw [IntWalk.i64_in _ (by omega)])
  unfold Tk.val
  clear h h2 hf hbx hn hW hg5
  go_enter Try.func43, Try.ntmps43
  go_upto_region 1 with (fail)
  rw [HW.out, HG5.out]
  have hd1 : decide (100000 ≤ n) = false := decide_eq_false (by omega)
  have hd2 : decide ((100000 : Int) ≤ (n : Int)) = false := decide_eq_false (by omega)
  have HL := Lib.hid hl
  clear hl hnI
  go_upto_region 3 with (go_at_call 73; refine HIS.out.mono ?_; rintro e w7 ⟨rfl, rfl⟩)
  go_upto_region 5 with (fail)
  clear hd1 hd2
  have hl := HL.out
  have hbl := HH.out.lo.2.2
  have hpo := HH.out.po
  rw [HN.out] at hpo
  obtain ⟨cur, hq, hcq⟩ := HH.out.dr
  rw [HN.out] at hcq
  have hpq : q ≠ p := (Blk.ne_ HH.out.po hq (by decide)).symm
  have hx6 := HBX.out
  have HPO := Lib.hid hpo
  have HQ := Lib.hid hq
  have HX6 := Lib.hid hx6
  clear y1 c0 c1 c2 hl
  go_cut [] from 17 to 34 (fun wx => ∃ tv', (∃ A' c', tv' = .slice A' (n + 1) c') ∧ Blk wx p RP #[.slice (some ⟨q, 0, none⟩) 1 cap, .int .i64 (n : Int)] ∧ (∃ cur', Blk wx q 75 cur' ∧ cur'[0]? = some tv') ∧ wx.ownsRow B 39 3 tv' (n + 1) (ts.flatMap Tk.cells ++ x.cells) ∧ Fr (fun k => k = q ∨ (Value.slice A n c).ownBlock = some k) W wx ∧ ∀ k, tv'.ownBlock = some k → (Value.slice A n c).ownBlock = some k ∨ W.heap.size ≤ k)
  case first =>
    have p0 : W.cell? ⟨p, 0, none⟩ = some (.slice (some ⟨q, 0, none⟩) 1 cap) := hpo.cell 0
    have q0 : W.cell? ⟨q, 0, none⟩ = some (.slice A n c) := (hq.cell 0).trans hcq
    have g0 : W.cell? ⟨g5, 0, none⟩ = some (.int .i64 x.op) := hx6.cell 0
    have g1 : W.cell? ⟨g5, 1, none⟩ = some (.int .i64 x.a) := hx6.cell 1
    have g2 : W.cell? ⟨g5, 2, none⟩ = some (.int .i64 x.b) := hx6.cell 2
    have y0 := hq.frozen 0
    obtain ⟨i0, hi0⟩ := info_parts3 infoTk
    have HI0 := Lib.hid hi0
    have HOW := Lib.hid (show ∀ o : Obj, ((W.alloc o).drew).ownsRow B 39 3 (.slice A n c) n (ts.flatMap Tk.cells) from fun o => own_fr HTR.out (((Fr.refl (fun _ => False) W).alloc o).drew) (fun _ _ x => x))
    have HRD := Lib.hid (show Rd ((W.alloc (.cells #[.int .i64 x.op, .int .i64 x.a, .int .i64 x.b] 39)).drew) (.slice (some ⟨W.heap.size, 0, none⟩) 1 1) 1 3 x.cells from Rd.new W #[.int .i64 x.op, .int .i64 x.a, .int .i64 x.b] rfl 1)
    have HONE := Lib.hid (show ∀ u ∈ x.cells, u.oneCell' = true from fun u hu => by
      simp [Tk.cells] at hu
      rcases hu with rfl | rfl | rfl <;> rfl)
    have HBL := Lib.hid (show B ≤ ((W.alloc (.cells #[.int .i64 x.op, .int .i64 x.a, .int .i64 x.b] 39)).drew).heap.size from Nat.le_trans hbl (((Fr.refl (fun _ => False) W).alloc _).drew).size)
    have HQT := Lib.hid (show ∀ k, (Value.slice A n c).ownBlock = some k → k ≠ q ∧ k ≠ p from fun k hk => by
      rcases HTR.out.2 with ⟨e, _⟩ | ⟨g', cap', cs, e, _, hg, _⟩
      · rw [e] at hk; cases hk
      · rw [e] at hk
        injection hk with hk
        subst hk
        exact ⟨(Blk.ne_ hq (show Blk W g' 39 cs from hg) (by decide)).symm, (Blk.ne_ hpo (show Blk W g' 39 cs from hg) (by decide)).symm⟩)
    clear hpo hq hx6 hi0
    have hlm : (n + 1) * 24 ≤ 140737488355328 := by have := HL.out; omega
    have hlm2 : n + 1 ≤ maxLen := by have := HL.out; unfold maxLen; omega
    have HLM := Lib.hid (And.intro hlm hlm2)
    clear hlm hlm2
    have w0 : IntKind.i64.wrap 0 = 0 := by decide
    have hql := HQ.out.lt
    have hpl := HPO.out.lt
    have hgl := HX6.out.lt
    go_region_law (refine step_append_src (P := Try.prog) (t := 75) (e := 39) (size := 3) (n := n) (m := 1) (base := B) (i := i0) (bytes := 24) (v := .slice A n c) (xs := ts.flatMap Tk.cells) (news := x.cells) rfl (.tmp 30) (.tmp 32) rfl Try.underlying75 HI0.out.1 HI0.out.2.1 HI0.out.2.2.1 HI0.out.2.2.2 rfl (by decide) rfl rfl (HOW.out _) HRD.out HONE.out HLM.out.2 HLM.out.1 HBL.out ?_; intro v2 w3 ho2 hg2 hk2; have HO3 := Lib.hid ho2; obtain ⟨_, A2, cap2, rfl, _⟩ := own_src ho2; have HK2 := Lib.hid hk2; have hfg := ((((Fr.refl (fun k => (Value.slice A n c).ownBlock = some k) W).alloc (.cells #[.int .i64 x.op, .int .i64 x.a, .int .i64 x.b] 39)).drew).grown hg2 (fun k hk => .inl hk)); have p0 := (hfg.cell (p := ⟨p, 0, none⟩) HPO.out.lt (fun e => (HQT.out _ e).2 rfl)).trans p0; have q0 := (hfg.cell (p := ⟨q, 0, none⟩) HQ.out.lt (fun e => (HQT.out _ e).1 rfl)).trans q0; have y0 := (hfg.frozen (p := ⟨q, 0, none⟩) HQ.out.lt (fun e => (HQT.out _ e).1 rfl)).trans y0; have HFG := Lib.hid hfg; clear ho2 hg2 hk2 hfg)
    all_goals
      go_wp2_with fail
      go_meet
      refine ⟨_, ⟨A2, cap2, rfl⟩, ?_, ⟨_, ((HQ.out.fr HFG.out (fun e => (HQT.out _ e).1 rfl)).set_ 0 _), ?_⟩, own_fr HO3.out ((Fr.refl (fun k => k = q) w3).setCell (p := ⟨q, 0, none⟩) (.inl rfl) _) ?_, ?_, ?_⟩
      · exact (HPO.out.fr HFG.out (fun e => (HQT.out _ e).2 rfl)).far (p := ⟨q, 0, none⟩) hpq.symm _
      · rw [Array.getElem?_setIfInBounds_self_of_lt (by
          rcases Nat.lt_or_ge 0 cur.size with h | h
          · exact h
          · rw [Array.getElem?_eq_none h] at hcq; cases hcq)]
      · intro k hk he
        rcases HK2.out with h1 | h1
        · exact (HQT.out k (h1 ▸ hk)).1 he
        · rw [h1] at hk
          simp at hk
          omega
      · exact (HFG.out.mono (fun k _ hk => .inr hk)).setCell (p := ⟨q, 0, none⟩) (.inl (.inl rfl)) _
      · intro k hk
        rcases HK2.out with h1 | h1
        · exact .inl (h1 ▸ hk)
        · rw [h1] at hk
          simp at hk
          exact .inr (by omega)
  case rest =>
    obtain ⟨tv', ⟨A', c', rfl⟩, k1, ⟨cur', k2, k2c⟩, k3, k4, k5⟩ := hcut
    have p0 : wc.cell? ⟨p, 0, none⟩ = some (.slice (some ⟨q, 0, none⟩) 1 cap) := k1.cell 0
    have p1 : wc.cell? ⟨p, 1, none⟩ = some (.int .i64 (n : Int)) := k1.cell 1
    have y1 := k1.frozen 1
    have k1' := k1.set_ 1 (.int .i64 ((n : Int) + 1))
    simp only [List.setIfInBounds_toArray, List.set_cons_zero, List.set_cons_succ] at k1'
    have f9 := (Fr.refl (fun k => k = p) wc).setCell (p := ⟨p, 1, none⟩) (.inl rfl) (.int .i64 ((n : Int) + 1))
    have k2' := k2.fr f9 (fun e => Blk.ne_ k2 k1 (by decide) e)
    have q0 : (wc.setCell ⟨p, 1, none⟩ (.int .i64 ((n : Int) + 1))).cell? ⟨q, 0, none⟩ = some (.slice A' (n + 1) c') := (k2'.cell 0).trans k2c
    have p0' : (wc.setCell ⟨p, 1, none⟩ (.int .i64 ((n : Int) + 1))).cell? ⟨p, 0, none⟩ = some (.slice (some ⟨q, 0, none⟩) 1 cap) := k1'.cell 0
    have ht' := own_fr k3 f9 (fun k hk he => by
      subst he
      rcases k3.2 with ⟨e, _⟩ | ⟨g', cap', cs, e, _, hg, _⟩
      · rw [e] at hk; cases hk
      · rw [e] at hk
        injection hk with hk
        subst hk
        exact Blk.ne_ k1 (show Blk wc g' 39 cs from hg) (by decide) rfl)
    have w0 : IntKind.i64.wrap 0 = 0 := by decide
    have hwm : IntKind.i64.wrap ((n : Int) + 1 - 1) = (n : Int) := by have := HL.out; rw [IntWalk.i64_in _ (by omega)]; omega
    have HK := Lib.hid (And.intro k1' (And.intro k2' (And.intro ht' (And.intro k4 (And.intro f9 k5)))))
    clear k1 k2 k3 k4 k5 k1' k2' ht' f9
    have x2 : wrap64 (n : Int) = (n : Int) := IntWalk.wrap64_in _ (by have := HL.out; omega)
    have hwr := HWR.out
    go_wp2_with fail
    go_ret2
    have HX2 := Lib.hid x2
    clear x2
    obtain ⟨k1, k2, k3, k4, f9, k5⟩ := HK.out
    have hlen : (ts ++ [x]).length = n + 1 := by simp [HN.out]
    have hfl : (ts ++ [x]).flatMap Tk.cells = ts.flatMap Tk.cells ++ x.cells := by simp
    have hz0 := HF.out.size
    have hpl := HPO.out.lt
    have hff := ((HF.out.of0 (S := PlIn p q (.slice A n c))).then k4 (fun k _ hk => .inr hk)).then f9 (fun k _ hk => .inl hk)
    refine ⟨congrArg (fun v => Ending.returned (.tuple #[.int .i64 v, .int .i64 0])) HX2.out, _, ⟨?_, ⟨cur', k2, k2c⟩, ?_, ⟨HH.out.lo.1, HH.out.lo.2.1, Nat.le_trans hbl (Nat.le_trans k4.size f9.size)⟩, by rw [hlen]; exact HL.out⟩, ?_, ?_⟩
    · rw [hlen]
      exact k1
    · rw [hlen, hfl]
      exact k3
    · exact hff
    · intro k hk
      rcases hk with h1 | h1 | h1
      · exact .inl (.inl h1)
      · exact .inl (.inr (.inl h1))
      · rcases k5 k h1 with h2 | h2
        · exact .inl (.inr (.inr h2))
        · exact .inr (by omega)
end
end Go.Proofs.Ytoldegajbonliaa
