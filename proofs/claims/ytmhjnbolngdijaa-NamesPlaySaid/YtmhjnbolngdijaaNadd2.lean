/- Names: Add. -/
import Derived.Test.YtmhjnbolngdijaaNadd
import Derived.Deep.RegionLaw
namespace Go.Proofs.Ytmhjnbolngdijaa
open Go Go.RowKit
set_option linter.unusedVariables false
attribute [local go_sem] Oper.semAt_some

theorem infoW : (Try.prog.info? 30).map (fun i => (i.zero.map (·.cells.size), i.size, i.bytes)) = some (some 5, 5, 40) := by kernel_rfl

section
variable {w w' : World} {B c m q : Nat} {wv ov : Value} {lists cur : Int} {order : List Int} {ws : List Wd} {tv : Int × ByteArray → Value}
theorem int_word {w : World} {B n : Nat} {u v : Value} {xs : List Int} {cs : List Value} (h : OwnI w B u xs) (hw : w.ownsRow B 30 5 v n cs) : ∀ k, u.ownBlock = some k → v.ownBlock ≠ some k := fun k hk => by
  rcases h.2 with ⟨rfl, _⟩ | ⟨b, cap, cur, rfl, _, hc, _⟩
  · cases hk
  · simp only [Value.ownBlock, Option.some.injEq] at hk
    subst hk
    have hB : Blk w b 3 cur := hc
    exact word_own hw hB (by decide)
/-- A word more, not laid yet. -/
theorem Nm.snoc (h : Nm w B c m wv ov lists cur order ws ws.length tv) {v2 : Value} (x : Wd) (hx : (∀ y ∈ x.name, 0 ≤ y ∧ y ≤ 255) ∧ x.name.length ≤ 1000000) (hl : ws.length < 5000) (hf : Fr (fun k => k = c ∨ wv.ownBlock = some k) w w')
    (hob : Blk w' c 79 #[v2, .int .i64 lists, ov, .int .i64 cur, .map (some m)]) (ho : w'.ownsRow B 30 5 v2 (ws.length + 1) (ws.flatMap Wd.cells ++ x.cells)) : Nm w' B c m v2 ov lists cur order (ws ++ [x]) ws.length tv := by
  have e : (ws ++ [x]).take ws.length = ws.take ws.length := by simp
  refine ⟨hob, by rw [List.length_append, List.flatMap_append]; simpa using ho, ?_, fun k hk => ?_, fun k k' b h1 h2 => ?_, h.ord.fr hf (fun k hk e => e.elim (fun e => blk_int_own h.ord h.obj (by decide) (e ▸ hk)) (int_word h.ord h.words k hk)), fun k b hk => ?_, ⟨h.lo.1, h.lo.2.1, Nat.le_trans h.lo.2.2 hf.size⟩, by rw [List.length_append]; simp; omega, fun y hy => ?_⟩
  · rw [e]
    exact h.map.fr hf (fun e => e.elim h.ne_mc (word_map h.words h.map))
  · rw [e] at hk ⊢
    exact (h.rows k hk).fr hf (fun b hb e => e.elim (fun e => blk_int_own (h.rows k hk) h.obj (by decide) (e ▸ hb)) (int_word (h.rows k hk) h.words b hb))
  · rw [e] at h1 h2
    exact h.apart k k' b h1 h2
  · rw [e] at hk
    exact h.ordA k b hk
  · rcases List.mem_append.1 hy with hy | hy
    · exact h.byt y hy
    · obtain rfl := List.mem_singleton.1 hy
      exact hx
set_option maxRecDepth 100000 in
set_option maxHeartbeats 4000000 in
theorem Add_bad (x : Wd) (w : World) (h : Nm w B c m wv ov lists cur order ws q tv) (hb : wrongV lists x ≠ 0) : Calls Try.prog 11 #[.pointer (some ⟨c, 0, none⟩), x.val] w fun e w' => e = .returned (.tuple #[.int .i64 0, .int .i64 (wrongV lists x)]) ∧ Fr0 w w' := by
  have HNO := Lib.hid (fun V (hV : Fr0 w V) => none_nm V (h.fr0 hV))
  have HWR := Lib.hid (fun V (hV : Fr0 w V) => wrong_nm x V (h.fr0 hV))
  have hf : Fr0 w (w.alloc (.cells #[.string (strOfNums x.name), .int .i64 x.xt, .int .i64 x.list, .bool x.imm, .bool x.only] 30)) := (Fr.refl _ w).alloc _
  have HF := Lib.hid hf
  unfold Wd.val at HWR ⊢
  generalize wrongV lists x = e0 at *
  have hq : (e0 == 0) = false := by simp; exact hb
  clear h hf
  go_enter Try.func11, Try.ntmps11
  go_wp2_with (first | (go_at_call 33; refine (HNO.out _ HF.out).mono ?_; rintro e w' ⟨rfl, rfl⟩) | (go_at_call 34; refine (HWR.out _ HF.out).mono ?_; rintro e w1 ⟨rfl, hf1⟩; have HF1 := Lib.hid (HF.out.trans hf1); clear hf1))
  go_ret2
  exact ⟨rfl, HF1.out⟩

set_option maxRecDepth 100000 in
set_option maxHeartbeats 8000000 in
theorem Add_nm (x : Wd) (hx : (∀ y ∈ x.name, 0 ≤ y ∧ y ≤ 255) ∧ x.name.length ≤ 1000000) (w : World) (h : Nm w B c m wv ov lists cur order ws ws.length tv) (hb : wrongV lists x = 0) (hl : ws.length < 5000) : Calls Try.prog 11 #[.pointer (some ⟨c, 0, none⟩), x.val] w fun e w' => e = .returned (.tuple #[.int .i64 ((ws.length : Int) + 1), .int .i64 0]) ∧ Fr (fun k => B ≤ k) w w' ∧ ∃ wv' tv', Nm w' B c m wv' ov lists cur order (ws ++ [x]) (ws.length + 1) tv' := by
  have HNO := Lib.hid (fun V (hV : Fr0 w V) => none_nm V (h.fr0 hV))
  have HWR := Lib.hid (fun V (hV : Fr0 w V) => wrong_nm x V (h.fr0 hV))
  rw [hb] at HWR
  have hbx := Blk.new w 30 #[.string (strOfNums x.name), .int .i64 x.xt, .int .i64 x.list, .bool x.imm, .bool x.only]
  have hf : Fr0 w (w.alloc (.cells #[.string (strOfNums x.name), .int .i64 x.xt, .int .i64 x.list, .bool x.imm, .bool x.only] 30)) := (Fr.refl _ w).alloc _
  obtain ⟨A, cap, rfl⟩ := h.wform
  have HBX := Lib.hid hbx
  have HF := Lib.hid hf
  have HH := Lib.hid h
  unfold Wd.val at HWR ⊢
  obtain ⟨n, hn⟩ : ∃ n, ws.length = n := ⟨_, rfl⟩
  have HN := Lib.hid hn
  have hlI : (n : Int) < 5000 := by omega
  clear h hf hbx
  go_enter Try.func11, Try.ntmps11
  go_wp2_with (first | (go_at_call 33; refine (HNO.out _ HF.out).mono ?_; rintro e w' ⟨rfl, rfl⟩) | (go_at_call 34; refine (HWR.out _ HF.out).mono ?_; rintro e w1 ⟨rfl, hf1⟩; have HF1 := Lib.hid (HF.out.trans hf1); have HB1 := Lib.hid (HBX.out.fr0 hf1); have c0 := (HH.out.fr0 HF1.out).cells.1; rw [HN.out] at c0; clear hf1))
  obtain ⟨i0, hi0, z0, hzz, hzs, hz1, hz2⟩ : ∃ i0, Try.prog.info? 30 = some i0 ∧ ∃ z0, i0.zero = some z0 ∧ z0.cells.size = 5 ∧ i0.size = 5 ∧ i0.bytes = 40 := by
    have hiw := infoW
    cases hi : Try.prog.info? 30 with
    | none => rw [hi] at hiw; cases hiw
    | some i0 =>
      rw [hi] at hiw
      simp only [Option.map_some, Option.some.injEq, Prod.mk.injEq] at hiw
      obtain ⟨h1, h2, h3⟩ := hiw
      cases hz : i0.zero with
      | none => rw [hz] at h1; cases h1
      | some z0 =>
        rw [hz] at h1
        simp only [Option.map_some, Option.some.injEq] at h1
        exact ⟨i0, rfl, z0, hz, h1, h2, h3⟩
  have HM1 := Lib.hid (HH.out.fr0 HF1.out)
  have hown : ∀ o : Obj, ((w1.alloc o).drew).ownsRow B 30 5 (.slice A n cap) n (ws.flatMap Wd.cells) := fun o => by
    have := own_fr HM1.out.words (((Fr.refl (fun _ => False) w1).alloc o).drew) (fun _ _ x => x)
    rw [HN.out] at this
    exact this
  have HOW := Lib.hid hown
  have HI0 := Lib.hid (And.intro hi0 (And.intro hzz (And.intro hzs (And.intro hz1 hz2))))
  have hone : ∀ u ∈ x.cells, u.oneCell' = true := fun u hu => by
    simp [Wd.cells] at hu
    rcases hu with rfl | rfl | rfl | rfl | rfl <;> rfl
  have HONE := Lib.hid hone
  have hbl := HM1.out.lo.2.2
  have k0 : w1.cell? ⟨w.heap.size, 0, none⟩ = some (.string (strOfNums x.name)) := HB1.out.cell 0
  have k1 : w1.cell? ⟨w.heap.size, 1, none⟩ = some (.int .i64 x.xt) := HB1.out.cell 1
  have k2 : w1.cell? ⟨w.heap.size, 2, none⟩ = some (.int .i64 x.list) := HB1.out.cell 2
  have k3 : w1.cell? ⟨w.heap.size, 3, none⟩ = some (.bool x.imm) := HB1.out.cell 3
  have k5 : w1.cell? ⟨w.heap.size, 4, none⟩ = some (.bool x.only) := HB1.out.cell 4
  have hcl := HM1.out.obj.lt
  have y0 := HM1.out.obj.frozen 0
  clear hown hi0 hzz hzs hz1 hz2 hone
  have hrd : Rd ((w1.alloc (.cells #[.string (strOfNums x.name), .int .i64 x.xt, .int .i64 x.list, .bool x.imm, .bool x.only] 30)).drew) (.slice (some ⟨w1.heap.size, 0, none⟩) 1 1) 1 5 x.cells := Rd.new w1 #[.string (strOfNums x.name), .int .i64 x.xt, .int .i64 x.list, .bool x.imm, .bool x.only] rfl 1
  have HRD := Lib.hid hrd
  have hfa : Fr0 w1 ((w1.alloc (.cells #[.string (strOfNums x.name), .int .i64 x.xt, .int .i64 x.list, .bool x.imm, .bool x.only] 30)).drew) := ((Fr.refl _ w1).alloc _).drew
  have HFA := Lib.hid hfa
  have hnc := fun hh => word_own (k := c) HM1.out.words HM1.out.obj (by decide) hh
  rw [HN.out] at hnc
  have HNC := Lib.hid hnc
  clear hrd hfa hnc
  go_region_law (refine step_append_src (P := Try.prog) (t := 74) (e := 30) (size := 5) (n := n) (m := 1) (base := B) (i := i0) (z := z0) (bytes := 40) (v := .slice A n cap) (xs := ws.flatMap Wd.cells) (news := x.cells) rfl (.tmp 30) (.tmp 32) rfl Try.underlying74 HI0.out.1 HI0.out.2.1 HI0.out.2.2.2.1 HI0.out.2.2.2.2 HI0.out.2.2.1 (by decide) rfl rfl (HOW.out _) HRD.out HONE.out (by unfold maxLen; omega) (by omega) (Nat.le_trans hbl HFA.out.size) ?_; intro v2 w2 ho2 hg2 hk2; have HO2 := Lib.hid ho2; obtain ⟨_, A2, cap2, rfl, _⟩ := own_src ho2; have hfg := (HFA.out.of0 (S := fun k => k = c ∨ (Value.slice A n cap).ownBlock = some k)).grown hg2 (fun k hk => .inl (.inr hk)); have HFG := Lib.hid hfg; have hFq := (Fr.refl (fun k => (Value.slice A n cap).ownBlock = some k) _).grown hg2 (fun k hk => .inl hk); have hclq := Nat.lt_of_lt_of_le hcl HFA.out.size; have b0 := (hFq.cell (p := ⟨c, 0, none⟩) hclq HNC.out).trans ((HFA.out.cell (p := ⟨c, 0, none⟩) hcl (fun x => x)).trans c0); have b1 := (hFq.frozen (p := ⟨c, 0, none⟩) hclq HNC.out).trans ((HFA.out.frozen (p := ⟨c, 0, none⟩) hcl (fun x => x)).trans y0); have HOB2 := Lib.hid ((HM1.out.obj.fr0 HFA.out).fr hFq HNC.out); clear hFq hclq ho2 hg2 hk2 hfg)
  all_goals
    have hob := HOB2.out.set_ 0 (.slice A2 (n + 1) cap2)
    simp only [List.setIfInBounds_toArray, List.set_cons_zero] at hob
    have ho3 := own_fr HO2.out ((Fr.refl (fun k => k = c) w2).setCell (p := ⟨c, 0, none⟩) (.inl rfl) (.slice A2 (n + 1) cap2)) (fun k hk e => word_own HO2.out HOB2.out (by decide) (e ▸ hk))
    have hf3 := HFG.out.setCell (p := ⟨c, 0, none⟩) (.inl (.inl rfl)) (.slice A2 (n + 1) cap2)
    generalize hw3 : w2.setCell ⟨c, 0, none⟩ (.slice A2 (n + 1) cap2) = w3 at *
    have hN := Nm.snoc HM1.out x hx (by have := HN.out; omega) (by rw [HN.out]; exact hf3) hob (by rw [HN.out]; exact ho3)
    have hLY := lay_any w3 hN (by simp)
    rw [HN.out] at hLY
    have HLY := Lib.hid hLY
    have b3 : w3.cell? ⟨c, 0, none⟩ = some (.slice A2 (n + 1) cap2) := hob.cell 0
    have HF3 := Lib.hid hf3
    have HB := Lib.hid hbl
    have HO3 := Lib.hid ho3
    clear hob hf3 hN hLY b0 b1 ho3
    go_wp2_with (go_at_call 35; refine HLY.out.mono ?_; rintro e w4 ⟨rfl, tv', hN4, hf4⟩; have b4 := hN4.cells.1; have HN4 := Lib.hid hN4; have HF4 := Lib.hid hf4; clear hN4 hf4)
    rw [HN.out]
    go_ret2
    have hlo := HM1.out.lo
    have hwo := own_lo HM1.out.words
    rw [HN.out] at hwo
    have hN4 := HN4.out
    refine ⟨rfl, (((Fr.of0 (S := fun k => B ≤ k) HF1.out).then HF3.out (fun k hk e => ?_)).then HF4.out (fun k hk e => e.1)), _, _, hN4⟩
    rcases e with rfl | e
    · exact hlo.1
    · exact (hwo k e).1
end
end Go.Proofs.Ytmhjnbolngdijaa
