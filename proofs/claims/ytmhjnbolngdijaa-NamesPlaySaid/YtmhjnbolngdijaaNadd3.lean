/- Names: Add, whole. -/
import Derived.Test.YtmhjnbolngdijaaNwr
import Derived.Test.YtmhjnbolngdijaaNwalk
namespace Go.Proofs.Ytmhjnbolngdijaa
open Go Go.RowKit
set_option linter.unusedVariables false
attribute [local go_sem] Oper.semAt_some

theorem toksP_lt (ws : List Wd) (k : Int × ByteArray) : toksP ws (fun i => decide (i < ws.length)) k = toksP ws (fun _ => true) k := toksP_congr fun i => by
  constructor
  · rintro ⟨x, h1, _, h3⟩; exact ⟨x, h1, rfl, h3⟩
  · rintro ⟨x, h1, _, h3⟩
    exact ⟨x, h1, decide_eq_true (List.getElem?_eq_some_iff.1 h1).1, h3⟩
theorem toksP_snoc (ws : List Wd) (x : Wd) (k : Int × ByteArray) : toksP (ws ++ [x]) (fun i => decide (i < ws.length)) k = toksP ws (fun _ => true) k := toksP_congr fun i => by
  constructor
  · rintro ⟨y, h1, h2, h3⟩
    have hi : i < ws.length := by simpa using h2
    rw [List.getElem?_append_left hi] at h1
    exact ⟨y, h1, rfl, h3⟩
  · rintro ⟨y, h1, _, h3⟩
    have hi := (List.getElem?_eq_some_iff.1 h1).1
    exact ⟨y, by rw [List.getElem?_append_left hi]; exact h1, decide_eq_true hi, h3⟩
theorem toksP_snoc2 (ws : List Wd) (x : Wd) (k : Int × ByteArray) : toksP (ws ++ [x]) (fun _ => true) k = toksP (ws ++ [x]) (withP (fun i => decide (i < ws.length)) ws.length) k := toksP_congr fun i => by
  constructor
  · rintro ⟨y, h1, _, h3⟩
    have hi := (List.getElem?_eq_some_iff.1 h1).1
    rw [List.length_append, List.length_singleton] at hi
    refine ⟨y, h1, ?_, h3⟩
    unfold withP
    simp
    omega
  · rintro ⟨y, h1, _, h3⟩
    exact ⟨y, h1, rfl, h3⟩
section
variable {w w' : World} {B c m : Nat} {wv ov : Value} {lists cur : Int} {order : List Int} {ws : List Wd} {mf : Int × ByteArray → Option Value}
/-- A word more, not laid yet. -/
theorem Ng.snoc (h : Ng w B c m wv ov lists cur order ws (fun _ => true) mf) {v2 : Value} (x : Wd) (hx : (∀ y ∈ x.name, 0 ≤ y ∧ y ≤ 255) ∧ x.name.length ≤ 1000000) (hl : ws.length < 5000) (hf : Fr (fun k => k = c ∨ wv.ownBlock = some k) w w')
    (hob : NObj w' c m v2 ov lists cur) (ho : w'.ownsRow B 30 5 v2 (ws.length + 1) (ws.flatMap Wd.cells ++ x.cells)) : Ng w' B c m v2 ov lists cur order (ws ++ [x]) (fun i => decide (i < ws.length)) mf := by
  refine ⟨hob, by rw [List.length_append, List.flatMap_append]; simpa using ho, ?_, fun k v hk => ?_, fun k hk => ?_, h.apart, h.ord.fr hf (fun k hk e => e.elim (fun e => blk_int_own h.ord h.obj.blk (by decide) (e ▸ hk)) (int_word h.ord h.words k hk)), h.ordA, ⟨h.lo.1, h.lo.2.1, Nat.le_trans h.lo.2.2 hf.size⟩, by rw [List.length_append]; simp; omega, fun y hy => ?_⟩
  · exact h.map.fr hf (fun e => e.elim h.ne_mc (word_map h.words h.map))
  · rw [toksP_snoc]
    exact (h.rows k v hk).fr hf (fun b hb e => e.elim (fun e => blk_int_own (h.rows k v hk) h.obj.blk (by decide) (e ▸ hb)) (int_word (h.rows k v hk) h.words b hb))
  · rw [toksP_snoc]
    exact h.none_ k hk
  · rcases List.mem_append.1 hy with hy | hy
    · exact h.byt y hy
    · obtain rfl := List.mem_singleton.1 hy
      exact hx
end

section
variable {B c : Nat} {s : St} {S : Nat → Prop}
/-- Add: what it tells, what it leaves. -/
def addV (s : St) (x : Wd) : Int × Int := if wrongV s.lists x = 0 then ((s.ws.length : Int) + 1, 0) else (0, wrongV s.lists x)
def addSt (s : St) (x : Wd) : St := if wrongV s.lists x = 0 then { s with ws := s.ws ++ [x] } else s
set_option maxRecDepth 100000 in
set_option maxHeartbeats 8000000 in
theorem Add_ng (x : Wd) (hx : (∀ y ∈ x.name, 0 ≤ y ∧ y ≤ 255) ∧ x.name.length ≤ 1000000) (w : World) (h : NgS w B c s S) (hl : s.ws.length < 5000) : Calls Try.prog 11 #[.pointer (some ⟨c, 0, none⟩), x.val] w fun e w' => e = .returned (.tuple #[.int .i64 (addV s x).1, .int .i64 (addV s x).2]) ∧ ∃ S', NgI w' B c (addSt s x) S' ∧ Turn S S' w w' := by
  have hf : Fr0 w (w.alloc (.cells #[.string (strOfNums x.name), .int .i64 x.xt, .int .i64 x.list, .bool x.imm, .bool x.only] 30)) := (Fr.refl _ w).alloc _
  have hbx := Blk.new w 30 #[.string (strOfNums x.name), .int .i64 x.xt, .int .i64 x.list, .bool x.imm, .bool x.only]
  have HNO := Lib.hid (none_ng _ (h.fr0 hf))
  have hxS : ¬ S w.heap.size := fun e => by have := (h.lo e).2; omega
  have HXS := Lib.hid hxS
  have HBX := Lib.hid hbx
  have HF := Lib.hid hf
  have HX := Lib.hid hx
  obtain ⟨n, hn⟩ : ∃ n, s.ws.length = n := ⟨_, rfl⟩
  have HN := Lib.hid hn
  rw [hn] at hl
  have hlI : (n : Int) < 5000 := by omega
  unfold Wd.val addV addSt
  rw [hn]
  by_cases hb : wrongV s.lists x = 0
  · rw [if_pos hb, if_pos hb]
    have HB := Lib.hid hb
    clear h hf hbx hxS hx hn hb
    go_enter Try.func11, Try.ntmps11
    go_wp2_with (first | (go_at_call 33; refine HNO.out.mono ?_; rintro e w1 ⟨rfl, S1, h1, ht, _⟩; obtain ⟨m, wv, ov, mf, hN, hS⟩ := h1; have HS := Lib.hid hS; have HT := Lib.hid ht; have hb1 := HBX.out.fr ht.1 HXS.out; have q0 := hb1.cell 0; have q1 := hb1.cell 1; have q2 := hb1.cell 2; have q3 := hb1.cell 3; have q5 := hb1.cell 4; have HB1 := Lib.hid hb1; have HN1 := Lib.hid hN; have hwr := wrong_ob x w1 hN.obj; rw [HB.out] at hwr; unfold Wd.val at hwr; have HWR := Lib.hid hwr; obtain ⟨A, cap, hA⟩ := hN.wform; rw [HN.out] at hA; subst hA; clear hS ht hb1 hN hwr) | (go_at_call 34; refine HWR.out.mono ?_; rintro e w2 ⟨rfl, hf1⟩; have HM1 := Lib.hid (HN1.out.fr0 hf1); have HB2 := Lib.hid (HB1.out.fr0 hf1); have HF1 := Lib.hid hf1; have c0 := HM1.out.cells.1; clear hf1))
    obtain ⟨i0, hi0, z0, hzz, hzs, hz1, hz2⟩ := infoW5
    have HI0 := Lib.hid (And.intro hi0 (And.intro hzz (And.intro hzs (And.intro hz1 hz2))))
    have HOW := Lib.hid (show ∀ o : Obj, ((w2.alloc o).drew).ownsRow B 30 5 (.slice A n cap) n (s.ws.flatMap Wd.cells) from fun o => by
      have := own_fr HM1.out.words (((Fr.refl (fun _ => False) w2).alloc o).drew) (fun _ _ x => x)
      rw [HN.out] at this
      exact this)
    have HONE := Lib.hid (show ∀ u ∈ x.cells, u.oneCell' = true from fun u hu => by
      simp [Wd.cells] at hu
      rcases hu with rfl | rfl | rfl | rfl | rfl <;> rfl)
    have hbl := HM1.out.lo.2.2
    have k0 : w2.cell? ⟨w.heap.size, 0, none⟩ = some (.string (strOfNums x.name)) := HB2.out.cell 0
    have k1 : w2.cell? ⟨w.heap.size, 1, none⟩ = some (.int .i64 x.xt) := HB2.out.cell 1
    have k2 : w2.cell? ⟨w.heap.size, 2, none⟩ = some (.int .i64 x.list) := HB2.out.cell 2
    have k3 : w2.cell? ⟨w.heap.size, 3, none⟩ = some (.bool x.imm) := HB2.out.cell 3
    have k5 : w2.cell? ⟨w.heap.size, 4, none⟩ = some (.bool x.only) := HB2.out.cell 4
    have hcl := HM1.out.obj.blk.lt
    have y0 := HM1.out.obj.blk.frozen 0
    have HRD := Lib.hid (show Rd ((w2.alloc (.cells #[.string (strOfNums x.name), .int .i64 x.xt, .int .i64 x.list, .bool x.imm, .bool x.only] 30)).drew) (.slice (some ⟨w2.heap.size, 0, none⟩) 1 1) 1 5 x.cells from Rd.new w2 #[.string (strOfNums x.name), .int .i64 x.xt, .int .i64 x.list, .bool x.imm, .bool x.only] rfl 1)
    have HFA := Lib.hid (show Fr0 w2 ((w2.alloc (.cells #[.string (strOfNums x.name), .int .i64 x.xt, .int .i64 x.list, .bool x.imm, .bool x.only] 30)).drew) from ((Fr.refl _ w2).alloc _).drew)
    have HNC := Lib.hid (fun hh => word_own (k := c) HM1.out.words HM1.out.obj.blk (by decide) hh)
    clear hi0 hzz hzs hz1 hz2
    go_region_law (refine step_append_src (P := Try.prog) (t := 74) (e := 30) (size := 5) (n := n) (m := 1) (base := B) (i := i0) (z := z0) (bytes := 40) (v := .slice A n cap) (xs := s.ws.flatMap Wd.cells) (news := x.cells) rfl (.tmp 30) (.tmp 32) rfl Try.underlying74 HI0.out.1 HI0.out.2.1 HI0.out.2.2.2.1 HI0.out.2.2.2.2 HI0.out.2.2.1 (by decide) rfl rfl (HOW.out _) HRD.out HONE.out (by unfold maxLen; omega) (by omega) (Nat.le_trans hbl HFA.out.size) ?_; intro v2 w3 ho2 hg2 hk2; have HO2 := Lib.hid ho2; obtain ⟨_, A2, cap2, rfl, _⟩ := own_src ho2; have HK2 := Lib.hid hk2; have hfg := (HFA.out.of0 (S := fun k => k = c ∨ (Value.slice A n cap).ownBlock = some k)).grown hg2 (fun k hk => .inl (.inr hk)); have HFG := Lib.hid hfg; have hFq := (Fr.refl (fun k => (Value.slice A n cap).ownBlock = some k) _).grown hg2 (fun k hk => .inl hk); have hclq := Nat.lt_of_lt_of_le hcl HFA.out.size; have b0 := (hFq.cell (p := ⟨c, 0, none⟩) hclq HNC.out).trans ((HFA.out.cell (p := ⟨c, 0, none⟩) hcl (fun x => x)).trans c0); have b1 := (hFq.frozen (p := ⟨c, 0, none⟩) hclq HNC.out).trans ((HFA.out.frozen (p := ⟨c, 0, none⟩) hcl (fun x => x)).trans y0); have HOB2 := Lib.hid ((HM1.out.obj.blk.fr0 HFA.out).fr hFq HNC.out); clear hFq hclq ho2 hg2 hk2 hfg)
    all_goals
      have hob := HOB2.out.set_ 0 (.slice A2 (n + 1) cap2)
      simp only [List.setIfInBounds_toArray, List.set_cons_zero] at hob
      have ho3 := own_fr HO2.out ((Fr.refl (fun k => k = c) w3).setCell (p := ⟨c, 0, none⟩) (.inl rfl) (.slice A2 (n + 1) cap2)) (fun k hk e => word_own HO2.out HOB2.out (by decide) (e ▸ hk))
      have hf3 := HFG.out.setCell (p := ⟨c, 0, none⟩) (.inl (.inl rfl)) (.slice A2 (n + 1) cap2)
      generalize hw3 : w3.setCell ⟨c, 0, none⟩ (.slice A2 (n + 1) cap2) = w4 at *
      have hN := Ng.snoc HM1.out x HX.out (by rw [HN.out]; exact hl) hf3 hob (by rw [HN.out]; exact ho3)
      have hLY := lay_ng n x w4 hN (by rw [← HN.out]; simp) (by rw [HN.out]; simp)
      have HLY := Lib.hid hLY
      have b3 : w4.cell? ⟨c, 0, none⟩ = some (.slice A2 (n + 1) cap2) := hob.cell 0
      have HF3 := Lib.hid hf3
      have HO3 := Lib.hid ho3
      clear hob hf3 hN hLY b0 b1 ho3
      go_wp2_with (go_at_call 35; refine HLY.out.mono ?_; rintro e w5 ⟨rfl, mf', hN4, ht4⟩; have b4 := hN4.cells.1; have HN4 := Lib.hid hN4; have HT4 := Lib.hid ht4; clear hN4 ht4)
      go_ret2
      have hN5 := HN4.out.congr (P' := fun _ => true) (fun k => by
        have := toksP_snoc2 s.ws x k
        rw [HN.out] at this
        rw [HN.out]
        exact this)
      have ht3 : Turn (NgIn c m (.slice A n cap) ov mf) (NgIn c m (.slice A2 (n + 1) cap2) ov mf) w2 w4 := by
        refine ⟨HF3.out.mono (fun k _ e => e.elim .inl (fun e => .inr (.inr (.inl e)))), fun k hk => ?_⟩
        rcases hk with h | h | h | h | h
        · exact .inl (.inl h)
        · exact .inl (.inr (.inl h))
        · rcases HK2.out with h2 | h2
          · rw [h2] at h
            exact .inl (.inr (.inr (.inl h)))
          · rw [h2] at h
            injection h with h
            have := HFA.out.size
            exact .inr (by omega)
        · exact .inl (.inr (.inr (.inr (.inl h))))
        · exact .inl (.inr (.inr (.inr (.inr h))))
      refine ⟨rfl, _, ⟨m, _, ov, mf', hN5, rfl⟩, (((Turn.of0 HF.out).trans HT.out).trans (Turn.of0 HF1.out)).trans ?_⟩
      rw [HS.out]
      exact ht3.trans HT4.out
  · rw [if_neg hb, if_neg hb]
    obtain ⟨e0, he0⟩ : ∃ e0, wrongV s.lists x = e0 := ⟨_, rfl⟩
    have HB := Lib.hid he0
    rw [he0] at hb ⊢
    have hq : (e0 == 0) = false := by simp; exact hb
    clear h hf hbx hxS hx hn he0
    go_enter Try.func11, Try.ntmps11
    go_wp2_with (first | (go_at_call 33; refine HNO.out.mono ?_; rintro e w1 ⟨rfl, S1, h1, ht, _⟩; have H1 := Lib.hid h1; obtain ⟨m, wv, ov, mf, hN, hS⟩ := h1; have HT := Lib.hid ht; have hb1 := HBX.out.fr ht.1 HXS.out; have q0 := hb1.cell 0; have q1 := hb1.cell 1; have q2 := hb1.cell 2; have q3 := hb1.cell 3; have q5 := hb1.cell 4; have hwr := wrong_ob x w1 hN.obj; rw [HB.out] at hwr; unfold Wd.val at hwr; have HWR := Lib.hid hwr; clear hS ht hb1 hN hwr) | (go_at_call 34; refine HWR.out.mono ?_; rintro e w2 ⟨rfl, hf1⟩; have HF1 := Lib.hid hf1; clear hf1))
    go_ret2
    exact ⟨rfl, S1, H1.out.fr0 HF1.out, ((Turn.of0 HF.out).trans HT.out).trans (Turn.of0 HF1.out)⟩
end
end Go.Proofs.Ytmhjnbolngdijaa
