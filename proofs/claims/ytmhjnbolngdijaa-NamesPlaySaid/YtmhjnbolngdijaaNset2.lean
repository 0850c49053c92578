/- Names: Set, whole. -/
import Derived.Test.YtmhjnbolngdijaaNset
namespace Go.Proofs.Ytmhjnbolngdijaa
open Go Go.RowKit
set_option linter.unusedVariables false
attribute [local go_sem] Oper.semAt_some

section
variable {B c : Nat} {s : St} {S : Nat → Prop}
/-- Set: what it tells, what it leaves. -/
def setV (s : St) (nt : Int) (x : Wd) : Int := if hasV s.ws.length nt = 0 then wrongV s.lists x else hasV s.ws.length nt
def setSt (s : St) (nt : Int) (x : Wd) : St := if hasV s.ws.length nt = 0 ∧ wrongV s.lists x = 0 then { s with ws := s.ws.set (nt - 1).toNat x } else s
theorem hasV_cases (n : Nat) (nt : Int) : (hasV n nt = 0 ∧ ∃ i : Nat, nt = (i : Int) + 1 ∧ i < n) ∨ hasV n nt = 4 := by
  unfold hasV
  by_cases h : 1 ≤ nt ∧ nt ≤ n
  · rw [if_pos h]
    exact .inl ⟨rfl, (nt - 1).toNat, by omega, by omega⟩
  · rw [if_neg h]
    exact .inr rfl
theorem withP_less {ws : List Wd} {i : Nat} (k : Int × ByteArray) : toksP ws (fun _ => true) k = toksP ws (withP (lessP (fun _ => true) i) i) k := toksP_congr fun j => by
  unfold withP lessP
  constructor
  · rintro ⟨y, h1, _, h3⟩
    exact ⟨y, h1, by by_cases h : j = i <;> simp [h], h3⟩
  · rintro ⟨y, h1, _, h3⟩
    exact ⟨y, h1, rfl, h3⟩
set_option maxRecDepth 100000 in
set_option maxHeartbeats 8000000 in
theorem Set_ng (nt : Int) (x : Wd) (hx : (∀ y ∈ x.name, 0 ≤ y ∧ y ≤ 255) ∧ x.name.length ≤ 1000000) (w : World) (h : NgS w B c s S) : Calls Try.prog 49 #[.pointer (some ⟨c, 0, none⟩), .int .i64 nt, x.val] w fun e w' => e = .returned (.int .i64 (setV s nt x)) ∧ ∃ S', NgI w' B c (setSt s nt x) S' ∧ Turn S S' w w' := by
  have hf : Fr0 w (w.alloc (.cells #[.string (strOfNums x.name), .int .i64 x.xt, .int .i64 x.list, .bool x.imm, .bool x.only] 30)) := (Fr.refl _ w).alloc _
  have hbx := Blk.new w 30 #[.string (strOfNums x.name), .int .i64 x.xt, .int .i64 x.list, .bool x.imm, .bool x.only]
  have HHA := Lib.hid (has_ng nt _ (h.fr0 hf))
  have hxS : ¬ S w.heap.size := fun e => by have := (h.lo e).2; omega
  have HXS := Lib.hid hxS
  have HBX := Lib.hid hbx
  have HF := Lib.hid hf
  have HX := Lib.hid hx
  have hn5 : s.ws.length ≤ 5000 := by
    rcases h with ⟨m, wv, ov, mf, hN, _⟩ | ⟨_, h0, _⟩
    · exact hN.few
    · rw [h0]; simp [initSt]
  unfold setV setSt Wd.val
  have hcs := hasV_cases s.ws.length nt
  obtain ⟨n, hn⟩ : ∃ n, s.ws.length = n := ⟨_, rfl⟩
  have HN := Lib.hid hn
  rw [hn] at hcs HHA hn5 ⊢
  clear h hf hbx hxS hx hn
  rcases hcs with ⟨hz, i, rfl, hin⟩ | h4
  · rw [hz, if_pos rfl]
    rw [hz] at HHA
    have hiI : (i : Int) < (n : Int) := by omega
    have hi0 : (0 : Int) ≤ (i : Int) := by omega
    have x1 : IntKind.i64.wrap ((i : Int) + 1 - 1) = (i : Int) := by rw [IntWalk.i64_in _ (by omega)]; omega
    rw [show ((i : Int) + 1 - 1).toNat = i by omega]
    obtain ⟨e0, he0⟩ : ∃ e0, wrongV s.lists x = e0 := ⟨_, rfl⟩
    have HE := Lib.hid he0
    rw [he0]
    clear hz he0
    by_cases hb : e0 = 0
    · subst hb
      rw [if_pos ⟨rfl, rfl⟩]
      obtain ⟨y, hy⟩ : ∃ y, s.ws[i]? = some y := ⟨_, List.getElem?_eq_getElem (by rw [HN.out]; exact hin)⟩
      have HY := Lib.hid hy
      clear hy
      cases hd : eqWd y x with
      | true =>
        have hyx := eqWd_true hd
        have hset : s.ws.set i x = s.ws := by
          apply List.ext_getElem?
          intro k
          by_cases hk : i = k
          · subst hk
            rw [List.getElem?_set_self (by rw [HN.out]; exact hin), HY.out, hyx]
          · rw [List.getElem?_set_ne hk]
        have hst : ({ s with ws := s.ws.set i x } : St) = s := by rw [hset]
        rw [hst]
        have HD := Lib.hid hd
        clear hyx hset hst hd
        go_enter Try.func49, Try.ntmps49
        go_wp2_with (first | (go_at_call 59; refine HHA.out.mono ?_; rintro e w1 ⟨rfl, S1, h1, ht⟩; have H1 := Lib.hid h1; obtain ⟨m, wv, ov, mf, hN, hS⟩ := h1; have HN1 := Lib.hid hN; have HT := Lib.hid ht; have hb1 := HBX.out.fr ht.1 HXS.out; have q0 := hb1.cell 0; have q1 := hb1.cell 1; have q2 := hb1.cell 2; have q3 := hb1.cell 3; have q5 := hb1.cell 4; have HB1 := Lib.hid hb1; have hwr := wrong_ob x w1 hN.obj; rw [HE.out] at hwr; unfold Wd.val at hwr; have HWR := Lib.hid hwr; clear hS ht hb1 hN hwr) | (go_at_call 34; refine HWR.out.mono ?_; rintro e w2 ⟨rfl, hf1⟩; have HF1 := Lib.hid hf1; have hN2 := HN1.out.fr0 hf1; have c0 := hN2.cells.1; have hq := HB1.out.fr0 hf1; have p0 := hq.cell 0; have p1 := hq.cell 1; have p2 := hq.cell 2; have p3 := hq.cell 3; have p5 := hq.cell 4; obtain ⟨b, cap, hA, _, d0, d1, d2, d3, d4⟩ := words_cells hN2.words HY.out; rw [HN.out] at hA; subst hA; have hyb := (hN2.byt y (List.mem_of_getElem? HY.out)).1; have heq := fun W => run_eqWord W y x hyb HX.out.1; rw [HD.out] at heq; unfold Wd.val at heq; clear hf1 hN2 hq hyb))
        go_quiet (fail)
        go_wp2_with fail
        go_ret
        exact ⟨rfl, S1, (H1.out.fr0 HF1.out).fr0 ((Fr.refl _ _).drewN _), (((Turn.of0 HF.out).trans HT.out).trans (Turn.of0 HF1.out)).trans (Turn.of0 ((Fr.refl _ _).drewN _))⟩
      | false =>
        have HD := Lib.hid hd
        clear hd
        go_enter Try.func49, Try.ntmps49
        go_wp2_with (first | (go_at_call 59; refine HHA.out.mono ?_; rintro e w1 ⟨rfl, S1, h1, ht⟩; obtain ⟨m, wv, ov, mf, hN, hS⟩ := h1; have HS1 := Lib.hid hS; have HN1 := Lib.hid hN; have HT := Lib.hid ht; have hb1 := HBX.out.fr ht.1 HXS.out; have q0 := hb1.cell 0; have q1 := hb1.cell 1; have q2 := hb1.cell 2; have q3 := hb1.cell 3; have q5 := hb1.cell 4; have HB1 := Lib.hid hb1; have hwr := wrong_ob x w1 hN.obj; rw [HE.out] at hwr; unfold Wd.val at hwr; have HWR := Lib.hid hwr; clear hS ht hb1 hN hwr) | (go_at_call 34; refine HWR.out.mono ?_; rintro e w2 ⟨rfl, hf1⟩; have HF1 := Lib.hid hf1; have hN2 := HN1.out.fr0 hf1; have c0 := hN2.cells.1; have hq := HB1.out.fr0 hf1; have p0 := hq.cell 0; have p1 := hq.cell 1; have p2 := hq.cell 2; have p3 := hq.cell 3; have p5 := hq.cell 4; have HQ2 := Lib.hid hq; obtain ⟨b, cap, hA, _, d0, d1, d2, d3, d4⟩ := words_cells hN2.words HY.out; rw [HN.out] at hA; subst hA; have hyb := (hN2.byt y (List.mem_of_getElem? HY.out)).1; have heq := fun W => run_eqWord W y x hyb HX.out.1; rw [HD.out] at heq; unfold Wd.val at heq; have HN2 := Lib.hid hN2; clear hf1 hN2 hq hyb))
        go_quiet (fail)
        have HXN := Lib.hid (show ¬ NgIn c m (.slice (some ⟨b, 0, none⟩) n cap) ov mf w.heap.size from fun e => by
          rw [← HS1.out] at e
          rcases HT.out.2 _ e with h | h
          · exact HXS.out h
          · have := HBX.out.lt; omega)
        clear heq p0 p1 p2 p3 p5 q0 q1 q2 q3 q5 d0 d1 d2 d3 d4 c0
        go_wp2_with (go_at_call 65; refine (hide_ng i y _ (HN2.out.fr0 ((Fr.refl _ _).drewN _)) HY.out rfl).mono ?_; rintro e w4 ⟨rfl, mf4, hN4, ht4⟩; have HT4 := Lib.hid ht4; have hq4 := (HQ2.out.fr0 ((Fr.refl _ _).drewN _)).fr ht4.1 HXN.out; have p0 := hq4.cell 0; have p1 := hq4.cell 1; have p2 := hq4.cell 2; have p3 := hq4.cell 3; have p5 := hq4.cell 4; have c0 := hN4.cells.1; have hw4 := hN4.words; rw [HN.out] at hw4; have HW4 := Lib.hid hw4; have HN4 := Lib.hid hN4; have HQ4 := Lib.hid hq4; clear ht4 hN4 hw4 hq4)
        have hblk : ∃ cs, Blk w4 b 30 cs ∧ i * 5 + 4 < cs.size := by
          rcases HW4.out.2 with ⟨e, _⟩ | ⟨g, cap', cs, e, hb, hg, hle, hm, hsz, htk⟩
          · cases e
          · simp only [Value.slice.injEq, Option.some.injEq, Addr.mk.injEq, and_true, true_and] at e
            obtain ⟨rfl, rfl⟩ := e
            have := Nat.mul_le_mul_right 5 hle
            exact ⟨cs, hg, by omega⟩
        obtain ⟨cs, hcs, hcl⟩ := hblk
        have f0 := hcs.frozen (i * 5)
        have f1 := hcs.frozen (i * 5 + 1)
        have f2 := hcs.frozen (i * 5 + 2)
        have f3 := hcs.frozen (i * 5 + 3)
        have f4 := hcs.frozen (i * 5 + 4)
        have g0 := hcs.cell (i * 5)
        have g1 := hcs.cell (i * 5 + 1)
        have g2 := hcs.cell (i * 5 + 2)
        have g3 := hcs.cell (i * 5 + 3)
        have g4 := hcs.cell (i * 5 + 4)
        rw [Array.getElem?_eq_getElem (by omega)] at g0 g1 g2 g3 g4
        have hbc : ¬ b = c := fun e => word_own HN4.out.words HN4.out.obj.blk (by decide) (by rw [e]; rfl)
        clear hcs
        go_region
        have hw := HN4.out.words
        rw [← HN.out] at hw
        have hw5 := own_setWd (x := x) hw (by rw [HN.out]; exact hin)
        rw [HN.out] at hw5
        have hf5 : Fr (fun k => k = b) w4 _ := fr_setWd (i := i) (x := x) (S := fun k => k = b) (w := w4) rfl
        obtain ⟨W5, hW5⟩ : ∃ W5, (((((w4.setCell ⟨b, i * 5, none⟩ (.string (strOfNums x.name))).setCell ⟨b, i * 5 + 1, none⟩ (.int .i64 x.xt)).setCell ⟨b, i * 5 + 2, none⟩ (.int .i64 x.list)).setCell ⟨b, i * 5 + 3, none⟩ (.bool x.imm)).setCell ⟨b, i * 5 + 4, none⟩ (.bool x.only)) = W5 := ⟨_, rfl⟩
        rw [hW5] at hw5 hf5 ⊢
        have hN5 := HN4.out.setWd (by simp [lessP]) HX.out rfl hf5 hw5
        have hLY := lay_ng i x W5.drew (hN5.fr0 (Fr.refl _ _).drew) (List.getElem?_set_self (by rw [HN.out]; exact hin)) (by simp [lessP])
        have HLY := Lib.hid hLY
        have HF5 := Lib.hid hf5
        clear hw hw5 hf5 hW5 hN5 hLY f0 f1 f2 f3 f4 g0 g1 g2 g3 g4 hcl
        go_wp2_with (go_at_call 35; refine HLY.out.mono ?_; rintro e w6 ⟨rfl, mf6, hN6, ht6⟩; have HN6 := Lib.hid hN6; have HT6 := Lib.hid ht6; clear hN6 ht6)
        go_ret
        have hN7 := HN6.out.congr (P' := fun _ => true) (fun k => withP_less k)
        have hB := (HT4.out.trans ⟨HF5.out.mono (S' := NgIn c m (.slice (some ⟨b, 0, none⟩) n cap) ov mf4) (fun k _ e => .inr (.inr (.inl (by rw [e]; rfl)))), fun k hk => .inl hk⟩).trans ((Turn.of0 (Fr.refl _ _).drew).trans HT6.out)
        rw [← HS1.out] at hB
        exact ⟨rfl, _, ⟨m, _, ov, mf6, hN7, rfl⟩, ((((Turn.of0 HF.out).trans HT.out).trans (Turn.of0 HF1.out)).trans (Turn.of0 ((Fr.refl _ _).drewN _))).trans hB⟩
    · rw [if_neg (by omega)]
      have hq0 : (e0 == 0) = false := by simp; exact hb
      have hq1 : (e0 != 0) = true := by simp; exact hb
      go_enter Try.func49, Try.ntmps49
      go_wp2_with (first | (go_at_call 59; refine HHA.out.mono ?_; rintro e w1 ⟨rfl, S1, h1, ht⟩; have H1 := Lib.hid h1; obtain ⟨m, wv, ov, mf, hN, hS⟩ := h1; have HT := Lib.hid ht; have hb1 := HBX.out.fr ht.1 HXS.out; have q0 := hb1.cell 0; have q1 := hb1.cell 1; have q2 := hb1.cell 2; have q3 := hb1.cell 3; have q5 := hb1.cell 4; have hwr := wrong_ob x w1 hN.obj; rw [HE.out] at hwr; unfold Wd.val at hwr; have HWR := Lib.hid hwr; clear hS ht hb1 hN hwr) | (go_at_call 34; refine HWR.out.mono ?_; rintro e w2 ⟨rfl, hf1⟩; have HF1 := Lib.hid hf1; clear hf1))
      go_quiet (fail)
      go_wp2_with fail
      go_ret
      exact ⟨rfl, S1, (H1.out.fr0 HF1.out).fr0 ((Fr.refl _ _).drewN _), (((Turn.of0 HF.out).trans HT.out).trans (Turn.of0 HF1.out)).trans (Turn.of0 ((Fr.refl _ _).drewN _))⟩
  · rw [h4, if_neg (by decide), if_neg (fun e => absurd e.1 (by decide))]
    rw [h4] at HHA
    clear h4
    go_enter Try.func49, Try.ntmps49
    go_wp2_with (go_at_call 59; refine HHA.out.mono ?_; rintro e w1 ⟨rfl, S1, h1, ht⟩; have H1 := Lib.hid h1; have HT := Lib.hid ht; clear h1 ht)
    go_quiet (fail)
    go_wp2_with fail
    go_ret
    exact ⟨rfl, S1, H1.out.fr0 ((Fr.refl _ _).drewN _), ((Turn.of0 HF.out).trans HT.out).trans (Turn.of0 ((Fr.refl _ _).drewN _))⟩
end
end Go.Proofs.Ytmhjnbolngdijaa
