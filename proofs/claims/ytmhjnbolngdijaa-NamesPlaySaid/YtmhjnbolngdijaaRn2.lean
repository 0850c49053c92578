/- The document's names: Set, SetOrder, Find, Search. -/
import Derived.Test.YtmhjnbolngdijaaRn
namespace Go.Proofs.Ytmhjnbolngdijaa
open Go Go.RowKit
set_option linter.unusedVariables false
attribute [local go_sem] Oper.semAt_some

section
variable {w w' : World} {B c : Nat} {s : St} {S T : Nat → Prop}
set_option maxRecDepth 100000 in
set_option maxHeartbeats 8000000 in
theorem Set_rn (nt : Int) (x : Wd) (hx : (∀ y ∈ x.name, 0 ≤ y ∧ y ≤ 255) ∧ x.name.length ≤ 1000000) (w : World) (h : RnS w B c s S) : Calls Try.prog 50 #[.pointer (some ⟨c, 0, none⟩), .int .i64 nt, x.val] w fun e w' => e = .returned (.int .i64 (setV s nt x)) ∧ ∃ S', RnS w' B c (setSt s nt x) S' ∧ Turn S S' w w' := by
  have hf : Fr0 w (w.alloc (.cells #[.string (strOfNums x.name), .int .i64 x.xt, .int .i64 x.list, .bool x.imm, .bool x.only] 71)) := (Fr.refl _ w).alloc _
  have hbx := Blk.new w 71 #[.string (strOfNums x.name), .int .i64 x.xt, .int .i64 x.list, .bool x.imm, .bool x.only]
  have HH := Lib.hid (h.fr0 hf)
  obtain ⟨lv, ov, h1, h2, h3, h4, h5, h6, hS⟩ := h.fr0 hf
  have hwr := right_rn x _ h1
  obtain ⟨c0, c1, c2, c3⟩ := h1.cells
  have q0 := hbx.cell 0
  have q1 := hbx.cell 1
  have q2 := hbx.cell 2
  have q3 := hbx.cell 3
  have q5 := hbx.cell 4
  have HBX := Lib.hid hbx
  have HF := Lib.hid hf
  have HX := Lib.hid hx
  have H1 := Lib.hid h1
  have H2 := Lib.hid h2
  have H3 := Lib.hid h3
  have H6 := Lib.hid h6
  have HS := Lib.hid hS
  obtain ⟨_, A, cap, hA, _⟩ := own_src h2
  subst hA
  have hn5 := h6.1
  unfold setV setSt
  have hcs : nt < 1 ∨ (1 ≤ nt ∧ (s.ws.length : Int) < nt) ∨ (∃ i : Nat, nt = (i : Int) + 1 ∧ i < s.ws.length) := by
    rcases (show nt < 1 ∨ (1 ≤ nt ∧ (s.ws.length : Int) < nt) ∨ (1 ≤ nt ∧ nt ≤ (s.ws.length : Int)) by omega) with h | h | h
    · exact .inl h
    · exact .inr (.inl h)
    · exact .inr (.inr ⟨(nt - 1).toNat, by omega, by omega⟩)
  obtain ⟨n, hn⟩ : ∃ n, s.ws.length = n := ⟨_, rfl⟩
  have HN := Lib.hid hn
  rw [hn] at hcs hn5 c0 H1 H2 HS ⊢
  clear h hf hbx hx hn h1 h2 h3 h6 hS
  rcases hcs with hm | ⟨hm, hm2⟩ | ⟨i, rfl, hin⟩
  · rw [show hasV n nt = 4 from by unfold hasV; rw [if_neg (by omega)]]
    rw [if_neg (by decide), if_neg (fun e => absurd e.1 (by decide))]
    unfold Wd.val
    clear hwr
    go_enter Try.func50, Try.ntmps50
    go_wp2_with fail
    go_ret
    exact ⟨rfl, S, HH.out, Turn.of0 HF.out⟩
  · rw [show hasV n nt = 4 from by unfold hasV; rw [if_neg (by omega)]]
    rw [if_neg (by decide), if_neg (fun e => absurd e.1 (by decide))]
    unfold Wd.val
    clear hwr
    go_enter Try.func50, Try.ntmps50
    go_wp2_with fail
    go_ret
    exact ⟨rfl, S, HH.out, Turn.of0 HF.out⟩
  · rw [show hasV n ((i : Int) + 1) = 0 from by unfold hasV; rw [if_pos (by omega)]]
    rw [if_pos rfl]
    have hiI : (i : Int) < (n : Int) := by omega
    have hi0 : (0 : Int) ≤ (i : Int) := by omega
    have x1 : IntKind.i64.wrap ((i : Int) + 1 - 1) = (i : Int) := by rw [IntWalk.i64_in _ (by omega)]; omega
    rw [show ((i : Int) + 1 - 1).toNat = i by omega]
    obtain ⟨e0, he0⟩ : ∃ e0, wrongV s.lists x = e0 := ⟨_, rfl⟩
    rw [he0] at hwr ⊢
    unfold Wd.val at hwr ⊢
    have HWR := Lib.hid hwr
    clear hwr he0
    by_cases hb : e0 = 0
    · subst hb
      rw [if_pos ⟨rfl, rfl⟩]
      clear c1 c2 c3 q0 q1 q2 q3 q5
      have hi2 : (i : Int) + 1 ≤ (n : Int) := by omega
      go_enter Try.func50, Try.ntmps50
      have q0 := HBX.out.cell 0
      have q1 := HBX.out.cell 1
      have q2 := HBX.out.cell 2
      have q3 := HBX.out.cell 3
      have q5 := HBX.out.cell 4
      go_wp2_with (go_at_call 64; refine HWR.out.mono ?_; rintro e w2 ⟨rfl, hf1⟩; have HF1 := Lib.hid hf1; have hb2 := HBX.out.fr0 hf1; have p0 := hb2.cell 0; have p1 := hb2.cell 1; have p2 := hb2.cell 2; have p3 := hb2.cell 3; have p5 := hb2.cell 4; have HO2 := Lib.hid (Blk.fr0 H1.out hf1); have c0' := Blk.cell HO2.out 0; have HM2 := Lib.hid (own_fr H2.out hf1 (fun _ _ x => x)); clear hb2 hf1)
      have hblk : ∃ b cs, A = some ⟨b, 0, none⟩ ∧ Blk w2 b 71 cs ∧ i * 5 + 4 < cs.size := by
        rcases HM2.out.2 with ⟨e, e0⟩ | ⟨g, cap', cs, e, hb, hg, hle, hm, hsz, htk⟩
        · omega
        · simp only [Value.slice.injEq, true_and] at e
          obtain ⟨rfl, rfl⟩ := e
          have := Nat.mul_le_mul_right 5 hle
          exact ⟨g, cs, rfl, hg, by omega⟩
      obtain ⟨b, cs, rfl, hcs, hcl⟩ := hblk
      have f0 := hcs.frozen (i * 5)
      have f1 := hcs.frozen (i * 5 + 1)
      have f2 := hcs.frozen (i * 5 + 2)
      have f3 := hcs.frozen (i * 5 + 3)
      have f4 := hcs.frozen (i * 5 + 4)
      have g0 := hcs.cell (i * 5)
      have g1 := hcs.cell (i * 5 + 1)
      have g2 := hcs.cell (i * 5 + 2)
      have g3 := hcs.cell (i * 5 + 3)
      have g4 := hcs.cell (i * 5 + 4)
      rw [Array.getElem?_eq_getElem (by omega)] at g0 g1 g2 g3 g4
      have hbc : ¬ b = c := fun e => rword_own HM2.out (RObj.blk HO2.out) (by decide) (by rw [e]; rfl)
      clear hcs
      go_region
      go_wp2_with fail
      go_ret
      have hw := HM2.out
      rw [← HN.out] at hw
      have hw5 := own_setWd (x := x) hw (by rw [HN.out]; exact hin)
      have hf5 : Fr (fun k => k = b) w2 _ := fr_setWd (i := i) (x := x) (S := fun k => k = b) (w := w2) rfl
      have h3 := H3.out.fr HF1.out (fun _ _ x => x)
      have hordb : ∀ k, ov.ownBlock = some k → ¬ k = b := fun k hk e => rows_apart h3 HM2.out (by decide) k hk (by rw [e]; rfl)
      have hfd := hf5.drew
      refine ⟨rfl, _, ⟨_, ov, Blk.fr HO2.out hfd (fun e => hbc e.symm), by rw [← HN.out]; exact hw5, h3.fr hfd hordb, h4, Nat.le_trans (Nat.le_trans h5 HF1.out.size) hfd.size, ⟨by rw [List.length_set, HN.out]; exact hn5, fun y hy => ?_⟩, rfl⟩, ((Turn.of0 HF.out).trans (Turn.of0 HF1.out)).1.then hfd (fun k _ e => by rw [HS.out, e]; exact .inr (.inl rfl)), fun k hk => ?_⟩
      · rcases List.mem_or_eq_of_mem_set hy with h | rfl
        · exact H6.out.2 y h
        · exact HX.out
      · rw [HS.out]
        exact .inl hk
    · rw [if_neg (by omega)]
      have hq : (e0 == 0) = false := by simp; exact hb
      have hi2 : (i : Int) + 1 ≤ (n : Int) := by omega
      go_enter Try.func50, Try.ntmps50
      go_wp2_with (go_at_call 64; refine HWR.out.mono ?_; rintro e w2 ⟨rfl, hf1⟩; have HF1 := Lib.hid hf1; clear hf1)
      go_ret
      exact ⟨rfl, S, HH.out.fr0 HF1.out, (Turn.of0 HF.out).trans (Turn.of0 HF1.out)⟩
end
end Go.Proofs.Ytmhjnbolngdijaa
