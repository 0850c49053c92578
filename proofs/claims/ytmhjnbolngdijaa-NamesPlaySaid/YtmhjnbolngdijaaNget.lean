/- Names: Get. -/
import Derived.Test.YtmhjnbolngdijaaNadd3
namespace Go.Proofs.Ytmhjnbolngdijaa
open Go Go.RowKit
set_option linter.unusedVariables false
attribute [local go_sem] Oper.semAt_some

def zeroWd : Wd := ⟨[], 0, 0, false, false⟩
/-- The word that Get tells. -/
def getW (ws : List Wd) (nt : Int) : Wd := if 1 ≤ nt ∧ nt ≤ ws.length then wdAt ws (nt - 1).toNat else zeroWd
section
variable {B c : Nat} {s : St} {S : Nat → Prop}
set_option maxRecDepth 100000 in
set_option maxHeartbeats 4000000 in
theorem Get_ng (nt : Int) (w : World) (h : NgS w B c s S) : Calls Try.prog 30 #[.pointer (some ⟨c, 0, none⟩), .int .i64 nt] w fun e w' => e = .returned (.tuple #[(getW s.ws nt).val, .int .i64 (hasV s.ws.length nt)]) ∧ ∃ S', NgI w' B c s S' ∧ Turn S S' w w' := by
  have hf : Fr0 w (w.alloc (.cells #[.string ⟨#[]⟩, .int .i64 0, .int .i64 0, .bool false, .bool false] 30)) := (Fr.refl _ w).alloc _
  have hbx := Blk.new w 30 #[.string ⟨#[]⟩, .int .i64 0, .int .i64 0, .bool false, .bool false]
  have HHA := Lib.hid (has_ng nt _ (h.fr0 hf))
  have hxS : ¬ S w.heap.size := fun e => by have := (h.lo e).2; omega
  have HXS := Lib.hid hxS
  have HBX := Lib.hid hbx
  have HF := Lib.hid hf
  unfold Wd.val
  unfold getW hasV
  obtain ⟨n, hn⟩ : ∃ n, s.ws.length = n := ⟨_, rfl⟩
  have HN := Lib.hid hn
  rw [hn]
  by_cases hin : 1 ≤ nt ∧ nt ≤ n
  · have hha : hasV s.ws.length nt = 0 := by unfold hasV; rw [hn, if_pos hin]
    rw [hha] at HHA
    rw [if_pos hin, if_pos hin]
    obtain ⟨i, hi⟩ : ∃ i : Nat, nt = (i : Int) + 1 := ⟨(nt - 1).toNat, by omega⟩
    subst hi
    rw [show ((i : Int) + 1 - 1).toNat = i by omega]
    have hil : i < s.ws.length := by omega
    obtain ⟨x, hx⟩ : ∃ x, s.ws[i]? = some x := ⟨_, List.getElem?_eq_getElem hil⟩
    rw [wdAt_eq hx]
    have HX := Lib.hid hx
    have hiI : (i : Int) < (n : Int) := by omega
    have hi0 : (0 : Int) ≤ (i : Int) := by omega
    have hfew : s.ws.length ≤ 5000 ∨ 5000 < s.ws.length := by omega
    have hn5 : n ≤ 5000 := by
      rcases h with ⟨m, wv, ov, mf, hN, _⟩ | ⟨_, h0, _⟩
      · have := hN.few; omega
      · rw [h0] at hn; simp [initSt] at hn; omega
    have x1 : IntKind.i64.wrap ((i : Int) + 1 - 1) = (i : Int) := by rw [IntWalk.i64_in _ (by omega)]; omega
    clear h hf hbx hxS hn hin hha hx hil hfew
    go_enter Try.func30, Try.ntmps30
    go_wp2_with (go_at_call 59; refine HHA.out.mono ?_; rintro e w1 ⟨rfl, S1, h1, ht⟩; have H1 := Lib.hid h1; obtain ⟨m, wv, ov, mf, hN, hS⟩ := h1; have HT := Lib.hid ht; have hb1 := HBX.out.fr ht.1 HXS.out; have c0 := hN.cells.1; obtain ⟨b, cap, hA, _, d0, d1, d2, d3, d4⟩ := words_cells hN.words HX.out; rw [HN.out] at hA; subst hA; have y0 := hb1.frozen 0; have y1 := hb1.frozen 1; have y2 := hb1.frozen 2; have y3 := hb1.frozen 3; have y4 := hb1.frozen 4; have q0 := hb1.cell 0; have q1 := hb1.cell 1; have q2 := hb1.cell 2; have q3 := hb1.cell 3; have q5 := hb1.cell 4; have HB1 := Lib.hid hb1; have HSR := Lib.hid (fun k (hk : S1 k) => (show k ≠ w.heap.size from fun e => (by subst e; rcases ht.2 _ hk with h | h; exact HXS.out h; have := HBX.out.lt; omega))); clear hS ht hb1 hN)
    have hz := HB1.out
    obtain ⟨W, hW⟩ : ∃ W, (((((w1.setCell ⟨w.heap.size, 0, none⟩ (.string (strOfNums x.name))).setCell ⟨w.heap.size, 1, none⟩ (.int .i64 x.xt)).setCell ⟨w.heap.size, 2, none⟩ (.int .i64 x.list)).setCell ⟨w.heap.size, 3, none⟩ (.bool x.imm)).setCell ⟨w.heap.size, 4, none⟩ (.bool x.only)) = W := ⟨_, rfl⟩
    have hR := (((((hz.set_ 0 (.string (strOfNums x.name))).set_ 1 (.int .i64 x.xt)).set_ 2 (.int .i64 x.list)).set_ 3 (.bool x.imm)).set_ 4 (.bool x.only))
    have hFW := ((((((Fr.refl (fun k => k = w.heap.size) w1).setCell (p := ⟨w.heap.size, 0, none⟩) (.inl rfl) (.string (strOfNums x.name))).setCell (p := ⟨w.heap.size, 1, none⟩) (.inl rfl) (.int .i64 x.xt)).setCell (p := ⟨w.heap.size, 2, none⟩) (.inl rfl) (.int .i64 x.list)).setCell (p := ⟨w.heap.size, 3, none⟩) (.inl rfl) (.bool x.imm)).setCell (p := ⟨w.heap.size, 4, none⟩) (.inl rfl) (.bool x.only))
    rw [hW] at hR hFW ⊢
    simp only [List.setIfInBounds_toArray, List.set_cons_zero, List.set_cons_succ] at hR
    have r0 : W.cell? ⟨w.heap.size, 0, none⟩ = some (.string (strOfNums x.name)) := hR.cell 0
    have r1 : W.cell? ⟨w.heap.size, 1, none⟩ = some (.int .i64 x.xt) := hR.cell 1
    have r2 : W.cell? ⟨w.heap.size, 2, none⟩ = some (.int .i64 x.list) := hR.cell 2
    have r3 : W.cell? ⟨w.heap.size, 3, none⟩ = some (.bool x.imm) := hR.cell 3
    have r4 : W.cell? ⟨w.heap.size, 4, none⟩ = some (.bool x.only) := hR.cell 4
    clear hR hW y0 y1 y2 y3 y4 q0 q1 q2 q3 q5
    refine bodyPost_ret (v := .tuple #[.agg #[.string (strOfNums x.name), .int .i64 x.xt, .int .i64 x.list, .bool x.imm, .bool x.only], .int .i64 0]) (by simp [results, Try.results30, go_sem, r0, r1, r2, r3, r4]) rfl ⟨rfl, S1, H1.out.fr hFW HSR.out, ((Turn.of0 HF.out).trans HT.out).1.then hFW (fun i hi e => by omega), fun k hk => ?_⟩
    rcases HT.out.2 k hk with h | h
    · exact .inl h
    · have := HF.out.size; exact .inr (by omega)
  · have hha : hasV s.ws.length nt = 4 := by unfold hasV; rw [hn, if_neg hin]
    rw [hha] at HHA
    rw [if_neg hin, if_neg hin]
    clear h hf hbx hxS hn hin hha
    go_enter Try.func30, Try.ntmps30
    go_wp2_with (go_at_call 59; refine HHA.out.mono ?_; rintro e w1 ⟨rfl, S1, h1, ht⟩; have H1 := Lib.hid h1; have HT := Lib.hid ht; have hb1 := HBX.out.fr ht.1 HXS.out; have y0 := hb1.frozen 0; have y1 := hb1.frozen 1; have y2 := hb1.frozen 2; have y3 := hb1.frozen 3; have y4 := hb1.frozen 4; have q0 := hb1.cell 0; have q1 := hb1.cell 1; have q2 := hb1.cell 2; have q3 := hb1.cell 3; have q5 := hb1.cell 4; have HB1 := Lib.hid hb1; have HSR := Lib.hid (fun k (hk : S1 k) => (show k ≠ w.heap.size from fun e => (by subst e; rcases ht.2 _ hk with h | h; exact HXS.out h; have := HBX.out.lt; omega))); clear ht hb1 h1)
    have hz := HB1.out
    obtain ⟨W, hW⟩ : ∃ W, (((((w1.setCell ⟨w.heap.size, 0, none⟩ (.string ⟨#[]⟩)).setCell ⟨w.heap.size, 1, none⟩ (.int .i64 0)).setCell ⟨w.heap.size, 2, none⟩ (.int .i64 0)).setCell ⟨w.heap.size, 3, none⟩ (.bool false)).setCell ⟨w.heap.size, 4, none⟩ (.bool false)) = W := ⟨_, rfl⟩
    have hR := (((((hz.set_ 0 (.string ⟨#[]⟩)).set_ 1 (.int .i64 0)).set_ 2 (.int .i64 0)).set_ 3 (.bool false)).set_ 4 (.bool false))
    have hFW := ((((((Fr.refl (fun k => k = w.heap.size) w1).setCell (p := ⟨w.heap.size, 0, none⟩) (.inl rfl) (.string ⟨#[]⟩)).setCell (p := ⟨w.heap.size, 1, none⟩) (.inl rfl) (.int .i64 0)).setCell (p := ⟨w.heap.size, 2, none⟩) (.inl rfl) (.int .i64 0)).setCell (p := ⟨w.heap.size, 3, none⟩) (.inl rfl) (.bool false)).setCell (p := ⟨w.heap.size, 4, none⟩) (.inl rfl) (.bool false))
    rw [hW] at hR hFW ⊢
    simp only [List.setIfInBounds_toArray, List.set_cons_zero, List.set_cons_succ] at hR
    have r0 : W.cell? ⟨w.heap.size, 0, none⟩ = some (.string ⟨#[]⟩) := hR.cell 0
    have r1 : W.cell? ⟨w.heap.size, 1, none⟩ = some (.int .i64 0) := hR.cell 1
    have r2 : W.cell? ⟨w.heap.size, 2, none⟩ = some (.int .i64 0) := hR.cell 2
    have r3 : W.cell? ⟨w.heap.size, 3, none⟩ = some (.bool false) := hR.cell 3
    have r4 : W.cell? ⟨w.heap.size, 4, none⟩ = some (.bool false) := hR.cell 4
    clear hR hW y0 y1 y2 y3 y4 q0 q1 q2 q3 q5
    refine bodyPost_ret (v := .tuple #[.agg #[.string ⟨#[]⟩, .int .i64 0, .int .i64 0, .bool false, .bool false], .int .i64 4]) (by simp [results, Try.results30, go_sem, r0, r1, r2, r3, r4]) rfl ⟨rfl, S1, H1.out.fr hFW HSR.out, ((Turn.of0 HF.out).trans HT.out).1.then hFW (fun i hi e => by omega), fun k hk => ?_⟩
    rcases HT.out.2 k hk with h | h
    · exact .inl h
    · have := HF.out.size; exact .inr (by omega)
end
end Go.Proofs.Ytmhjnbolngdijaa
