/- The table of words: Count, Of. -/
import Derived.Test.YtoliidlaahhcpaaWeach
import Derived.Laws.EntriesVeiled
namespace Go.Proofs.Ytoliidlaahhcpaa
open Go Go.RowKit
set_option linter.unusedVariables false
attribute [local go_sem] Oper.semAt_some

theorem rowV_eq (r : WRow) : rowV r = .agg #[.string (strOfNums r.1), .int .i64 r.2.1, .bool (flag r.2.2.1 1), .bool (flag r.2.2.1 2), .int .i64 r.2.2.2.1, .int .i64 r.2.2.2.2.1, .int .i64 r.2.2.2.2.2.1, .int .i64 r.2.2.2.2.2.2] := rfl
def rowO (r : WRow) : Obj := .cells #[.string (strOfNums r.1), .int .i64 r.2.1, .bool (flag r.2.2.1 1), .bool (flag r.2.2.1 2), .int .i64 r.2.2.2.1, .int .i64 r.2.2.2.2.1, .int .i64 r.2.2.2.2.2.1, .int .i64 r.2.2.2.2.2.2] 23

theorem cntW_succ {n : Nat} {r : WRow} (hr : tab[n]? = some r) (layer : Int) : cntW layer (n + 1) = if r.2.1 ≤ layer then cntW layer n + 1 else cntW layer n := by
  show (match tab[n]? with | some r => if r.2.1 ≤ layer then cntW layer n + 1 else cntW layer n | none => cntW layer n) = _
  rw [hr]
theorem outW_succ {n : Nat} {r : WRow} (hr : tab[n]? = some r) (layer i : Int) : outW layer i (n + 1) = if r.2.1 ≤ layer then (if i - (cntW layer n + 1 : Int) = 0 then (n : Int) + 1 else outW layer i n) else outW layer i n := by
  show (match tab[n]? with | some r => if r.2.1 ≤ layer then (if i - (cntW layer n + 1 : Int) = 0 then (n : Int) + 1 else outW layer i n) else outW layer i n | none => outW layer i n) = _
  rw [hr]
theorem tab_lt {n : Nat} {r : WRow} (hr : tab[n]? = some r) : n < 421 := by
  have := (List.getElem?_eq_some_iff.1 hr).1
  rw [tab_len] at this
  exact this

set_option maxHeartbeats 2000000 in
theorem count1_any (n : Nat) (r : WRow) (hr : tab[n]? = some r) (layer : Int) (b1 b2 : Nat) (W : World) (h1 : Blk W b1 3 #[.int .i64 layer]) (h2 : Blk W b2 3 #[.int .i64 (cntW layer n)]) (hne : b1 ≠ b2) :
    Calls Try.prog 13 #[.int .i64 ((n : Int) + 1), rowV r, .pointer (some ⟨b1, 0, none⟩), .pointer (some ⟨b2, 0, none⟩)] W fun e W' => e = .returned (.tuple #[]) ∧ Blk W' b1 3 #[.int .i64 layer] ∧ Blk W' b2 3 #[.int .i64 (cntW layer (n + 1))] ∧ Fr (fun k => k = b2) W W' := by
  rw [cntW_succ hr layer, rowV_eq]
  have hcl := cntW_le layer n
  have hn := tab_lt hr
  have k1 := h1.alloc (rowO r)
  have k2 := h2.alloc (rowO r)
  have hF : Fr (fun k => k = b2) W (W.alloc (rowO r)) := (Fr.refl _ W).alloc _
  have c1 := k1.cell 0
  have c2 := k2.cell 0
  have y2 := k2.frozen 0
  have hl2 := h2.lt
  simp at c1 c2
  unfold rowO at c1 c2 y2
  generalize cntW layer n = c at *
  have x1 : IntKind.i64.wrap ((c : Int) + 1) = (c : Int) + 1 := IntWalk.i64_in _ (by omega)
  have K1 := Lib.hid h1
  have K2 := Lib.hid h2
  have HF := Lib.hid hF
  clear k1 k2 hF h1 h2 hr
  by_cases hl : r.2.1 ≤ layer
  · rw [if_pos hl]
    go_enter Try.func13, Try.ntmps13
    go_wp2_with fail
    go_end0
    have kk := (K2.out.set_ 0 (.int .i64 ((c : Int) + 1))).alloc (rowO r)
    exact ⟨rfl, (K1.out.far (p := ⟨b2, 0, none⟩) hne _).alloc _, by simp at kk; exact kk, ((Fr.refl (fun k => k = b2) W).setCell (p := ⟨b2, 0, none⟩) (.inl rfl) _).alloc _⟩
  · rw [if_neg hl]
    have hl' : layer < r.2.1 := by omega
    go_enter Try.func13, Try.ntmps13
    go_wp2_with fail
    go_end0
    exact ⟨rfl, K1.out.alloc _, K2.out.alloc _, HF.out⟩

set_option maxHeartbeats 2000000 in
theorem Count_any (layer : Int) (w : World) : Calls Try.prog 7 #[.int .i64 layer] w fun e w' => e = .returned (.int .i64 (cntW layer 421)) ∧ Fr0 w w' := by
  obtain ⟨b1, hb1⟩ : ∃ b1, w.heap.size = b1 := ⟨_, rfl⟩
  obtain ⟨w1, hw1⟩ : ∃ w1, (w.alloc (.cells #[.int .i64 layer] 3)).alloc (.cells #[.int .i64 0] 3) = w1 := ⟨_, rfl⟩
  have h1 : Blk w1 b1 3 #[.int .i64 layer] := by rw [← hw1, ← hb1]; exact (Blk.new w _ _).alloc _
  have h2 : Blk w1 (b1 + 1) 3 #[.int .i64 0] := by
    have := Blk.new (w.alloc (.cells #[.int .i64 layer] 3)) 3 #[.int .i64 0]
    rw [hw1] at this
    simpa [hb1] using this
  have hF : Fr0 w w1 := by rw [← hw1]; exact ((Fr.refl _ w).alloc _).alloc _
  have hsz : w1.heap.size = b1 + 2 := by rw [← hw1]; simp [hb1]
  have c2 := h2.cell 0
  have y2 := h2.frozen 0
  simp at c2
  have h1' := h1.far (p := ⟨b1 + 1, 0, none⟩) (by dsimp only; omega) (.int .i64 0)
  have h2' := h2.set_ 0 (.int .i64 0)
  have hF' : Fr0 w (w1.setCell ⟨b1 + 1, 0, none⟩ (.int .i64 0)) := hF.setCell (.inr (by dsimp only; omega)) _
  have hsz' : (w1.setCell ⟨b1 + 1, 0, none⟩ (.int .i64 0)).heap.size = b1 + 2 := by simpa [World.setCell] using hsz
  have HE := Lib.hid (each_any 13 #[.pointer (some ⟨b1, 0, none⟩), .pointer (some ⟨b1 + 1, 0, none⟩)] (fun k => k = b1 + 1) (fun n W => Blk W b1 3 #[.int .i64 layer] ∧ Blk W (b1 + 1) 3 #[.int .i64 (cntW layer n)]) _ (fun _ _ => rfl) ⟨h1', h2'⟩ (fun k hk => by rw [hsz']; omega) (fun n W W' h hf => ⟨h.1.fr0 hf, h.2.fr0 hf⟩) (fun n r W hr h => (count1_any n r hr layer b1 (b1 + 1) W h.1 h.2 (by omega)).mono fun e W' ⟨he, a1, a2, a3⟩ => ⟨he, ⟨a1, a2⟩, a3⟩))
  have HF := Lib.hid hF'
  have HB := Lib.hid hb1
  clear h1 h2 hF hsz h1' h2' hF' hsz'
  go_enter Try.func7, Try.ntmps7
  go_wp2_with (go_at_call 12; refine HE.out.mono ?_; rintro e w3 ⟨rfl, ⟨k1, k2⟩, hf3⟩; have c3 := k2.cell 0; simp at c3)
  go_ret
  exact ⟨rfl, HF.out.then hf3 (fun k hk e => by have := HB.out; omega)⟩

set_option maxHeartbeats 2000000 in
theorem of1_any (n : Nat) (r : WRow) (hr : tab[n]? = some r) (layer i : Int) (hi : 0 ≤ i ∧ i ≤ 1000) (b1 b2 b3 : Nat) (W : World) (h1 : Blk W b1 3 #[.int .i64 layer]) (h2 : Blk W b2 3 #[.int .i64 (i - cntW layer n)]) (h3 : Blk W b3 3 #[.int .i64 (outW layer i n)]) (hne : b1 ≠ b2 ∧ b1 ≠ b3 ∧ b2 ≠ b3) :
    Calls Try.prog 14 #[.int .i64 ((n : Int) + 1), rowV r, .pointer (some ⟨b1, 0, none⟩), .pointer (some ⟨b2, 0, none⟩), .pointer (some ⟨b3, 0, none⟩)] W fun e W' => e = .returned (.tuple #[]) ∧ Blk W' b1 3 #[.int .i64 layer] ∧ Blk W' b2 3 #[.int .i64 (i - cntW layer (n + 1))] ∧ Blk W' b3 3 #[.int .i64 (outW layer i (n + 1))] ∧ Fr (fun k => k = b2 ∨ k = b3) W W' := by
  rw [cntW_succ hr layer, outW_succ hr layer i, rowV_eq]
  have hcl := cntW_le layer n
  have hn := tab_lt hr
  have hl1 := h1.lt
  have hl2 := h2.lt
  have hl3 := h3.lt
  have c1 := (h1.alloc (rowO r)).cell 0
  have c2 := (h2.alloc (rowO r)).cell 0
  have c3 := (h3.alloc (rowO r)).cell 0
  have y2 := (h2.alloc (rowO r)).frozen 0
  have y3 := (h3.alloc (rowO r)).frozen 0
  simp at c1 c2 c3
  unfold rowO at c1 c2 c3 y2 y3
  obtain ⟨i0, i1⟩ := hi
  generalize cntW layer n = c at *
  generalize outW layer i n = o at *
  obtain ⟨ic, hic⟩ : ∃ ic, i - (c : Int) = ic := ⟨_, rfl⟩
  rw [show ((if r.2.1 ≤ layer then c + 1 else c : Nat) : Int) = if r.2.1 ≤ layer then (c : Int) + 1 else c by split <;> simp, show i - ((c : Int) + 1) = ic - 1 by omega]
  rw [hic] at h2 c2
  have x1 : IntKind.i64.wrap (ic - 1) = ic - 1 := IntWalk.i64_in _ (by omega)
  have K1 := Lib.hid h1
  have K2 := Lib.hid h2
  have K3 := Lib.hid h3
  have HIC := Lib.hid hic
  clear h1 h2 h3 hr hic
  by_cases hl : r.2.1 ≤ layer
  · rw [if_pos hl, if_pos hl, show i - ((c : Int) + 1) = ic - 1 by have := HIC.out; omega]
    by_cases hz : ic - 1 = 0
    · rw [if_pos hz]
      obtain rfl : ic = 1 := by omega
      have d2 := ((K2.out.set_ 0 (.int .i64 0)).alloc (rowO r)).cell 0
      have d3 := ((K3.out.far (p := ⟨b2, 0, none⟩) (fun e => hne.2.2 e.symm) (.int .i64 0)).alloc (rowO r)).cell 0
      have yd3 := ((K3.out.far (p := ⟨b2, 0, none⟩) (fun e => hne.2.2 e.symm) (.int .i64 0)).alloc (rowO r)).frozen 0
      unfold rowO at d2 d3 yd3
      simp at d2 d3
      clear hz x1
      go_enter Try.func14, Try.ntmps14
      go_wp2_with fail
      go_end0
      have kk := ((K2.out.set_ 0 (.int .i64 0)).far (p := ⟨b3, 0, none⟩) hne.2.2 (.int .i64 ((n : Int) + 1))).alloc (rowO r)
      have kk3 := ((K3.out.far (p := ⟨b2, 0, none⟩) (fun e => hne.2.2 e.symm) (.int .i64 0)).set_ 0 (.int .i64 ((n : Int) + 1))).alloc (rowO r)
      simp at kk kk3
      exact ⟨rfl, ((K1.out.far (p := ⟨b2, 0, none⟩) hne.1 _).far (p := ⟨b3, 0, none⟩) hne.2.1 _).alloc _, kk, kk3, (((Fr.refl (fun k => k = b2 ∨ k = b3) W).setCell (p := ⟨b2, 0, none⟩) (.inl (.inl rfl)) _).setCell (p := ⟨b3, 0, none⟩) (.inl (.inr rfl)) _).alloc _⟩
    · rw [if_neg hz]
      have d2 := ((K2.out.set_ 0 (.int .i64 (ic - 1))).alloc (rowO r)).cell 0
      unfold rowO at d2
      simp at d2
      go_enter Try.func14, Try.ntmps14
      go_wp2_with fail
      go_end0
      have kk := (K2.out.set_ 0 (.int .i64 (ic - 1))).alloc (rowO r)
      simp at kk
      exact ⟨rfl, (K1.out.far (p := ⟨b2, 0, none⟩) hne.1 _).alloc _, kk, (K3.out.far (p := ⟨b2, 0, none⟩) (fun e => hne.2.2 e.symm) _).alloc _, ((Fr.refl (fun k => k = b2 ∨ k = b3) W).setCell (p := ⟨b2, 0, none⟩) (.inl (.inl rfl)) _).alloc _⟩
  · rw [if_neg hl, if_neg hl, HIC.out]
    have hl' : layer < r.2.1 := by omega
    go_enter Try.func14, Try.ntmps14
    go_wp2_with fail
    go_end0
    exact ⟨rfl, K1.out.alloc _, K2.out.alloc _, K3.out.alloc _, (Fr.refl _ W).alloc _⟩
end Go.Proofs.Ytoliidlaahhcpaa
