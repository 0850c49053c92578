/- The table of words: Of, named, Find. -/
import Derived.Test.YtoliidlaahhcpaaWcount
import Derived.Test.YtoliidlaahhcpaaWfold
import Derived.Test.YtoliidlaahhcpaaMapS
namespace Go.Proofs.Ytoliidlaahhcpaa
open Go Go.RowKit
set_option linter.unusedVariables false
attribute [local go_sem] Oper.semAt_some

set_option maxHeartbeats 2000000 in
theorem Of_any (layer i : Int) (hi : 0 ≤ i ∧ i ≤ 1000) (w : World) : Calls Try.prog 8 #[.int .i64 layer, .int .i64 i] w fun e w' => e = .returned (.int .i64 (outW layer i 421)) ∧ Fr0 w w' := by
  obtain ⟨b1, hb1⟩ : ∃ b1, w.heap.size = b1 := ⟨_, rfl⟩
  obtain ⟨w1, hw1⟩ : ∃ w1, ((w.alloc (.cells #[.int .i64 layer] 3)).alloc (.cells #[.int .i64 i] 3)).alloc (.cells #[.int .i64 0] 3) = w1 := ⟨_, rfl⟩
  have h1 : Blk w1 b1 3 #[.int .i64 layer] := by rw [← hw1, ← hb1]; exact ((Blk.new w _ _).alloc _).alloc _
  have h2 : Blk w1 (b1 + 1) 3 #[.int .i64 i] := by
    have := (Blk.new (w.alloc (.cells #[.int .i64 layer] 3)) 3 #[.int .i64 i]).alloc (.cells #[.int .i64 0] 3)
    rw [hw1] at this
    simpa [hb1] using this
  have h3 : Blk w1 (b1 + 2) 3 #[.int .i64 0] := by
    have := Blk.new ((w.alloc (.cells #[.int .i64 layer] 3)).alloc (.cells #[.int .i64 i] 3)) 3 #[.int .i64 0]
    rw [hw1] at this
    simpa [hb1] using this
  have hF : Fr0 w w1 := by rw [← hw1]; exact (((Fr.refl _ w).alloc _).alloc _).alloc _
  have hsz : w1.heap.size = b1 + 3 := by rw [← hw1]; simp [hb1]
  have c3 := h3.cell 0
  have y3 := h3.frozen 0
  simp at c3
  have h1' := h1.far (p := ⟨b1 + 2, 0, none⟩) (by dsimp only; omega) (.int .i64 0)
  have h2' := h2.far (p := ⟨b1 + 2, 0, none⟩) (by dsimp only; omega) (.int .i64 0)
  have h3' := h3.set_ 0 (.int .i64 0)
  have hF' : Fr0 w (w1.setCell ⟨b1 + 2, 0, none⟩ (.int .i64 0)) := hF.setCell (.inr (by dsimp only; omega)) _
  have hsz' : (w1.setCell ⟨b1 + 2, 0, none⟩ (.int .i64 0)).heap.size = b1 + 3 := by simpa [World.setCell] using hsz
  have HE := Lib.hid (each_any 14 #[.pointer (some ⟨b1, 0, none⟩), .pointer (some ⟨b1 + 1, 0, none⟩), .pointer (some ⟨b1 + 2, 0, none⟩)] (fun k => k = b1 + 1 ∨ k = b1 + 2) (fun n W => Blk W b1 3 #[.int .i64 layer] ∧ Blk W (b1 + 1) 3 #[.int .i64 (i - cntW layer n)] ∧ Blk W (b1 + 2) 3 #[.int .i64 (outW layer i n)]) _ (fun _ _ => rfl) ⟨h1', by simpa [cntW] using h2', h3'⟩ (fun k hk => by rw [hsz']; omega) (fun n W W' h hf => ⟨h.1.fr0 hf, h.2.1.fr0 hf, h.2.2.fr0 hf⟩) (fun n r W hr h => (of1_any n r hr layer i hi b1 (b1 + 1) (b1 + 2) W h.1 h.2.1 h.2.2 ⟨by omega, by omega, by omega⟩).mono fun e W' ⟨he, a1, a2, a3, a4⟩ => ⟨he, ⟨a1, a2, a3⟩, a4⟩))
  have HF := Lib.hid hF'
  have HB := Lib.hid hb1
  clear h1 h2 h3 hF hsz h1' h2' h3' hF' hsz' hi
  go_enter Try.func8, Try.ntmps8
  go_wp2_with (go_at_call 12; refine HE.out.mono ?_; rintro e w3 ⟨rfl, ⟨k1, k2, k3⟩, hf3⟩; have c4 := k3.cell 0; simp at c4)
  go_ret
  exact ⟨rfl, HF.out.then hf3 (fun k hk e => by have := HB.out; omega)⟩

theorem mapW_succ {n : Nat} {r : WRow} (hr : tab[n]? = some r) : mapW (n + 1) = fun s => if s = strOfNums (lowL r.1) then some (Value.int .i64 ((n : Int) + 1)) else mapW n s := by
  show (match tab[n]? with | some r => fun s => if s = strOfNums (lowL r.1) then some (Value.int .i64 ((n : Int) + 1)) else mapW n s | none => mapW n) = _
  rw [hr]
theorem keysW : KeyLaws Try.prog 9 (κ := ByteArray) Value.string := strKeys Try.underlying9
theorem name_bytes {n : Nat} {r : WRow} (hr : tab[n]? = some r) : ∀ x ∈ r.1, 0 ≤ x ∧ x ≤ 255 := by
  have hb := tab_bytes
  simp only [List.all_eq_true, Bool.and_eq_true] at hb
  have := (hb r (List.mem_of_getElem? hr)).1
  simpa [bytesB] using this
theorem tab_lens : tab.all (fun r => decide (r.1.length ≤ 100)) = true := by decide +kernel
theorem name_len {n : Nat} {r : WRow} (hr : tab[n]? = some r) : r.1.length ≤ 100 := by
  have hb := tab_lens
  simp only [List.all_eq_true, decide_eq_true_eq] at hb
  exact hb r (List.mem_of_getElem? hr)

set_option maxHeartbeats 4000000 in
theorem named1_any (n : Nat) (r : WRow) (hr : tab[n]? = some r) (b1 m : Nat) (W : World) (h1 : Blk W b1 33 #[.map (some m)]) (h2 : MapK Value.string W m (mapW n)) :
    Calls Try.prog 25 #[.int .i64 ((n : Int) + 1), rowV r, .pointer (some ⟨b1, 0, none⟩)] W fun e W' => e = .returned (.tuple #[]) ∧ Blk W' b1 33 #[.map (some m)] ∧ MapK Value.string W' m (mapW (n + 1)) ∧ Fr (fun k => k = m) W W' := by
  have hne := h2.ne_ h1
  have hls := h1.lt
  have HFD := Lib.hid (fun V => folded_any r.1 (name_bytes hr) (by have := name_len hr; omega) V)
  rw [mapW_succ hr, rowV_eq]
  have hn := tab_lt hr
  have c1 := (h1.alloc (rowO r)).cell 0
  simp at c1
  have k0 : (W.alloc (.cells #[.string (strOfNums r.1), .int .i64 r.2.1, .bool (flag r.2.2.1 1), .bool (flag r.2.2.1 2), .int .i64 r.2.2.2.1, .int .i64 r.2.2.2.2.1, .int .i64 r.2.2.2.2.2.1, .int .i64 r.2.2.2.2.2.2] 23)).cell? ⟨W.heap.size, 0, none⟩ = some (.string (strOfNums r.1)) := (Blk.new W 23 #[.string (strOfNums r.1), .int .i64 r.2.1, .bool (flag r.2.2.1 1), .bool (flag r.2.2.1 2), .int .i64 r.2.2.2.1, .int .i64 r.2.2.2.2.1, .int .i64 r.2.2.2.2.2.1, .int .i64 r.2.2.2.2.2.2]).cell 0
  have HK1 := Lib.hid (h1.alloc (rowO r))
  have HK2 := Lib.hid (h2.alloc (rowO r))
  have hF : Fr0 W (W.alloc (rowO r)) := (Fr.refl _ W).alloc _
  have HF := Lib.hid hF
  have hwl : W.heap.size < (W.alloc (rowO r)).heap.size := by simp
  unfold rowO at c1 HK1 HK2 HF hwl
  have HNE := Lib.hid hne
  clear h1 h2 hF hne
  go_enter Try.func25, Try.ntmps25
  go_wp2_with fail
  have hml := HK2.out.lt
  have hmn := HK2.out.ne_ (Blk.new W 23 #[.string (strOfNums r.1), .int .i64 r.2.1, .bool (flag r.2.2.1 1), .bool (flag r.2.2.1 2), .int .i64 r.2.2.2.1, .int .i64 r.2.2.2.2.1, .int .i64 r.2.2.2.2.2.1, .int .i64 r.2.2.2.2.2.2])
  generalize hW1 : W.alloc (.cells #[.string (strOfNums r.1), .int .i64 r.2.1, .bool (flag r.2.2.1 1), .bool (flag r.2.2.1 2), .int .i64 r.2.2.2.1, .int .i64 r.2.2.2.2.1, .int .i64 r.2.2.2.2.2.1, .int .i64 r.2.2.2.2.2.2] 23) = W1 at *
  generalize hb4 : W.heap.size = b4 at *
  have hmu := HK1.out.lt
  go_region_held3 (fun V => V.cell? ⟨b1, 0, none⟩ = some (.map (some m)) ∧ V.cell? ⟨b4, 0, none⟩ = some (.string (strOfNums r.1))) (first | exact ⟨c1, k0⟩ | exact ⟨f1, f2⟩ | exact ⟨e1, e2⟩) ((go_at_call 11; (with_reducible refine (HFD.out _).mono ?_); rintro e w2 ⟨rfl, hf2'⟩; have hf2 : Fr0 W1 w2 := ((Fr.refl (fun _ => False) W1).drew).trans hf2'; have HB2 := Lib.hid (HK1.out.fr0 hf2); have HM2 := Lib.hid (HK2.out.fr hf2 (fun x => x)); have e1 := HB2.out.cell 0; have e2 := (hf2.cell (p := ⟨b4, 0, none⟩) hwl (fun x => x)).trans k0; simp at e1; obtain ⟨w3, hup, hf3, hs3, hm3⟩ := run_updateK (P := Try.prog) keysW Try.underlying33 HM2.out (strOfNums (lowL r.1)) (.int .i64 ((n : Int) + 1)); have HB3 := Lib.hid (HB2.out.fr hf3 (fun e => HNE.out e.symm)); have f1 := HB3.out.cell 0; have f2 := (hf3.cell (p := ⟨b4, 0, none⟩) (by have := hf2.size; dsimp only; omega) (fun e => hmn e.symm)).trans e2; simp at f1; have HM3 := Lib.hid hm3; have HF3 := Lib.hid ((HF.out.trans hf2).of0.trans hf3); clear hf2 hf2' hf3 hs3 hm3))
  go_wp2_with fail
  go_end0
  exact ⟨rfl, HB3.out, HM3.out, HF3.out⟩

set_option maxHeartbeats 4000000 in
theorem named_any (w : World) : Calls Try.prog 10 #[] w fun e w' => ∃ m, e = .returned (.map (some m)) ∧ MapK Value.string w' m (mapW 421) ∧ Fr0 w w' := by
  have hmm : ∀ W : World, (Instr.makeMap 33 none).run Try.prog W = .ok (.map (some W.heap.size)) (W.alloc (.map #[] 0)) := fun W => rfl
  obtain ⟨m, hm⟩ : ∃ m, w.heap.size = m := ⟨_, rfl⟩
  have h2 : MapK Value.string ((w.alloc (.map #[] 0)).alloc (.cells #[.map (some m)] 33)) m (mapW 0) := by rw [← hm]; exact (MapK.made w).alloc _
  have h1 : Blk ((w.alloc (.map #[] 0)).alloc (.cells #[.map (some m)] 33)) (m + 1) 33 #[.map (some m)] := by
    have := Blk.new (w.alloc (.map #[] 0)) 33 #[.map (some m)]
    simpa [hm] using this
  have hF : Fr0 w ((w.alloc (.map #[] 0)).alloc (.cells #[.map (some m)] 33)) := ((Fr.refl _ w).alloc _).alloc _
  have hsz : ((w.alloc (.map #[] 0)).alloc (.cells #[.map (some m)] 33)).heap.size = m + 2 := by simp [hm]
  have HE := Lib.hid (each_any 25 #[.pointer (some ⟨m + 1, 0, none⟩)] (fun k => k = m) (fun n W => Blk W (m + 1) 33 #[.map (some m)] ∧ MapK Value.string W m (mapW n)) _ (fun _ _ => rfl) ⟨h1, h2⟩ (fun k hk => by rw [hsz]; omega) (fun n W W' h hf => ⟨h.1.fr0 hf, h.2.fr hf (fun x => x)⟩) (fun n r W hr h => (named1_any n r hr (m + 1) m W h.1 h.2).mono fun e W' ⟨he, a1, a2, a3⟩ => ⟨he, ⟨a1, a2⟩, a3⟩))
  have HF := Lib.hid hF
  have HM := Lib.hid hm
  clear h1 h2 hF hsz
  go_enter Try.func10, Try.ntmps10
  go_wp2_with (go_at_call 12; refine HE.out.mono ?_; rintro e w3 ⟨rfl, ⟨k1, k2⟩, hf3⟩; have c4 := k1.cell 0; simp at c4)
  go_ret
  exact ⟨m, rfl, k2, HF.out.then hf3 (fun k hk e => by have := HM.out; omega)⟩

set_option maxHeartbeats 4000000 in
theorem Find_any (l : List Int) (hb : ∀ x ∈ l, 0 ≤ x ∧ x ≤ 255) (hl : l.length ≤ 9223372036854775807) (w : World) : Calls Try.prog 6 #[.string (strOfNums l)] w fun e w' => e = .returned ((mapW 421 (strOfNums (lowL l))).getD (.int .i64 0)) ∧ Fr0 w w' := by
  have HNM := Lib.hid (fun V => named_any V)
  have HFD := Lib.hid (fun V => folded_any l hb hl V)
  clear hb hl
  go_enter Try.func6, Try.ntmps6
  go_wp2_with (first | (go_at_call 10; refine (HNM.out _).mono ?_; rintro e w1 ⟨m, rfl, hm, hf1⟩; have HM1 := Lib.hid hm; have HF1 := Lib.hid hf1; clear hm hf1) | (go_at_call 11; refine (HFD.out _).mono ?_; rintro e w2 ⟨rfl, hf2⟩; have hlk := run_lookupK (P := Try.prog) keysW Try.underlying33 (HM1.out.fr hf2 (fun x => x)) (z := .int .i64 0) (fun W => rfl) (strOfNums (lowL l))))
  go_ret
  exact ⟨rfl, HF1.out.trans hf2⟩
end Go.Proofs.Ytoliidlaahhcpaa
