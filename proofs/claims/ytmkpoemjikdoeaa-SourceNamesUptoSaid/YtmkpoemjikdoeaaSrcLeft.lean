/- The program's source: Left. -/
import Derived.Test.YtmkpoemjikdoeaaSrcLay
namespace Go.Proofs.Ytmkpoemjikdoeaa
open Go Go.RowKit
set_option linter.unusedVariables false

section
variable {w w' : World} {c p g : Nat} {bs L : List Int} {inn : Nat} {vi : Int}
set_option maxRecDepth 100000 in
set_option maxHeartbeats 4000000 in
theorem Left_src (w : World) (h : Src w c p g bs L inn vi) :
    Calls Try.prog 14 #[.pointer (some ⟨c, 0, none⟩)] w fun e w' => ∃ u, e = .returned u ∧ Row8 w' w'.heap.size u (L.drop inn) ∧ Fr0 w w' := by
  have HN := Lib.hid (none_src w h)
  have HI := Lib.hid (fun W (hW : Fr0 w W) => in_src W (h.fr0 hW))
  have HIS := Lib.hid (fun W (hW : Fr0 w W) => inside_src W (h.fr0 hW))
  obtain ⟨lb1, lb2⟩ := line_bytes bs L h.len h.line h.nle inn h.le
  have hB := fun W (hW : Fr0 w W) => Bytes_any (65792 + (inn : Int)) ((L.length : Int) - inn) W (h.sp.fr0 hW) ⟨by omega, by have := h.nle; have := h.le; omega⟩ ⟨by have := h.le; omega, by have := h.nle; omega⟩
  rw [lb1, lb2] at hB
  have HB := Lib.hid hB
  have hcl := h.obj.lt
  obtain ⟨h0, _, h2, h3, _⟩ := h.cells
  have hn := h.nle
  have hle := h.le
  have hMb : Bytes (L.drop inn) := h.byt.drop _
  have hMl : (L.drop inn).length = L.length - inn := by simp
  generalize L.drop inn = M at *
  have HMB := Lib.hid hMb
  clear hB lb1 lb2 hMb h
  generalize L.length = n at *
  obtain ⟨m, hm⟩ : ∃ m, n - inn = m := ⟨_, rfl⟩
  rw [hm] at hMl
  have HML := Lib.hid hMl
  have hmk := fun W => make8 ((n : Int) - inn) (by omega) (by omega) W
  rw [show ((n : Int) - inn).toNat = m by omega] at hmk
  have hml : m ≤ 1024 := by omega
  have HM := Lib.hid hm
  clear hMl hm
  go_enter Try.func14, Try.ntmps14
  go_wp2_with (go_at_call 20; refine HN.out.mono ?_; rintro e w' ⟨rfl, rfl⟩)
  go_region_held3 (fun W => W.cell? ⟨c, 3, none⟩ = some (.int .i64 n)) (first | exact h3 | exact k3) ((go_at_call 28; refine (HI.out _ (Fr.refl _ w).drew).mono ?_; rintro e w1 ⟨rfl, hf1'⟩; have hf1 : Fr0 w w1 := (Fr.refl _ w).drew.trans hf1'; have k3 := (hf1.cell (p := ⟨c, 3, none⟩) hcl (fun x => x)).trans h3))
  go_wp2
  have HF1 := Lib.hid hf1
  obtain ⟨og, hog⟩ : ∃ og, w1.heap.size = og := ⟨_, rfl⟩
  have hbo : Blk (w1.alloc (.cells (cells8 (noughts m)) 5)) og 5 (cells8 (noughts m)) := by rw [← hog]; exact Blk.new _ _ _
  have hfo : Fr0 w (w1.alloc (.cells (cells8 (noughts m)) 5)) := hf1.alloc _
  have hlo : w.heap.size ≤ og := by rw [← hog]; exact hf1.size
  rw [hog]
  obtain ⟨w3, hw3⟩ : ∃ w3, w1.alloc (.cells (cells8 (noughts m)) 5) = w3 := ⟨_, rfl⟩
  rw [hw3] at hbo hfo ⊢
  have HBO := Lib.hid hbo
  have HFO := Lib.hid hfo
  clear hbo hfo hw3 hog hf1 hf1' k3 hmk
  go_loopw [26] (fun k' wr => ∃ (k : Nat) (l : List Int), k ≤ m ∧ k' = .int .i64 k ∧ l.length = m ∧ Blk wr og 5 (cells8 l) ∧ Fr0 w wr) (fun k' _ => m - (intOf k').toNat)
  case atStart => exact ⟨0, noughts m, by omega, rfl, noughts_length m, HBO.out, HFO.out⟩
  case round =>
    obtain ⟨k, l, hk, rfl, hl, hb, hf⟩ := hrel
    by_cases hkm : k < m
    · have hc := hb.cell k
      have hz := hb.frozen k
      rw [cells8_at, List.getElem?_eq_getElem (by omega)] at hc
      simp only [Option.map_some] at hc
      have HB' := Lib.hid hb
      have HF' := Lib.hid hf
      have HL := Lib.hid hl
      clear hb hf
      have hkI : (k : Int) < (m : Int) := by omega
      go_wp2
      refine ⟨⟨k + 1, l.set k 32, by omega, by push_cast; rfl, by rw [List.length_set]; exact HL.out, by rw [← cells8_set]; exact HB'.out.set_ _ _, HF'.out.setCell (.inr hlo) _⟩, by simp [intOf]; omega⟩
    · obtain rfl : k = m := by omega
      have HB' := Lib.hid hb
      have HF' := Lib.hid hf
      have HL := Lib.hid hl
      have hob := hb.lt
      clear hb hf hl
      by_cases hlt : inn < n
      · have hltI : (inn : Int) < (n : Int) := by omega
        have hk0 : 0 < k := by have := HM.out; omega
        go_wp2_with (go_at_call 29; refine (HIS.out _ HF'.out).mono ?_; rintro e w4 ⟨rfl, q, rfl⟩)
        have y0 := (HF'.out.cell (p := ⟨c, 0, none⟩) hcl (fun x => x)).trans h0
        have y2 := (HF'.out.cell (p := ⟨c, 2, none⟩) hcl (fun x => x)).trans h2
        have x1 : IntKind.i64.wrap (65792 + (inn : Int)) = 65792 + (inn : Int) := IntWalk.i64_in _ (by omega)
        have x2 : IntKind.i64.wrap ((n : Int) - (inn : Int)) = (n : Int) - (inn : Int) := IntWalk.i64_in _ (by omega)
        have mx : (if (inn : Int) < 0 then (0 : Int) else (inn : Int)) = (inn : Int) := if_neg (by omega)
        go_region_held3 (fun W => W.cell? ⟨c, 0, none⟩ = some (.pointer (some ⟨p, 0, none⟩)) ∧ W.cell? ⟨c, 2, none⟩ = some (.int .i64 65792)) (first | exact ⟨y0, y2⟩ | exact ⟨e0, e2⟩) ((go_at_call 11; (try simp only [mx, x1, x2]); (with_reducible refine (HB.out _ (HF'.out.drewN _)).mono ?_); rintro e w5 ⟨_, rfl, u, rfl, hou, hf5⟩; have HOU := Lib.hid hou; have HF5 := Lib.hid (((Fr.refl (fun _ => False) wr).drewN _).trans hf5); have e0 := (HF5.out.cell (p := ⟨c, 0, none⟩) (Nat.lt_of_lt_of_le hcl HF'.out.size) (fun x => x)).trans y0; have e2 := (HF5.out.cell (p := ⟨c, 2, none⟩) (Nat.lt_of_lt_of_le hcl HF'.out.size) (fun x => x)).trans y2; obtain ⟨A5, cp5, e5⟩ := own8_form hou; rw [HML.out] at e5; subst e5; clear hou hf5))
        all_goals
          clear x1 x2 mx
          have hb5 := HB'.out.fr0 HF5.out
          have HB5 := Lib.hid hb5
          clear hb5
          have hcf : CopyFits w5 og 0 l.length (.slice (some ⟨og, 0, none⟩) k k) (.slice  A5 k cp5) M := by
            obtain ⟨gg, cc, e, _⟩ := HOU.out.form (by rw [HML.out]; exact hk0)
            injection e with ee1 ee2 ee3
            subst ee1 ee3
            refine .inr ⟨k, ⟨gg, 0, none⟩, _, by rw [HML.out], by rw [HML.out], by rw [HML.out, HL.out]; omega, fun j x hx => ?_⟩
            have hj := (List.getElem?_eq_some_iff.1 hx).1
            have := HOU.out.cell HML.out.symm hj
            rw [List.getElem?_eq_getElem hj] at hx
            rw [Option.some.inj hx] at this
            rw [show (⟨gg, 0, none⟩ : Addr).add j = ⟨gg, j, none⟩ by unfold Addr.add; split <;> simp_all]
            exact this
          have HCF := Lib.hid hcf
          clear hcf
          have hres : ∀ W, Blk W og 5 (cells8 (poke l 0 M)) → Row8 W W.heap.size (.slice (some ⟨og, 0, none⟩) k k) M := fun W hW => by
            have e1 : poke l 0 M = M := by
              unfold poke
              rw [List.take_zero, List.nil_append, Nat.zero_add, List.drop_of_length_le (by rw [HML.out, HL.out]; exact Nat.le_refl _), List.append_nil]
            rw [e1] at hW
            exact ⟨some ⟨og, 0, none⟩, k, by rw [HML.out], by rw [HML.out]; exact Nat.le_refl _, ⟨by omega, by rw [HML.out]; omega⟩, HMB.out, fun _ => ⟨og, 0, rfl, hW.lt, fun j x hx => by rw [hW.cell, cells8_at, Nat.zero_add, hx]; rfl⟩⟩
          have HRES := Lib.hid hres
          clear hres
          go_wp2_with (refine wpList_copy8 rfl (.tmp 71) (.tmp 72) _ _ rfl _ Try.underlying25 (by kernel_rfl) _ _ rfl rfl og 0 l _ HB5.out M HCF.out ?_; intro w6 hf6 hs6 hb6)
          go_ret
          exact ⟨_, rfl, HRES.out _ hb6, (HF'.out.trans HF5.out).then hf6 (fun k hk e => by omega)⟩
      · have hge : (n : Int) ≤ (inn : Int) := by omega
        have hk0 : k = 0 := by have := HM.out; omega
        go_wp2_with (go_at_call 29; refine (HIS.out _ HF'.out).mono ?_; rintro e w4 ⟨rfl, q, rfl⟩)
        go_ret
        refine ⟨_, rfl, ?_, HF'.out.drewN _⟩
        have hM0 : M = [] := List.eq_nil_of_length_eq_zero (by rw [HML.out, hk0])
        rw [hM0]
        exact ⟨some ⟨og, 0, none⟩, k, by rw [hk0]; rfl, by simp, ⟨by omega, by simp⟩, (fun x hx => by cases hx), fun hh => by simp at hh⟩
end
end Go.Proofs.Ytmkpoemjikdoeaa
