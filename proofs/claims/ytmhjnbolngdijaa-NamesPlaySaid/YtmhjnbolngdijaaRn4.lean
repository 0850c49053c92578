/- The document's names: Find, Search. -/
import Derived.Test.YtmhjnbolngdijaaRn3
namespace Go.Proofs.Ytmhjnbolngdijaa
open Go Go.RowKit
set_option linter.unusedVariables false
attribute [local go_sem] Oper.semAt_some

theorem take_last {ws : List Wd} {j : Nat} {x : Wd} (hx : ws[j]? = some x) (k : Int × ByteArray) : lastOf (ws.take (j + 1)) k = if x.key = k then (j : Int) + 1 else lastOf (ws.take j) k := by
  have hj := (List.getElem?_eq_some_iff.1 hx).1
  rw [take_snoc hx, lastOf_snoc, List.length_take, Nat.min_eq_left (by omega)]
section
variable {w w' : World} {B c : Nat} {s : St} {S T : Nat → Prop}
set_option maxRecDepth 100000 in
set_option maxHeartbeats 8000000 in
theorem Find_rn (l : Int) (nm : List Int) (hb : (∀ y ∈ nm, 0 ≤ y ∧ y ≤ 255) ∧ nm.length ≤ 1000000) (w : World) (h : RnS w B c s S) :
    Calls Try.prog 51 #[.pointer (some ⟨c, 0, none⟩), .int .i64 l, .string (strOfNums nm)] w fun e w' => e = .returned (.tuple #[.int .i64 (lastOf s.ws (l, strOfNums (lowL nm))), .bool (decide (lastOf s.ws (l, strOfNums (lowL nm)) ≠ 0))]) ∧ Fr0 w w' := by
  obtain ⟨lv, ov, h1, h2, h3, h4, h5, h6, hS⟩ := h
  obtain ⟨c0, c1, c2, c3⟩ := h1.cells
  obtain ⟨_, A, cap, hA, _⟩ := own_src h2
  subst hA
  obtain ⟨n, hn⟩ : ∃ n, s.ws.length = n := ⟨_, rfl⟩
  have HN := Lib.hid hn
  have H1 := Lib.hid h1
  have H2 := Lib.hid h2
  have H6 := Lib.hid h6
  have HB := Lib.hid hb
  have hn5 := h6.1
  obtain ⟨r, hr⟩ : ∃ r, lastOf s.ws (l, strOfNums (lowL nm)) = r := ⟨_, rfl⟩
  have HR := Lib.hid hr
  rw [hn] at c0 H2 hn5
  rw [hr]
  obtain ⟨nl, hnl⟩ : ∃ nl, nm.length = nl := ⟨_, rfl⟩
  have HNL := Lib.hid hnl
  clear h1 h2 h3 h6 hS hn hr hb hnl
  go_enter Try.func51, Try.ntmps51
  go_wp2_with fail
  go_loopw [8] (fun i wr => ∃ j : Nat, j ≤ n ∧ i = .int .i64 j ∧ r = lastOf (s.ws.take j) (l, strOfNums (lowL nm)) ∧ Fr0 w wr) (fun i _ => (intOf i).toNat)
  case atStart => exact ⟨n, Nat.le_refl _, rfl, by rw [← HN.out, List.take_length]; exact HR.out.symm, Fr.refl _ _⟩
  case round =>
    obtain ⟨j, hj, rfl, hrj, hfr⟩ := hrel
    cases j with
    | zero =>
      have hr0 : r = 0 := by rw [hrj, List.take_zero]; exact lastOf_none (toksOf_nil _)
      subst hr0
      have HFR := Lib.hid hfr
      clear hrj hfr
      go_wp2_with fail
      go_ret2
      exact ⟨by simp, HFR.out⟩
    | succ j =>
      obtain ⟨x, hx⟩ : ∃ x, s.ws[j]? = some x := ⟨_, List.getElem?_eq_getElem (by rw [HN.out]; omega)⟩
      rw [take_last hx] at hrj
      have hxb := H6.out.2 x (List.mem_of_getElem? hx)
      have c0w := (hfr.cell (p := ⟨c, 0, none⟩) (RObj.blk H1.out).lt (fun x => x)).trans c0
      have h2w := own_fr H2.out hfr (fun _ _ x => x)
      rw [← HN.out] at h2w
      obtain ⟨b, cap', hA, _, d0, d1, d2, d3, d4⟩ := words_cells h2w hx
      rw [HN.out] at hA
      simp only [Value.slice.injEq, true_and] at hA
      obtain ⟨rfl, rfl⟩ := hA
      have x1 : IntKind.i64.wrap (((j + 1 : Nat) : Int) - 1) = (j : Int) := by rw [IntWalk.i64_in _ (by omega)]; omega
      have hjI : (j : Int) < (n : Int) := by omega
      have hj0 : (0 : Int) ≤ (j : Int) := by omega
      have hkey : x.key = (l, strOfNums (lowL nm)) ↔ x.list = l ∧ lowL x.name = lowL nm := by
        unfold Wd.key
        constructor
        · intro e
          injection e with e1 e2
          exact ⟨e1, str_inj (low_bytes hxb.1) (low_bytes HB.out.1) e2⟩
        · rintro ⟨e1, e2⟩
          rw [e1, e2]
      have HFR := Lib.hid hfr
      have HRJ := Lib.hid hrj
      have HKEY := Lib.hid hkey
      have HXB := Lib.hid hxb
      clear hfr hrj hkey hxb h2w hx
      rw [show ((j + 1 : Nat) : Int) = (j : Int) + 1 by push_cast; rfl] at x1 ⊢
      by_cases hl : x.list = l
      · rw [hl] at d2
        obtain ⟨xn, hxn⟩ : ∃ xn, x.name.length = xn := ⟨_, rfl⟩
        have HXN := Lib.hid hxn
        obtain ⟨cp1, w3, hcv1, hby1, hf3, hs3⟩ := convB wr x.name HXB.out.1
        obtain ⟨cp2, w4, hcv2, hby2, hf4, hs4⟩ := convB w3 nm HB.out.1
        have hSM := Same_any x.name nm wr.heap.size w3.heap.size cp1 cp2 w4 (hby1.fr hf4 (fun x => x)) hby2 HXB.out.1 HB.out.1 HXB.out.2
        have HF4 := Lib.hid ((HFR.out.trans hf3).trans hf4)
        have hxb0 := (Blk.fr0 (Blk.fr0 (Blk.fr0 H1.out HFR.out) hf3) hf4)
        rw [hxn] at hcv1 hSM
        rw [HNL.out] at hcv2 hSM
        clear hby1 hby2 hf3 hf4 hs3 hs4 hxn hxb0
        by_cases hm : lowL x.name = lowL nm
        · have hrj := HRJ.out
          rw [if_pos (HKEY.out.2 ⟨hl, hm⟩)] at hrj
          rw [decide_eq_true hm] at hSM
          have HSM := Lib.hid hSM
          have HHL := Lib.hid hl
          subst hrj
          clear hSM hl hm
          go_wp2_with (go_at_call 12; refine HSM.out.mono ?_; rintro e w5 ⟨rfl, hf5⟩; have HF5 := Lib.hid (HF4.out.trans hf5); clear hf5)
          go_ret2
          exact ⟨by simp; omega, HF5.out⟩
        · have hrj := HRJ.out
          rw [if_neg (fun e => hm (HKEY.out.1 e).2)] at hrj
          rw [decide_eq_false hm] at hSM
          have HSM := Lib.hid hSM
          have HHL := Lib.hid hl
          have HRJ2 := Lib.hid hrj
          clear hSM hl hm hrj
          go_wp2_with (go_at_call 12; refine HSM.out.mono ?_; rintro e w5 ⟨rfl, hf5⟩; have HF5 := Lib.hid (HF4.out.trans hf5); clear hf5)
          exact ⟨⟨j, by omega, rfl, HRJ2.out, HF5.out⟩, by simp [intOf]⟩
      · have hq : (x.list == l) = false := by simp; exact hl
        have hrj := HRJ.out
        rw [if_neg (fun e => hl (HKEY.out.1 e).1)] at hrj
        have HRJ2 := Lib.hid hrj
        clear hrj
        go_wp2_with fail
        exact ⟨⟨j, by omega, rfl, HRJ2.out, HFR.out⟩, by simp [intOf]⟩

set_option maxRecDepth 100000 in
set_option maxHeartbeats 4000000 in
theorem Search_rn (nm : List Int) (hb : (∀ y ∈ nm, 0 ≤ y ∧ y ≤ 255) ∧ nm.length ≤ 1000000) (w : World) (h : RnS w B c s S) (hol : s.order.length ≤ 1000) :
    Calls Try.prog 52 #[.pointer (some ⟨c, 0, none⟩), .string (strOfNums nm)] w fun e w' => e = .returned (.tuple #[.int .i64 (srchOf s.ws nm s.order), .bool (decide (srchOf s.ws nm s.order ≠ 0))]) ∧ Fr0 w w' := by
  have HFI := Lib.hid (fun l V (hV : Fr0 w V) => Find_rn l nm hb V (h.fr0 hV))
  obtain ⟨lv, ov, h1, h2, h3, h4, h5, h6, hS⟩ := h
  obtain ⟨c0, c1, c2, c3⟩ := h1.cells
  have HOR := Lib.hid (fun V (hV : Fr0 w V) => (h3.fr hV (fun _ _ x => x)).rd)
  obtain ⟨A, cap, rfl⟩ := h3.rd.form
  obtain ⟨n, hn⟩ : ∃ n, s.order.length = n := ⟨_, rfl⟩
  have HN := Lib.hid hn
  have hcl := (RObj.blk h1).lt
  rw [hn] at hol c2 HOR
  obtain ⟨sv, hsv⟩ : ∃ sv, srchOf s.ws nm s.order = sv := ⟨_, rfl⟩
  have HSV := Lib.hid hsv
  rw [hsv]
  clear h1 h2 h3 h6 hS hn hsv
  go_enter Try.func52, Try.ntmps52
  go_wp2_with fail
  go_loopw [6] (fun i wr => ∃ j : Nat, j ≤ n ∧ i = .int .i64 j ∧ sv = srchOf s.ws nm (s.order.drop j) ∧ Fr0 w wr) (fun i _ => n - (intOf i).toNat)
  case atStart => exact ⟨0, by omega, rfl, by rw [List.drop_zero]; exact HSV.out.symm, Fr.refl _ _⟩
  case round =>
    obtain ⟨j, hj, rfl, hsr, hfr⟩ := hrel
    have c2w := (hfr.cell (p := ⟨c, 2, none⟩) hcl (fun x => x)).trans c2
    by_cases hjn : j < n
    · have hjI : (j : Int) < (n : Int) := by omega
      have hjl : j < s.order.length := by rw [HN.out]; exact hjn
      obtain ⟨l, hl⟩ : ∃ l, s.order[j]? = some l := ⟨_, List.getElem?_eq_getElem hjl⟩
      obtain ⟨b, off, rfl, hc⟩ := (HOR.out wr hfr).at_ hl
      have hdr : s.order.drop j = l :: s.order.drop (j + 1) := by
        rw [List.drop_eq_getElem_cons hjl]
        rw [List.getElem?_eq_getElem hjl] at hl
        injection hl with hl
        rw [hl]
      rw [hdr, srchOf] at hsr
      have hFi := HFI.out l wr hfr
      obtain ⟨t, ht⟩ : ∃ t, lastOf s.ws (l, strOfNums (lowL nm)) = t := ⟨_, rfl⟩
      rw [ht] at hsr hFi
      have HSR := Lib.hid hsr
      have HFR := Lib.hid hfr
      have HFI2 := Lib.hid hFi
      clear hsr hfr hFi ht hl hdr
      by_cases ht0 : t = 0
      · subst ht0
        rw [show decide ((0 : Int) ≠ 0) = false by decide] at HFI2
        go_wp2_with (go_at_call 51; refine HFI2.out.mono ?_; rintro e w' ⟨rfl, hf⟩; have HF := Lib.hid hf; clear hf)
        have hsr := HSR.out
        simp only [if_true] at hsr
        exact ⟨⟨j + 1, by omega, by push_cast; rfl, hsr, HFR.out.trans HF.out⟩, by simp [intOf]; omega⟩
      · have hsr := HSR.out
        rw [if_neg ht0] at hsr
        subst hsr
        have hd : decide (sv ≠ 0) = true := by simp; exact ht0
        rw [hd] at HFI2
        go_wp2_with (go_at_call 51; refine HFI2.out.mono ?_; rintro e w' ⟨rfl, hf⟩; have HF := Lib.hid hf; clear hf)
        go_ret2
        exact ⟨congrArg (fun b => Ending.returned (.tuple #[.int .i64 sv, .bool b])) hd.symm, HFR.out.trans HF.out⟩
    · obtain rfl : j = n := by omega
      rw [← HN.out, List.drop_length, srchOf] at hsr
      subst hsr
      have HFR := Lib.hid hfr
      clear hfr
      go_wp2_with fail
      go_ret2
      exact ⟨by simp, HFR.out⟩
end
end Go.Proofs.Ytmhjnbolngdijaa
