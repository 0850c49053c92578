/- Names: Find, Search. -/
import Derived.Test.YtmhjnbolngdijaaNadd
namespace Go.Proofs.Ytmhjnbolngdijaa
open Go Go.RowKit
set_option linter.unusedVariables false
attribute [local go_sem] Oper.semAt_some

/-- The last token of a key; 0, if there is none. -/
def lastOf (ws : List Wd) (k : Int × ByteArray) : Int := ((toksOf ws k).getLast?).getD 0
/-- What the lists of an order tell of a name. -/
def srchOf (ws : List Wd) (nm : List Int) : List Int → Int
  | [] => 0
  | l :: r => if lastOf ws (l, strOfNums (lowL nm)) = 0 then srchOf ws nm r else lastOf ws (l, strOfNums (lowL nm))
theorem lastOf_some {ws : List Wd} {k : Int × ByteArray} (h : toksOf ws k ≠ []) : ∃ t, (toksOf ws k)[(toksOf ws k).length - 1]? = some t ∧ lastOf ws k = t ∧ 1 ≤ t := by
  have hl : 0 < (toksOf ws k).length := List.length_pos_iff.2 h
  refine ⟨_, List.getElem?_eq_getElem (by omega), ?_, (toksOf_mem (List.getElem_mem (by omega))).1⟩
  unfold lastOf
  rw [List.getLast?_eq_getElem?, List.getElem?_eq_getElem (by omega)]
  rfl
theorem lastOf_none {ws : List Wd} {k : Int × ByteArray} (h : toksOf ws k = []) : lastOf ws k = 0 := by
  unfold lastOf
  rw [h]
  rfl

section
variable {w w' : World} {B c m q : Nat} {wv ov : Value} {lists cur : Int} {order : List Int} {ws : List Wd} {tv : Int × ByteArray → Value}
set_option maxRecDepth 100000 in
set_option maxHeartbeats 4000000 in
theorem Find_nm (l : Int) (nm : List Int) (hb : (∀ y ∈ nm, 0 ≤ y ∧ y ≤ 255) ∧ nm.length ≤ 1000000) (w : World) (h : Nm w B c m wv ov lists cur order ws ws.length tv) :
    Calls Try.prog 13 #[.pointer (some ⟨c, 0, none⟩), .int .i64 l, .string (strOfNums nm)] w fun e w' => e = .returned (.tuple #[.int .i64 (lastOf ws (l, strOfNums (lowL nm))), .bool (decide (lastOf ws (l, strOfNums (lowL nm)) ≠ 0))]) ∧ Fr0 w w' := by
  have HNO := Lib.hid (none_nm w h)
  have HPL := Lib.hid (fun V => place_any l nm hb.1 (by have := hb.2; omega) V)
  have HH := Lib.hid h
  obtain ⟨c0, c1, c2, c3, c4⟩ := h.cells
  have hcl := h.obj.lt
  have htl := toksOf_len ws (l, strOfNums (lowL nm))
  have hfew := h.few
  have hlk := fun V (hV : Fr0 w V) => (h.fr0 hV).look (l, strOfNums (lowL nm))
  have hown := fun V (hV : Fr0 w V) => (h.fr0 hV).tvOf_own (l, strOfNums (lowL nm))
  rw [List.take_length] at hown
  generalize tvOf ws ws.length tv (l, strOfNums (lowL nm)) = vk at *
  by_cases hk : toksOf ws (l, strOfNums (lowL nm)) = []
  · rw [lastOf_none hk]
    rw [hk] at hown
    obtain ⟨A, cap, rfl⟩ := (hown w (Fr.refl _ _)).rd.form
    have HLK := Lib.hid hlk
    clear h hlk hown htl
    go_enter Try.func13, Try.ntmps13
    go_wp2_with (go_at_call 33; refine HNO.out.mono ?_; rintro e w' ⟨rfl, rfl⟩)
    go_region_held3 (fun V => V.cell? ⟨c, 4, none⟩ = some (.map (some m))) (first | exact c4 | exact d4) ((go_at_call 37; (with_reducible refine (HPL.out _).mono ?_); rintro e w1 ⟨rfl, hf1⟩; have hf2 : Fr0 w w1 := (Fr.refl _ w).drew.trans hf1; have d4 := (hf2.cell (p := ⟨c, 4, none⟩) hcl (fun x => x)).trans c4; have hl1 := HLK.out w1 hf2; have HF2 := Lib.hid hf2; clear hf1 hf2))
    go_wp2_with fail
    go_ret2
    exact ⟨rfl, HF2.out⟩
  · obtain ⟨t, ht, hlt, ht1⟩ := lastOf_some hk
    rw [hlt]
    have hl0 : 0 < (toksOf ws (l, strOfNums (lowL nm))).length := List.length_pos_iff.2 hk
    have hd : decide (t ≠ 0) = true := by simp; omega
    rw [hd]
    have HOWN := Lib.hid hown
    obtain ⟨b, off, hA, hc⟩ : ∃ b cap, vk = .slice (some ⟨b, 0, none⟩) (toksOf ws (l, strOfNums (lowL nm))).length cap ∧ ∀ V, Fr0 w V → V.cell? ⟨b, (toksOf ws (l, strOfNums (lowL nm))).length - 1, none⟩ = some (.int .i64 t) := by
      obtain ⟨A, cap, rfl⟩ := (hown w (Fr.refl _ _)).rd.form
      obtain ⟨b, off, rfl, hcc⟩ := (hown w (Fr.refl _ _)).rd.at_ ht
      have h0 : off = 0 := by
        rcases (hown w (Fr.refl _ _)).2 with ⟨e, _⟩ | ⟨g, cap', cur, e, _⟩
        · cases e
        · injection e with e; injection e with e; injection e with e1 e2
      subst h0
      refine ⟨b, cap, rfl, fun V hV => ?_⟩
      obtain ⟨b2, off2, e2, hcc2⟩ := (hown V hV).rd.at_ ht
      injection e2 with e2; injection e2 with e2 e3
      subst e2 e3
      rw [Nat.zero_add] at hcc2
      exact hcc2
    subst hA
    obtain ⟨n, hn⟩ : ∃ n, (toksOf ws (l, strOfNums (lowL nm))).length = n + 1 := ⟨(toksOf ws (l, strOfNums (lowL nm))).length - 1, by omega⟩
    rw [hn] at hlk hc htl
    rw [Nat.add_sub_cancel] at hc
    have x1 : IntKind.i64.wrap ((n : Int) + 1 - 1) = (n : Int) := by rw [IntWalk.i64_in _ (by omega)]; omega
    have hnI : (n : Int) < (n : Int) + 1 := by omega
    have x2 : wrap64 (n : Int) = (n : Int) := IntWalk.wrap64_in _ (by omega)
    have HLK := Lib.hid hlk
    have HC := Lib.hid hc
    clear h hlk hown htl hc hn hl0 ht hlt hk
    go_enter Try.func13, Try.ntmps13
    go_wp2_with (go_at_call 33; refine HNO.out.mono ?_; rintro e w' ⟨rfl, rfl⟩)
    go_region_held3 (fun V => V.cell? ⟨c, 4, none⟩ = some (.map (some m))) (first | exact c4 | exact d4) ((go_at_call 37; (with_reducible refine (HPL.out _).mono ?_); rintro e w1 ⟨rfl, hf1⟩; have hf2 : Fr0 w w1 := (Fr.refl _ w).drew.trans hf1; have d4 := (hf2.cell (p := ⟨c, 4, none⟩) hcl (fun x => x)).trans c4; have hl1 := HLK.out w1 hf2; have e1 := HC.out w1 hf2; have HF2 := Lib.hid hf2; clear hf1 hf2))
    go_wp2_with fail
    go_ret2
    exact ⟨rfl, HF2.out⟩

set_option maxRecDepth 100000 in
set_option maxHeartbeats 4000000 in
theorem Search_nm (nm : List Int) (hb : (∀ y ∈ nm, 0 ≤ y ∧ y ≤ 255) ∧ nm.length ≤ 1000000) (w : World) (h : Nm w B c m wv ov lists cur order ws ws.length tv) (hol : order.length ≤ 1000) :
    Calls Try.prog 14 #[.pointer (some ⟨c, 0, none⟩), .string (strOfNums nm)] w fun e w' => e = .returned (.tuple #[.int .i64 (srchOf ws nm order), .bool (decide (srchOf ws nm order ≠ 0))]) ∧ Fr0 w w' := by
  have HNO := Lib.hid (none_nm w h)
  have HFI := Lib.hid (fun l V (hV : Fr0 w V) => Find_nm l nm hb V (h.fr0 hV))
  obtain ⟨c0, c1, c2, c3, c4⟩ := h.cells
  have HOR := Lib.hid (fun V (hV : Fr0 w V) => (h.ord.fr hV (fun _ _ x => x)).rd)
  obtain ⟨A, cap, rfl⟩ := h.ord.rd.form
  obtain ⟨n, hn⟩ : ∃ n, order.length = n := ⟨_, rfl⟩
  have HN := Lib.hid hn
  rw [hn] at c2 hol HOR
  obtain ⟨sv, hsv⟩ : ∃ sv, srchOf ws nm order = sv := ⟨_, rfl⟩
  have HSV := Lib.hid hsv
  rw [hsv]
  clear h hn hsv
  go_enter Try.func14, Try.ntmps14
  go_wp2_with (go_at_call 33; refine HNO.out.mono ?_; rintro e w' ⟨rfl, rfl⟩)
  go_loopw [4, 5, 16] (fun u4 u5 i wr => ∃ j : Nat, j ≤ n ∧ u4 = .int .i64 0 ∧ u5 = .bool false ∧ i = .int .i64 j ∧ sv = srchOf ws nm (order.drop j) ∧ Fr0 w wr) (fun _ _ i _ => n - (intOf i).toNat)
  case atStart => exact ⟨0, by omega, rfl, rfl, rfl, by rw [List.drop_zero]; exact HSV.out.symm, Fr.refl _ _⟩
  case round =>
    obtain ⟨j, hj, rfl, rfl, rfl, hsr, hfr⟩ := hrel
    by_cases hjn : j < n
    · have hjI : (j : Int) < (n : Int) := by omega
      have hjl : j < order.length := by rw [HN.out]; exact hjn
      obtain ⟨l, hl⟩ : ∃ l, order[j]? = some l := ⟨_, List.getElem?_eq_getElem hjl⟩
      obtain ⟨b, off, rfl, hc⟩ := (HOR.out wr hfr).at_ hl
      have hdr : order.drop j = l :: order.drop (j + 1) := by
        rw [List.drop_eq_getElem_cons hjl]
        rw [List.getElem?_eq_getElem hjl] at hl
        injection hl with hl
        rw [hl]
      rw [hdr, srchOf] at hsr
      have hFi := HFI.out l wr hfr
      obtain ⟨t, ht⟩ : ∃ t, lastOf ws (l, strOfNums (lowL nm)) = t := ⟨_, rfl⟩
      rw [ht] at hsr hFi
      have HSR := Lib.hid hsr
      have HFR := Lib.hid hfr
      have HFI2 := Lib.hid hFi
      clear hsr hfr hFi ht hl hdr
      by_cases ht0 : t = 0
      · subst ht0
        rw [show decide ((0 : Int) ≠ 0) = false by decide] at HFI2
        go_wp2_with (go_at_call 13; refine HFI2.out.mono ?_; rintro e w' ⟨rfl, hf⟩; have HF := Lib.hid hf; clear hf)
        have hsr := HSR.out
        simp only [if_true] at hsr
        exact ⟨⟨j + 1, by omega, rfl, rfl, by push_cast; rfl, hsr, HFR.out.trans HF.out⟩, by simp [intOf]; omega⟩
      · have hsr := HSR.out
        rw [if_neg ht0] at hsr
        subst hsr
        have hd : decide (sv ≠ 0) = true := by simp; exact ht0
        rw [hd] at HFI2
        go_wp2_with (go_at_call 13; refine HFI2.out.mono ?_; rintro e w' ⟨rfl, hf⟩; have HF := Lib.hid hf; clear hf)
        go_ret2
        exact ⟨congrArg (fun b => Ending.returned (.tuple #[.int .i64 sv, .bool b])) hd.symm, HFR.out.trans HF.out⟩
    · obtain rfl : j = n := by omega
      rw [← HN.out, List.drop_length, srchOf] at hsr
      subst hsr
      have HFR := Lib.hid hfr
      clear hfr
      go_wp2_with fail
      go_ret2
      exact ⟨by simp, HFR.out⟩
end
end Go.Proofs.Ytmhjnbolngdijaa
