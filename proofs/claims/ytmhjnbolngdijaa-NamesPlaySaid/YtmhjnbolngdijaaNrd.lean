/- Names: the readers: Count, Current, Order, has, Find, Search. -/
import Derived.Test.YtmhjnbolngdijaaNst
import Derived.Test.YtmhjnbolngdijaaNlist
namespace Go.Proofs.Ytmhjnbolngdijaa
open Go Go.RowKit
set_option linter.unusedVariables false
attribute [local go_sem] Oper.semAt_some

section
variable {B c : Nat} {s : St} {S : Nat → Prop}
set_option maxRecDepth 100000 in
theorem Count_ng (w : World) (h : NgS w B c s S) : Calls Try.prog 26 #[.pointer (some ⟨c, 0, none⟩)] w fun e w' => e = .returned (.int .i64 s.ws.length) ∧ ∃ S', NgI w' B c s S' ∧ Turn S S' w w' := by
  have HNO := Lib.hid (none_ng w h)
  clear h
  go_enter Try.func26, Try.ntmps26
  go_wp2_with (go_at_call 33; refine HNO.out.mono ?_; rintro e w1 ⟨rfl, S1, h1, ht, hq⟩; have H1 := Lib.hid h1; obtain ⟨m, wv, ov, mf, hN, _⟩ := h1; have c0 := hN.cells.1; obtain ⟨A, cap, rfl⟩ := hN.wform; have HT := Lib.hid ht; clear hN ht hq)
  go_ret
  exact ⟨rfl, S1, H1.out, HT.out⟩
set_option maxRecDepth 100000 in
theorem Current_ng (w : World) (h : NgS w B c s S) : Calls Try.prog 27 #[.pointer (some ⟨c, 0, none⟩)] w fun e w' => e = .returned (.int .i64 s.cur) ∧ ∃ S', NgI w' B c s S' ∧ Turn S S' w w' := by
  have HNO := Lib.hid (none_ng w h)
  clear h
  go_enter Try.func27, Try.ntmps27
  go_wp2_with (go_at_call 33; refine HNO.out.mono ?_; rintro e w1 ⟨rfl, S1, h1, ht, hq⟩; have H1 := Lib.hid h1; obtain ⟨m, wv, ov, mf, hN, _⟩ := h1; have c3 := hN.cells.2.2.2.1; have HT := Lib.hid ht; clear hN ht hq)
  go_ret
  exact ⟨rfl, S1, H1.out, HT.out⟩
set_option maxRecDepth 100000 in
theorem Order_ng (w : World) (h : NgS w B c s S) (hol : s.order.length ≤ 1000000) : Calls Try.prog 17 #[.pointer (some ⟨c, 0, none⟩)] w fun e w' => ∃ u, e = .returned u ∧ OwnI w' w.heap.size u s.order ∧ ∃ S', NgI w' B c s S' ∧ Turn S S' w w' ∧ ∀ k, u.ownBlock = some k → ¬ S' k := by
  have HNO := Lib.hid (none_ng w h)
  clear h
  go_enter Try.func17, Try.ntmps17
  go_wp2_with (first | (go_at_call 33; refine HNO.out.mono ?_; rintro e w1 ⟨rfl, S1, h1, ht, hq⟩; have H1 := Lib.hid h1; obtain ⟨m, wv, ov, mf, hN, _⟩ := h1; have c2 := hN.cells.2.2.1; have HCL := Lib.hid (Clone_ints ov s.order w1 hN.ord.rd hol); have HT := Lib.hid ht; clear hN ht hq) | (go_at_call 41; refine HCL.out.mono ?_; rintro e w2 ⟨u, rfl, hu, hf⟩))
  go_ret
  exact ⟨u, rfl, own_mono hu HT.out.1.size, S1, H1.out.fr0 hf, HT.out.trans (Turn.of0 hf), fun k hk hs => by have h1 := (own_lo hu k hk).1; have h2 := (H1.out.lo hs).2; omega⟩
/-- What has tells. -/
def hasV (n : Nat) (nt : Int) : Int := if 1 ≤ nt ∧ nt ≤ n then 0 else 4
set_option maxRecDepth 100000 in
theorem has_ng (nt : Int) (w : World) (h : NgS w B c s S) : Calls Try.prog 59 #[.pointer (some ⟨c, 0, none⟩), .int .i64 nt] w fun e w' => e = .returned (.int .i64 (hasV s.ws.length nt)) ∧ ∃ S', NgI w' B c s S' ∧ Turn S S' w w' := by
  have HNO := Lib.hid (none_ng w h)
  unfold hasV
  obtain ⟨n, hn⟩ : ∃ n, s.ws.length = n := ⟨_, rfl⟩
  have HN := Lib.hid hn
  rw [hn]
  clear h hn
  rcases (show nt < 1 ∨ (1 ≤ nt ∧ (n : Int) < nt) ∨ (1 ≤ nt ∧ nt ≤ (n : Int)) by omega) with h1 | ⟨h1, h2⟩ | ⟨h1, h2⟩
  · rw [if_neg (by omega)]
    go_enter Try.func59, Try.ntmps59
    go_wp2_with (go_at_call 33; refine HNO.out.mono ?_; rintro e w1 ⟨rfl, S1, h1, ht, hq⟩; have H1 := Lib.hid h1; obtain ⟨m, wv, ov, mf, hN, _⟩ := h1; have c0 := hN.cells.1; obtain ⟨A, cap, rfl⟩ := hN.wform; rw [HN.out] at c0; have HT := Lib.hid ht; clear hN ht hq)
    go_ret
    exact ⟨rfl, S1, H1.out, HT.out⟩
  · rw [if_neg (by omega)]
    go_enter Try.func59, Try.ntmps59
    go_wp2_with (go_at_call 33; refine HNO.out.mono ?_; rintro e w1 ⟨rfl, S1, h1, ht, hq⟩; have H1 := Lib.hid h1; obtain ⟨m, wv, ov, mf, hN, _⟩ := h1; have c0 := hN.cells.1; obtain ⟨A, cap, rfl⟩ := hN.wform; rw [HN.out] at c0; have HT := Lib.hid ht; clear hN ht hq)
    go_ret
    exact ⟨rfl, S1, H1.out, HT.out⟩
  · rw [if_pos ⟨h1, h2⟩]
    go_enter Try.func59, Try.ntmps59
    go_wp2_with (go_at_call 33; refine HNO.out.mono ?_; rintro e w1 ⟨rfl, S1, h1, ht, hq⟩; have H1 := Lib.hid h1; obtain ⟨m, wv, ov, mf, hN, _⟩ := h1; have c0 := hN.cells.1; obtain ⟨A, cap, rfl⟩ := hN.wform; rw [HN.out] at c0; have HT := Lib.hid ht; clear hN ht hq)
    go_ret
    exact ⟨rfl, S1, H1.out, HT.out⟩

theorem all_key (ws : List Wd) (k : Int × ByteArray) : toksP ws (fun _ => true) k = toksOf ws k := toksP_all ws k
set_option maxRecDepth 100000 in
set_option maxHeartbeats 4000000 in
theorem Find_ng (l : Int) (nm : List Int) (hb : (∀ y ∈ nm, 0 ≤ y ∧ y ≤ 255) ∧ nm.length ≤ 1000000) (w : World) (h : NgS w B c s S) :
    Calls Try.prog 13 #[.pointer (some ⟨c, 0, none⟩), .int .i64 l, .string (strOfNums nm)] w fun e w' => e = .returned (.tuple #[.int .i64 (lastOf s.ws (l, strOfNums (lowL nm))), .bool (decide (lastOf s.ws (l, strOfNums (lowL nm)) ≠ 0))]) ∧ ∃ S', NgI w' B c s S' ∧ Turn S S' w w' ∧ (NgI w B c s S → Fr0 w w') := by
  have HNO := Lib.hid (none_ng w h)
  have HPL := Lib.hid (fun V => place_any l nm hb.1 (by have := hb.2; omega) V)
  clear h
  obtain ⟨key, hkey⟩ : ∃ key : Int × ByteArray, (l, strOfNums (lowL nm)) = key := ⟨_, rfl⟩
  have hk1 : l = key.1 := by rw [← hkey]
  have hk2 : strOfNums (lowL nm) = key.2 := by rw [← hkey]
  rw [hkey]
  rw [hk2] at HPL
  by_cases hk : toksOf s.ws key = []
  · rw [lastOf_none hk]
    have HK := Lib.hid hk
    have HK1 := Lib.hid hk1
    clear hk hkey hk1 hk2
    go_enter Try.func13, Try.ntmps13
    go_wp2_with (go_at_call 33; refine HNO.out.mono ?_; rintro e w1 ⟨rfl, S1, h1, ht, hq⟩; have HT := Lib.hid ht; have HQ := Lib.hid hq; clear ht hq)
    have H1 := Lib.hid h1
    obtain ⟨m, wv, ov, mf, hN, _⟩ := h1
    have c4 := hN.cells.2.2.2.2
    have hcl := hN.obj.blk.lt
    have hlk := fun V (hV : Fr0 w1 V) => (hN.fr0 hV).look key
    have hown := hN.mf_own key
    rw [toksP_all, HK.out] at hown
    rw [← HK1.out] at hlk
    obtain ⟨A, cap, hA⟩ := hown.rd.form
    rw [hA] at hlk
    have HLK := Lib.hid hlk
    clear hN hlk hown hA
    go_region_held3 (fun V => V.cell? ⟨c, 4, none⟩ = some (.map (some m))) (first | exact c4 | exact d4) ((go_at_call 37; (with_reducible refine (HPL.out _).mono ?_); rintro e w2 ⟨rfl, hf1⟩; have hf2 : Fr0 w1 w2 := (Fr.refl _ w1).drew.trans hf1; have d4 := (hf2.cell (p := ⟨c, 4, none⟩) hcl (fun x => x)).trans c4; have hl1 := HLK.out w2 hf2; have HF2 := Lib.hid hf2; clear hf1 hf2))
    go_wp2_with fail
    go_ret2
    exact ⟨rfl, S1, H1.out.fr0 HF2.out, HT.out.trans (Turn.of0 HF2.out), fun h => by rw [HQ.out h]; exact HF2.out⟩
  · obtain ⟨t, ht, hlt, ht1⟩ := lastOf_some hk
    rw [hlt]
    have hl0 : 0 < (toksOf s.ws key).length := List.length_pos_iff.2 hk
    have hd : decide (t ≠ 0) = true := by simp; omega
    rw [hd]
    obtain ⟨n, hn⟩ : ∃ n, (toksOf s.ws key).length = n + 1 := ⟨(toksOf s.ws key).length - 1, by omega⟩
    rw [hn, Nat.add_sub_cancel] at ht
    have HTK := Lib.hid ht
    have HN := Lib.hid hn
    have HK1 := Lib.hid hk1
    clear hk hkey hk1 hk2 ht hlt ht1 hl0 hd hn
    go_enter Try.func13, Try.ntmps13
    go_wp2_with (go_at_call 33; refine HNO.out.mono ?_; rintro e w1 ⟨rfl, S1, h1, ht, hq⟩; have HT := Lib.hid ht; have HQ := Lib.hid hq; clear ht hq)
    have H1 := Lib.hid h1
    obtain ⟨m, wv, ov, mf, hN, _⟩ := h1
    have c4 := hN.cells.2.2.2.2
    have hcl := hN.obj.blk.lt
    have hlk := fun V (hV : Fr0 w1 V) => (hN.fr0 hV).look key
    have hown := fun V (hV : Fr0 w1 V) => (hN.fr0 hV).mf_own key
    rw [toksP_all] at hown
    rw [← HK1.out] at hlk
    have htl := toksOf_len s.ws key
    have hfew := hN.few
    rw [HN.out] at htl
    obtain ⟨b, cap, hA, hc⟩ : ∃ b cap, mfOf mf key = .slice (some ⟨b, 0, none⟩) (n + 1) cap ∧ ∀ V, Fr0 w1 V → V.cell? ⟨b, n, none⟩ = some (.int .i64 t) := by
      rcases ownI_open (hown w1 (Fr.refl _ _)) with ⟨_, e⟩ | ⟨b, cap, cs, e, _, _⟩
      · have := HN.out
        rw [e] at this
        simp at this
      · rw [HN.out] at e
        refine ⟨b, cap, e, fun V hV => ?_⟩
        have h2 := hown V hV
        rw [e] at h2
        obtain ⟨b2, off2, e2, hcc2⟩ := (h2.rd).at_ HTK.out
        injection e2 with e2
        injection e2 with e2 e3
        subst e2 e3
        rw [Nat.zero_add] at hcc2
        exact hcc2
    rw [hA] at hlk
    have x1 : IntKind.i64.wrap ((n : Int) + 1 - 1) = (n : Int) := by rw [IntWalk.i64_in _ (by omega)]; omega
    have hnI : (n : Int) < (n : Int) + 1 := by omega
    have x2 : wrap64 (n : Int) = (n : Int) := IntWalk.wrap64_in _ (by omega)
    have HLK := Lib.hid hlk
    have HC := Lib.hid hc
    clear hN hlk hown hA htl hc
    go_region_held3 (fun V => V.cell? ⟨c, 4, none⟩ = some (.map (some m))) (first | exact c4 | exact d4) ((go_at_call 37; (with_reducible refine (HPL.out _).mono ?_); rintro e w2 ⟨rfl, hf1⟩; have hf2 : Fr0 w1 w2 := (Fr.refl _ w1).drew.trans hf1; have d4 := (hf2.cell (p := ⟨c, 4, none⟩) hcl (fun x => x)).trans c4; have hl1 := HLK.out w2 hf2; have e1 := HC.out w2 hf2; have HF2 := Lib.hid hf2; clear hf1 hf2))
    go_wp2_with fail
    go_ret2
    exact ⟨rfl, S1, H1.out.fr0 HF2.out, HT.out.trans (Turn.of0 HF2.out), fun h => by rw [HQ.out h]; exact HF2.out⟩

set_option maxRecDepth 100000 in
set_option maxHeartbeats 4000000 in
theorem Search_ng (nm : List Int) (hb : (∀ y ∈ nm, 0 ≤ y ∧ y ≤ 255) ∧ nm.length ≤ 1000000) (w : World) (h : NgS w B c s S) (hol : s.order.length ≤ 1000) :
    Calls Try.prog 14 #[.pointer (some ⟨c, 0, none⟩), .string (strOfNums nm)] w fun e w' => e = .returned (.tuple #[.int .i64 (srchOf s.ws nm s.order), .bool (decide (srchOf s.ws nm s.order ≠ 0))]) ∧ ∃ S', NgI w' B c s S' ∧ Turn S S' w w' := by
  have HNO := Lib.hid (none_ng w h)
  clear h
  obtain ⟨n, hn⟩ : ∃ n, s.order.length = n := ⟨_, rfl⟩
  have HN := Lib.hid hn
  rw [hn] at hol
  obtain ⟨sv, hsv⟩ : ∃ sv, srchOf s.ws nm s.order = sv := ⟨_, rfl⟩
  have HSV := Lib.hid hsv
  rw [hsv]
  clear hn hsv
  go_enter Try.func14, Try.ntmps14
  go_wp2_with (go_at_call 33; refine HNO.out.mono ?_; rintro e w1 ⟨rfl, S1, h1, ht, _⟩; have HT := Lib.hid ht; have H1 := Lib.hid h1; have HFI := Lib.hid (fun l V (hV : Fr0 w1 V) => Find_ng l nm hb V (.inl (h1.fr0 hV))); obtain ⟨m, wv, ov, mf, hN, _⟩ := h1; have c2 := hN.cells.2.2.1; have HOR := Lib.hid (fun V (hV : Fr0 w1 V) => (hN.ord.fr hV (fun _ _ x => x)).rd); obtain ⟨A, cap, rfl⟩ := hN.ord.rd.form; rw [HN.out] at c2 HOR; clear hN ht)
  go_loopw [4, 5, 16] (fun u4 u5 i wr => ∃ j : Nat, j ≤ n ∧ u4 = .int .i64 0 ∧ u5 = .bool false ∧ i = .int .i64 j ∧ sv = srchOf s.ws nm (s.order.drop j) ∧ Fr0 w1 wr) (fun _ _ i _ => n - (intOf i).toNat)
  case atStart => exact ⟨0, by omega, rfl, rfl, rfl, by rw [List.drop_zero]; exact HSV.out.symm, Fr.refl _ _⟩
  case round =>
    obtain ⟨j, hj, rfl, rfl, rfl, hsr, hfr⟩ := hrel
    by_cases hjn : j < n
    · have hjI : (j : Int) < (n : Int) := by omega
      have hjl : j < s.order.length := by rw [HN.out]; exact hjn
      obtain ⟨l, hl⟩ : ∃ l, s.order[j]? = some l := ⟨_, List.getElem?_eq_getElem hjl⟩
      obtain ⟨b, off, rfl, hc⟩ := (HOR.out wr hfr).at_ hl
      have hdr : s.order.drop j = l :: s.order.drop (j + 1) := by
        rw [List.drop_eq_getElem_cons hjl]
        rw [List.getElem?_eq_getElem hjl] at hl
        injection hl with hl
        rw [hl]
      rw [hdr, srchOf] at hsr
      have hFi := HFI.out l wr hfr
      obtain ⟨t, ht⟩ : ∃ t, lastOf s.ws (l, strOfNums (lowL nm)) = t := ⟨_, rfl⟩
      rw [ht] at hsr hFi
      have HSR := Lib.hid hsr
      have HFR := Lib.hid hfr
      have HFI2 := Lib.hid hFi
      have HI := Lib.hid (H1.out.fr0 hfr)
      clear hsr hfr hFi ht hl hdr
      by_cases ht0 : t = 0
      · subst ht0
        rw [show decide ((0 : Int) ≠ 0) = false by decide] at HFI2
        go_wp2_with (go_at_call 13; refine HFI2.out.mono ?_; rintro e w' ⟨rfl, S2, _, _, hf⟩; have HF := Lib.hid (hf HI.out); clear hf)
        have hsr := HSR.out
        simp only [if_true] at hsr
        exact ⟨⟨j + 1, by omega, rfl, rfl, by push_cast; rfl, hsr, HFR.out.trans HF.out⟩, by simp [intOf]; omega⟩
      · have hsr := HSR.out
        rw [if_neg ht0] at hsr
        subst hsr
        have hd : decide (sv ≠ 0) = true := by simp; exact ht0
        rw [hd] at HFI2
        go_wp2_with (go_at_call 13; refine HFI2.out.mono ?_; rintro e w' ⟨rfl, S2, _, _, hf⟩; have HF := Lib.hid (hf HI.out); clear hf)
        go_ret2
        exact ⟨congrArg (fun b => Ending.returned (.tuple #[.int .i64 sv, .bool b])) hd.symm, S1, H1.out.fr0 (HFR.out.trans HF.out), HT.out.trans (Turn.of0 (HFR.out.trans HF.out))⟩
    · obtain rfl : j = n := by omega
      rw [← HN.out, List.drop_length, srchOf] at hsr
      subst hsr
      have HFR := Lib.hid hfr
      clear hfr
      go_wp2_with fail
      go_ret2
      exact ⟨by simp, S1, H1.out.fr0 HFR.out, HT.out.trans (Turn.of0 HFR.out)⟩
end
end Go.Proofs.Ytmhjnbolngdijaa
