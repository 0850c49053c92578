/- The walk of NamesHide. -/
import Derived.Test.YtmhjnbolngdijaaNawake
import Derived.Test.YtmhjnbolngdijaaNsame
import Derived.Test.YtmhjnbolngdijaaRowT
namespace Go.Proofs.Ytmhjnbolngdijaa
open Go Go.RowKit
set_option linter.unusedVariables false
attribute [local go_sem] Oper.semAt_some

theorem str_inj {a b : List Int} (ha : ∀ x ∈ a, 0 ≤ x ∧ x ≤ 255) (hb : ∀ x ∈ b, 0 ≤ x ∧ x ≤ 255) (h : strOfNums a = strOfNums b) : a = b := by
  have h2 : a.map (fun n => UInt8.ofNat n.toNat) = b.map (fun n => UInt8.ofNat n.toNat) := by rw [← strOfNums_data, ← strOfNums_data, h]
  apply List.ext_getElem?
  intro i
  have h3 := congrArg (fun l : List UInt8 => l[i]?) h2
  simp only [List.getElem?_map] at h3
  cases h4 : a[i]? with
  | none =>
    cases h5 : b[i]? with
    | none => rfl
    | some y => rw [h4, h5] at h3; cases h3
  | some x =>
    cases h5 : b[i]? with
    | none => rw [h4, h5] at h3; cases h3
    | some y =>
      rw [h4, h5] at h3
      simp only [Option.map_some, Option.some.injEq] at h3
      have h6 := congrArg UInt8.toNat h3
      have k1 := ha x (List.mem_of_getElem? h4)
      have k2 := hb y (List.mem_of_getElem? h5)
      simp only [UInt8.toNat_ofNat'] at h6
      rw [Nat.mod_eq_of_lt (by omega), Nat.mod_eq_of_lt (by omega)] at h6
      congr 1
      omega
theorem lastOf_snoc (ws : List Wd) (x : Wd) (k : Int × ByteArray) : lastOf (ws ++ [x]) k = if x.key = k then (ws.length : Int) + 1 else lastOf ws k := by
  unfold lastOf
  rw [toksOf_snoc]
  by_cases h : x.key = k
  · simp [h]
  · simp [h]
theorem last_two {ws : List Wd} (h : ∀ x ∈ ws, x.list = 1) (s : ByteArray) : lastOf ws (2, s) = 0 := by
  refine lastOf_none ?_
  unfold toksOf
  rw [List.map_eq_nil_iff, List.filter_eq_nil_iff]
  intro p hp
  have h1 : p.1 ∈ ws := (List.mem_zipIdx' (by simpa using hp)).2 ▸ List.getElem_mem _
  have h2 := h _ h1
  simp [Wd.key, h2]

set_option maxRecDepth 100000 in
set_option maxHeartbeats 8000000 in
theorem hide_walk (sv : Value) (ls : List (List Int)) (nm : List Int) (w : World) (hs : RowT w w.heap.size sv ls) (hnb : ∀ x ∈ nm, 0 ≤ x ∧ x ≤ 255) :
    Calls Try.prog 3 #[sv, .string (strOfNums nm)] w fun e w' => e = .returned (.bool true) ∧ Fr0 w w' := by
  have HAW := Lib.hid (fun W => awake14 W)
  have hnsz : (strOfNums nm).size = nm.length := strOfNums_size _
  by_cases hg : ls.length ≤ 150 ∧ nm.length ≤ 100
  · obtain ⟨hz, hm⟩ := hg
    have HSV := Lib.hid hs
    have HNW := Lib.hid (New_nm w)
    obtain ⟨A, cap, rfl, _⟩ := hs
    obtain ⟨N, hN⟩ : ∃ N, ls.length = N := ⟨_, rfl⟩
    have HN := Lib.hid hN
    obtain ⟨nl, hnl⟩ : ∃ nl, nm.length = nl := ⟨_, rfl⟩
    have HNL := Lib.hid hnl
    have HNB := Lib.hid hnb
    rw [hN] at HSV hz ⊢
    rw [hnl] at hnsz hm
    clear hN hnl hnb
    go_enter Try.func3, Try.ntmps3
    go_wp2_with (go_at_call 10; refine HNW.out.mono ?_; rintro e w1 ⟨c, m, ov, tv0, rfl, hN0, hf⟩; have HN0 := Lib.hid hN0; have HF := Lib.hid hf; clear hN0 hf)
    go_loopw [6, 7, 8] (fun u6 u7 i wr => ∃ (k : Nat) (ws : List Wd) (wv : Value) (tv : Int × ByteArray → Value), k ≤ N ∧ i = .int .i64 k ∧ u7 = .int .i64 ws.length ∧ u6 = .int .i64 (lastOf ws (1, strOfNums (lowL nm))) ∧ ws.length ≤ k ∧ (∀ x ∈ ws, x.list = 1) ∧ Nm wr w.heap.size c m wv ov 1 1 [1] ws ws.length tv ∧ Fr0 w wr) (fun _ _ i _ => N - (intOf i).toNat)
    case atStart => exact ⟨0, [], .slice none 0 0, tv0, by omega, rfl, rfl, rfl, by simp, (fun x hx => by cases hx), HN0.out, HF.out⟩
    case round =>
      obtain ⟨k, ws, wv, tv, hk, rfl, rfl, rfl, hwk, hw1, hNm, hfr⟩ := hrel
      obtain ⟨lw, hlw⟩ : ∃ lw, ws.length = lw := ⟨_, rfl⟩
      obtain ⟨want, hwant⟩ : ∃ t, lastOf ws (1, strOfNums (lowL nm)) = t := ⟨_, rfl⟩
      have HLW := Lib.hid hlw
      have HWANT := Lib.hid hwant
      have HW1 := Lib.hid hw1
      have HNM := Lib.hid hNm
      have HFR := Lib.hid hfr
      rw [hlw] at hwk
      clear hlw hwant hw1 hNm hfr
      by_cases hkN : k < N
      · have hkI : (k : Int) < (N : Int) := by omega
        obtain ⟨b, off, s, rfl, hb, hls, hsb, hc⟩ := (HSV.out.below HFR.out.below0).at_ (k := k) (by rw [HN.out]; exact hkN)
        have hssz : (strOfNums s).size = s.length := strOfNums_size _
        obtain ⟨n, hn⟩ : ∃ n, s.length = n := ⟨_, rfl⟩
        have HSB := Lib.hid hsb
        have HSN := Lib.hid hn
        rw [hn] at hssz
        clear hsb hn hls
        by_cases hn1 : n ≤ 100
        · have hn1I : (n : Int) ≤ 100 := by omega
          by_cases hn2 : 1 ≤ n ∧ n ≤ 63
          · obtain ⟨hn2, hn3⟩ := hn2
            have h2I : (1 : Int) ≤ (n : Int) := by omega
            have h3I : (n : Int) ≤ 63 := by omega
            have hwl : ws.length ≤ 150 := by have := HLW.out; omega
            have x1 : IntKind.i64.wrap ((ws.length : Int) + 1) = (ws.length : Int) + 1 := IntWalk.i64_in _ (by omega)
            have hA := Add_nm ⟨s, k, 1, false, false⟩ ⟨HSB.out, by rw [HSN.out]; omega⟩ wr HNM.out (by unfold wrongV; rw [if_neg (by rw [HSN.out]; omega), if_pos ⟨Int.le_refl 1, Int.le_refl 1⟩]) (by omega)
            rw [show Wd.val ⟨s, k, 1, false, false⟩ = .agg #[.string (strOfNums s), .int .i64 k, .int .i64 1, .bool false, .bool false] from rfl] at hA
            have HA := Lib.hid hA
            clear hA
            have hkey : (Wd.key ⟨s, k, 1, false, false⟩ = (1, strOfNums (lowL nm))) ↔ lowL s = lowL nm := by
              unfold Wd.key
              constructor
              · intro e
                injection e with e1 e2
                exact str_inj (low_bytes HSB.out) (low_bytes HNB.out) e2
              · intro e
                rw [e]
            have hls2 := lastOf_snoc ws ⟨s, k, 1, false, false⟩ (1, strOfNums (lowL nm))
            have HW2 := Lib.hid (show ∀ x ∈ ws ++ [⟨s, k, 1, false, false⟩], x.list = 1 from fun x hx => by
              rcases List.mem_append.1 hx with h | h
              · exact HW1.out x h
              · obtain rfl := List.mem_singleton.1 h
                rfl)
            by_cases hsm : lowL s = lowL nm
            · rw [if_pos (hkey.2 hsm)] at hls2
              have HL2 := Lib.hid hls2
              have hdd : decide (lowL s = lowL nm) = true := decide_eq_true hsm
              clear hls2
              go_wp2_with (first | (go_at_call 11; refine HA.out.mono ?_; rintro e w2 ⟨rfl, hf2, wv', tv', hN2⟩; have hF2 := HFR.out.then hf2 (fun j hj e => by omega); have hcc := (hF2.cell (p := ⟨b, off + k, none⟩) hb (fun x => x)).trans ((HFR.out.cell (p := ⟨b, off + k, none⟩) hb (fun x => x)).symm.trans hc); obtain ⟨cp1, w3, hcv1, hby1, hf3, hs3⟩ := convB w2 s HSB.out; obtain ⟨cp2, w4, hcv2, hby2, hf4, hs4⟩ := convB w3 nm HNB.out; have hSM := Same_any s nm w2.heap.size w3.heap.size cp1 cp2 w4 (hby1.fr hf4 (fun x => x)) hby2 HSB.out HNB.out (by rw [HSN.out]; omega); rw [HSN.out] at hcv1; rw [HNL.out] at hcv2; rw [HSN.out, HNL.out, hdd] at hSM; have HSM := Lib.hid hSM; have HN4 := Lib.hid ((hN2.fr0 hf3).fr0 hf4); have HF4 := Lib.hid ((hF2.trans hf3).trans hf4); clear hSM hby1 hby2 hf3 hf4 hN2 hf2 hF2 hs3 hs4) | (go_at_call 12; refine HSM.out.mono ?_; rintro e w5 ⟨rfl, hf5⟩; have HN5 := Lib.hid (HN4.out.fr0 hf5); have HF5 := Lib.hid (HF4.out.trans hf5); clear hf5))
              have hlen : (ws ++ [(⟨s, k, 1, false, false⟩ : Wd)]).length = ws.length + 1 := by simp
              have hN5 := HN5.out
              rw [← hlen] at hN5
              exact ⟨⟨k + 1, ws ++ [⟨s, k, 1, false, false⟩], wv', tv', by omega, by push_cast; rfl, by rw [hlen]; push_cast; rfl, by rw [HL2.out], by rw [hlen]; have := HLW.out; omega, HW2.out, hN5, HF5.out⟩, by simp [intOf]; omega⟩
            · rw [if_neg (fun e => hsm (hkey.1 e))] at hls2
              have HL2 := Lib.hid hls2
              have hdd : decide (lowL s = lowL nm) = false := decide_eq_false hsm
              clear hls2
              go_wp2_with (first | (go_at_call 11; refine HA.out.mono ?_; rintro e w2 ⟨rfl, hf2, wv', tv', hN2⟩; have hF2 := HFR.out.then hf2 (fun j hj e => by omega); have hcc := (hF2.cell (p := ⟨b, off + k, none⟩) hb (fun x => x)).trans ((HFR.out.cell (p := ⟨b, off + k, none⟩) hb (fun x => x)).symm.trans hc); obtain ⟨cp1, w3, hcv1, hby1, hf3, hs3⟩ := convB w2 s HSB.out; obtain ⟨cp2, w4, hcv2, hby2, hf4, hs4⟩ := convB w3 nm HNB.out; have hSM := Same_any s nm w2.heap.size w3.heap.size cp1 cp2 w4 (hby1.fr hf4 (fun x => x)) hby2 HSB.out HNB.out (by rw [HSN.out]; omega); rw [HSN.out] at hcv1; rw [HNL.out] at hcv2; rw [HSN.out, HNL.out, hdd] at hSM; have HSM := Lib.hid hSM; have HN4 := Lib.hid ((hN2.fr0 hf3).fr0 hf4); have HF4 := Lib.hid ((hF2.trans hf3).trans hf4); clear hSM hby1 hby2 hf3 hf4 hN2 hf2 hF2 hs3 hs4) | (go_at_call 12; refine HSM.out.mono ?_; rintro e w5 ⟨rfl, hf5⟩; have HN5 := Lib.hid (HN4.out.fr0 hf5); have HF5 := Lib.hid (HF4.out.trans hf5); clear hf5))
              have hlen : (ws ++ [(⟨s, k, 1, false, false⟩ : Wd)]).length = ws.length + 1 := by simp
              have hN5 := HN5.out
              rw [← hlen] at hN5
              exact ⟨⟨k + 1, ws ++ [⟨s, k, 1, false, false⟩], wv', tv', by omega, by push_cast; rfl, by rw [hlen]; push_cast; rfl, by rw [HL2.out], by rw [hlen]; have := HLW.out; omega, HW2.out, hN5, HF5.out⟩, by simp [intOf]; omega⟩
          · have hA := Add_bad ⟨s, k, 1, false, false⟩ wr HNM.out (by unfold wrongV; rw [if_pos (by rw [HSN.out]; omega)]; decide)
            rw [show wrongV 1 ⟨s, k, 1, false, false⟩ = 3 by unfold wrongV; rw [if_pos (by rw [HSN.out]; omega)], show Wd.val ⟨s, k, 1, false, false⟩ = .agg #[.string (strOfNums s), .int .i64 k, .int .i64 1, .bool false, .bool false] from rfl] at hA
            have HA := Lib.hid hA
            clear hA
            have hcase : n = 0 ∨ (1 ≤ n ∧ 63 < n) := by omega
            rcases hcase with rfl | ⟨h1, h2⟩
            all_goals
              go_wp2_with (go_at_call 11; refine HA.out.mono ?_; rintro e w2 ⟨rfl, hf2⟩; have hcc := (hf2.cell (p := ⟨b, off + k, none⟩) (by have := HFR.out.size; dsimp only; omega) (fun x => x)).trans hc; have HF2 := Lib.hid hf2; clear hf2)
              exact ⟨⟨k + 1, ws, wv, tv, by omega, by push_cast; rfl, rfl, rfl, by have := HLW.out; omega, HW1.out, HNM.out.fr0 HF2.out, HFR.out.trans HF2.out⟩, by simp [intOf]; omega⟩
        · have hn1I : (100 : Int) < (n : Int) := by omega
          go_wp2_with (go_at_call 9; refine (HAW.out _).mono ?_; rintro e wz ⟨rfl, hfz⟩)
          go_ret
          exact ⟨rfl, HFR.out.trans hfz⟩
      · obtain rfl : k = N := by omega
        have hnm : (∀ y ∈ nm, 0 ≤ y ∧ y ≤ 255) ∧ nm.length ≤ 1000000 := ⟨HNB.out, by rw [HNL.out]; omega⟩
        have hF1 := fun V (hV : Fr0 wr V) => Find_nm 1 nm hnm V (HNM.out.fr0 hV)
        have hF2 := fun V (hV : Fr0 wr V) => Find_nm 2 nm hnm V (HNM.out.fr0 hV)
        have hS1 := fun V (hV : Fr0 wr V) => Search_nm nm hnm V (HNM.out.fr0 hV) (by simp)
        rw [last_two HW1.out] at hF2
        rw [show decide ((0 : Int) ≠ 0) = false by decide] at hF2
        have hsr : srchOf ws nm [1] = lastOf ws (1, strOfNums (lowL nm)) := by
          rw [srchOf]
          by_cases h : lastOf ws (1, strOfNums (lowL nm)) = 0
          · rw [if_pos h, h]; rfl
          · rw [if_neg h]
        rw [hsr] at hS1
        have hw0 : lastOf ws (1, strOfNums (lowL nm)) = 0 ∨ (lastOf ws (1, strOfNums (lowL nm)) ≠ 0 ∧ 0 < lastOf ws (1, strOfNums (lowL nm))) := by
          by_cases h : toksOf ws (1, strOfNums (lowL nm)) = []
          · exact .inl (lastOf_none h)
          · obtain ⟨t, _, h1, h2⟩ := lastOf_some h
            exact .inr ⟨by omega, by omega⟩
        generalize lastOf ws (1, strOfNums (lowL nm)) = want at *
        clear hsr
        rcases hw0 with rfl | ⟨h0, hp⟩
        · rw [show decide ((0 : Int) ≠ 0) = false by decide] at hF1 hS1
          have HF1 := Lib.hid hF1
          have HF2 := Lib.hid hF2
          have HS1 := Lib.hid hS1
          clear hF1 hF2 hS1
          have HFRX := Lib.hid (Fr.refl (fun _ => False) wr)
          go_wp2_with (first | (go_at_call 13; (first | (with_reducible refine (HF1.out _ HFRX.out).mono ?_) | (with_reducible refine (HF2.out _ HFRX.out).mono ?_)); rintro e w' ⟨rfl, hf⟩; replace HFRX := Lib.hid (HFRX.out.trans hf); clear hf) | (go_at_call 14; refine (HS1.out _ HFRX.out).mono ?_; rintro e w' ⟨rfl, hf⟩; replace HFRX := Lib.hid (HFRX.out.trans hf); clear hf) | (go_at_call 9; refine (HAW.out _).mono ?_; rintro e w' ⟨rfl, hf⟩; replace HFRX := Lib.hid (HFRX.out.trans hf); clear hf))
          go_ret
          exact ⟨rfl, HFR.out.trans HFRX.out⟩
        · have hd : decide (want ≠ 0) = true := decide_eq_true h0
          rw [hd] at hF1 hS1
          have HF1 := Lib.hid hF1
          have HF2 := Lib.hid hF2
          have HS1 := Lib.hid hS1
          clear hF1 hF2 hS1 hd
          have HFRX := Lib.hid (Fr.refl (fun _ => False) wr)
          go_wp2_with (first | (go_at_call 13; (first | (with_reducible refine (HF1.out _ HFRX.out).mono ?_) | (with_reducible refine (HF2.out _ HFRX.out).mono ?_)); rintro e w' ⟨rfl, hf⟩; replace HFRX := Lib.hid (HFRX.out.trans hf); clear hf) | (go_at_call 14; refine (HS1.out _ HFRX.out).mono ?_; rintro e w' ⟨rfl, hf⟩; replace HFRX := Lib.hid (HFRX.out.trans hf); clear hf) | (go_at_call 9; refine (HAW.out _).mono ?_; rintro e w' ⟨rfl, hf⟩; replace HFRX := Lib.hid (HFRX.out.trans hf); clear hf))
          go_ret
          exact ⟨rfl, HFR.out.trans HFRX.out⟩
  · have hc : 150 < ls.length ∨ (ls.length ≤ 150 ∧ 100 < nm.length) := by omega
    obtain ⟨A, cap, rfl, _⟩ := hs
    generalize ls.length = len at *
    generalize nm.length = len2 at *
    clear hg
    rcases hc with h | ⟨h, h2⟩
    all_goals
      go_enter Try.func3, Try.ntmps3
      go_wp2_with (go_at_call 9; refine (HAW.out _).mono ?_; rintro e w1 ⟨rfl, hf1⟩)
      go_ret
      exact ⟨rfl, hf1⟩
end Go.Proofs.Ytmhjnbolngdijaa
