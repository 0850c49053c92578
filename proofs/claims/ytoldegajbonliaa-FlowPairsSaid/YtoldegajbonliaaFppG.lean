/- Flow: pairs, as the law makes them: the walk. -/
import Derived.Test.YtoldegajbonliaaFppF
namespace Go.Proofs.Ytoldegajbonliaa
open Go Go.RowKit
set_option linter.unusedVariables false
attribute [local go_sem] Oper.semAt_some

theorem closeV_cons (x : Int) (xs : List Int) : closeV (x :: xs) = closeV xs ++ endsV x := by simp [closeV]
theorem closeV_len (op : List Int) : (closeV op).length ≤ 2 * op.length := by
  induction op with
  | nil => simp [closeV]
  | cons x xs ih =>
    have := ends_len x
    rw [closeV_cons, List.length_append, List.length_cons]
    omega
set_option maxRecDepth 100000 in
set_option maxHeartbeats 8000000 in
theorem pairs_any (lv : Value) (l : List Int) (w : World) (hv : RdI w lv l) (hl : l.length ≤ 400) : Calls Try.prog 11 #[lv] w fun e w' => ∃ v, e = .returned v ∧ OwnI w' w.heap.size v (pairsV l) ∧ Fr0 w w' := by
  obtain ⟨LA, lc, rfl⟩ := hv.form
  obtain ⟨n, hn⟩ : ∃ n, l.length = n := ⟨_, rfl⟩
  have HN := Lib.hid hn
  have HV := Lib.hid (fun V (hV : Fr0 w V) => hv.fr0 hV)
  rw [hn] at hl HV ⊢
  obtain ⟨B, hB⟩ : ∃ B, w.heap.size = B := ⟨_, rfl⟩
  have HB := Lib.hid hB
  rw [hB]
  obtain ⟨i0, hi0⟩ := info_parts3 infoI
  have HI0 := Lib.hid hi0
  clear hv hn hB hi0
  go_enter Try.func11, Try.ntmps11
  go_wp2_with fail
  go_loopw [3, 4, 5] (fun o op i wr => ∃ j : Nat, j ≤ n ∧ i = .int .i64 j ∧ OwnI wr B o (foldP (l.take j)).1 ∧ OwnI wr B op (foldP (l.take j)).2 ∧ (∀ k, o.ownBlock = some k → op.ownBlock ≠ some k) ∧ Fr0 w wr) (fun _ _ i _ => n - (intOf i).toNat)
  case atStart => exact ⟨0, by omega, rfl, OwnI.nil _ _, OwnI.nil _ _, (fun k hk => by cases hk), Fr.refl _ _⟩
  case round =>
    obtain ⟨j, hj, rfl, ho, hop, hne, hf⟩ := hrel
    obtain ⟨hrun, hpl, hol⟩ := foldP_run (l.take j)
    rw [List.length_take] at hol
    obtain ⟨A1, c1, rfl⟩ := ho.src
    obtain ⟨A2, c2, rfl⟩ := hop.src
    obtain ⟨O, hO⟩ : ∃ O, (foldP (l.take j)).1 = O := ⟨_, rfl⟩
    obtain ⟨P, hP⟩ : ∃ P, (foldP (l.take j)).2 = P := ⟨_, rfl⟩
    rw [hO] at ho hne hol ⊢
    rw [hP] at hop hne hpl ⊢
    have HOP := Lib.hid (And.intro hO hP)
    obtain ⟨m, hm⟩ : ∃ m, O.length = m := ⟨_, rfl⟩
    obtain ⟨p, hp⟩ : ∃ p, P.length = p := ⟨_, rfl⟩
    rw [hm] at ho hne hol ⊢
    rw [hp] at hop hne hpl ⊢
    have HMP := Lib.hid (And.intro hm hp)
    have HO := Lib.hid ho
    have HQ := Lib.hid hop
    have HNE := Lib.hid hne
    have HF := Lib.hid hf
    have HRUN := Lib.hid hrun
    clear ho hop hne hf hO hP hm hp hrun
    by_cases hlt : j < n
    · have hltI : (j : Int) < (n : Int) := by omega
      have hj0 : (0 : Int) ≤ (j : Int) := by omega
      obtain ⟨a, ha⟩ : ∃ a, l[j]? = some a := ⟨_, List.getElem?_eq_getElem (by rw [HN.out]; exact hlt)⟩
      obtain ⟨_, A', c', e, hkc⟩ := HV.out _ HF.out
      injection e with e e5 e6
      subst e
      obtain ⟨lb, loff, eA, hkk⟩ := hkc (by omega)
      subst eA
      have e2 := hkk j (.int .i64 a) (by rw [List.getElem?_map, ha]; rfl)
      have HA := Lib.hid ha
      obtain ⟨x, hx⟩ : ∃ x, Int.tmod a 9 = x := ⟨_, rfl⟩
      have HX := Lib.hid hx
      clear hkk hkc e5 e6 ha
      have hxb : -9 < x ∧ x < 9 := by
        rcases Int.le_total 0 a with h | h
        · rw [← hx, Int.tmod_eq_emod_of_nonneg h]
          omega
        · rw [← hx, show a = -(-a) by omega, Int.neg_tmod, Int.tmod_eq_emod_of_nonneg (by omega)]
          omega
      have hnx : IntKind.i64.wrap (-x) = -x := IntWalk.i64_in _ (by omega)
      have hst : foldP (l.take (j + 1)) = stepP (foldP (l.take j)) a := by
        rw [List.take_add_one, HA.out]
        exact foldP_snoc _ _
      have HST := Lib.hid hst
      have HH := Lib.hid (And.intro hpl (And.intro hol hxb))
      clear hst
      by_cases hx0 : x < 0
      · go_upto_region 9 with (fail)
        obtain ⟨k, hk⟩ : ∃ k, -x = k := ⟨_, rfl⟩
        rw [hk]
        have hko : kOf a = k := by unfold kOf; rw [HX.out, if_pos hx0]; exact hk
        clear hx0 hk hnx hxb hx e2
        have HKO := Lib.hid hko
        clear hko
        by_cases hkz : k = 0
        · subst hkz
          by_cases hp0 : 0 < p
          · have hd0 : decide (0 < p) = true := decide_eq_true hp0
            have hd0I : decide ((0 : Int) < (p : Int)) = true := decide_eq_true (by omega)
            have hd0J : (0 : Int) < (p : Int) := by omega
            obtain ⟨p', rfl⟩ : ∃ p', p = p' + 1 := ⟨p - 1, by omega⟩
            obtain ⟨y, hy⟩ : ∃ y, P[p']? = some y := ⟨_, List.getElem?_eq_getElem (by rw [HMP.out.2]; omega)⟩
            obtain ⟨b2, e3, e4⟩ := (show OwnI wr B (.slice A2 (p' + 1) c2) P from HQ.out).at_ hy
            subst e3
            have hyl : P.getLastD 0 = y := by
              have := last_split (op := P) (by rw [HMP.out.2]; omega)
              rw [this, List.getElem?_append_right (by rw [List.length_dropLast, HMP.out.2]; omega), List.length_dropLast, HMP.out.2] at hy
              simpa using hy
            have hcap : p' + 1 ≤ c2 := by
              rcases HQ.out.2 with ⟨e, _⟩ | ⟨g', cap', cs, e, _, _, hle, _⟩
              · cases e
              · injection e with e e2 e3
                rw [e3, ← HMP.out.2]
                exact hle
            have hcap2 : p' ≤ c2 := by omega
            have hwp : IntKind.i64.wrap ((p' : Int) + 1 - 1) = (p' : Int) := by rw [IntWalk.i64_in _ (by omega)]; omega
            have hwp2 : IntKind.i64.wrap (((p' + 1 : Nat) : Int) - 1) = (p' : Int) := by rw [IntWalk.i64_in _ (by omega)]; omega
            have hp0I : (0 : Int) ≤ (p' : Int) := by omega
            have hpltI : (p' : Int) < (p' : Int) + 1 := by omega
            have hpcI : (p' : Int) ≤ (c2 : Int) := by omega
            have HY := Lib.hid (And.intro hyl hcap)
            clear hy hyl hcap
            go_wp2_with (first | (go_at_call 31; refine (ends_any _ _).mono ?_; rintro e w1 ⟨v1, rfl, hf1, hr1⟩; obtain ⟨E1, ec1, rfl⟩ := hr1.form; obtain ⟨t1, ht1⟩ : ∃ t1, (endsV y).length = t1 := ⟨_, rfl⟩; have HT1 := Lib.hid ht1; have HF1 := Lib.hid hf1; unfold RdI at hr1; rw [ht1] at hr1 ⊢; have HR1 := Lib.hid hr1; have HO1 := Lib.hid (show w1.ownsRow B 3 1 (.slice A1 m c1) m (O.map (Value.int .i64)) from (by have h := own_fr HO.out hf1 (fun _ _ h => h); rwa [HMP.out.1] at h)); have HLM := Lib.hid (show m + t1 ≤ maxLen ∧ (m + t1) * 8 ≤ 140737488355328 from (by have h1 := ends_len y; rw [ht1] at h1; have := HH.out.2.1; unfold maxLen; omega)); have HBW := Lib.hid (show B ≤ w1.heap.size from (by have := (HF.out.trans hf1).size; have := HB.out; omega)); clear hr1 hf1 ht1) | (at_builtin; refine wpList_append_src (P := Try.prog) (t := 22) (e := 3) (size := 1) (n := m) (m := t1) (base := B) (i := i0) (bytes := 8) (v := .slice A1 m c1) (xs := O.map (Value.int .i64)) (news := (endsV y).map (Value.int .i64)) rfl (.tmp 35) (.tmp 42) rfl Try.underlying22 HI0.out.1 HI0.out.2.1 HI0.out.2.2.1 HI0.out.2.2.2 rfl (by decide) rfl rfl HO1.out HR1.out (fun u hu => by obtain ⟨z, _, rfl⟩ := List.mem_map.1 hu; rfl) HLM.out.1 HLM.out.2 HBW.out ?_; intro v2 w2 ho2 hg2 hk2; have HO2 := Lib.hid ho2; have HG2 := Lib.hid hg2; have HK2 := Lib.hid hk2; obtain ⟨_, A3, c3, rfl, _⟩ := own_src ho2; clear ho2 hg2 hk2))
            have hfr2 := ((Fr.refl (fun k => (Value.slice A1 m c1).ownBlock = some k) wr).trans HF1.out.of0).grown HG2.out (fun k hk => .inl hk)
            have hq2 := own_fr (show wr.ownsRow B 3 1 (.slice (some ⟨b2, 0, none⟩) p' c2) P.dropLast.length (P.dropLast.map (Value.int .i64)) from OwnI.pop HQ.out HMP.out.2) hfr2 (fun k hk he => HNE.out k he hk)
            go_roundw
            case rel =>
              refine ⟨j + 1, by omega, by push_cast; rfl, ?_, ?_, ?_, ?_⟩
              · rw [HST.out]
                unfold stepP
                rw [HOP.out.1, HOP.out.2, HMP.out.2, HKO.out, if_pos ⟨.inl rfl, by omega⟩, HY.out.1]
                unfold OwnI
                dsimp only
                rw [List.length_append, List.map_append, HMP.out.1, HT1.out]
                exact HO2.out
              · rw [HST.out]
                unfold stepP
                rw [HOP.out.1, HOP.out.2, HMP.out.2, HKO.out, if_pos ⟨.inl rfl, by omega⟩]
                exact hq2
              · intro k1 hk1 hk2
                have h0 := (own_lo HQ.out k1 hk2).2
                rcases HK2.out with h | h
                · exact HNE.out k1 (h ▸ hk1) hk2
                · rw [h] at hk1
                  simp at hk1
                  have := HF1.out.size
                  omega
              · exact HF.out.then hfr2 (fun k _ hk => by have := (own_lo HO.out k hk).1; have := HB.out; omega)
            case measure => first | omega | (simp [intOf]; omega)
          · obtain rfl : p = 0 := by omega
            go_wp2_with fail
            go_roundw
            case rel =>
              refine ⟨j + 1, by omega, by push_cast; rfl, ?_, ?_, HNE.out, HF.out⟩
              · rw [HST.out]
                unfold stepP
                rw [HOP.out.1, HOP.out.2, HMP.out.2, HKO.out, if_neg (fun h => by omega), if_pos rfl]
                unfold OwnI
                rw [HOP.out.1, HMP.out.1]
                have h := HO.out
                unfold OwnI at h
                rwa [HMP.out.1] at h
              · rw [HST.out]
                unfold stepP
                rw [HOP.out.1, HOP.out.2, HMP.out.2, HKO.out, if_neg (fun h => by omega), if_pos rfl]
                rw [HOP.out.2]
                exact HQ.out
            case measure => first | omega | (simp [intOf]; omega)
        · have hkb : (k == (0 : Int)) = false := by simpa using hkz
          have HKZ := Lib.hid hkz
          by_cases hp20 : 20 < p
          · have hd0 : decide (20 < p) = true := decide_eq_true hp20
            have hd0I : decide ((20 : Int) < (p : Int)) = true := decide_eq_true (by omega)
            have hd1 : decide (0 < p) = true := decide_eq_true (by omega)
            have hd1I : decide ((0 : Int) < (p : Int)) = true := decide_eq_true (by omega)
            have hd0J : (20 : Int) < (p : Int) := by omega
            have hd1J : (0 : Int) < (p : Int) := by omega
            clear hkz
            obtain ⟨p', rfl⟩ : ∃ p', p = p' + 1 := ⟨p - 1, by omega⟩
            obtain ⟨y, hy⟩ : ∃ y, P[p']? = some y := ⟨_, List.getElem?_eq_getElem (by rw [HMP.out.2]; omega)⟩
            obtain ⟨b2, e3, e4⟩ := (show OwnI wr B (.slice A2 (p' + 1) c2) P from HQ.out).at_ hy
            subst e3
            have hyl : P.getLastD 0 = y := by
              have := last_split (op := P) (by rw [HMP.out.2]; omega)
              rw [this, List.getElem?_append_right (by rw [List.length_dropLast, HMP.out.2]; omega), List.length_dropLast, HMP.out.2] at hy
              simpa using hy
            have hcap : p' + 1 ≤ c2 := by
              rcases HQ.out.2 with ⟨e, _⟩ | ⟨g', cap', cs, e, _, _, hle, _⟩
              · cases e
              · injection e with e e2 e3
                rw [e3, ← HMP.out.2]
                exact hle
            have hcap2 : p' ≤ c2 := by omega
            have hwp : IntKind.i64.wrap ((p' : Int) + 1 - 1) = (p' : Int) := by rw [IntWalk.i64_in _ (by omega)]; omega
            have hwp2 : IntKind.i64.wrap (((p' + 1 : Nat) : Int) - 1) = (p' : Int) := by rw [IntWalk.i64_in _ (by omega)]; omega
            have hp0I : (0 : Int) ≤ (p' : Int) := by omega
            have hpltI : (p' : Int) < (p' : Int) + 1 := by omega
            have hpcI : (p' : Int) ≤ (c2 : Int) := by omega
            have HY := Lib.hid (And.intro hyl hcap)
            clear hy hyl hcap
            go_wp2_with (first | (go_at_call 31; refine (ends_any _ _).mono ?_; rintro e w1 ⟨v1, rfl, hf1, hr1⟩; obtain ⟨E1, ec1, rfl⟩ := hr1.form; obtain ⟨t1, ht1⟩ : ∃ t1, (endsV y).length = t1 := ⟨_, rfl⟩; have HT1 := Lib.hid ht1; have HF1 := Lib.hid hf1; unfold RdI at hr1; rw [ht1] at hr1 ⊢; have HR1 := Lib.hid hr1; have HO1 := Lib.hid (show w1.ownsRow B 3 1 (.slice A1 m c1) m (O.map (Value.int .i64)) from (by have h := own_fr HO.out hf1 (fun _ _ h => h); rwa [HMP.out.1] at h)); have HLM := Lib.hid (show m + t1 ≤ maxLen ∧ (m + t1) * 8 ≤ 140737488355328 from (by have h1 := ends_len y; rw [ht1] at h1; have := HH.out.2.1; unfold maxLen; omega)); have HBW := Lib.hid (show B ≤ w1.heap.size from (by have := (HF.out.trans hf1).size; have := HB.out; omega)); clear hr1 hf1 ht1) | (at_builtin; refine wpList_append_src (P := Try.prog) (t := 22) (e := 3) (size := 1) (n := m) (m := t1) (base := B) (i := i0) (bytes := 8) (v := .slice A1 m c1) (xs := O.map (Value.int .i64)) (news := (endsV y).map (Value.int .i64)) rfl (.tmp 35) (.tmp 42) rfl Try.underlying22 HI0.out.1 HI0.out.2.1 HI0.out.2.2.1 HI0.out.2.2.2 rfl (by decide) rfl rfl HO1.out HR1.out (fun u hu => by obtain ⟨z, _, rfl⟩ := List.mem_map.1 hu; rfl) HLM.out.1 HLM.out.2 HBW.out ?_; intro v2 w2 ho2 hg2 hk2; have HO2 := Lib.hid ho2; have HG2 := Lib.hid hg2; have HK2 := Lib.hid hk2; obtain ⟨_, A3, c3, rfl, _⟩ := own_src ho2; clear ho2 hg2 hk2))
            have hfr2 := ((Fr.refl (fun k => (Value.slice A1 m c1).ownBlock = some k) wr).trans HF1.out.of0).grown HG2.out (fun k hk => .inl hk)
            have hq2 := own_fr (show wr.ownsRow B 3 1 (.slice (some ⟨b2, 0, none⟩) p' c2) P.dropLast.length (P.dropLast.map (Value.int .i64)) from OwnI.pop HQ.out HMP.out.2) hfr2 (fun k hk he => HNE.out k he hk)
            go_roundw
            case rel =>
              refine ⟨j + 1, by omega, by push_cast; rfl, ?_, ?_, ?_, ?_⟩
              · rw [HST.out]
                unfold stepP
                rw [HOP.out.1, HOP.out.2, HMP.out.2, HKO.out, if_pos ⟨.inr (by omega), by omega⟩, HY.out.1]
                unfold OwnI
                dsimp only
                rw [List.length_append, List.map_append, HMP.out.1, HT1.out]
                exact HO2.out
              · rw [HST.out]
                unfold stepP
                rw [HOP.out.1, HOP.out.2, HMP.out.2, HKO.out, if_pos ⟨.inr (by omega), by omega⟩]
                exact hq2
              · intro k1 hk1 hk2
                have h0 := (own_lo HQ.out k1 hk2).2
                rcases HK2.out with h | h
                · exact HNE.out k1 (h ▸ hk1) hk2
                · rw [h] at hk1
                  simp at hk1
                  have := HF1.out.size
                  omega
              · exact HF.out.then hfr2 (fun k _ hk => by have := (own_lo HO.out k hk).1; have := HB.out; omega)
            case measure => first | omega | (simp [intOf]; omega)
          · have HP20 := Lib.hid hp20
            have hd0 : decide (20 < p) = false := decide_eq_false hp20
            have hd0I : decide ((20 : Int) < (p : Int)) = false := decide_eq_false (by omega)
            clear hkz
            have HLP := Lib.hid (show p + 1 ≤ maxLen ∧ (p + 1) * 8 ≤ 140737488355328 from (by have := HH.out.1; unfold maxLen; omega))
            go_wp2_with (first | (go_at_call 32; refine (begins_any _ _).mono ?_; rintro e w1 ⟨v1, rfl, hf1, hr1⟩; obtain ⟨E1, ec1, rfl⟩ := hr1.form; obtain ⟨t1, ht1⟩ : ∃ t1, (beginsV k).length = t1 := ⟨_, rfl⟩; have HT1 := Lib.hid ht1; have HF1 := Lib.hid hf1; unfold RdI at hr1; rw [ht1] at hr1 ⊢; have HR1 := Lib.hid hr1; have HO1 := Lib.hid (show w1.ownsRow B 3 1 (.slice A1 m c1) m (O.map (Value.int .i64)) from (by have h := own_fr HO.out hf1 (fun _ _ h => h); rwa [HMP.out.1] at h)); have HLM := Lib.hid (show m + t1 ≤ maxLen ∧ (m + t1) * 8 ≤ 140737488355328 from (by have h1 := begins_len k; rw [ht1] at h1; have := HH.out.2.1; unfold maxLen; omega)); have HBW := Lib.hid (show B ≤ w1.heap.size from (by have := (HF.out.trans hf1).size; have := HB.out; omega)); clear hr1 hf1 ht1) | (at_builtin; refine wpList_append_src (P := Try.prog) (t := 22) (e := 3) (size := 1) (n := m) (m := t1) (base := B) (i := i0) (bytes := 8) (v := .slice A1 m c1) (xs := O.map (Value.int .i64)) (news := (beginsV k).map (Value.int .i64)) rfl (.tmp 51) (.tmp 53) rfl Try.underlying22 HI0.out.1 HI0.out.2.1 HI0.out.2.2.1 HI0.out.2.2.2 rfl (by decide) rfl rfl HO1.out HR1.out (fun u hu => by obtain ⟨z, _, rfl⟩ := List.mem_map.1 hu; rfl) HLM.out.1 HLM.out.2 HBW.out ?_; intro v2 w2 ho2 hg2 hk2; have HO2 := Lib.hid ho2; have HG2 := Lib.hid hg2; have HK2 := Lib.hid hk2; obtain ⟨_, A3, c3, rfl, _⟩ := own_src ho2; have hfr2 := ((Fr.refl (fun k => (Value.slice A1 m c1).ownBlock = some k) wr).trans HF1.out.of0).grown hg2 (fun k hk => .inl hk); have HFR2 := Lib.hid hfr2; have HQ2 := Lib.hid (show w2.ownsRow B 3 1 (.slice A2 p c2) p (P.map (Value.int .i64)) from (by have h := own_fr HQ.out hfr2 (fun k hk he => HNE.out k he hk); rwa [HMP.out.2] at h)); have HBW2 := Lib.hid (Nat.le_trans HBW.out hg2.size); clear ho2 hg2 hk2 hfr2) | (at_builtin; refine wpList_append_src (P := Try.prog) (t := 22) (e := 3) (size := 1) (n := p) (m := 1) (base := B) (i := i0) (bytes := 8) (v := .slice A2 p c2) (xs := P.map (Value.int .i64)) (news := [.int .i64 k]) rfl (.tmp 55) (.tmp 57) rfl Try.underlying22 HI0.out.1 HI0.out.2.1 HI0.out.2.2.1 HI0.out.2.2.2 rfl (by decide) rfl rfl (own_fr HQ2.out ((Fr.refl (fun _ => False) w2).alloc (.cells #[.int .i64 k] 3)) (fun _ _ h => h)) (Rd.new w2 #[.int .i64 k] rfl 1) (fun u hu => by simp at hu; subst hu; rfl) HLP.out.1 HLP.out.2 (Nat.le_trans HBW2.out ((Fr.refl (fun _ => False) w2).alloc _).size) ?_; intro v4 w4 ho4 hg4 hk4; have HO4 := Lib.hid ho4; have HG4 := Lib.hid hg4; have HK4 := Lib.hid hk4; obtain ⟨_, A5, c5, rfl, _⟩ := own_src ho4; clear ho4 hg4 hk4))
            have hfa := (Fr.refl (fun k => (Value.slice A2 p c2).ownBlock = some k) w2).alloc (.cells #[.int .i64 k] 3)
            have hfr4 := hfa.grown HG4.out (fun k hk => .inl hk)
            have ho5 := own_fr HO2.out hfr4 (fun k1 hk1 hk2 => by
              have h0 := (own_lo HQ.out k1 hk2).2
              rcases HK2.out with h | h
              · exact HNE.out k1 (h ▸ hk1) hk2
              · rw [h] at hk1
                simp at hk1
                have := HF1.out.size
                omega)
            go_roundw
            case rel =>
              refine ⟨j + 1, by omega, by push_cast; rfl, ?_, ?_, ?_, ?_⟩
              · rw [HST.out]
                unfold stepP
                rw [HOP.out.1, HOP.out.2, HMP.out.2, HKO.out, if_neg (fun h => h.1.elim HKZ.out HP20.out), if_neg HKZ.out]
                unfold OwnI
                dsimp only
                rw [List.length_append, List.map_append, HMP.out.1, HT1.out]
                exact ho5
              · rw [HST.out]
                unfold stepP
                rw [HOP.out.1, HOP.out.2, HMP.out.2, HKO.out, if_neg (fun h => h.1.elim HKZ.out HP20.out), if_neg HKZ.out]
                unfold OwnI
                dsimp only
                rw [List.length_append, List.map_append, HMP.out.2]
                exact HO4.out
              · intro k1 hk1 hk2
                have h1 := (own_lo HO2.out k1 hk1).2
                rcases HK4.out with h | h
                · have hk2' : (Value.slice A2 p c2).ownBlock = some k1 := h ▸ hk2
                  have h0 := (own_lo HQ.out k1 hk2').2
                  rcases HK2.out with h | h
                  · exact HNE.out k1 (h ▸ hk1) hk2'
                  · rw [h] at hk1
                    simp at hk1
                    have := HF1.out.size
                    omega
                · rw [h] at hk2
                  simp at hk2
                  omega
              · exact (HF.out.then HFR2.out (fun k _ hk => by have := (own_lo HO.out k hk).1; have := HB.out; omega)).then hfr4 (fun k _ hk => by have := (own_lo HQ2.out k hk).1; have := HB.out; omega)
            case measure => first | omega | (simp [intOf]; omega)
      · go_upto_region 9 with (fail)
        obtain ⟨k, hk⟩ : ∃ k, x = k := ⟨_, rfl⟩
        rw [hk]
        have hko : kOf a = k := by unfold kOf; rw [HX.out, if_neg hx0]; exact hk
        clear hx0 hk hnx hxb hx e2
        have HKO := Lib.hid hko
        clear hko
        by_cases hkz : k = 0
        · subst hkz
          by_cases hp0 : 0 < p
          · have hd0 : decide (0 < p) = true := decide_eq_true hp0
            have hd0I : decide ((0 : Int) < (p : Int)) = true := decide_eq_true (by omega)
            have hd0J : (0 : Int) < (p : Int) := by omega
            obtain ⟨p', rfl⟩ : ∃ p', p = p' + 1 := ⟨p - 1, by omega⟩
            obtain ⟨y, hy⟩ : ∃ y, P[p']? = some y := ⟨_, List.getElem?_eq_getElem (by rw [HMP.out.2]; omega)⟩
            obtain ⟨b2, e3, e4⟩ := (show OwnI wr B (.slice A2 (p' + 1) c2) P from HQ.out).at_ hy
            subst e3
            have hyl : P.getLastD 0 = y := by
              have := last_split (op := P) (by rw [HMP.out.2]; omega)
              rw [this, List.getElem?_append_right (by rw [List.length_dropLast, HMP.out.2]; omega), List.length_dropLast, HMP.out.2] at hy
              simpa using hy
            have hcap : p' + 1 ≤ c2 := by
              rcases HQ.out.2 with ⟨e, _⟩ | ⟨g', cap', cs, e, _, _, hle, _⟩
              · cases e
              · injection e with e e2 e3
                rw [e3, ← HMP.out.2]
                exact hle
            have hcap2 : p' ≤ c2 := by omega
            have hwp : IntKind.i64.wrap ((p' : Int) + 1 - 1) = (p' : Int) := by rw [IntWalk.i64_in _ (by omega)]; omega
            have hwp2 : IntKind.i64.wrap (((p' + 1 : Nat) : Int) - 1) = (p' : Int) := by rw [IntWalk.i64_in _ (by omega)]; omega
            have hp0I : (0 : Int) ≤ (p' : Int) := by omega
            have hpltI : (p' : Int) < (p' : Int) + 1 := by omega
            have hpcI : (p' : Int) ≤ (c2 : Int) := by omega
            have HY := Lib.hid (And.intro hyl hcap)
            clear hy hyl hcap
            go_wp2_with (first | (go_at_call 31; refine (ends_any _ _).mono ?_; rintro e w1 ⟨v1, rfl, hf1, hr1⟩; obtain ⟨E1, ec1, rfl⟩ := hr1.form; obtain ⟨t1, ht1⟩ : ∃ t1, (endsV y).length = t1 := ⟨_, rfl⟩; have HT1 := Lib.hid ht1; have HF1 := Lib.hid hf1; unfold RdI at hr1; rw [ht1] at hr1 ⊢; have HR1 := Lib.hid hr1; have HO1 := Lib.hid (show w1.ownsRow B 3 1 (.slice A1 m c1) m (O.map (Value.int .i64)) from (by have h := own_fr HO.out hf1 (fun _ _ h => h); rwa [HMP.out.1] at h)); have HLM := Lib.hid (show m + t1 ≤ maxLen ∧ (m + t1) * 8 ≤ 140737488355328 from (by have h1 := ends_len y; rw [ht1] at h1; have := HH.out.2.1; unfold maxLen; omega)); have HBW := Lib.hid (show B ≤ w1.heap.size from (by have := (HF.out.trans hf1).size; have := HB.out; omega)); clear hr1 hf1 ht1) | (at_builtin; refine wpList_append_src (P := Try.prog) (t := 22) (e := 3) (size := 1) (n := m) (m := t1) (base := B) (i := i0) (bytes := 8) (v := .slice A1 m c1) (xs := O.map (Value.int .i64)) (news := (endsV y).map (Value.int .i64)) rfl (.tmp 35) (.tmp 42) rfl Try.underlying22 HI0.out.1 HI0.out.2.1 HI0.out.2.2.1 HI0.out.2.2.2 rfl (by decide) rfl rfl HO1.out HR1.out (fun u hu => by obtain ⟨z, _, rfl⟩ := List.mem_map.1 hu; rfl) HLM.out.1 HLM.out.2 HBW.out ?_; intro v2 w2 ho2 hg2 hk2; have HO2 := Lib.hid ho2; have HG2 := Lib.hid hg2; have HK2 := Lib.hid hk2; obtain ⟨_, A3, c3, rfl, _⟩ := own_src ho2; clear ho2 hg2 hk2))
            have hfr2 := ((Fr.refl (fun k => (Value.slice A1 m c1).ownBlock = some k) wr).trans HF1.out.of0).grown HG2.out (fun k hk => .inl hk)
            have hq2 := own_fr (show wr.ownsRow B 3 1 (.slice (some ⟨b2, 0, none⟩) p' c2) P.dropLast.length (P.dropLast.map (Value.int .i64)) from OwnI.pop HQ.out HMP.out.2) hfr2 (fun k hk he => HNE.out k he hk)
            go_roundw
            case rel =>
              refine ⟨j + 1, by omega, by push_cast; rfl, ?_, ?_, ?_, ?_⟩
              · rw [HST.out]
                unfold stepP
                rw [HOP.out.1, HOP.out.2, HMP.out.2, HKO.out, if_pos ⟨.inl rfl, by omega⟩, HY.out.1]
                unfold OwnI
                dsimp only
                rw [List.length_append, List.map_append, HMP.out.1, HT1.out]
                exact HO2.out
              · rw [HST.out]
                unfold stepP
                rw [HOP.out.1, HOP.out.2, HMP.out.2, HKO.out, if_pos ⟨.inl rfl, by omega⟩]
                exact hq2
              · intro k1 hk1 hk2
                have h0 := (own_lo HQ.out k1 hk2).2
                rcases HK2.out with h | h
                · exact HNE.out k1 (h ▸ hk1) hk2
                · rw [h] at hk1
                  simp at hk1
                  have := HF1.out.size
                  omega
              · exact HF.out.then hfr2 (fun k _ hk => by have := (own_lo HO.out k hk).1; have := HB.out; omega)
            case measure => first | omega | (simp [intOf]; omega)
          · obtain rfl : p = 0 := by omega
            go_wp2_with fail
            go_roundw
            case rel =>
              refine ⟨j + 1, by omega, by push_cast; rfl, ?_, ?_, HNE.out, HF.out⟩
              · rw [HST.out]
                unfold stepP
                rw [HOP.out.1, HOP.out.2, HMP.out.2, HKO.out, if_neg (fun h => by omega), if_pos rfl]
                unfold OwnI
                rw [HOP.out.1, HMP.out.1]
                have h := HO.out
                unfold OwnI at h
                rwa [HMP.out.1] at h
              · rw [HST.out]
                unfold stepP
                rw [HOP.out.1, HOP.out.2, HMP.out.2, HKO.out, if_neg (fun h => by omega), if_pos rfl]
                rw [HOP.out.2]
                exact HQ.out
            case measure => first | omega | (simp [intOf]; omega)
        · have hkb : (k == (0 : Int)) = false := by simpa using hkz
          have HKZ := Lib.hid hkz
          by_cases hp20 : 20 < p
          · have hd0 : decide (20 < p) = true := decide_eq_true hp20
            have hd0I : decide ((20 : Int) < (p : Int)) = true := decide_eq_true (by omega)
            have hd1 : decide (0 < p) = true := decide_eq_true (by omega)
            have hd1I : decide ((0 : Int) < (p : Int)) = true := decide_eq_true (by omega)
            have hd0J : (20 : Int) < (p : Int) := by omega
            have hd1J : (0 : Int) < (p : Int) := by omega
            clear hkz
            obtain ⟨p', rfl⟩ : ∃ p', p = p' + 1 := ⟨p - 1, by omega⟩
            obtain ⟨y, hy⟩ : ∃ y, P[p']? = some y := ⟨_, List.getElem?_eq_getElem (by rw [HMP.out.2]; omega)⟩
            obtain ⟨b2, e3, e4⟩ := (show OwnI wr B (.slice A2 (p' + 1) c2) P from HQ.out).at_ hy
            subst e3
            have hyl : P.getLastD 0 = y := by
              have := last_split (op := P) (by rw [HMP.out.2]; omega)
              rw [this, List.getElem?_append_right (by rw [List.length_dropLast, HMP.out.2]; omega), List.length_dropLast, HMP.out.2] at hy
              simpa using hy
            have hcap : p' + 1 ≤ c2 := by
              rcases HQ.out.2 with ⟨e, _⟩ | ⟨g', cap', cs, e, _, _, hle, _⟩
              · cases e
              · injection e with e e2 e3
                rw [e3, ← HMP.out.2]
                exact hle
            have hcap2 : p' ≤ c2 := by omega
            have hwp : IntKind.i64.wrap ((p' : Int) + 1 - 1) = (p' : Int) := by rw [IntWalk.i64_in _ (by omega)]; omega
            have hwp2 : IntKind.i64.wrap (((p' + 1 : Nat) : Int) - 1) = (p' : Int) := by rw [IntWalk.i64_in _ (by omega)]; omega
            have hp0I : (0 : Int) ≤ (p' : Int) := by omega
            have hpltI : (p' : Int) < (p' : Int) + 1 := by omega
            have hpcI : (p' : Int) ≤ (c2 : Int) := by omega
            have HY := Lib.hid (And.intro hyl hcap)
            clear hy hyl hcap
            go_wp2_with (first | (go_at_call 31; refine (ends_any _ _).mono ?_; rintro e w1 ⟨v1, rfl, hf1, hr1⟩; obtain ⟨E1, ec1, rfl⟩ := hr1.form; obtain ⟨t1, ht1⟩ : ∃ t1, (endsV y).length = t1 := ⟨_, rfl⟩; have HT1 := Lib.hid ht1; have HF1 := Lib.hid hf1; unfold RdI at hr1; rw [ht1] at hr1 ⊢; have HR1 := Lib.hid hr1; have HO1 := Lib.hid (show w1.ownsRow B 3 1 (.slice A1 m c1) m (O.map (Value.int .i64)) from (by have h := own_fr HO.out hf1 (fun _ _ h => h); rwa [HMP.out.1] at h)); have HLM := Lib.hid (show m + t1 ≤ maxLen ∧ (m + t1) * 8 ≤ 140737488355328 from (by have h1 := ends_len y; rw [ht1] at h1; have := HH.out.2.1; unfold maxLen; omega)); have HBW := Lib.hid (show B ≤ w1.heap.size from (by have := (HF.out.trans hf1).size; have := HB.out; omega)); clear hr1 hf1 ht1) | (at_builtin; refine wpList_append_src (P := Try.prog) (t := 22) (e := 3) (size := 1) (n := m) (m := t1) (base := B) (i := i0) (bytes := 8) (v := .slice A1 m c1) (xs := O.map (Value.int .i64)) (news := (endsV y).map (Value.int .i64)) rfl (.tmp 35) (.tmp 42) rfl Try.underlying22 HI0.out.1 HI0.out.2.1 HI0.out.2.2.1 HI0.out.2.2.2 rfl (by decide) rfl rfl HO1.out HR1.out (fun u hu => by obtain ⟨z, _, rfl⟩ := List.mem_map.1 hu; rfl) HLM.out.1 HLM.out.2 HBW.out ?_; intro v2 w2 ho2 hg2 hk2; have HO2 := Lib.hid ho2; have HG2 := Lib.hid hg2; have HK2 := Lib.hid hk2; obtain ⟨_, A3, c3, rfl, _⟩ := own_src ho2; clear ho2 hg2 hk2))
            have hfr2 := ((Fr.refl (fun k => (Value.slice A1 m c1).ownBlock = some k) wr).trans HF1.out.of0).grown HG2.out (fun k hk => .inl hk)
            have hq2 := own_fr (show wr.ownsRow B 3 1 (.slice (some ⟨b2, 0, none⟩) p' c2) P.dropLast.length (P.dropLast.map (Value.int .i64)) from OwnI.pop HQ.out HMP.out.2) hfr2 (fun k hk he => HNE.out k he hk)
            go_roundw
            case rel =>
              refine ⟨j + 1, by omega, by push_cast; rfl, ?_, ?_, ?_, ?_⟩
              · rw [HST.out]
                unfold stepP
                rw [HOP.out.1, HOP.out.2, HMP.out.2, HKO.out, if_pos ⟨.inr (by omega), by omega⟩, HY.out.1]
                unfold OwnI
                dsimp only
                rw [List.length_append, List.map_append, HMP.out.1, HT1.out]
                exact HO2.out
              · rw [HST.out]
                unfold stepP
                rw [HOP.out.1, HOP.out.2, HMP.out.2, HKO.out, if_pos ⟨.inr (by omega), by omega⟩]
                exact hq2
              · intro k1 hk1 hk2
                have h0 := (own_lo HQ.out k1 hk2).2
                rcases HK2.out with h | h
                · exact HNE.out k1 (h ▸ hk1) hk2
                · rw [h] at hk1
                  simp at hk1
                  have := HF1.out.size
                  omega
              · exact HF.out.then hfr2 (fun k _ hk => by have := (own_lo HO.out k hk).1; have := HB.out; omega)
            case measure => first | omega | (simp [intOf]; omega)
          · have HP20 := Lib.hid hp20
            have hd0 : decide (20 < p) = false := decide_eq_false hp20
            have hd0I : decide ((20 : Int) < (p : Int)) = false := decide_eq_false (by omega)
            clear hkz
            have HLP := Lib.hid (show p + 1 ≤ maxLen ∧ (p + 1) * 8 ≤ 140737488355328 from (by have := HH.out.1; unfold maxLen; omega))
            go_wp2_with (first | (go_at_call 32; refine (begins_any _ _).mono ?_; rintro e w1 ⟨v1, rfl, hf1, hr1⟩; obtain ⟨E1, ec1, rfl⟩ := hr1.form; obtain ⟨t1, ht1⟩ : ∃ t1, (beginsV k).length = t1 := ⟨_, rfl⟩; have HT1 := Lib.hid ht1; have HF1 := Lib.hid hf1; unfold RdI at hr1; rw [ht1] at hr1 ⊢; have HR1 := Lib.hid hr1; have HO1 := Lib.hid (show w1.ownsRow B 3 1 (.slice A1 m c1) m (O.map (Value.int .i64)) from (by have h := own_fr HO.out hf1 (fun _ _ h => h); rwa [HMP.out.1] at h)); have HLM := Lib.hid (show m + t1 ≤ maxLen ∧ (m + t1) * 8 ≤ 140737488355328 from (by have h1 := begins_len k; rw [ht1] at h1; have := HH.out.2.1; unfold maxLen; omega)); have HBW := Lib.hid (show B ≤ w1.heap.size from (by have := (HF.out.trans hf1).size; have := HB.out; omega)); clear hr1 hf1 ht1) | (at_builtin; refine wpList_append_src (P := Try.prog) (t := 22) (e := 3) (size := 1) (n := m) (m := t1) (base := B) (i := i0) (bytes := 8) (v := .slice A1 m c1) (xs := O.map (Value.int .i64)) (news := (beginsV k).map (Value.int .i64)) rfl (.tmp 51) (.tmp 53) rfl Try.underlying22 HI0.out.1 HI0.out.2.1 HI0.out.2.2.1 HI0.out.2.2.2 rfl (by decide) rfl rfl HO1.out HR1.out (fun u hu => by obtain ⟨z, _, rfl⟩ := List.mem_map.1 hu; rfl) HLM.out.1 HLM.out.2 HBW.out ?_; intro v2 w2 ho2 hg2 hk2; have HO2 := Lib.hid ho2; have HG2 := Lib.hid hg2; have HK2 := Lib.hid hk2; obtain ⟨_, A3, c3, rfl, _⟩ := own_src ho2; have hfr2 := ((Fr.refl (fun k => (Value.slice A1 m c1).ownBlock = some k) wr).trans HF1.out.of0).grown hg2 (fun k hk => .inl hk); have HFR2 := Lib.hid hfr2; have HQ2 := Lib.hid (show w2.ownsRow B 3 1 (.slice A2 p c2) p (P.map (Value.int .i64)) from (by have h := own_fr HQ.out hfr2 (fun k hk he => HNE.out k he hk); rwa [HMP.out.2] at h)); have HBW2 := Lib.hid (Nat.le_trans HBW.out hg2.size); clear ho2 hg2 hk2 hfr2) | (at_builtin; refine wpList_append_src (P := Try.prog) (t := 22) (e := 3) (size := 1) (n := p) (m := 1) (base := B) (i := i0) (bytes := 8) (v := .slice A2 p c2) (xs := P.map (Value.int .i64)) (news := [.int .i64 k]) rfl (.tmp 55) (.tmp 57) rfl Try.underlying22 HI0.out.1 HI0.out.2.1 HI0.out.2.2.1 HI0.out.2.2.2 rfl (by decide) rfl rfl (own_fr HQ2.out ((Fr.refl (fun _ => False) w2).alloc (.cells #[.int .i64 k] 3)) (fun _ _ h => h)) (Rd.new w2 #[.int .i64 k] rfl 1) (fun u hu => by simp at hu; subst hu; rfl) HLP.out.1 HLP.out.2 (Nat.le_trans HBW2.out ((Fr.refl (fun _ => False) w2).alloc _).size) ?_; intro v4 w4 ho4 hg4 hk4; have HO4 := Lib.hid ho4; have HG4 := Lib.hid hg4; have HK4 := Lib.hid hk4; obtain ⟨_, A5, c5, rfl, _⟩ := own_src ho4; clear ho4 hg4 hk4))
            have hfa := (Fr.refl (fun k => (Value.slice A2 p c2).ownBlock = some k) w2).alloc (.cells #[.int .i64 k] 3)
            have hfr4 := hfa.grown HG4.out (fun k hk => .inl hk)
            have ho5 := own_fr HO2.out hfr4 (fun k1 hk1 hk2 => by
              have h0 := (own_lo HQ.out k1 hk2).2
              rcases HK2.out with h | h
              · exact HNE.out k1 (h ▸ hk1) hk2
              · rw [h] at hk1
                simp at hk1
                have := HF1.out.size
                omega)
            go_roundw
            case rel =>
              refine ⟨j + 1, by omega, by push_cast; rfl, ?_, ?_, ?_, ?_⟩
              · rw [HST.out]
                unfold stepP
                rw [HOP.out.1, HOP.out.2, HMP.out.2, HKO.out, if_neg (fun h => h.1.elim HKZ.out HP20.out), if_neg HKZ.out]
                unfold OwnI
                dsimp only
                rw [List.length_append, List.map_append, HMP.out.1, HT1.out]
                exact ho5
              · rw [HST.out]
                unfold stepP
                rw [HOP.out.1, HOP.out.2, HMP.out.2, HKO.out, if_neg (fun h => h.1.elim HKZ.out HP20.out), if_neg HKZ.out]
                unfold OwnI
                dsimp only
                rw [List.length_append, List.map_append, HMP.out.2]
                exact HO4.out
              · intro k1 hk1 hk2
                have h1 := (own_lo HO2.out k1 hk1).2
                rcases HK4.out with h | h
                · have hk2' : (Value.slice A2 p c2).ownBlock = some k1 := h ▸ hk2
                  have h0 := (own_lo HQ.out k1 hk2').2
                  rcases HK2.out with h | h
                  · exact HNE.out k1 (h ▸ hk1) hk2'
                  · rw [h] at hk1
                    simp at hk1
                    have := HF1.out.size
                    omega
                · rw [h] at hk2
                  simp at hk2
                  omega
              · exact (HF.out.then HFR2.out (fun k _ hk => by have := (own_lo HO.out k hk).1; have := HB.out; omega)).then hfr4 (fun k _ hk => by have := (own_lo HQ2.out k hk).1; have := HB.out; omega)
            case measure => first | omega | (simp [intOf]; omega)
    · obtain rfl : j = n := by omega
      have htk : l.take j = l := List.take_of_length_le (by rw [HN.out]; exact Nat.le_refl _)
      have HTK := Lib.hid htk
      have hb2 : ∀ t, t < p → ∃ b2 y, A2 = some ⟨b2, 0, none⟩ ∧ P[t]? = some y ∧ ∀ V, Fr (fun k => (B ≤ k ∧ k ≠ b2)) wr V → V.cell? ⟨b2, t, none⟩ = some (.int .i64 y) := fun t ht => by
        obtain ⟨y, hy⟩ : ∃ y, P[t]? = some y := ⟨_, List.getElem?_eq_getElem (by rw [HMP.out.2]; exact ht)⟩
        obtain ⟨b2, e3, e4⟩ := (show OwnI wr B (.slice A2 p c2) P from HQ.out).at_ hy
        exact ⟨b2, y, e3, hy, fun V hV => (hV.cell (p := ⟨b2, t, none⟩) (World.block_lt_of_cell? _ _ e4) (fun h => h.2 rfl)).trans e4⟩
      have HB2 := Lib.hid hb2
      have hwp1 : IntKind.i64.wrap ((p : Int) - 1) = (p : Int) - 1 := IntWalk.i64_in _ (by omega)
      clear htk hb2
      go_wp2_with fail
      go_loopw [3, 7] (fun o i wq => ∃ t : Nat, t ≤ p ∧ i = .int .i64 ((t : Int) - 1) ∧ OwnI wq B o (O ++ closeV (P.drop t)) ∧ (∀ k, o.ownBlock = some k → (Value.slice A2 p c2).ownBlock ≠ some k) ∧ Fr (fun k => B ≤ k ∧ (Value.slice A2 p c2).ownBlock ≠ some k) wr wq) (fun _ i _ => (intOf i + 1).toNat)
      case atStart =>
        refine ⟨p, Nat.le_refl _, rfl, ?_, HNE.out, Fr.refl _ _⟩
        rw [List.drop_eq_nil_of_le (by rw [HMP.out.2]; exact Nat.le_refl _), show closeV [] = [] from rfl, List.append_nil]
        unfold OwnI
        rw [HMP.out.1]
        have h := HO.out
        unfold OwnI at h
        rwa [HMP.out.1] at h
      case round =>
        obtain ⟨t, ht, rfl, ho6, hne6, hf6⟩ := hrel
        obtain ⟨A6, c6, rfl⟩ := ho6.src
        obtain ⟨O2, hO2⟩ : ∃ O2, O ++ closeV (P.drop t) = O2 := ⟨_, rfl⟩
        have HO2E := Lib.hid hO2
        rw [hO2] at ho6 hne6 ⊢
        obtain ⟨m2, hm2⟩ : ∃ m2, O2.length = m2 := ⟨_, rfl⟩
        have hm3 : m2 ≤ 3 * 400 + 42 := by
          have h1 := closeV_len (P.drop t)
          have h2 := HMP.out
          rw [List.length_drop, h2.2] at h1
          rw [← hm2, ← hO2, List.length_append, h2.1]
          omega
        rw [hm2] at ho6 hne6 ⊢
        have HM2 := Lib.hid hm2
        have HM3 := Lib.hid hm3
        have HO6 := Lib.hid ho6
        have HNE6 := Lib.hid hne6
        have HF7 := Lib.hid hf6
        have HF6 := Lib.hid (HF.out.then hf6 (fun k _ hk => by have := hk.1; have := HB.out; omega))
        clear ho6 hne6 hf6 hO2 hm2 hm3
        rcases Nat.eq_zero_or_pos t with rfl | hpos
        · have hd : ¬ ((0 : Int) ≤ ((0 : Nat) : Int) - 1) := by omega
          go_wp2_with fail
          go_ret
          refine ⟨_, rfl, ?_, HF6.out⟩
          unfold pairsV
          rw [← HTK.out, HOP.out.1, HOP.out.2, show P = P.drop 0 from rfl, HO2E.out]
          unfold OwnI
          rw [HM2.out]
          have h := HO6.out
          unfold OwnI at h
          rwa [HM2.out] at h
        · obtain ⟨u, rfl⟩ : ∃ u, t = u + 1 := ⟨t - 1, by omega⟩
          rw [show (((u + 1 : Nat) : Int) - 1) = (u : Int) by omega]
          obtain ⟨b2, y, e3, hy, e5⟩ := HB2.out u (by omega)
          subst e3
          have e6 := e5 wr (HF7.out.mono (fun k _ hk => ⟨hk.1, fun e => hk.2 (by rw [e]; rfl)⟩))
          have hu0 : (0 : Int) ≤ (u : Int) := by omega
          have hupI : (u : Int) < (p : Int) := by omega
          have hup : u < p := by omega
          have hwu : IntKind.i64.wrap ((u : Int) - 1) = (u : Int) - 1 := IntWalk.i64_in _ (by omega)
          have HY := Lib.hid hy
          clear hy e5
          go_wp2_with (first | (go_at_call 31; refine (ends_any _ _).mono ?_; rintro e w1 ⟨v1, rfl, hf1, hr1⟩; obtain ⟨E1, ec1, rfl⟩ := hr1.form; obtain ⟨t1, ht1⟩ : ∃ t1, (endsV y).length = t1 := ⟨_, rfl⟩; have HT1 := Lib.hid ht1; have HF1 := Lib.hid hf1; unfold RdI at hr1; rw [ht1] at hr1 ⊢; have HR1 := Lib.hid hr1; have HO1 := Lib.hid (show w1.ownsRow B 3 1 (.slice A6 m2 c6) m2 (O2.map (Value.int .i64)) from (by have h := own_fr HO6.out hf1 (fun _ _ h => h); rwa [HM2.out] at h)); have HLM := Lib.hid (show m2 + t1 ≤ maxLen ∧ (m2 + t1) * 8 ≤ 140737488355328 from (by have h1 := ends_len y; rw [ht1] at h1; have := HM3.out; unfold maxLen; omega)); have HBW := Lib.hid (show B ≤ w1.heap.size from (by have := (HF6.out.trans hf1).size; have := HB.out; omega)); clear hr1 hf1 ht1) | (at_builtin; refine wpList_append_src (P := Try.prog) (t := 22) (e := 3) (size := 1) (n := m2) (m := t1) (base := B) (i := i0) (bytes := 8) (v := .slice A6 m2 c6) (xs := O2.map (Value.int .i64)) (news := (endsV y).map (Value.int .i64)) rfl (.tmp 66) (.tmp 71) rfl Try.underlying22 HI0.out.1 HI0.out.2.1 HI0.out.2.2.1 HI0.out.2.2.2 rfl (by decide) rfl rfl HO1.out HR1.out (fun u hu => by obtain ⟨z, _, rfl⟩ := List.mem_map.1 hu; rfl) HLM.out.1 HLM.out.2 HBW.out ?_; intro v2 w2 ho2 hg2 hk2; have HO2 := Lib.hid ho2; have HG2 := Lib.hid hg2; have HK2 := Lib.hid hk2; obtain ⟨_, A3, c3, rfl, _⟩ := own_src ho2; clear ho2 hg2 hk2))
          have hfr2 := ((Fr.refl (fun k => (Value.slice A6 m2 c6).ownBlock = some k) wr).trans HF1.out.of0).grown HG2.out (fun k hk => .inl hk)
          go_roundw
          case rel =>
            refine ⟨u, by omega, by first | rfl | (simp only [hwu]), ?_, ?_, ?_⟩
            · have hdr : P.drop u = y :: P.drop (u + 1) := by
                have h1 := (List.getElem?_eq_some_iff.1 HY.out).2
                have h2 := (List.getElem?_eq_some_iff.1 HY.out).1
                rw [List.drop_eq_getElem_cons h2, h1]
              rw [hdr, closeV_cons, ← List.append_assoc, HO2E.out]
              unfold OwnI
              rw [List.length_append, List.map_append, HM2.out, HT1.out]
              exact HO2.out
            · intro k1 hk1 hk2
              rcases HK2.out with h | h
              · exact HNE6.out k1 (h ▸ hk1) hk2
              · rw [h] at hk1
                simp at hk1
                have h0 := (own_lo HQ.out k1 hk2).2
                have := HF1.out.size
                have := HF7.out.size
                omega
            · exact HF7.out.then hfr2 (fun k _ hk => ⟨by have := (own_lo HO6.out k hk).1; exact this, fun e => HNE6.out k hk e⟩)
          case measure => first | omega | (simp [intOf])
end Go.Proofs.Ytoldegajbonliaa
