/- The walk of NamesOwn. -/
import Derived.Test.YtmhjnbolngdijaaNwalk
import Derived.Test.YtmhjnbolngdijaaNawake
import Derived.Test.YtmhjnbolngdijaaNhide
import Derived.Test.YtmhjnbolngdijaaNown
import Derived.Test.YtmhjnbolngdijaaRowT
import Derived.BigRegion
namespace Go.Proofs.Ytmhjnbolngdijaa
open Go Go.RowKit Go.Shelf
set_option linter.unusedVariables false
attribute [local go_sem] Oper.semAt_some

theorem strEq {a b : List Int} (ha : ∀ x ∈ a, 0 ≤ x ∧ x ≤ 255) (hb : ∀ x ∈ b, 0 ≤ x ∧ x ≤ 255) (W : World) : (binOp .eql 9 (.string (strOfNums a)) (.string (strOfNums b))).run Try.prog W = .ok (.bool (decide (a = b))) W := by
  show (Op.stringOp .eql (strOfNums a) (strOfNums b)).run Try.prog W = _
  simp only [Op.stringOp, Sem.run_pure]
  by_cases h : a = b
  · subst h; simp
  · have : ¬ (strOfNums a).toList = (strOfNums b).toList := fun e => h (str_inj ha hb (toList_ba e))
    simp [h, this]

/-- What has become of 'ok' and k. -/
def ownOk (ls : List (List Int)) (pre : List WA) : Bool := (pre.zipIdx.all fun p => decide ((p.1.1.1 : Int) + 1 = (ls.length : Int) - p.2 ∧ ls[ls.length - 1 - p.2]? = some p.1.1.2.name))
theorem ownOk_snoc (ls : List (List Int)) (pre : List WA) (x : WA) : ownOk ls (pre ++ [x]) = (ownOk ls pre && decide ((x.1.1 : Int) + 1 = (ls.length : Int) - pre.length ∧ ls[ls.length - 1 - pre.length]? = some x.1.2.name)) := by
  unfold ownOk
  rw [List.zipIdx_append, List.all_append]
  simp

set_option maxRecDepth 100000 in
set_option maxHeartbeats 8000000 in
theorem own1_any (sv : Value) (ls : List (List Int)) (ob kb sb : Nat) (pre : List WA) (x : WA) (B : Nat) (w : World) (hs : RowT w B sv ls) (hB : B ≤ ob ∧ B ≤ kb ∧ B ≤ sb) (ho : Blk w ob 4 #[.bool (ownOk ls pre)]) (hk : Blk w kb 3 #[.int .i64 ((ls.length : Int) - pre.length)]) (hsb : Blk w sb 22 #[sv]) (hl : pre.length < ls.length) (hls : ls.length ≤ 60) :
    Calls Try.prog 16 (#[.int .i64 ((x.1.1 : Int) + 1), .agg #[.string (strOfNums x.1.2.name), .int .i64 x.1.2.xt, .int .i64 x.1.2.list, .bool x.1.2.imm, .bool x.1.2.only]] ++ #[.pointer (some ⟨ob, 0, none⟩), .pointer (some ⟨kb, 0, none⟩), .pointer (some ⟨sb, 0, none⟩)]) w fun e w' => e = .returned (.bool (ownOk ls (pre ++ [x]) && decide (0 < (ls.length : Int) - (pre.length + 1)))) ∧ Blk w' ob 4 #[.bool (ownOk ls (pre ++ [x]))] ∧ Blk w' kb 3 #[.int .i64 ((ls.length : Int) - (pre.length + 1))] ∧ Fr (fun k => k = ob ∨ k = kb) w w' := by
  obtain ⟨k, hk'⟩ : ∃ k : Nat, ls.length = pre.length + (k + 1) := ⟨ls.length - pre.length - 1, by omega⟩
  have hkl : k < ls.length := by omega
  have e0 : (ls.length : Int) - pre.length = (k : Int) + 1 := by omega
  have e1 : (ls.length : Int) - (pre.length + 1) = (k : Int) := by omega
  have hst := ownOk_snoc ls pre x
  rw [e0, show ls.length - 1 - pre.length = k by omega] at hst
  rw [e0] at hk
  rw [e1]
  obtain ⟨A, cap, rfl, _⟩ := id hs
  obtain ⟨b, off, nm, rfl, hb, hnm, hnb, hc⟩ := hs.at_ hkl
  have hx := x.2.2
  obtain ⟨nx, hnx⟩ : ∃ nx, x.1.2.name = nx := ⟨_, rfl⟩
  rw [hnx] at hx hst ⊢
  have hse := strEq hx hnb
  have HNX := Lib.hid hx
  have HNM := Lib.hid hnb
  rw [hnm] at hst
  obtain ⟨i, hi⟩ : ∃ i, x.1.1 = i := ⟨_, rfl⟩
  have hi6 : i < 1000000 := by rw [← hi]; exact x.2.1
  rw [hi] at hst ⊢
  obtain ⟨o, hob⟩ : ∃ o, ownOk ls pre = o := ⟨_, rfl⟩
  rw [hob] at ho hst
  obtain ⟨o', hob'⟩ : ∃ o', ownOk ls (pre ++ [x]) = o' := ⟨_, rfl⟩
  rw [hob'] at hst ⊢
  have hkI : (k : Int) < (ls.length : Int) := by omega
  have hk0 : (0 : Int) ≤ (k : Int) := by omega
  have hk60 : (k : Int) ≤ 60 := by omega
  have x1 : IntKind.i64.wrap ((k : Int) + 1 - 1) = (k : Int) := by rw [IntWalk.i64_in _ (by omega)]; omega
  have hf0 := (Fr.refl (fun _ => False) w).alloc (.cells #[.string (strOfNums nx), .int .i64 x.1.2.xt, .int .i64 x.1.2.list, .bool x.1.2.imm, .bool x.1.2.only] 30)
  have hz := Blk.new w 30 #[.string (strOfNums nx), .int .i64 x.1.2.xt, .int .i64 x.1.2.list, .bool x.1.2.imm, .bool x.1.2.only]
  have q0 := hz.cell 0
  have ho1 := ho.fr0 hf0
  have hk1 := hk.fr0 hf0
  have hs1 := hsb.fr0 hf0
  have q1 := ho1.cell 0
  have q2 := hk1.cell 0
  have q3 := hs1.cell 0
  have q4 := ho1.frozen 0
  have q5 := hk1.frozen 0
  have hbl := World.block_lt_of_cell? _ _ hc
  have q6 := (hf0.cell (p := ⟨b, off + k, none⟩) hbl (fun x => x)).trans hc
  have hne : ¬ ob = kb := ho.ne_ hk (by decide)
  have hne2 : ¬ ob = sb := ho.ne_ hsb (by decide)
  have hne3 : ¬ ob = b := by omega
  have HO1 := Lib.hid ho1
  have HK1 := Lib.hid hk1
  have HF0 := Lib.hid hf0
  have HST := Lib.hid hst
  obtain ⟨n, hn⟩ : ∃ n, ls.length = n := ⟨_, rfl⟩
  rw [hn] at q3 hkI
  generalize x.1.2.xt = xt at *
  generalize x.1.2.list = xl at *
  generalize x.1.2.imm = xi at *
  generalize x.1.2.only = xo at *
  clear ho hk hsb hs hk' e0 e1 hnm hnb hx hnx hi hob hob' hc hbl hn ho1 hk1 hs1 hf0 hst hz hkl hl
  simp only [List.append_toArray, List.cons_append, List.nil_append]
  cases o with
  | false =>
    have ho' : o' = false := by rw [HST.out]; simp
    subst ho'
    go_enter Try.func16, Try.ntmps16
    go_wp2_with fail
    go_region
    all_goals
      go_wp2_with fail
      go_ret
      have hob := ((HO1.out.set_ 0 (.bool false)).far (p := ⟨kb, 0, none⟩) hne (.int .i64 (k : Int))).drew
      have hkb := ((HK1.out.far (p := ⟨ob, 0, none⟩) (fun e => hne e.symm) (.bool false)).set_ 0 (.int .i64 (k : Int))).drew
      simp only [List.setIfInBounds_toArray, List.set_cons_zero] at hob hkb
      exact ⟨by simp, hob, hkb, ((HF0.out.of0.setCell (p := ⟨ob, 0, none⟩) (.inl (.inl rfl)) (.bool false)).setCell (p := ⟨kb, 0, none⟩) (.inl (.inr rfl)) (.int .i64 (k : Int))).drew⟩
  | true =>
    by_cases hik : i = k
    · obtain rfl : k = i := hik.symm
      by_cases hnn : nx = nm
      · subst hnn
        rw [decide_eq_true rfl] at hse
        have ho' : o' = true := by rw [HST.out]; simp
        subst ho'
        by_cases hk1 : (0 : Int) < (k : Int)
        · go_enter Try.func16, Try.ntmps16
          go_wp2_with fail
          go_region
          all_goals
            go_wp2_with fail
            go_ret
            have hob := ((HO1.out.set_ 0 (.bool true)).far (p := ⟨kb, 0, none⟩) hne (.int .i64 (k : Int))).drew
            have hkb := ((HK1.out.far (p := ⟨ob, 0, none⟩) (fun e => hne e.symm) (.bool true)).set_ 0 (.int .i64 (k : Int))).drew
            simp only [List.setIfInBounds_toArray, List.set_cons_zero] at hob hkb
            exact ⟨by simp, hob, hkb, ((HF0.out.of0.setCell (p := ⟨ob, 0, none⟩) (.inl (.inl rfl)) (.bool true)).setCell (p := ⟨kb, 0, none⟩) (.inl (.inr rfl)) (.int .i64 (k : Int))).drew⟩
        · go_enter Try.func16, Try.ntmps16
          go_wp2_with fail
          go_region
          all_goals
            go_wp2_with fail
            go_ret
            have hob := ((HO1.out.set_ 0 (.bool true)).far (p := ⟨kb, 0, none⟩) hne (.int .i64 (k : Int))).drew
            have hkb := ((HK1.out.far (p := ⟨ob, 0, none⟩) (fun e => hne e.symm) (.bool true)).set_ 0 (.int .i64 (k : Int))).drew
            simp only [List.setIfInBounds_toArray, List.set_cons_zero] at hob hkb
            exact ⟨by simp, hob, hkb, ((HF0.out.of0.setCell (p := ⟨ob, 0, none⟩) (.inl (.inl rfl)) (.bool true)).setCell (p := ⟨kb, 0, none⟩) (.inl (.inr rfl)) (.int .i64 (k : Int))).drew⟩
      · have hq2 : decide (nx = nm) = false := decide_eq_false hnn
        have hse2 : ((strOfNums nx).toList == (strOfNums nm).toList) = false := by
          simp
          exact fun e => hnn (str_inj HNX.out HNM.out (toList_ba e))
        clear hse
        have ho' : o' = false := by rw [HST.out]; simp; exact fun e => hnn e.symm
        subst ho'
        go_enter Try.func16, Try.ntmps16
        go_wp2_with fail
        go_region
        all_goals
          go_wp2_with fail
          go_ret
          have hob := ((HO1.out.set_ 0 (.bool false)).far (p := ⟨kb, 0, none⟩) hne (.int .i64 (k : Int))).drew
          have hkb := ((HK1.out.far (p := ⟨ob, 0, none⟩) (fun e => hne e.symm) (.bool false)).set_ 0 (.int .i64 (k : Int))).drew
          simp only [List.setIfInBounds_toArray, List.set_cons_zero] at hob hkb
          exact ⟨by simp, hob, hkb, ((HF0.out.of0.setCell (p := ⟨ob, 0, none⟩) (.inl (.inl rfl)) (.bool false)).setCell (p := ⟨kb, 0, none⟩) (.inl (.inr rfl)) (.int .i64 (k : Int))).drew⟩
    · have hq : ((i : Int) + 1 == (k : Int) + 1) = false := by simp; omega
      have ho' : o' = false := by rw [HST.out]; simp; intro h; omega
      subst ho'
      go_enter Try.func16, Try.ntmps16
      go_wp2_with fail
      go_region
      all_goals
        go_wp2_with fail
        go_ret
        have hob := ((HO1.out.set_ 0 (.bool false)).far (p := ⟨kb, 0, none⟩) hne (.int .i64 (k : Int))).drew
        have hkb := ((HK1.out.far (p := ⟨ob, 0, none⟩) (fun e => hne e.symm) (.bool false)).set_ 0 (.int .i64 (k : Int))).drew
        simp only [List.setIfInBounds_toArray, List.set_cons_zero] at hob hkb
        exact ⟨by simp, hob, hkb, ((HF0.out.of0.setCell (p := ⟨ob, 0, none⟩) (.inl (.inl rfl)) (.bool false)).setCell (p := ⟨kb, 0, none⟩) (.inl (.inr rfl)) (.int .i64 (k : Int))).drew⟩

/-- A word of list 1. -/
def mkW1 (s : List Int) : Wd := ⟨s, 0, 1, false, false⟩
theorem wrong_mkW1 (s : List Int) (h : 1 ≤ s.length ∧ s.length ≤ 63) : wrongV 1 (mkW1 s) = 0 := by
  unfold wrongV mkW1
  rw [if_neg (by dsimp only; omega), if_pos ⟨Int.le_refl 1, Int.le_refl 1⟩]
theorem sel_all {ws : List Wd} (h : ∀ x ∈ ws, x.list = 1) (hl : ws.length ≤ 1000000) (hb : ∀ x ∈ ws, ∀ y ∈ x.name, 0 ≤ y ∧ y ≤ 255) {k : Nat} (hk : k ≤ ws.length) : sel 1 (upto (bwW ws) k) = upto (bwW ws) k := by
  unfold sel
  rw [List.filter_eq_self]
  intro a ha
  obtain ⟨i, hi, rfl⟩ := List.mem_map.1 ha
  have hik := List.mem_range.1 hi
  have hj : ws.length = i + 1 + (ws.length - 1 - i) := by omega
  have hx := List.getElem?_eq_getElem (show ws.length - 1 - i < ws.length by omega)
  rw [bwW_eq hj hx hl hb]
  exact decide_eq_true (h _ (List.getElem_mem _))
theorem ownOk_all (ls : List (List Int)) (hl : ls.length ≤ 1000000) (hb : ∀ x ∈ ls, ∀ y ∈ x, 0 ≤ y ∧ y ≤ 255) : ∀ k, k ≤ ls.length → ownOk ls (upto (bwW (ls.map mkW1)) k) = true
  | 0, _ => rfl
  | k + 1, hk => by
    rw [upto_succ, ownOk_snoc, ownOk_all ls hl hb k (by omega), upto_length]
    have hj : (ls.map mkW1).length = k + 1 + (ls.length - 1 - k) := by rw [List.length_map]; omega
    have hx0 := List.getElem?_eq_getElem (show ls.length - 1 - k < ls.length by omega)
    have hx : (ls.map mkW1)[ls.length - 1 - k]? = some (mkW1 (ls[ls.length - 1 - k]'(by omega))) := by
      rw [List.getElem?_map, hx0]; rfl
    rw [bwW_eq hj hx (by rw [List.length_map]; exact hl) (fun x hx => by
      obtain ⟨s, hs, rfl⟩ := List.mem_map.1 hx
      exact hb s hs)]
    rw [Bool.true_and]
    exact decide_eq_true ⟨by omega, by rw [hx0]; rfl⟩

set_option maxRecDepth 100000 in
set_option maxHeartbeats 8000000 in
theorem own_walk (sv : Value) (ls : List (List Int)) (w : World) (hs : RowT w w.heap.size sv ls) :
    Calls Try.prog 4 #[sv] w fun e w' => e = .returned (.bool true) ∧ Fr0 w w' := by
  have HAW := Lib.hid (fun W => awake14 W)
  obtain ⟨A, cap, hA, hbyt, _⟩ := id hs
  have hB0 := Blk.new w 22 #[sv]
  have hF0 := (Fr.refl (fun _ => False) w).alloc (.cells #[sv] 22)
  have HNW := Lib.hid (New_nm (w.alloc (.cells #[sv] 22)))
  have HSV := Lib.hid hs
  have HB0 := Lib.hid hB0
  have HF0 := Lib.hid hF0
  have HBYT := Lib.hid hbyt
  subst hA
  have hsz : (w.alloc (.cells #[.slice A ls.length cap] 22)).heap.size = w.heap.size + 1 := by simp
  have HSZ := Lib.hid hsz
  obtain ⟨N, hN⟩ : ∃ N, ls.length = N := ⟨_, rfl⟩
  have HN := Lib.hid hN
  rw [hN] at HSV HB0 HF0 HNW HSZ ⊢
  clear hs hbyt hB0 hF0 hsz hN
  by_cases hg : N ≤ 60
  · go_enter Try.func4, Try.ntmps4
    go_wp2_with (go_at_call 10; refine HNW.out.mono ?_; rintro e w1 ⟨c, m, ov, tv0, rfl, hN0, hf⟩; have HB1 := Lib.hid (HB0.out.fr0 hf); have HN0 := Lib.hid hN0; have HF := Lib.hid (HF0.out.trans hf); clear hN0 hf)
    go_loopw [4] (fun i wr => ∃ (k : Nat) (wv : Value) (tv : Int × ByteArray → Value), k ≤ N ∧ i = .int .i64 k ∧ Nm wr (w.heap.size + 1) c m wv ov 1 1 [1] ((ls.take k).map mkW1) ((ls.take k).map mkW1).length tv ∧ Blk wr w.heap.size 22 #[.slice A N cap] ∧ (∀ s ∈ ls.take k, 1 ≤ s.length ∧ s.length ≤ 63) ∧ Fr0 w wr) (fun i _ => N - (intOf i).toNat)
    case atStart => exact ⟨0, .slice none 0 0, tv0, by omega, rfl, by have := HN0.out; rw [HSZ.out] at this; exact this, HB1.out, (fun s hs => by simp at hs), HF.out⟩
    case round =>
      obtain ⟨k, wv, tv, hk, rfl, hNm, hBs, hlen, hfr⟩ := hrel
      have HNM := Lib.hid hNm
      have HBS := Lib.hid hBs
      have HLEN := Lib.hid hlen
      have HFR := Lib.hid hfr
      have q0 := hBs.cell 0
      clear hNm hBs hlen hfr
      by_cases hkN : k < N
      · have hkI : (k : Int) < (N : Int) := by omega
        obtain ⟨b, off, s, rfl, hb, hls, hsb, hc⟩ := (HSV.out.below HFR.out.below0).at_ (k := k) (by rw [HN.out]; exact hkN)
        have hssz : (strOfNums s).size = s.length := strOfNums_size _
        obtain ⟨n, hn⟩ : ∃ n, s.length = n := ⟨_, rfl⟩
        have HSB := Lib.hid hsb
        have HSN := Lib.hid hn
        have htk : ls.take (k + 1) = ls.take k ++ [s] := by
          have hjl : k < ls.length := by rw [HN.out]; exact hkN
          rw [List.take_succ_eq_append_getElem hjl]
          rw [List.getElem?_eq_getElem hjl] at hls
          injection hls with hls
          rw [hls]
        have HTK := Lib.hid htk
        have htl : ((ls.take k).map mkW1).length = k := by simp; rw [HN.out]; omega
        have HTL := Lib.hid htl
        rw [hn] at hssz
        clear hsb hn hls htk htl
        by_cases hn1 : 1 ≤ n ∧ n ≤ 63
        · obtain ⟨hn2, hn3⟩ := hn1
          have h2I : (1 : Int) ≤ (n : Int) := by omega
          have h3I : (n : Int) ≤ 63 := by omega
          have hA := Add_nm (mkW1 s) ⟨HSB.out, by show s.length ≤ 1000000; rw [HSN.out]; omega⟩ wr HNM.out (wrong_mkW1 s (by rw [HSN.out]; omega)) (by rw [HTL.out]; omega)
          rw [show Wd.val (mkW1 s) = .agg #[.string (strOfNums s), .int .i64 0, .int .i64 1, .bool false, .bool false] from rfl] at hA
          have HA := Lib.hid hA
          clear hA
          go_wp2_with (first | (go_at_call 11; refine HA.out.mono ?_; rintro e w2 ⟨rfl, hf2, wv', tv', hN2⟩; have HB2 := Lib.hid (HBS.out.fr hf2 (fun e => by omega)); have HN2 := Lib.hid hN2; have HF2 := Lib.hid (HFR.out.then hf2 (fun j hj e => by omega)); clear hf2 hN2))
          refine ⟨⟨k + 1, wv', tv', by omega, by push_cast; rfl, ?_, HB2.out, fun x hx => ?_, HF2.out⟩, by simp [intOf]; omega⟩
          · have := HN2.out
            rw [HTK.out, List.map_append, List.length_append]
            exact this
          · rw [HTK.out, List.mem_append] at hx
            rcases hx with h | h
            · exact HLEN.out x h
            · obtain rfl := List.mem_singleton.1 h
              rw [HSN.out]
              exact ⟨hn2, hn3⟩
        · have hcase : n < 1 ∨ (1 ≤ n ∧ 63 < n) := by omega
          clear hn1
          rcases hcase with h | ⟨h1, h2⟩
          all_goals
            go_wp2_with (go_at_call 9; refine (HAW.out _).mono ?_; rintro e wz ⟨rfl, hfz⟩)
            go_ret
            exact ⟨rfl, HFR.out.trans hfz⟩
      · obtain rfl : k = N := by omega
        have hall : ls.take k = ls := by rw [← HN.out, List.take_length]
        have hN1 := HNM.out
        have hlen := HLEN.out
        rw [hall] at hN1 hlen
        have hml : (ls.map mkW1).length = k := by rw [List.length_map, HN.out]
        have HW := Lib.hid (Walk_nm 1 wr hN1)
        have hfn := fun W caps => funcNe W 39 #[] caps
        have HN1 := Lib.hid hN1
        have HLN := Lib.hid hlen
        have HML := Lib.hid hml
        clear hall hN1 hlen hml HNM HLEN
        go_wp2_with (first | (go_at_call 15; refine HW.out.mono ?_; rintro e w2 ⟨lb, tb, u, rfl, hlb, htb, hbl, hbt, hu, hf2⟩; have hA := Add_own (mkW1 [108, 97, 116, 101]) ⟨by decide, by decide⟩ w2 (HN1.out.fr0 hf2) (wrong_mkW1 _ (by decide)) (by rw [HML.out]; omega); rw [show Wd.val (mkW1 [108, 97, 116, 101]) = .agg #[.string ⟨#[108, 97, 116, 101]⟩, .int .i64 0, .int .i64 1, .bool false, .bool false] from rfl] at hA; have HA := Lib.hid hA; have HF2 := Lib.hid hf2; have HLB := Lib.hid hbl; have HTB := Lib.hid hbt; have HU := Lib.hid hu; clear hA hf2 hbl hbt hu) | (go_at_call 11; refine HA.out.mono ?_; rintro e w3 ⟨rfl, wv', tv', hN3, hf3, hn3⟩; have hB3 := (HBS.out.fr0 HF2.out).fr hf3 (fun e => by have := ((HN1.out.fr0 HF2.out).in_lo e).1; omega); have q3 := hB3.cell 0; have HB3 := Lib.hid hB3; have HN3 := Lib.hid hN3; have HF3 := Lib.hid hf3; clear hN3 hf3 hn3 hB3))
        obtain ⟨W4, hW4⟩ : ∃ W4, (w3.alloc (.cells #[.int .i64 k] 3)).alloc (.cells #[.bool true] 4) = W4 := ⟨_, rfl⟩
        rw [hW4]
        have hs4 : W4.heap.size = w3.heap.size + 2 := by rw [← hW4]; simp
        have hF4 : Fr0 w3 W4 := by
          rw [← hW4]
          exact ((Fr.refl _ w3).alloc _).alloc _
        have hKB : Blk W4 w3.heap.size 3 #[.int .i64 k] := by
          rw [← hW4]
          exact (Blk.new w3 _ _).alloc _
        have hOB : Blk W4 (w3.heap.size + 1) 4 #[.bool true] := by
          rw [← hW4]
          have := Blk.new (w3.alloc (.cells #[.int .i64 k] 3)) 4 #[.bool true]
          simpa using this
        clear hW4
        have hni : ∀ q, NmIn c m wv ov (ls.map mkW1) (ls.map mkW1).length tv q → w.heap.size + 1 ≤ q ∧ q < wr.heap.size := fun q hq => HN1.out.in_lo hq
        have hz23 : w2.heap.size ≤ w3.heap.size := HF3.out.size
        have hzr2 : wr.heap.size ≤ w2.heap.size := HF2.out.size
        have hz0r : w.heap.size ≤ wr.heap.size := HFR.out.size
        have hFN : Fr0 w W4 := ((HFR.out.trans HF2.out).then HF3.out (fun q hq e => by have := (hni q e).1; omega)).trans hF4
        have hlb4 := ((HLB.out.fr HF3.out (fun e => by have := (hni _ e).2; omega)).fr0 hF4).cell 0
        have htb4 := ((HTB.out.fr HF3.out (fun e => by have := (hni _ e).2; omega)).fr0 hF4).cell 0
        have htl := HTB.out.lt
        have hu4 := own_fr (own_fr HU.out HF3.out (fun q hq e => by have h1 := (own_lo HU.out q hq).1; have := (hni q e).2; omega)) hF4 (fun _ _ x => x)
        have hul := fun q hq => (own_lo HU.out q hq).2
        have hrow : WdSl (fun b => b = w3.heap.size + 1 ∨ b = w3.heap.size) W4.heap.size W4 u (ls.map mkW1) := wdRow_of_own hu4 (fun q hq => by have := hul q hq; exact ⟨by omega, by omega⟩)
        have hwb : ∀ x ∈ ls.map mkW1, ∀ y ∈ x.name, 0 ≤ y ∧ y ≤ 255 := fun x hx => by
          obtain ⟨s, hs, rfl⟩ := List.mem_map.1 hx
          exact HBYT.out s hs
        have hsv4 : RowT W4 w.heap.size (.slice A k cap) ls := HSV.out.below hFN.below0
        have hB34 := HB3.out.fr0 hF4
        refine (walk1_any 16 #[.pointer (some ⟨w3.heap.size + 1, 0, none⟩), .pointer (some ⟨w3.heap.size, 0, none⟩), .pointer (some ⟨w.heap.size, 0, none⟩)] (fun b => b = w3.heap.size + 1 ∨ b = w3.heap.size)
          (fun pre W => Blk W (w3.heap.size + 1) 4 #[.bool (ownOk ls pre)] ∧ Blk W w3.heap.size 3 #[.int .i64 ((ls.length : Int) - pre.length)] ∧ Blk W w.heap.size 22 #[.slice A k cap] ∧ RowT W w.heap.size (.slice A k cap) ls)
          (fun pre W => Blk W (w3.heap.size + 1) 4 #[.bool (ownOk ls pre)] ∧ Blk W w3.heap.size 3 #[.int .i64 ((ls.length : Int) - pre.length)] ∧ (ownOk ls pre && decide (0 < (ls.length : Int) - pre.length)) = false)
          lb tb u 1 (ls.map mkW1) W4 (fun _ _ => rfl) (by rw [HML.out]; omega) hwb hlb4 htb4 (by omega) hrow (by omega)
          ⟨hOB, by rw [HN.out]; simpa using hKB, hB34, hsv4⟩
          (fun pre W W' ⟨h1, h2, h3, h4⟩ hsz hfr => ⟨h1.fr hfr (by omega), h2.fr hfr (by omega), h3.fr hfr (by omega), h4.below (hfr.below (by omega) (fun q hq => by omega))⟩)
          (fun pre W W' ⟨h1, h2, h3⟩ hsz hfr => ⟨h1.fr hfr (by omega), h2.fr hfr (by omega), h3⟩)
          (fun pre x W hpl hxl ⟨h1, h2, h3, h4⟩ hfr => ?_)).mono ?_
        · refine (own1_any (.slice A k cap) ls (w3.heap.size + 1) w3.heap.size w.heap.size pre x w.heap.size W h4 ⟨by omega, by omega, by omega⟩ h1 h2 h3 (by rw [List.length_map] at hpl; exact hpl) (by rw [HN.out]; exact hg)).mono ?_
          rintro e W' ⟨rfl, k1, k2, k3⟩
          refine ⟨?_, k3⟩
          have h3' := h3.fr k3 (by omega)
          have h4' := h4.below (k3.below (Nat.le_trans hFN.size (by have := hfr.size; omega)) (fun q hq => by omega))
          have hll : (ls.length : Int) - ((pre ++ [x]).length : Nat) = (ls.length : Int) - (pre.length + 1) := by simp
          rw [hll]
          cases hd : (ownOk ls (pre ++ [x]) && decide (0 < (ls.length : Int) - (pre.length + 1))) with
          | true => exact .inl ⟨rfl, k1, k2, h3', h4'⟩
          | false => exact .inr ⟨rfl, k1, k2, rfl⟩
        · rintro e w5 ⟨rfl, hres, hf5⟩
          have hml : (ls.map mkW1).length = ls.length := List.length_map _
          have h1w : ∀ x ∈ ls.map mkW1, x.list = 1 := fun x hx => by
            obtain ⟨s, hs, rfl⟩ := List.mem_map.1 hx
            rfl
          have hfin : Blk w5 (w3.heap.size + 1) 4 #[.bool true] ∧ Blk w5 w3.heap.size 3 #[.int .i64 0] := by
            have hgo : ∀ j, j ≤ ls.length → sel 1 (upto (bwW (ls.map mkW1)) j) = upto (bwW (ls.map mkW1)) j := fun j hj => sel_all h1w (by rw [HML.out]; omega) hwb (by rw [hml]; exact hj)
            have hok := ownOk_all ls (by rw [HN.out]; omega) HBYT.out
            rcases hres with ⟨h1, h2, _, _⟩ | ⟨j, hj, h1, h2, h3⟩
            · rw [hml, hgo _ (Nat.le_refl _)] at h1 h2
              rw [hok _ (Nat.le_refl _)] at h1
              rw [upto_length] at h2
              exact ⟨h1, by simpa using h2⟩
            · rw [hml] at hj
              rw [hgo _ hj] at h1 h2 h3
              rw [hok _ hj] at h1 h3
              rw [upto_length] at h2 h3
              have hjl : j = ls.length := by simp at h3; omega
              subst hjl
              exact ⟨h1, by simpa using h2⟩
          obtain ⟨hO5, hK5⟩ := hfin
          have hN5 := (HN3.out.fr0 hF4).fr hf5 (fun q hq => by have := (HN3.out.in_lo hq).2; omega)
          have hni5 : ∀ q, NmIn c m wv' ov (ls.map mkW1 ++ [mkW1 [108, 97, 116, 101]]) ((ls.map mkW1).length + 1) tv' q → q < w3.heap.size := fun q hq => (HN3.out.in_lo hq).2
          have hF05 : Fr0 w w5 := hFN.then hf5 (fun q hq e => by omega)
          have HOR := Lib.hid (Order_nm w5 hN5 (by decide))
          have k0 := hO5.cell 0
          have k1 := hK5.cell 0
          have hz45 : W4.heap.size ≤ w5.heap.size := hf5.size
          have HN5 := Lib.hid hN5
          have HNI5 := Lib.hid hni5
          have HF05 := Lib.hid hF05
          have HO5 := Lib.hid hO5
          have HK5 := Lib.hid hK5
          clear hres hf5 hml h1w hN5 hni5 hF05 hO5 hK5 hFN hlb4 htb4 hu4 hul hrow hwb hsv4 hB34 hOB hKB hF4 hni
          go_wp2_with (go_at_call 17; refine HOR.out.mono ?_; rintro e w6 ⟨u2, rfl, hu2, hf6⟩; have HU2 := Lib.hid hu2; have HF6 := Lib.hid hf6; obtain ⟨A2, cap2, rfl⟩ := hu2.rd.form; clear hu2 hf6)
          have hg6 : ∃ g cs, A2 = some ⟨g, 0, none⟩ ∧ w5.heap.size ≤ g ∧ Blk w6 g 3 cs ∧ 1 ≤ cs.size := by
            rcases HU2.out.2 with ⟨e, e0⟩ | ⟨g, cap', cur, e, hb, hc, hle, hm, hsz, htk⟩
            · simp at e0
            · injection e with e1 e2 e3
              refine ⟨g, cur, e1, hb, hc, ?_⟩
              have := congrArg List.length htk
              simp at this
              omega
          obtain ⟨g, cs6, rfl, hg5, hB6, hc6⟩ := hg6
          have HB6 := Lib.hid hB6
          clear hB6
          go_loopw [9] (fun i wr => ∃ (j : Nat) (cs : Array Value), j ≤ 1 ∧ i = .int .i64 j ∧ Blk wr g 3 cs ∧ 1 ≤ cs.size ∧ Fr (fun q => q = g) w6 wr) (fun i _ => 1 - (intOf i).toNat)
          case atStart => exact ⟨0, cs6, by omega, rfl, HB6.out, hc6, Fr.refl _ _⟩
          case round =>
            obtain ⟨j, cs, hj, rfl, hB, hcs, hfr⟩ := hrel
            have HB := Lib.hid hB
            have HFJ := Lib.hid hfr
            clear hB hfr
            by_cases hj1 : j < 1
            · obtain rfl : j = 0 := by omega
              obtain ⟨uy, huy⟩ : ∃ uy, cs[0]? = some uy := ⟨_, Array.getElem?_eq_getElem (by omega)⟩
              have c0 := HB.out.cell 0
              have f0 := HB.out.frozen 0
              rw [huy] at c0
              clear huy
              go_wp2_with fail
              refine ⟨⟨1, _, by omega, rfl, HB.out.set_ 0 (.int .i64 99), by simp; omega, HFJ.out.setCell (p := ⟨g, 0, none⟩) (.inl rfl) _⟩, by simp [intOf]⟩
            · obtain rfl : j = 1 := by omega
              have hO := (HO5.out.fr0 HF6.out).fr HFJ.out (by omega)
              have hK := (HK5.out.fr0 HF6.out).fr HFJ.out (by omega)
              have k0' := hO.cell 0
              have k1' := hK.cell 0
              have hNf := (HN5.out.fr0 HF6.out).fr HFJ.out (fun q hq => by have := HNI5.out q hq; omega)
              have HOR2 := Lib.hid (Order_nm _ hNf (by decide))
              have HFF := Lib.hid ((HF05.out.trans HF6.out).then HFJ.out (fun q hq e => by have := HF05.out.size; omega))
              clear hO hK hNf
              go_wp2_with (first | (go_at_call 17; refine HOR2.out.mono ?_; rintro e w7 ⟨u3, rfl, hu3, hf7⟩; have HU3 := Lib.hid hu3; have HF7 := Lib.hid (HFF.out.trans hf7); clear hu3 hf7) | (go_at_call 18; refine (ints_same _ _ [1] _ ((HU3.out.fr ((Fr.refl (fun _ => False) w7).alloc (.cells #[.int .i64 1] 3)) (fun _ _ x => x)).rd) (Rd.new w7 #[.int .i64 1] rfl 1) (by decide)).mono ?_; rintro e w8 ⟨rfl, hf8⟩; have HF8 := Lib.hid ((HF7.out.alloc (.cells #[.int .i64 1] 3)).trans hf8); clear hf8) | (go_at_call 9; refine (HAW.out _).mono ?_; rintro e wz ⟨rfl, hfz⟩))
              go_ret
              exact ⟨rfl, HF8.out.trans hfz⟩
  · go_enter Try.func4, Try.ntmps4
    have hg' : 60 < N := by omega
    go_wp2_with (go_at_call 9; refine (HAW.out _).mono ?_; rintro e w1 ⟨rfl, hf1⟩)
    go_ret
    exact ⟨rfl, HF0.out.trans hf1⟩
end Go.Proofs.Ytmhjnbolngdijaa
