/- Names: lay and hide, anywhere. -/
import Derived.Test.YtmhjnbolngdijaaNg
namespace Go.Proofs.Ytmhjnbolngdijaa
open Go Go.RowKit
set_option linter.unusedVariables false
attribute [local go_sem] Oper.semAt_some

section
variable {w w' : World} {B c m : Nat} {wv ov : Value} {lists cur : Int} {order : List Int} {ws : List Wd} {P : Nat → Bool} {mf : Int × ByteArray → Option Value}
theorem found_at {ts : List Int} {t : Int} {a : Nat} (htr : ∀ (i j : Nat) (x y : Int), i < j → ts[i]? = some x → ts[j]? = some y → x < y) (hm : t ∈ ts) (h1 : ∀ (i : Nat) (x : Int), i < a → ts[i]? = some x → x < t) (h2 : ∀ (i : Nat) (x : Int), a ≤ i → ts[i]? = some x → t ≤ x) : ts[a]? = some t := by
  obtain ⟨j, hj⟩ := List.getElem?_of_mem hm
  rcases Nat.lt_trichotomy j a with h | rfl | h
  · have := h1 j t h hj; omega
  · exact hj
  · have hjl := (List.getElem?_eq_some_iff.1 hj).1
    have ha := List.getElem?_eq_getElem (show a < ts.length by omega)
    have e1 := htr a j _ _ h ha hj
    have e2 := h2 a _ (Nat.le_refl _) ha
    omega
set_option maxRecDepth 100000 in
set_option maxHeartbeats 8000000 in
theorem lay_ng (q : Nat) (x : Wd) (w : World) (h : Ng w B c m wv ov lists cur order ws P mf) (hx : ws[q]? = some x) (hP : P q = false) :
    Calls Try.prog 35 #[.pointer (some ⟨c, 0, none⟩), .int .i64 ((q : Int) + 1)] w fun e w' => e = .returned (.tuple #[]) ∧ ∃ mf', Ng w' B c m wv ov lists cur order ws (withP P q) mf' ∧ Turn (NgIn c m wv ov mf) (NgIn c m wv ov mf') w w' := by
  have hq := (List.getElem?_eq_some_iff.1 hx).1
  obtain ⟨hxb, hxl⟩ := h.byt x (List.mem_of_getElem? hx)
  have HPL := Lib.hid (fun V => place_any x.list x.name hxb (by omega) V)
  obtain ⟨b, cap, rfl, _, d0, d1, d2, d3, d4⟩ := words_cells h.words hx
  obtain ⟨c0, c1, c2, c3, c4⟩ := h.cells
  have hfew := h.few
  have HH := Lib.hid h
  have HX := Lib.hid hx
  have HP := Lib.hid hP
  obtain ⟨n, hn⟩ : ∃ n, ws.length = n := ⟨_, rfl⟩
  have HN := Lib.hid hn
  rw [hn] at c0 hq hfew
  have hqI : (q : Int) < (n : Int) := by omega
  have x1 : IntKind.i64.wrap ((q : Int) + 1 - 1) = (q : Int) := by rw [IntWalk.i64_in _ (by omega)]; omega
  clear h hx hn hP
  go_enter Try.func35, Try.ntmps35
  go_wp2_with (go_at_call 37; refine (HPL.out _).mono ?_; rintro e w1 ⟨rfl, hf1⟩; have HF1 := Lib.hid (((Fr.refl (fun _ => False) w).alloc _).trans hf1); clear hf1)
  have hz := Blk.new w1 84 #[.int .i64 x.list, .string (strOfNums (lowL x.name))]
  have hF2 : Fr0 w (w1.alloc (.cells #[.int .i64 x.list, .string (strOfNums (lowL x.name))] 84)) := HF1.out.alloc _
  have hzl : w.heap.size ≤ w1.heap.size := HF1.out.size
  generalize (w1.alloc (.cells #[.int .i64 x.list, .string (strOfNums (lowL x.name))] 84)) = W2 at *
  generalize w1.heap.size = z at *
  have HM2 := Lib.hid (HH.out.fr0 hF2)
  have HZ := Lib.hid hz
  have HF2 := Lib.hid hF2
  obtain ⟨ts, hts⟩ : ∃ ts, toksP ws P x.key = ts := ⟨_, rfl⟩
  obtain ⟨vk, hvk⟩ : ∃ vk, mfOf mf x.key = vk := ⟨_, rfl⟩
  have hown := HM2.out.mf_own x.key
  rw [hts, hvk] at hown
  have HOWN := Lib.hid hown
  have hlk1 := (HM2.out.fr0 ((Fr.refl _ W2).drew)).look x.key
  rw [hvk] at hlk1
  unfold Wd.key at hlk1
  have htl := toksP_len ws P x.key
  have htr := pair_rise (toksP_pair ws P x.key)
  rw [hts] at htl htr
  rw [HN.out] at htl
  obtain ⟨tl, htle⟩ : ∃ tl, ts.length = tl := ⟨_, rfl⟩
  have HBS := Lib.hid (fun V (hV : Fr0 W2 V) => Bin_any vk ts ((q : Int) + 1) V ((HOWN.out.fr hV (fun _ _ x => x)).rd) (by omega) htr)
  have HTQ := Lib.hid (show ts.length ≤ 5000 by omega)
  have k4 : W2.cell? ⟨c, 4, none⟩ = some (.map (some m)) := HM2.out.cells.2.2.2.2
  have z0 : W2.cell? ⟨z, 0, none⟩ = some (.int .i64 x.list) := HZ.out.cell 0
  have z1 : W2.cell? ⟨z, 1, none⟩ = some (.string (strOfNums (lowL x.name))) := HZ.out.cell 1
  have HTS := Lib.hid hts
  have HVK := Lib.hid hvk
  have HTL := Lib.hid htle
  clear hz hF2 hts hvk hown htl htr htle c0 c1 c2 c3 c4 d0 d1 d2 d3 d4
  go_region_held3 (fun V => V.cell? ⟨c, 4, none⟩ = some (.map (some m)) ∧ V.cell? ⟨z, 0, none⟩ = some (.int .i64 x.list) ∧ V.cell? ⟨z, 1, none⟩ = some (.string (strOfNums (lowL x.name)))) (exact ⟨k4, z0, z1⟩) ((go_at_call 60; (with_reducible refine (HBS.out _ (Fr.refl _ _).drew).mono ?_); rintro e w3 ⟨⟨a, rfl, ha, hb1, hb2⟩, rfl⟩; have HA := Lib.hid ha; have HB1 := Lib.hid hb1; have HB2 := Lib.hid hb2; clear ha hb1 hb2; obtain ⟨fb, hfb⟩ : ∃ fb, decide (ts[a]? = some ((q : Int) + 1)) = fb := ⟨_, rfl⟩; rw [hfb]; have HFB := Lib.hid hfb; clear hfb))
  go_wp2_with fail
  have hf3 : Fr0 W2 (W2.drew.drew) := ((Fr.refl _ W2).drew).drew
  have hf4 : Fr0 W2 ((W2.alloc (.cells #[.int .i64 ((q : Int) + 1)] 3)).drew.drew) := (((Fr.refl _ W2).alloc _).drew).drew
  have hlk2 := (HM2.out.fr0 hf3).look x.key
  have hlk3 := (HM2.out.fr0 hf4).look x.key
  rw [HVK.out] at hlk2 hlk3
  unfold Wd.key at hlk2 hlk3
  have hcn : Blk ((W2.alloc (.cells #[.int .i64 ((q : Int) + 1)] 3)).drew.drew) W2.heap.size 3 #[.int .i64 ((q : Int) + 1)] := Blk.new W2 3 #[.int .i64 ((q : Int) + 1)]
  have hins := Insert_mid vk ts ((q : Int) + 1) a W2.heap.size B _ (HOWN.out.fr hf4 (fun _ _ x => x)) hcn (fun e => by have := (own_lo HOWN.out _ e).2; omega) (Nat.le_trans HM2.out.lo.2.2 hf4.size) (by have := HTQ.out; omega) HA.out
  have HINS := Lib.hid hins
  have a4 := (hf4.cell (p := ⟨c, 4, none⟩) HM2.out.obj.blk.lt (fun x => x)).trans k4
  have a0 := (hf4.cell (p := ⟨z, 0, none⟩) HZ.out.lt (fun x => x)).trans z0
  have a1 := (hf4.cell (p := ⟨z, 1, none⟩) HZ.out.lt (fun x => x)).trans z1
  have HM4 := Lib.hid (HM2.out.fr0 hf4)
  have HZ4 := Lib.hid (HZ.out.fr0 hf4)
  have HF4 := Lib.hid (HF2.out.trans hf4)
  have hfq := hf4
  clear hf3 hf4 hcn hins hlk1
  go_region_held3 (fun V => V.cell? ⟨c, 4, none⟩ = some (.map (some m)) ∧ V.cell? ⟨z, 0, none⟩ = some (.int .i64 x.list) ∧ V.cell? ⟨z, 1, none⟩ = some (.string (strOfNums (lowL x.name)))) (first | exact ⟨k4, z0, z1⟩ | exact ⟨a4, a0, a1⟩ | exact ⟨e4, e0, e1⟩ | exact ⟨f4, f0, f1⟩) ((go_at_call 61; (with_reducible refine HINS.out.mono ?_); rintro e w4 ⟨v', rfl, ho4, hg4, hk4⟩; have hF4 := (Fr.refl (fun k => vk.ownBlock = some k) _).grown hg4 (fun k hk => .inl hk); have hoq := HOWN.out.fr hfq (fun _ _ x => x); have hnc := blk_int_own hoq HM4.out.obj.blk (by decide); have hnz := blk_int_own hoq HZ4.out (by decide); have hnm := map_int_own hoq HM4.out.map; have e4 := (hF4.cell (p := ⟨c, 4, none⟩) HM4.out.obj.blk.lt hnc).trans a4; have e0 := (hF4.cell (p := ⟨z, 0, none⟩) HZ4.out.lt hnz).trans a0; have e1 := (hF4.cell (p := ⟨z, 1, none⟩) HZ4.out.lt hnz).trans a1; have hM4 := HM4.out.map.fr hF4 hnm; obtain ⟨w5, hup, hf5, hs5, hm5⟩ := run_updateK (P := Try.prog) keysN Try.underlying77 hM4 x.key v'; rw [show encN x.key = .agg #[.int .i64 x.list, .string (strOfNums (lowL x.name))] from rfl] at hup; have hob4 := HM4.out.obj.blk.fr hF4 hnc; have hzb4 := HZ4.out.fr hF4 hnz; have f4 := (hf5.cell (p := ⟨c, 4, none⟩) hob4.lt (fun e => HM4.out.ne_mc e.symm)).trans e4; have f0 := (hf5.cell (p := ⟨z, 0, none⟩) hzb4.lt (fun e => hM4.ne_ hzb4 e.symm)).trans e0; have f1 := (hf5.cell (p := ⟨z, 1, none⟩) hzb4.lt (fun e => hM4.ne_ hzb4 e.symm)).trans e1; have HO5 := Lib.hid (ho4.fr hf5 (fun k hk e => map_int_own ho4 hM4 (e ▸ hk))); have HF5 := Lib.hid ((hF4.mono (S' := fun k => k = m ∨ vk.ownBlock = some k) (fun _ _ h => .inr h)).trans (hf5.mono (fun _ _ h => .inl h))); have HM5 := Lib.hid hm5; have HK5 := Lib.hid hk4; clear hF4 hoq hnc hnz hnm hM4 hf5 hs5 hm5 hob4 hzb4 ho4 hg4 hk4))
  all_goals
    go_wp2_with fail
    go_end0
    have hv := HO5.out
    have hws := with_same HX.out HP.out (a := a) (by rw [HTS.out]; exact HA.out) (by rw [HTS.out]; exact HB1.out) (by rw [HTS.out]; exact HB2.out)
    rw [HTS.out] at hws
    rw [← hws] at hv
    have hf := HF5.out
    rw [← HVK.out] at hf
    have hkk := HK5.out.imp id (fun h => (⟨_, h, Nat.le_refl _⟩ : ∃ g, _ = some g ∧ _ ≤ g))
    rw [← HVK.out] at hkk
    refine ⟨rfl, _, HM4.out.upd (fun k hk => with_other HX.out hk) hv hf HM5.out hkk, (Fr.of0 HF4.out).then HF5.out (fun k hk e => ?_), fun k hk => ?_⟩
    · rcases e with rfl | e
      · exact .inr (.inl rfl)
      · rw [← HVK.out] at e
        exact mfOf_in e
    · refine HM4.out.upd_in ?_ hk
      rcases hkk with h | ⟨g, h, hg⟩
      · exact .inl h
      · exact .inr ⟨g, h, Nat.le_trans HF4.out.size hg⟩
set_option maxRecDepth 100000 in
set_option maxHeartbeats 8000000 in
theorem hide_ng (q : Nat) (x : Wd) (w : World) (h : Ng w B c m wv ov lists cur order ws P mf) (hx : ws[q]? = some x) (hP : P q = true) :
    Calls Try.prog 65 #[.pointer (some ⟨c, 0, none⟩), .int .i64 ((q : Int) + 1)] w fun e w' => e = .returned (.tuple #[]) ∧ ∃ mf', Ng w' B c m wv ov lists cur order ws (lessP P q) mf' ∧ Turn (NgIn c m wv ov mf) (NgIn c m wv ov mf') w w' := by
  have hq := (List.getElem?_eq_some_iff.1 hx).1
  obtain ⟨hxb, hxl⟩ := h.byt x (List.mem_of_getElem? hx)
  have HPL := Lib.hid (fun V => place_any x.list x.name hxb (by omega) V)
  obtain ⟨b, cap, rfl, _, d0, d1, d2, d3, d4⟩ := words_cells h.words hx
  obtain ⟨c0, c1, c2, c3, c4⟩ := h.cells
  have hfew := h.few
  have HH := Lib.hid h
  have HX := Lib.hid hx
  have HP := Lib.hid hP
  obtain ⟨n, hn⟩ : ∃ n, ws.length = n := ⟨_, rfl⟩
  have HN := Lib.hid hn
  rw [hn] at c0 hq hfew
  have hqI : (q : Int) < (n : Int) := by omega
  have x1 : IntKind.i64.wrap ((q : Int) + 1 - 1) = (q : Int) := by rw [IntWalk.i64_in _ (by omega)]; omega
  clear h hx hn hP
  go_enter Try.func65, Try.ntmps65
  go_wp2_with (go_at_call 37; refine (HPL.out _).mono ?_; rintro e w1 ⟨rfl, hf1⟩; have HF1 := Lib.hid (((Fr.refl (fun _ => False) w).alloc _).trans hf1); clear hf1)
  have hz := Blk.new w1 84 #[.int .i64 x.list, .string (strOfNums (lowL x.name))]
  have hF2 : Fr0 w (w1.alloc (.cells #[.int .i64 x.list, .string (strOfNums (lowL x.name))] 84)) := HF1.out.alloc _
  have hzl : w.heap.size ≤ w1.heap.size := HF1.out.size
  generalize (w1.alloc (.cells #[.int .i64 x.list, .string (strOfNums (lowL x.name))] 84)) = W2 at *
  generalize w1.heap.size = z at *
  have HM2 := Lib.hid (HH.out.fr0 hF2)
  have HZ := Lib.hid hz
  have HF2 := Lib.hid hF2
  obtain ⟨ts, hts⟩ : ∃ ts, toksP ws P x.key = ts := ⟨_, rfl⟩
  obtain ⟨vk, hvk⟩ : ∃ vk, mfOf mf x.key = vk := ⟨_, rfl⟩
  have hown := HM2.out.mf_own x.key
  rw [hts, hvk] at hown
  have HOWN := Lib.hid hown
  have hlk1 := (HM2.out.fr0 ((Fr.refl _ W2).drew)).look x.key
  rw [hvk] at hlk1
  unfold Wd.key at hlk1
  have htl := toksP_len ws P x.key
  have htr := pair_rise (toksP_pair ws P x.key)
  rw [hts] at htl htr
  rw [HN.out] at htl
  obtain ⟨tl, htle⟩ : ∃ tl, ts.length = tl := ⟨_, rfl⟩
  have HBS := Lib.hid (fun V (hV : Fr0 W2 V) => Bin_any vk ts ((q : Int) + 1) V ((HOWN.out.fr hV (fun _ _ x => x)).rd) (by omega) htr)
  have HTQ := Lib.hid (show ts.length ≤ 5000 by omega)
  have k4 : W2.cell? ⟨c, 4, none⟩ = some (.map (some m)) := HM2.out.cells.2.2.2.2
  have z0 : W2.cell? ⟨z, 0, none⟩ = some (.int .i64 x.list) := HZ.out.cell 0
  have z1 : W2.cell? ⟨z, 1, none⟩ = some (.string (strOfNums (lowL x.name))) := HZ.out.cell 1
  have HTS := Lib.hid hts
  have HVK := Lib.hid hvk
  have HTL := Lib.hid htle
  have hmem := in_toks HX.out HP.out
  rw [hts] at hmem
  have HMEM := Lib.hid hmem
  have HTR := Lib.hid htr
  clear hmem hz hF2 hts hvk hown htl htr htle c0 c1 c2 c3 c4 d0 d1 d2 d3 d4
  go_region_held3 (fun V => V.cell? ⟨c, 4, none⟩ = some (.map (some m)) ∧ V.cell? ⟨z, 0, none⟩ = some (.int .i64 x.list) ∧ V.cell? ⟨z, 1, none⟩ = some (.string (strOfNums (lowL x.name)))) (exact ⟨k4, z0, z1⟩) ((go_at_call 60; (with_reducible refine (HBS.out _ (Fr.refl _ _).drew).mono ?_); rintro e w3 ⟨⟨a, rfl, ha, hb1, hb2⟩, rfl⟩; have HA := Lib.hid ha; have HB1 := Lib.hid hb1; have HB2 := Lib.hid hb2; clear ha hb1 hb2; have hfd := found_at HTR.out HMEM.out HB1.out HB2.out; rw [decide_eq_true hfd]; have HFD := Lib.hid hfd; clear hfd))
  go_wp2_with fail
  have x2 : IntKind.i64.wrap ((a : Int) + 1) = (a : Int) + 1 := IntWalk.i64_in _ (by have := HA.out; have := HTQ.out; omega)
  have hf3 : Fr0 W2 (W2.drew.drew) := ((Fr.refl _ W2).drew).drew
  have hlk2 := (HM2.out.fr0 hf3).look x.key
  rw [HVK.out] at hlk2
  unfold Wd.key at hlk2
  have hdel := Delete_one vk ts a B _ (HOWN.out.fr hf3 (fun _ _ x => x)) (by have := HTQ.out; omega) (List.getElem?_eq_some_iff.1 HFD.out).1
  have HDEL := Lib.hid hdel
  have a4 := (hf3.cell (p := ⟨c, 4, none⟩) HM2.out.obj.blk.lt (fun x => x)).trans k4
  have a0 := (hf3.cell (p := ⟨z, 0, none⟩) HZ.out.lt (fun x => x)).trans z0
  have a1 := (hf3.cell (p := ⟨z, 1, none⟩) HZ.out.lt (fun x => x)).trans z1
  have HM4 := Lib.hid (HM2.out.fr0 hf3)
  have HZ4 := Lib.hid (HZ.out.fr0 hf3)
  have HF4 := Lib.hid (HF2.out.trans hf3)
  have hfq := hf3
  clear hf3 hdel hlk1
  go_region_held3 (fun V => V.cell? ⟨c, 4, none⟩ = some (.map (some m)) ∧ V.cell? ⟨z, 0, none⟩ = some (.int .i64 x.list) ∧ V.cell? ⟨z, 1, none⟩ = some (.string (strOfNums (lowL x.name)))) (first | exact ⟨k4, z0, z1⟩ | exact ⟨a4, a0, a1⟩ | exact ⟨e4, e0, e1⟩ | exact ⟨f4, f0, f1⟩) ((go_at_call 72; (with_reducible refine HDEL.out.mono ?_); rintro e w4 ⟨v', rfl, ho4, hF4, hk4⟩; have hoq := HOWN.out.fr hfq (fun _ _ x => x); have hnc := blk_int_own hoq HM4.out.obj.blk (by decide); have hnz := blk_int_own hoq HZ4.out (by decide); have hnm := map_int_own hoq HM4.out.map; have e4 := (hF4.cell (p := ⟨c, 4, none⟩) HM4.out.obj.blk.lt hnc).trans a4; have e0 := (hF4.cell (p := ⟨z, 0, none⟩) HZ4.out.lt hnz).trans a0; have e1 := (hF4.cell (p := ⟨z, 1, none⟩) HZ4.out.lt hnz).trans a1; have hM4 := HM4.out.map.fr hF4 hnm; obtain ⟨w5, hup, hf5, hs5, hm5⟩ := run_updateK (P := Try.prog) keysN Try.underlying77 hM4 x.key v'; rw [show encN x.key = .agg #[.int .i64 x.list, .string (strOfNums (lowL x.name))] from rfl] at hup; have hob4 := HM4.out.obj.blk.fr hF4 hnc; have hzb4 := HZ4.out.fr hF4 hnz; have f4 := (hf5.cell (p := ⟨c, 4, none⟩) hob4.lt (fun e => HM4.out.ne_mc e.symm)).trans e4; have f0 := (hf5.cell (p := ⟨z, 0, none⟩) hzb4.lt (fun e => hM4.ne_ hzb4 e.symm)).trans e0; have f1 := (hf5.cell (p := ⟨z, 1, none⟩) hzb4.lt (fun e => hM4.ne_ hzb4 e.symm)).trans e1; have HO5 := Lib.hid (ho4.fr hf5 (fun k hk e => map_int_own ho4 hM4 (e ▸ hk))); have HF5 := Lib.hid ((hF4.mono (S' := fun k => k = m ∨ vk.ownBlock = some k) (fun _ _ h => .inr h)).trans (hf5.mono (fun _ _ h => .inl h))); have HM5 := Lib.hid hm5; have HK5 := Lib.hid hk4; clear hoq hnc hnz hnm hM4 hf5 hs5 hm5 hob4 hzb4 ho4 hF4 hk4))
  all_goals
    go_wp2_with fail
    go_end0
    have hv := HO5.out
    have hws := less_same HX.out (a := a) (by rw [HTS.out]; exact HFD.out)
    rw [HTS.out] at hws
    rw [← hws] at hv
    have hf := HF5.out
    rw [← HVK.out] at hf
    have hkk := HK5.out
    rw [← HVK.out] at hkk
    refine ⟨rfl, _, HM4.out.upd (fun k hk => less_other HX.out hk) hv hf HM5.out (.inl hkk), (Fr.of0 HF4.out).then HF5.out (fun k hk e => ?_), fun k hk => ?_⟩
    · rcases e with rfl | e
      · exact .inr (.inl rfl)
      · rw [← HVK.out] at e
        exact mfOf_in e
    · exact HM4.out.upd_in (.inl hkk) hk
end
end Go.Proofs.Ytmhjnbolngdijaa
