/- Names: what lay and Add may turn, told block by block. -/
import Derived.Test.YtmhjnbolngdijaaNadd2
namespace Go.Proofs.Ytmhjnbolngdijaa
open Go Go.RowKit
set_option linter.unusedVariables false
attribute [local go_sem] Oper.semAt_some

/-- The blocks of names. -/
def NmIn (c m : Nat) (wv ov : Value) (ws : List Wd) (q : Nat) (tv : Int × ByteArray → Value) (k : Nat) : Prop := k = c ∨ k = m ∨ wv.ownBlock = some k ∨ ov.ownBlock = some k ∨ ∃ key, toksOf (ws.take q) key ≠ [] ∧ (tv key).ownBlock = some k

section
variable {w w' : World} {B c m q : Nat} {wv ov : Value} {lists cur : Int} {order : List Int} {ws : List Wd} {tv : Int × ByteArray → Value}
theorem Nm.in_lo (h : Nm w B c m wv ov lists cur order ws q tv) {k : Nat} (hk : NmIn c m wv ov ws q tv k) : B ≤ k ∧ k < w.heap.size := by
  rcases hk with rfl | rfl | hk | hk | ⟨key, h1, hk⟩
  · exact ⟨h.lo.1, h.obj.lt⟩
  · exact ⟨h.lo.2.1, h.map.lt⟩
  · exact own_lo h.words k hk
  · exact own_lo h.ord k hk
  · exact own_lo (h.rows key h1) k hk
/-- Nothing of its blocks turned. -/
theorem Nm.fr {S : Nat → Prop} (h : Nm w B c m wv ov lists cur order ws q tv) (hf : Fr S w w') (hS : ∀ k, NmIn c m wv ov ws q tv k → ¬ S k) : Nm w' B c m wv ov lists cur order ws q tv :=
  ⟨h.obj.fr hf (hS _ (.inl rfl)), own_fr h.words hf (fun k hk => hS k (.inr (.inr (.inl hk)))), h.map.fr hf (hS _ (.inr (.inl rfl))), fun key hk => (h.rows key hk).fr hf (fun b hb => hS b (.inr (.inr (.inr (.inr ⟨key, hk, hb⟩))))), h.apart, h.ord.fr hf (fun b hb => hS b (.inr (.inr (.inr (.inl hb))))), h.ordA, ⟨h.lo.1, h.lo.2.1, Nat.le_trans h.lo.2.2 hf.size⟩, h.few, h.byt⟩
theorem in_tvOf {key : Int × ByteArray} {k : Nat} (e : (tvOf ws q tv key).ownBlock = some k) : NmIn c m wv ov ws q tv k := by
  unfold tvOf at e
  by_cases h : toksOf (ws.take q) key = []
  · rw [if_pos h] at e; cases e
  · rw [if_neg h] at e
    exact .inr (.inr (.inr (.inr ⟨key, h, e⟩)))
theorem in_laid {x : Wd} {v' : Value} {n : Nat} (hx : ws[q]? = some x) (hv : v'.ownBlock = (tvOf ws q tv x.key).ownBlock ∨ ∃ g, v'.ownBlock = some g ∧ n ≤ g) {k : Nat} (hk : NmIn c m wv ov ws (q + 1) (fun k => if k = x.key then v' else tv k) k) : NmIn c m wv ov ws q tv k ∨ n ≤ k := by
  rcases hk with h | h | h | h | ⟨key, h, h2⟩
  · exact .inl (.inl h)
  · exact .inl (.inr (.inl h))
  · exact .inl (.inr (.inr (.inl h)))
  · exact .inl (.inr (.inr (.inr (.inl h))))
  · dsimp only at h2
    by_cases he : key = x.key
    · rw [if_pos he] at h2
      rcases hv with hv | ⟨g, hv, hg⟩
      · rw [hv] at h2
        exact .inl (in_tvOf h2)
      · rw [hv] at h2
        injection h2 with h2
        exact .inr (h2 ▸ hg)
    · rw [if_neg he] at h2
      refine .inl (.inr (.inr (.inr (.inr ⟨key, ?_, h2⟩))))
      rw [toks_step hx, if_neg (fun e => he e.symm), List.append_nil] at h
      exact h
set_option maxRecDepth 100000 in
set_option maxHeartbeats 8000000 in
theorem lay_own (w : World) (h : Nm w B c m wv ov lists cur order ws q tv) (hq : q < ws.length) :
    Calls Try.prog 35 #[.pointer (some ⟨c, 0, none⟩), .int .i64 ((q : Int) + 1)] w fun e w' => e = .returned (.tuple #[]) ∧ ∃ tv', Nm w' B c m wv ov lists cur order ws (q + 1) tv' ∧ Fr (NmIn c m wv ov ws q tv) w w' ∧ ∀ k, NmIn c m wv ov ws (q + 1) tv' k → NmIn c m wv ov ws q tv k ∨ w.heap.size ≤ k := by
  obtain ⟨x, hx⟩ : ∃ x, ws[q]? = some x := ⟨_, List.getElem?_eq_getElem hq⟩
  obtain ⟨hxb, hxl⟩ := h.byt x (List.mem_of_getElem? hx)
  have HPL := Lib.hid (fun V => place_any x.list x.name hxb (by omega) V)
  obtain ⟨b, cap, rfl, d0, d1, d2, d3, d4⟩ := h.word hx
  obtain ⟨c0, c1, c2, c3, c4⟩ := h.cells
  have hfew := h.few
  have HH := Lib.hid h
  have HX := Lib.hid hx
  obtain ⟨n, hn⟩ : ∃ n, ws.length = n := ⟨_, rfl⟩
  have HN := Lib.hid hn
  rw [hn] at c0 hq hfew
  have hqI : (q : Int) < (n : Int) := by omega
  have x1 : IntKind.i64.wrap ((q : Int) + 1 - 1) = (q : Int) := by rw [IntWalk.i64_in _ (by omega)]; omega
  clear h hx hn
  go_enter Try.func35, Try.ntmps35
  go_wp2_with (go_at_call 37; refine (HPL.out _).mono ?_; rintro e w1 ⟨rfl, hf1⟩; have HF1 := Lib.hid (((Fr.refl (fun _ => False) w).alloc _).trans hf1); clear hf1)
  have hz := Blk.new w1 84 #[.int .i64 x.list, .string (strOfNums (lowL x.name))]
  have hF2 : Fr0 w (w1.alloc (.cells #[.int .i64 x.list, .string (strOfNums (lowL x.name))] 84)) := HF1.out.alloc _
  have hzl : w.heap.size ≤ w1.heap.size := HF1.out.size
  generalize (w1.alloc (.cells #[.int .i64 x.list, .string (strOfNums (lowL x.name))] 84)) = W2 at *
  generalize w1.heap.size = z at *
  have HM2 := Lib.hid (HH.out.fr0 hF2)
  have HZ := Lib.hid hz
  have HF2 := Lib.hid hF2
  obtain ⟨ts, hts⟩ : ∃ ts, toksOf (ws.take q) x.key = ts := ⟨_, rfl⟩
  obtain ⟨vk, hvk⟩ : ∃ vk, tvOf ws q tv x.key = vk := ⟨_, rfl⟩
  have hown := HM2.out.tvOf_own x.key
  rw [hts, hvk] at hown
  have HOWN := Lib.hid hown
  have hlk1 := (HM2.out.fr0 ((Fr.refl _ W2).drew)).look x.key
  rw [hvk] at hlk1
  unfold Wd.key at hlk1
  have htl := toksOf_len (ws.take q) x.key
  have htr := toksOf_rise (ws.take q) x.key
  have htm := fun t ht => (toksOf_mem (ws := ws.take q) (k := x.key) (t := t) ht).2
  have htk : (ws.take q).length = q := by rw [List.length_take, HN.out]; omega
  rw [hts] at htl htr htm
  rw [htk] at htl htm
  obtain ⟨tl, htle⟩ : ∃ tl, ts.length = tl := ⟨_, rfl⟩
  have HBS := Lib.hid (fun V (hV : Fr0 W2 V) => Bin_end vk ts ((q : Int) + 1) V ((HOWN.out.fr hV (fun _ _ x => x)).rd) (by omega) htr (fun x hx => by have := htm x hx; omega))
  rw [htle] at HBS
  have HTQ := Lib.hid (show ts.length ≤ 5000 by omega)
  have k4 : W2.cell? ⟨c, 4, none⟩ = some (.map (some m)) := HM2.out.cells.2.2.2.2
  have z0 : W2.cell? ⟨z, 0, none⟩ = some (.int .i64 x.list) := HZ.out.cell 0
  have z1 : W2.cell? ⟨z, 1, none⟩ = some (.string (strOfNums (lowL x.name))) := HZ.out.cell 1
  have HTS := Lib.hid hts
  have HVK := Lib.hid hvk
  have HTL := Lib.hid htle
  clear hz hF2 hts hvk hown htl htr htm htk htle c0 c1 c2 c3 c4 d0 d1 d2 d3 d4
  go_region_held3 (fun V => V.cell? ⟨c, 4, none⟩ = some (.map (some m)) ∧ V.cell? ⟨z, 0, none⟩ = some (.int .i64 x.list) ∧ V.cell? ⟨z, 1, none⟩ = some (.string (strOfNums (lowL x.name)))) (exact ⟨k4, z0, z1⟩) ((go_at_call 60; (with_reducible refine (HBS.out _ (Fr.refl _ _).drew).mono ?_); rintro e w3 ⟨rfl, rfl⟩))
  go_wp2_with fail
  have hf3 : Fr0 W2 (W2.drew.drew) := ((Fr.refl _ W2).drew).drew
  have hf4 : Fr0 W2 ((W2.alloc (.cells #[.int .i64 ((q : Int) + 1)] 3)).drew.drew) := (((Fr.refl _ W2).alloc _).drew).drew
  have hlk2 := (HM2.out.fr0 hf3).look x.key
  have hlk3 := (HM2.out.fr0 hf4).look x.key
  rw [HVK.out] at hlk2 hlk3
  unfold Wd.key at hlk2 hlk3
  have hcn : ((W2.alloc (.cells #[.int .i64 ((q : Int) + 1)] 3)).drew.drew).cell? ⟨W2.heap.size, 0, none⟩ = some (.int .i64 ((q : Int) + 1)) := (Blk.new W2 3 #[.int .i64 ((q : Int) + 1)]).cell 0
  have hins := Insert_end vk ts ((q : Int) + 1) W2.heap.size B _ (HOWN.out.fr hf4 (fun _ _ x => x)) hcn (Nat.le_trans HM2.out.lo.2.2 hf4.size) (by have := HTQ.out; omega)
  rw [HTL.out] at hins
  have HINS := Lib.hid hins
  have a4 := (hf4.cell (p := ⟨c, 4, none⟩) HM2.out.obj.lt (fun x => x)).trans k4
  have a0 := (hf4.cell (p := ⟨z, 0, none⟩) HZ.out.lt (fun x => x)).trans z0
  have a1 := (hf4.cell (p := ⟨z, 1, none⟩) HZ.out.lt (fun x => x)).trans z1
  have HM4 := Lib.hid (HM2.out.fr0 hf4)
  have HZ4 := Lib.hid (HZ.out.fr0 hf4)
  have HF4 := Lib.hid (HF2.out.trans hf4)
  have hsz4 : ((W2.alloc (.cells #[.int .i64 ((q : Int) + 1)] 3)).drew.drew).heap.size = W2.heap.size + 1 := by simp
  have HSZ := Lib.hid hsz4
  have hfq := hf4
  clear hf3 hf4 hcn hins hlk1 hsz4
  go_region_held3 (fun V => V.cell? ⟨c, 4, none⟩ = some (.map (some m)) ∧ V.cell? ⟨z, 0, none⟩ = some (.int .i64 x.list) ∧ V.cell? ⟨z, 1, none⟩ = some (.string (strOfNums (lowL x.name)))) (first | exact ⟨k4, z0, z1⟩ | exact ⟨a4, a0, a1⟩ | exact ⟨e4, e0, e1⟩ | exact ⟨f4, f0, f1⟩) ((go_at_call 61; (with_reducible refine HINS.out.mono ?_); rintro e w4 ⟨v', rfl, ho4, hg4, hk4⟩; have hF4 := (Fr.refl (fun k => vk.ownBlock = some k) _).grown hg4 (fun k hk => .inl hk); have hoq := HOWN.out.fr hfq (fun _ _ x => x); have hnc := blk_int_own hoq HM4.out.obj (by decide); have hnz := blk_int_own hoq HZ4.out (by decide); have hnm := map_int_own hoq HM4.out.map; have e4 := (hF4.cell (p := ⟨c, 4, none⟩) HM4.out.obj.lt hnc).trans a4; have e0 := (hF4.cell (p := ⟨z, 0, none⟩) HZ4.out.lt hnz).trans a0; have e1 := (hF4.cell (p := ⟨z, 1, none⟩) HZ4.out.lt hnz).trans a1; have hM4 := HM4.out.map.fr hF4 hnm; obtain ⟨w5, hup, hf5, hs5, hm5⟩ := run_updateK (P := Try.prog) keysN Try.underlying77 hM4 x.key v'; rw [show encN x.key = .agg #[.int .i64 x.list, .string (strOfNums (lowL x.name))] from rfl] at hup; have hob4 := HM4.out.obj.fr hF4 hnc; have hzb4 := HZ4.out.fr hF4 hnz; have f4 := (hf5.cell (p := ⟨c, 4, none⟩) hob4.lt (fun e => HM4.out.ne_mc e.symm)).trans e4; have f0 := (hf5.cell (p := ⟨z, 0, none⟩) hzb4.lt (fun e => hM4.ne_ hzb4 e.symm)).trans e0; have f1 := (hf5.cell (p := ⟨z, 1, none⟩) hzb4.lt (fun e => hM4.ne_ hzb4 e.symm)).trans e1; have HO5 := Lib.hid (ho4.fr hf5 (fun k hk e => map_int_own ho4 hM4 (e ▸ hk))); have HF5 := Lib.hid ((hF4.mono (S' := fun k => k = m ∨ vk.ownBlock = some k) (fun _ _ h => .inr h)).trans (hf5.mono (fun _ _ h => .inl h))); have HM5 := Lib.hid hm5; have HK5 := Lib.hid hk4; have HOQ := Lib.hid hoq; have HNC := Lib.hid hnc; clear hF4 hoq hnc hnz hnm hM4 hf5 hs5 hm5 hob4 hzb4 ho4 hg4 hk4))
  all_goals
    go_wp2_with fail
    go_end0
    have hv := HO5.out
    rw [← HTS.out] at hv
    have hf := HF5.out
    rw [← HVK.out] at hf
    have hkk := HK5.out.imp id (fun h => (⟨_, h, Nat.le_refl _⟩ : ∃ g, _ = some g ∧ _ ≤ g))
    rw [← HVK.out] at hkk
    refine ⟨rfl, _, HM4.out.laid HX.out hv hf HM5.out hkk, (Fr.of0 HF4.out).then HF5.out (fun k hk e => ?_), fun k hk => ?_⟩
    · rcases e with rfl | e
      · exact .inr (.inl rfl)
      · rw [← HVK.out] at e
        exact in_tvOf e
    · refine in_laid HX.out ?_ hk
      rcases hkk with h | ⟨g, h, hg⟩
      · exact .inl h
      · exact .inr ⟨g, h, Nat.le_trans HF4.out.size hg⟩
set_option maxRecDepth 100000 in
set_option maxHeartbeats 8000000 in
theorem Add_own (x : Wd) (hx : (∀ y ∈ x.name, 0 ≤ y ∧ y ≤ 255) ∧ x.name.length ≤ 1000000) (w : World) (h : Nm w B c m wv ov lists cur order ws ws.length tv) (hb : wrongV lists x = 0) (hl : ws.length < 5000) : Calls Try.prog 11 #[.pointer (some ⟨c, 0, none⟩), x.val] w fun e w' => e = .returned (.tuple #[.int .i64 ((ws.length : Int) + 1), .int .i64 0]) ∧ ∃ wv' tv', Nm w' B c m wv' ov lists cur order (ws ++ [x]) (ws.length + 1) tv' ∧ Fr (NmIn c m wv ov ws ws.length tv) w w' ∧ ∀ k, NmIn c m wv' ov (ws ++ [x]) (ws.length + 1) tv' k → NmIn c m wv ov ws ws.length tv k ∨ w.heap.size ≤ k := by
  have HNO := Lib.hid (fun V (hV : Fr0 w V) => none_nm V (h.fr0 hV))
  have HWR := Lib.hid (fun V (hV : Fr0 w V) => wrong_nm x V (h.fr0 hV))
  rw [hb] at HWR
  have hbx := Blk.new w 30 #[.string (strOfNums x.name), .int .i64 x.xt, .int .i64 x.list, .bool x.imm, .bool x.only]
  have hf : Fr0 w (w.alloc (.cells #[.string (strOfNums x.name), .int .i64 x.xt, .int .i64 x.list, .bool x.imm, .bool x.only] 30)) := (Fr.refl _ w).alloc _
  obtain ⟨A, cap, rfl⟩ := h.wform
  have HBX := Lib.hid hbx
  have HF := Lib.hid hf
  have HH := Lib.hid h
  unfold Wd.val at HWR ⊢
  obtain ⟨n, hn⟩ : ∃ n, ws.length = n := ⟨_, rfl⟩
  have HN := Lib.hid hn
  have hlI : (n : Int) < 5000 := by omega
  clear h hf hbx
  go_enter Try.func11, Try.ntmps11
  go_wp2_with (first | (go_at_call 33; refine (HNO.out _ HF.out).mono ?_; rintro e w' ⟨rfl, rfl⟩) | (go_at_call 34; refine (HWR.out _ HF.out).mono ?_; rintro e w1 ⟨rfl, hf1⟩; have HF1 := Lib.hid (HF.out.trans hf1); have HB1 := Lib.hid (HBX.out.fr0 hf1); have c0 := (HH.out.fr0 HF1.out).cells.1; rw [HN.out] at c0; clear hf1))
  obtain ⟨i0, hi0, z0, hzz, hzs, hz1, hz2⟩ : ∃ i0, Try.prog.info? 30 = some i0 ∧ ∃ z0, i0.zero = some z0 ∧ z0.cells.size = 5 ∧ i0.size = 5 ∧ i0.bytes = 40 := by
    have hiw := infoW
    cases hi : Try.prog.info? 30 with
    | none => rw [hi] at hiw; cases hiw
    | some i0 =>
      rw [hi] at hiw
      simp only [Option.map_some, Option.some.injEq, Prod.mk.injEq] at hiw
      obtain ⟨h1, h2, h3⟩ := hiw
      cases hz : i0.zero with
      | none => rw [hz] at h1; cases h1
      | some z0 =>
        rw [hz] at h1
        simp only [Option.map_some, Option.some.injEq] at h1
        exact ⟨i0, rfl, z0, hz, h1, h2, h3⟩
  have HM1 := Lib.hid (HH.out.fr0 HF1.out)
  have hown : ∀ o : Obj, ((w1.alloc o).drew).ownsRow B 30 5 (.slice A n cap) n (ws.flatMap Wd.cells) := fun o => by
    have := own_fr HM1.out.words (((Fr.refl (fun _ => False) w1).alloc o).drew) (fun _ _ x => x)
    rw [HN.out] at this
    exact this
  have HOW := Lib.hid hown
  have HI0 := Lib.hid (And.intro hi0 (And.intro hzz (And.intro hzs (And.intro hz1 hz2))))
  have hone : ∀ u ∈ x.cells, u.oneCell' = true := fun u hu => by
    simp [Wd.cells] at hu
    rcases hu with rfl | rfl | rfl | rfl | rfl <;> rfl
  have HONE := Lib.hid hone
  have hbl := HM1.out.lo.2.2
  have k0 : w1.cell? ⟨w.heap.size, 0, none⟩ = some (.string (strOfNums x.name)) := HB1.out.cell 0
  have k1 : w1.cell? ⟨w.heap.size, 1, none⟩ = some (.int .i64 x.xt) := HB1.out.cell 1
  have k2 : w1.cell? ⟨w.heap.size, 2, none⟩ = some (.int .i64 x.list) := HB1.out.cell 2
  have k3 : w1.cell? ⟨w.heap.size, 3, none⟩ = some (.bool x.imm) := HB1.out.cell 3
  have k5 : w1.cell? ⟨w.heap.size, 4, none⟩ = some (.bool x.only) := HB1.out.cell 4
  have hcl := HM1.out.obj.lt
  have y0 := HM1.out.obj.frozen 0
  clear hown hi0 hzz hzs hz1 hz2 hone
  have hrd : Rd ((w1.alloc (.cells #[.string (strOfNums x.name), .int .i64 x.xt, .int .i64 x.list, .bool x.imm, .bool x.only] 30)).drew) (.slice (some ⟨w1.heap.size, 0, none⟩) 1 1) 1 5 x.cells := Rd.new w1 #[.string (strOfNums x.name), .int .i64 x.xt, .int .i64 x.list, .bool x.imm, .bool x.only] rfl 1
  have HRD := Lib.hid hrd
  have hfa : Fr0 w1 ((w1.alloc (.cells #[.string (strOfNums x.name), .int .i64 x.xt, .int .i64 x.list, .bool x.imm, .bool x.only] 30)).drew) := ((Fr.refl _ w1).alloc _).drew
  have HFA := Lib.hid hfa
  have hnc := fun hh => word_own (k := c) HM1.out.words HM1.out.obj (by decide) hh
  rw [HN.out] at hnc
  have HNC := Lib.hid hnc
  clear hrd hfa hnc
  go_region_law (refine step_append_src (P := Try.prog) (t := 74) (e := 30) (size := 5) (n := n) (m := 1) (base := B) (i := i0) (z := z0) (bytes := 40) (v := .slice A n cap) (xs := ws.flatMap Wd.cells) (news := x.cells) rfl (.tmp 30) (.tmp 32) rfl Try.underlying74 HI0.out.1 HI0.out.2.1 HI0.out.2.2.2.1 HI0.out.2.2.2.2 HI0.out.2.2.1 (by decide) rfl rfl (HOW.out _) HRD.out HONE.out (by unfold maxLen; omega) (by omega) (Nat.le_trans hbl HFA.out.size) ?_; intro v2 w2 ho2 hg2 hk2; have HO2 := Lib.hid ho2; obtain ⟨_, A2, cap2, rfl, _⟩ := own_src ho2; have HK2 := Lib.hid hk2; have hfg := (HFA.out.of0 (S := fun k => k = c ∨ (Value.slice A n cap).ownBlock = some k)).grown hg2 (fun k hk => .inl (.inr hk)); have HFG := Lib.hid hfg; have hFq := (Fr.refl (fun k => (Value.slice A n cap).ownBlock = some k) _).grown hg2 (fun k hk => .inl hk); have hclq := Nat.lt_of_lt_of_le hcl HFA.out.size; have b0 := (hFq.cell (p := ⟨c, 0, none⟩) hclq HNC.out).trans ((HFA.out.cell (p := ⟨c, 0, none⟩) hcl (fun x => x)).trans c0); have b1 := (hFq.frozen (p := ⟨c, 0, none⟩) hclq HNC.out).trans ((HFA.out.frozen (p := ⟨c, 0, none⟩) hcl (fun x => x)).trans y0); have HOB2 := Lib.hid ((HM1.out.obj.fr0 HFA.out).fr hFq HNC.out); clear hFq hclq ho2 hg2 hk2 hfg)
  all_goals
    have hob := HOB2.out.set_ 0 (.slice A2 (n + 1) cap2)
    simp only [List.setIfInBounds_toArray, List.set_cons_zero] at hob
    have ho3 := own_fr HO2.out ((Fr.refl (fun k => k = c) w2).setCell (p := ⟨c, 0, none⟩) (.inl rfl) (.slice A2 (n + 1) cap2)) (fun k hk e => word_own HO2.out HOB2.out (by decide) (e ▸ hk))
    have hf3 := HFG.out.setCell (p := ⟨c, 0, none⟩) (.inl (.inl rfl)) (.slice A2 (n + 1) cap2)
    generalize hw3 : w2.setCell ⟨c, 0, none⟩ (.slice A2 (n + 1) cap2) = w3 at *
    have hN := Nm.snoc HM1.out x hx (by have := HN.out; omega) (by rw [HN.out]; exact hf3) hob (by rw [HN.out]; exact ho3)
    have hLY := lay_own w3 hN (by simp)
    rw [HN.out] at hLY
    have HLY := Lib.hid hLY
    have b3 : w3.cell? ⟨c, 0, none⟩ = some (.slice A2 (n + 1) cap2) := hob.cell 0
    have HF3 := Lib.hid hf3
    have HB := Lib.hid hbl
    have HO3 := Lib.hid ho3
    clear hob hf3 hN hLY b0 b1 ho3
    go_wp2_with (go_at_call 35; refine HLY.out.mono ?_; rintro e w4 ⟨rfl, tv', hN4, hf4, hn4⟩; have b4 := hN4.cells.1; have HN4 := Lib.hid hN4; have HF4 := Lib.hid hf4; have HNW := Lib.hid hn4; clear hN4 hf4 hn4)
    rw [HN.out]
    go_ret2
    have hN4 := HN4.out
    have hk2 := HK2.out
    have hsz1 : w.heap.size ≤ w3.heap.size := Nat.le_trans HF1.out.size HF3.out.size
    have hv2 : ∀ k, (Value.slice A2 (n + 1) cap2).ownBlock = some k → (Value.slice A n cap).ownBlock = some k ∨ w.heap.size ≤ k := fun k hk => by
      rcases hk2 with h | h
      · exact .inl (h ▸ hk)
      · rw [h] at hk
        injection hk with hk
        exact .inr (by have := Nat.le_trans HF1.out.size HFA.out.size; omega)
    have hin : ∀ k, NmIn c m (.slice A2 (n + 1) cap2) ov (ws ++ [x]) n tv k → NmIn c m (.slice A n cap) ov ws n tv k ∨ w.heap.size ≤ k := fun k hk => by
      rcases hk with h | h | h | h | ⟨key, h, h2⟩
      · exact .inl (.inl h)
      · exact .inl (.inr (.inl h))
      · exact (hv2 k h).imp (fun h => .inr (.inr (.inl h))) id
      · exact .inl (.inr (.inr (.inr (.inl h))))
      · refine .inl (.inr (.inr (.inr (.inr ⟨key, ?_, h2⟩))))
        rw [← HN.out] at h ⊢
        rw [List.take_append_of_le_length (Nat.le_refl _)] at h
        exact h
    refine ⟨rfl, _, _, hN4, ((Fr.of0 (S := NmIn c m (.slice A n cap) ov ws n tv) HF1.out).then HF3.out (fun k hk e => ?_)).then HF4.out (fun k hk e => ?_), fun k hk => ?_⟩
    · rcases e with rfl | e
      · exact .inl rfl
      · exact .inr (.inr (.inl e))
    · exact (hin k e).resolve_right (by omega)
    · rcases HNW.out k hk with h | h
      · exact hin k h
      · exact .inr (by omega)
end
end Go.Proofs.Ytmhjnbolngdijaa
