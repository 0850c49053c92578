/- Names: lay. -/
import Derived.Test.YtmhjnbolngdijaaNm
import Derived.Laws.EntriesVeiled
namespace Go.Proofs.Ytmhjnbolngdijaa
open Go Go.RowKit
set_option linter.unusedVariables false
attribute [local go_sem] Oper.semAt_some

/-- What lay may turn: the map, the row of one key. -/
def LayIn (m : Nat) (v : Value) (k : Nat) : Prop := k = m ∨ v.ownBlock = some k

section
variable {w w' : World} {B c m q : Nat} {wv ov : Value} {lists cur : Int} {order : List Int} {ws : List Wd} {tv : Int × ByteArray → Value}
/-- The row of a key, nil where there is none. -/
def tvOf (ws : List Wd) (q : Nat) (tv : Int × ByteArray → Value) (k : Int × ByteArray) : Value := if toksOf (ws.take q) k = [] then .slice none 0 0 else tv k
theorem Nm.tvOf_own (h : Nm w B c m wv ov lists cur order ws q tv) (k : Int × ByteArray) : OwnI w B (tvOf ws q tv k) (toksOf (ws.take q) k) := by
  unfold tvOf
  by_cases hk : toksOf (ws.take q) k = []
  · rw [if_pos hk, hk]
    exact OwnI.nil _ _
  · rw [if_neg hk]
    exact h.rows k hk
theorem sliceZero : ∀ W : World, (zeroValue 41).run Try.prog W = .ok (.slice none 0 0) W := fun W => by
  have hz : (Try.prog.info? 41).map (·.zero) = some (some (.slice none 0 0)) := by kernel_rfl
  cases hi : Try.prog.info? 41 with
  | none => rw [hi] at hz; cases hz
  | some i =>
    rw [hi] at hz
    simp only [Option.map_some, Option.some.injEq] at hz
    simp [zeroValue, typeInfo, hi, hz]
theorem Nm.look (h : Nm w B c m wv ov lists cur order ws q tv) (k : Int × ByteArray) : (Instr.lookup 77 (.map (some m)) (.agg #[.int .i64 k.1, .string k.2]) false).run Try.prog w = .ok (tvOf ws q tv k) w := by
  have := run_lookupK (P := Try.prog) keysN Try.underlying77 h.map (z := .slice none 0 0) sliceZero k
  rw [show encN k = .agg #[.int .i64 k.1, .string k.2] from rfl] at this
  rw [this]
  unfold tvOf
  by_cases hk : toksOf (ws.take q) k = []
  · rw [if_pos hk, if_pos hk]; rfl
  · rw [if_neg hk, if_neg hk]; rfl

theorem take_snoc {ws : List Wd} {q : Nat} {x : Wd} (hx : ws[q]? = some x) : ws.take (q + 1) = ws.take q ++ [x] := by
  have hq := (List.getElem?_eq_some_iff.1 hx).1
  rw [List.take_succ_eq_append_getElem hq]
  rw [List.getElem?_eq_getElem hq] at hx
  injection hx with hx
  rw [hx]
theorem toks_step {ws : List Wd} {q : Nat} {x : Wd} (hx : ws[q]? = some x) (k : Int × ByteArray) : toksOf (ws.take (q + 1)) k = toksOf (ws.take q) k ++ if x.key = k then [(q : Int) + 1] else [] := by
  have hq := (List.getElem?_eq_some_iff.1 hx).1
  rw [take_snoc hx, toksOf_snoc, show (ws.take q).length = q by rw [List.length_take]; omega]
/-- What laying one word leaves. -/
theorem Nm.laid (h : Nm w B c m wv ov lists cur order ws q tv) {x : Wd} (hx : ws[q]? = some x) {v' : Value} (hv : OwnI w' B v' (toksOf (ws.take q) x.key ++ [(q : Int) + 1]))
    (hf : Fr (fun k => k = m ∨ (tvOf ws q tv x.key).ownBlock = some k) w w')
    (hm : MapK encN w' m (fun j => if j = x.key then some v' else if toksOf (ws.take q) j = [] then none else some (tv j)))
    (hk : v'.ownBlock = (tvOf ws q tv x.key).ownBlock ∨ ∃ g, v'.ownBlock = some g ∧ w.heap.size ≤ g) :
    Nm w' B c m wv ov lists cur order ws (q + 1) (fun k => if k = x.key then v' else tv k) := by
  have hown := h.tvOf_own x.key
  have hlt : ∀ {u : Value} {zs : List Int}, OwnI w B u zs → ∀ b, u.ownBlock = some b → B ≤ b ∧ b < w.heap.size := fun ho b hb => own_lo ho b hb
  -- the blocks of other rows
  have hoth : ∀ k b, toksOf (ws.take q) k ≠ [] → k ≠ x.key → (tv k).ownBlock = some b → ¬ (b = m ∨ (tvOf ws q tv x.key).ownBlock = some b) := fun k b hne hk2 hb hh => by
    rcases hh with rfl | hh
    · exact map_int_own (h.rows k hne) h.map hb
    · unfold tvOf at hh
      by_cases he : toksOf (ws.take q) x.key = []
      · rw [if_pos he] at hh; cases hh
      · rw [if_neg he] at hh
        exact h.apart k x.key b hne he hk2 hb hh
  have hnew : ∀ b, v'.ownBlock = some b → ∀ {u : Value} {zs : List Int}, OwnI w B u zs → u.ownBlock = some b → (tvOf ws q tv x.key).ownBlock = some b := fun b hb u zs ho hu => by
    rcases hk with hk | ⟨g, hg, hge⟩
    · rw [← hk]; exact hb
    · rw [hg] at hb
      injection hb with hb
      have := (hlt ho b hu).2
      omega
  have hst := fun k => toks_step hx k
  have hself : ∀ k, k ≠ x.key → toksOf (ws.take (q + 1)) k = toksOf (ws.take q) k := fun k hk2 => by
    rw [hst, if_neg (fun e => hk2 e.symm), List.append_nil]
  have hkey : toksOf (ws.take (q + 1)) x.key = toksOf (ws.take q) x.key ++ [(q : Int) + 1] := by rw [hst, if_pos rfl]
  refine ⟨h.obj.fr hf (fun e => e.elim (fun e => h.ne_mc e.symm) (blk_int_own hown h.obj (by decide))), own_fr h.words hf (fun k hk2 e => e.elim (fun e => word_map h.words h.map (e ▸ hk2)) (fun e => ?_)), hm.congr (fun k => ?_), fun k hne => ?_, fun k k' b h1 h2 hne hb hb' => ?_, h.ord.fr hf (fun k hk2 e => e.elim (fun e => map_int_own h.ord h.map (e ▸ hk2)) (fun e => ?_)), fun k b hne hb => ?_, ⟨h.lo.1, h.lo.2.1, Nat.le_trans h.lo.2.2 hf.size⟩, h.few, h.byt⟩
  · -- the words' row is none of ints
    rcases hown.2 with ⟨e1, _⟩ | ⟨b2, cap, cur2, e1, _, hc, _⟩
    · rw [e1] at e; cases e
    · rw [e1] at e
      simp only [Value.ownBlock, Option.some.injEq] at e
      subst e
      have hB : Blk w b2 3 cur2 := hc
      exact word_own h.words hB (by decide) hk2
  · by_cases hk2 : k = x.key
    · rw [if_pos hk2, if_pos hk2, if_neg (by rw [hk2, hkey]; simp)]
    · rw [if_neg hk2, if_neg hk2, hself k hk2]
  · by_cases hk2 : k = x.key
    · rw [if_pos hk2, hk2, hkey]
      exact hv
    · rw [if_neg hk2, hself k hk2]
      rw [hself k hk2] at hne
      exact (h.rows k hne).fr hf (fun b hb => hoth k b hne hk2 hb)
  · by_cases hk1 : k = x.key
    · rw [if_pos hk1] at hb
      have hk3 : k' ≠ x.key := fun e => hne (hk1.trans e.symm)
      rw [if_neg hk3] at hb'
      rw [hself k' hk3] at h2
      exact hoth k' b h2 hk3 hb' (.inr (hnew b hb (h.rows k' h2) hb'))
    · rw [if_neg hk1] at hb
      rw [hself k hk1] at h1
      by_cases hk3 : k' = x.key
      · rw [if_pos hk3] at hb'
        exact hoth k b h1 hk1 hb (.inr (hnew b hb' (h.rows k h1) hb))
      · rw [if_neg hk3] at hb'
        rw [hself k' hk3] at h2
        exact h.apart k k' b h1 h2 hne hb hb'
  · -- the order's row
    unfold tvOf at e
    by_cases he : toksOf (ws.take q) x.key = []
    · rw [if_pos he] at e; cases e
    · rw [if_neg he] at e
      exact h.ordA x.key k he e hk2
  · intro ho
    by_cases hk2 : k = x.key
    · rw [if_pos hk2] at hb
      have h3 := hnew b hb h.ord ho
      unfold tvOf at h3
      by_cases he : toksOf (ws.take q) x.key = []
      · rw [if_pos he] at h3; cases h3
      · rw [if_neg he] at h3
        exact h.ordA x.key b he h3 ho
    · rw [if_neg hk2] at hb
      rw [hself k hk2] at hne
      exact h.ordA k b hne hb ho

theorem Bin_end (v : Value) (ts : List Int) (t : Int) (w : World) (h : RdI w v ts) (hl : ts.length ≤ 1000000) (hs : ∀ (i j : Nat) (x y : Int), i < j → ts[i]? = some x → ts[j]? = some y → x < y) (hlt : ∀ x ∈ ts, x < t) :
    Calls Try.prog 60 #[v, .int .i64 t] w fun e w' => e = .returned (.tuple #[.int .i64 ts.length, .bool false]) ∧ w = w' := by
  refine (Bin_any v ts t w h hl hs).mono ?_
  rintro e w' ⟨⟨i, rfl, hi, h1, h2⟩, rfl⟩
  have e1 : i = ts.length := by
    rcases Nat.lt_or_ge i ts.length with hh | hh
    · have := h2 i _ (Nat.le_refl _) (List.getElem?_eq_getElem hh)
      have := hlt _ (List.getElem_mem hh)
      omega
    · omega
  subst e1
  rw [List.getElem?_eq_none (Nat.le_refl _)]
  exact ⟨by simp, rfl⟩

set_option maxRecDepth 100000 in
set_option maxHeartbeats 8000000 in
theorem lay_any (w : World) (h : Nm w B c m wv ov lists cur order ws q tv) (hq : q < ws.length) :
    Calls Try.prog 35 #[.pointer (some ⟨c, 0, none⟩), .int .i64 ((q : Int) + 1)] w fun e w' => e = .returned (.tuple #[]) ∧ ∃ tv', Nm w' B c m wv ov lists cur order ws (q + 1) tv' ∧ Fr (fun k => B ≤ k ∧ k ≠ c) w w' := by
  obtain ⟨x, hx⟩ : ∃ x, ws[q]? = some x := ⟨_, List.getElem?_eq_getElem hq⟩
  obtain ⟨hxb, hxl⟩ := h.byt x (List.mem_of_getElem? hx)
  have HPL := Lib.hid (fun V => place_any x.list x.name hxb (by omega) V)
  obtain ⟨b, cap, rfl, d0, d1, d2, d3, d4⟩ := h.word hx
  obtain ⟨c0, c1, c2, c3, c4⟩ := h.cells
  have hfew := h.few
  have HH := Lib.hid h
  have HX := Lib.hid hx
  obtain ⟨n, hn⟩ : ∃ n, ws.length = n := ⟨_, rfl⟩
  have HN := Lib.hid hn
  rw [hn] at c0 hq hfew
  have hqI : (q : Int) < (n : Int) := by omega
  have x1 : IntKind.i64.wrap ((q : Int) + 1 - 1) = (q : Int) := by rw [IntWalk.i64_in _ (by omega)]; omega
  clear h hx hn
  go_enter Try.func35, Try.ntmps35
  go_wp2_with (go_at_call 37; refine (HPL.out _).mono ?_; rintro e w1 ⟨rfl, hf1⟩; have HF1 := Lib.hid (((Fr.refl (fun _ => False) w).alloc _).trans hf1); clear hf1)
  have hz := Blk.new w1 84 #[.int .i64 x.list, .string (strOfNums (lowL x.name))]
  have hF2 : Fr0 w (w1.alloc (.cells #[.int .i64 x.list, .string (strOfNums (lowL x.name))] 84)) := HF1.out.alloc _
  have hzl : w.heap.size ≤ w1.heap.size := HF1.out.size
  generalize (w1.alloc (.cells #[.int .i64 x.list, .string (strOfNums (lowL x.name))] 84)) = W2 at *
  generalize w1.heap.size = z at *
  have HM2 := Lib.hid (HH.out.fr0 hF2)
  have HZ := Lib.hid hz
  have HF2 := Lib.hid hF2
  obtain ⟨ts, hts⟩ : ∃ ts, toksOf (ws.take q) x.key = ts := ⟨_, rfl⟩
  obtain ⟨vk, hvk⟩ : ∃ vk, tvOf ws q tv x.key = vk := ⟨_, rfl⟩
  have hown := HM2.out.tvOf_own x.key
  rw [hts, hvk] at hown
  have HOWN := Lib.hid hown
  have hlk1 := (HM2.out.fr0 ((Fr.refl _ W2).drew)).look x.key
  rw [hvk] at hlk1
  unfold Wd.key at hlk1
  have htl := toksOf_len (ws.take q) x.key
  have htr := toksOf_rise (ws.take q) x.key
  have htm := fun t ht => (toksOf_mem (ws := ws.take q) (k := x.key) (t := t) ht).2
  have htk : (ws.take q).length = q := by rw [List.length_take, HN.out]; omega
  rw [hts] at htl htr htm
  rw [htk] at htl htm
  obtain ⟨tl, htle⟩ : ∃ tl, ts.length = tl := ⟨_, rfl⟩
  have HBS := Lib.hid (fun V (hV : Fr0 W2 V) => Bin_end vk ts ((q : Int) + 1) V ((HOWN.out.fr hV (fun _ _ x => x)).rd) (by omega) htr (fun x hx => by have := htm x hx; omega))
  rw [htle] at HBS
  have HTQ := Lib.hid (show ts.length ≤ 5000 by omega)
  have k4 : W2.cell? ⟨c, 4, none⟩ = some (.map (some m)) := HM2.out.cells.2.2.2.2
  have z0 : W2.cell? ⟨z, 0, none⟩ = some (.int .i64 x.list) := HZ.out.cell 0
  have z1 : W2.cell? ⟨z, 1, none⟩ = some (.string (strOfNums (lowL x.name))) := HZ.out.cell 1
  have HTS := Lib.hid hts
  have HVK := Lib.hid hvk
  have HTL := Lib.hid htle
  clear hz hF2 hts hvk hown htl htr htm htk htle c0 c1 c2 c3 c4 d0 d1 d2 d3 d4
  go_region_held3 (fun V => V.cell? ⟨c, 4, none⟩ = some (.map (some m)) ∧ V.cell? ⟨z, 0, none⟩ = some (.int .i64 x.list) ∧ V.cell? ⟨z, 1, none⟩ = some (.string (strOfNums (lowL x.name)))) (exact ⟨k4, z0, z1⟩) ((go_at_call 60; (with_reducible refine (HBS.out _ (Fr.refl _ _).drew).mono ?_); rintro e w3 ⟨rfl, rfl⟩))
  go_wp2_with fail
  have hf3 : Fr0 W2 (W2.drew.drew) := ((Fr.refl _ W2).drew).drew
  have hf4 : Fr0 W2 ((W2.alloc (.cells #[.int .i64 ((q : Int) + 1)] 3)).drew.drew) := (((Fr.refl _ W2).alloc _).drew).drew
  have hlk2 := (HM2.out.fr0 hf3).look x.key
  have hlk3 := (HM2.out.fr0 hf4).look x.key
  rw [HVK.out] at hlk2 hlk3
  unfold Wd.key at hlk2 hlk3
  have hcn : ((W2.alloc (.cells #[.int .i64 ((q : Int) + 1)] 3)).drew.drew).cell? ⟨W2.heap.size, 0, none⟩ = some (.int .i64 ((q : Int) + 1)) := (Blk.new W2 3 #[.int .i64 ((q : Int) + 1)]).cell 0
  have hins := Insert_end vk ts ((q : Int) + 1) W2.heap.size B _ (HOWN.out.fr hf4 (fun _ _ x => x)) hcn (Nat.le_trans HM2.out.lo.2.2 hf4.size) (by have := HTQ.out; omega)
  rw [HTL.out] at hins
  have HINS := Lib.hid hins
  have a4 := (hf4.cell (p := ⟨c, 4, none⟩) HM2.out.obj.lt (fun x => x)).trans k4
  have a0 := (hf4.cell (p := ⟨z, 0, none⟩) HZ.out.lt (fun x => x)).trans z0
  have a1 := (hf4.cell (p := ⟨z, 1, none⟩) HZ.out.lt (fun x => x)).trans z1
  have HM4 := Lib.hid (HM2.out.fr0 hf4)
  have HZ4 := Lib.hid (HZ.out.fr0 hf4)
  have HF4 := Lib.hid (HF2.out.trans hf4)
  have hsz4 : ((W2.alloc (.cells #[.int .i64 ((q : Int) + 1)] 3)).drew.drew).heap.size = W2.heap.size + 1 := by simp
  have HSZ := Lib.hid hsz4
  have hfq := hf4
  clear hf3 hf4 hcn hins hlk1 hsz4
  go_region_held3 (fun V => V.cell? ⟨c, 4, none⟩ = some (.map (some m)) ∧ V.cell? ⟨z, 0, none⟩ = some (.int .i64 x.list) ∧ V.cell? ⟨z, 1, none⟩ = some (.string (strOfNums (lowL x.name)))) (first | exact ⟨k4, z0, z1⟩ | exact ⟨a4, a0, a1⟩ | exact ⟨e4, e0, e1⟩ | exact ⟨f4, f0, f1⟩) ((go_at_call 61; (with_reducible refine HINS.out.mono ?_); rintro e w4 ⟨v', rfl, ho4, hg4, hk4⟩; have hF4 := (Fr.refl (fun k => vk.ownBlock = some k) _).grown hg4 (fun k hk => .inl hk); have hoq := HOWN.out.fr hfq (fun _ _ x => x); have hnc := blk_int_own hoq HM4.out.obj (by decide); have hnz := blk_int_own hoq HZ4.out (by decide); have hnm := map_int_own hoq HM4.out.map; have e4 := (hF4.cell (p := ⟨c, 4, none⟩) HM4.out.obj.lt hnc).trans a4; have e0 := (hF4.cell (p := ⟨z, 0, none⟩) HZ4.out.lt hnz).trans a0; have e1 := (hF4.cell (p := ⟨z, 1, none⟩) HZ4.out.lt hnz).trans a1; have hM4 := HM4.out.map.fr hF4 hnm; obtain ⟨w5, hup, hf5, hs5, hm5⟩ := run_updateK (P := Try.prog) keysN Try.underlying77 hM4 x.key v'; rw [show encN x.key = .agg #[.int .i64 x.list, .string (strOfNums (lowL x.name))] from rfl] at hup; have hob4 := HM4.out.obj.fr hF4 hnc; have hzb4 := HZ4.out.fr hF4 hnz; have f4 := (hf5.cell (p := ⟨c, 4, none⟩) hob4.lt (fun e => HM4.out.ne_mc e.symm)).trans e4; have f0 := (hf5.cell (p := ⟨z, 0, none⟩) hzb4.lt (fun e => hM4.ne_ hzb4 e.symm)).trans e0; have f1 := (hf5.cell (p := ⟨z, 1, none⟩) hzb4.lt (fun e => hM4.ne_ hzb4 e.symm)).trans e1; have HO5 := Lib.hid (ho4.fr hf5 (fun k hk e => map_int_own ho4 hM4 (e ▸ hk))); have HF5 := Lib.hid ((hF4.mono (S' := fun k => k = m ∨ vk.ownBlock = some k) (fun _ _ h => .inr h)).trans (hf5.mono (fun _ _ h => .inl h))); have HM5 := Lib.hid hm5; have HK5 := Lib.hid hk4; have HOQ := Lib.hid hoq; have HNC := Lib.hid hnc; clear hF4 hoq hnc hnz hnm hM4 hf5 hs5 hm5 hob4 hzb4 ho4 hg4 hk4))
  all_goals
    go_wp2_with fail
    go_end0
    have hv := HO5.out
    rw [← HTS.out] at hv
    have hf := HF5.out
    rw [← HVK.out] at hf
    refine ⟨rfl, _, HM4.out.laid HX.out hv hf HM5.out ?_, (Fr.of0 (S := fun k => B ≤ k ∧ k ≠ c) HF4.out).then HF5.out (fun k hk e => ?_)⟩
    · rw [HVK.out]
      exact HK5.out.imp id (fun h => ⟨_, h, Nat.le_refl _⟩)
    · rcases e with rfl | e
      · exact ⟨HM4.out.lo.2.1, HM4.out.ne_mc⟩
      · exact ⟨(own_lo HOQ.out k e).1, fun e2 => HNC.out (e2 ▸ e)⟩
end
end Go.Proofs.Ytmhjnbolngdijaa
