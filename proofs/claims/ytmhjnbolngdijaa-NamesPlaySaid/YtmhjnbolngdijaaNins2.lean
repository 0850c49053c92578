/- slices.Insert anywhere, slices.Delete of one, over a row of its own. -/
import Derived.Test.YtmhjnbolngdijaaNlays
import Derived.Test.YtmhjnbolngdijaaNord
namespace Go.Proofs.Ytmhjnbolngdijaa
open Go Go.RowKit Go.Shelf
set_option linter.unusedVariables false

theorem blk_setCells {t : TypeId} {b : Nat} : ∀ (vs : List Value) (o : Nat) (w : World) (cs : Array Value), Blk w b t cs → ∃ cs', Blk (w.setCells b o vs) b t cs' ∧ cs'.size = cs.size ∧ (∀ k, cs'[k]? = if o ≤ k ∧ k < o + vs.length ∧ k < cs.size then vs[k - o]? else cs[k]?) ∧ Fr (fun k => k = b) w (w.setCells b o vs)
  | [], o, w, cs, h => ⟨cs, h, rfl, fun k => by rw [if_neg (by simp; omega)], Fr.refl _ _⟩
  | v :: r, o, w, cs, h => by
    obtain ⟨cs', h1, h2, h3, h4⟩ := blk_setCells r (o + 1) (w.setCell ⟨b, o, none⟩ v) (cs.setIfInBounds o v) (h.set_ o v)
    refine ⟨cs', h1, by rw [h2]; simp, fun k => ?_, ((Fr.refl (fun k => k = b) w).setCell (p := ⟨b, o, none⟩) (.inl rfl) v).trans h4⟩
    rw [h3, Array.size_setIfInBounds, List.length_cons]
    by_cases hk : o = k
    · subst hk
      rw [if_neg (by omega), Array.getElem?_setIfInBounds, if_pos rfl]
      by_cases hl : o < cs.size
      · rw [if_pos hl, if_pos (by omega)]
        simp
      · rw [if_neg hl, if_neg (by omega), Array.getElem?_eq_none (by omega)]
    · rw [Array.getElem?_setIfInBounds, if_neg hk]
      by_cases hc : o + 1 ≤ k ∧ k < o + 1 + r.length ∧ k < cs.size
      · rw [if_pos hc, if_pos (by omega), show k - o = (k - (o + 1)) + 1 by omega, List.getElem?_cons_succ]
      · rw [if_neg hc, if_neg (by omega)]
theorem ownI_mk {w : World} {B b cap : Nat} {cs : Array Value} {zs : List Int} (hb : B ≤ b) (hB : Blk w b 3 cs) (hsz : cs.size = cap) (hl : zs.length ≤ cap) (hm : cap ≤ maxLen) (hc : ∀ (k : Nat) (x : Int), zs[k]? = some x → cs[k]? = some (Value.int .i64 x)) : OwnI w B (.slice (some ⟨b, 0, none⟩) zs.length cap) zs := by
  refine ⟨by simp, .inr ⟨b, cap, cs, rfl, hb, hB, hl, hm, by omega, ?_⟩⟩
  apply List.ext_getElem?
  intro k
  rw [List.getElem?_take, List.getElem?_map, Array.getElem?_toList]
  by_cases hk : k < zs.length
  · rw [if_pos (by omega), List.getElem?_eq_getElem hk, hc k _ (List.getElem?_eq_getElem hk)]
    rfl
  · rw [if_neg (by omega), List.getElem?_eq_none (by omega)]
    rfl
theorem ownI_open {w : World} {B : Nat} {v : Value} {zs : List Int} (h : OwnI w B v zs) : (v = .slice none 0 0 ∧ zs = []) ∨ ∃ b cap cs, v = .slice (some ⟨b, 0, none⟩) zs.length cap ∧ B ≤ b ∧ Blk w b 3 cs ∧ zs.length ≤ cap ∧ cap ≤ maxLen ∧ cs.size = cap ∧ ∀ (k : Nat) (x : Int), zs[k]? = some x → cs[k]? = some (Value.int .i64 x) := by
  rcases h.2 with ⟨e, e0⟩ | ⟨b, cap, cs, e, hb, hg, hle, hm, hsz, htk⟩
  · exact .inl ⟨e, List.eq_nil_of_length_eq_zero e0⟩
  · refine .inr ⟨b, cap, cs, e, hb, hg, hle, hm, by omega, fun k x hx => ?_⟩
    have hk := (List.getElem?_eq_some_iff.1 hx).1
    have e1 : (zs.map (Value.int .i64))[k]? = some (.int .i64 x) := by rw [List.getElem?_map, hx]; rfl
    rw [← htk, List.getElem?_take, if_pos (by omega), Array.getElem?_toList] at e1
    exact e1
theorem grown_of {S : Nat → Prop} {w w' : World} {v : Value} (h : Fr S w w') (hS : ∀ k, k < w.heap.size → S k → v.ownBlock = some k) : w.grownBy w' v.ownBlock :=
  ⟨h.os, h.tape, h.output, h.size, fun k hk hn => h.block k hk (fun e => hn (hS k hk e).symm)⟩

set_option maxRecDepth 100000 in
set_option maxHeartbeats 4000000 in
theorem Insert_mid (v : Value) (ts : List Int) (x : Int) (i g B : Nat) (w : World) (h : OwnI w B v ts) (hg : Blk w g 3 #[.int .i64 x]) (hgv : v.ownBlock ≠ some g) (hB : B ≤ w.heap.size) (hl : ts.length ≤ 1000000) (hi : i ≤ ts.length) :
    Calls Try.prog 61 #[v, .int .i64 i, .slice (some ⟨g, 0, none⟩) 1 1] w fun e w' => ∃ v', e = .returned v' ∧ OwnI w' B v' (ts.take i ++ x :: ts.drop i) ∧ w.grownBy w' v.ownBlock ∧ (v'.ownBlock = v.ownBlock ∨ v'.ownBlock = some w.heap.size) := by
  by_cases hie : i = ts.length
  · subst hie
    rw [List.take_length, List.drop_length]
    exact Insert_end v ts x g B w h (hg.cell 0) hB hl
  · have hlt : i < ts.length := by omega
    rcases ownI_open h with ⟨rfl, rfl⟩ | ⟨b, cap, cs, rfl, hb, hBk, hle, hm, hsz, hc⟩
    · simp at hlt
    · have hgb : g ≠ b := fun e => hgv (by rw [e]; rfl)
      have hcl : (ts.map (Value.int .i64)).length = ts.length := List.length_map _
      have hlen : (ts.take i ++ x :: ts.drop i).length = ts.length + 1 := by simp; omega
      have hcs : ∀ j u, (ts.map (Value.int .i64))[j]? = some u → w.cell? ⟨b, 0 + j, none⟩ = some u := fun j u hu => by
        rw [List.getElem?_map] at hu
        cases hx : ts[j]? with
        | none => rw [hx] at hu; cases hu
        | some y =>
          rw [hx] at hu
          simp only [Option.map_some, Option.some.injEq] at hu
          rw [Nat.zero_add, hBk.cell, hc j y hx, hu]
      have hvs : ∀ j u, [Value.int .i64 x][j]? = some u → w.cell? ⟨g, 0 + j, none⟩ = some u := fun j u hu => by
        cases j with
        | zero => simp at hu; subst hu; exact hg.cell 0
        | succ j => simp at hu
      have h1c : ∀ u ∈ ts.map (Value.int .i64), u.oneCell' = true := fun u hu => by obtain ⟨y, _, rfl⟩ := List.mem_map.1 hu; rfl
      have h1v : ∀ u ∈ [Value.int .i64 x], u.oneCell' = true := fun u hu => by obtain rfl := List.mem_singleton.1 hu; rfl
      by_cases hroom : ts.length + 1 ≤ cap
      · refine (Any2.slices_Insert_int_shift insLays b 0 ts.length cap i g 0 1 1 (ts.map (Value.int .i64)) [Value.int .i64 x] w hlt (by omega) hroom hm hgb hcl rfl hcs (fun j hj => ?_) (fun j hj => hBk.frozen _) hvs h1c h1v 3 3 1 cs.size ?_ ?_ (by omega) (hg.frozen 0) (hg.frozen 1)).mono ?_
        · rw [hBk.cell, Nat.zero_add]
          rw [Array.getElem?_eq_getElem (by omega)]
          rfl
        · unfold Blk at hg
          simp [World.shape?, hg]
        · unfold Blk at hBk
          simp [World.shape?, hBk]
        · rintro e w' ⟨rfl, rfl⟩
          obtain ⟨c1, k1, k2, k3, k4⟩ := blk_setCells ((ts.map (Value.int .i64)).drop i) (0 + (i + 1)) w.drew cs hBk.drew
          obtain ⟨c2, l1, l2, l3, l4⟩ := blk_setCells [Value.int .i64 x] (0 + i) _ c1 k1
          refine ⟨_, rfl, ?_, grown_of (((Fr.refl (fun k => k = b) w).drew.trans k4).trans l4) (fun k _ e => by rw [e]; rfl), .inl rfl⟩
          have hO := ownI_mk (zs := ts.take i ++ x :: ts.drop i) hb l1 (cap := cap) (by omega) (by omega) hm (fun k y hy => ?_)
          · rw [hlen] at hO
            exact hO
          · rw [l3, k2, k3]
            have hkl := (List.getElem?_eq_some_iff.1 hy).1
            rw [hlen] at hkl
            simp only [List.length_drop, List.length_map, List.length_cons, List.length_nil]
            rcases Nat.lt_trichotomy k i with hk | rfl | hk
            · rw [if_neg (by omega), if_neg (by omega)]
              rw [List.getElem?_append_left (by simp; omega), List.getElem?_take, if_pos hk] at hy
              exact hc k y hy
            · rw [if_pos (by omega)]
              rw [List.getElem?_append_right (by simp; omega)] at hy
              simp at hy
              rw [Nat.min_eq_left (by omega)] at hy
              simp at hy
              rw [hy]
              simp
            · rw [if_neg (by omega), if_pos (by omega)]
              rw [List.getElem?_append_right (by simp; omega)] at hy
              rw [List.length_take, Nat.min_eq_left (by omega), show k - i = (k - (0 + (i + 1))) + 1 by omega, List.getElem?_cons_succ] at hy
              rw [List.getElem?_drop, List.getElem?_map, ← List.getElem?_drop, hy]
              rfl
      · refine (Any2.slices_Insert_int_grow insLays b 0 ts.length cap i g 0 1 1 (ts.map (Value.int .i64)) [Value.int .i64 x] w hlt (by omega) hle (by omega) (by omega) hcl rfl hcs hvs h1c h1v).mono ?_
        rintro e w' ⟨rfl, rfl⟩
        have hgc := grownCap_ge w (ts.length + 1) cap (insRen.t 3)
        have hgm := grownCap_le_maxLen w (ts.length + 1) cap (insRen.t 3) (by unfold maxLen; omega)
        generalize grownCap w (ts.length + 1) cap (insRen.t 3) = gc at *
        obtain ⟨big, hbig⟩ : ∃ big, ((ts.map (Value.int .i64)).take i).toArray ++ Builtin.zeroCells (Value.int .i64 0).cells (ts.length + 1 - i) ++ Builtin.zeroCells (Value.int .i64 0).cells (gc - (ts.length + 1)) = big := ⟨_, rfl⟩
        have hzs : ∀ n, (Builtin.zeroCells (Value.int .i64 0).cells n).size = n := fun n => by simp [Builtin.zeroCells, Value.cells]
        have hbs : big.size = gc := by
          rw [← hbig]
          simp only [Array.size_append, hzs, List.size_toArray, List.length_take, List.length_map]
          omega
        have hbk : ∀ k, k < i → big[k]? = ((ts.map (Value.int .i64)))[k]? := fun k hk => by
          rw [← hbig, Array.getElem?_append_left (by simp; omega), Array.getElem?_append_left (by simp; omega)]
          rw [List.getElem?_toArray, List.getElem?_take, if_pos hk]
        rw [hbig]
        have hB0 : Blk ((w.alloc (.cells big (insRen.t 3))).drew) w.heap.size 3 big := (Blk.new w _ _).drew
        obtain ⟨c1, k1, k2, k3, k4⟩ := blk_setCells [Value.int .i64 x] i _ big hB0
        obtain ⟨c2, l1, l2, l3, l4⟩ := blk_setCells ((ts.map (Value.int .i64)).drop i) (i + 1) _ c1 k1.drew
        have hF0 := ((Fr.refl (fun k => w.heap.size ≤ k) w).alloc (.cells big (insRen.t 3))).drew
        have hF1 := (hF0.trans (k4.mono (fun k _ e => by omega))).drew.trans (l4.mono (S' := fun k => w.heap.size ≤ k) (fun k _ e => by omega))
        refine ⟨_, rfl, ?_, grown_of hF1 (fun k h e => by omega), .inr rfl⟩
        have hO := ownI_mk (zs := ts.take i ++ x :: ts.drop i) hB l1 (cap := gc) (by omega) (by omega) hgm (fun k y hy => ?_)
        · rw [hlen] at hO
          exact hO
        · rw [l3, k2, k3]
          have hkl := (List.getElem?_eq_some_iff.1 hy).1
          rw [hlen] at hkl
          simp only [List.length_drop, List.length_map, List.length_cons, List.length_nil]
          rcases Nat.lt_trichotomy k i with hk | rfl | hk
          · rw [if_neg (by omega), if_neg (by omega)]
            rw [List.getElem?_append_left (by simp; omega), List.getElem?_take, if_pos hk] at hy
            rw [hbk k hk, List.getElem?_map, hy]
            rfl
          · rw [if_neg (by omega), if_pos (by omega)]
            rw [List.getElem?_append_right (by simp; omega)] at hy
            simp at hy
            rw [Nat.min_eq_left (by omega)] at hy
            simp at hy
            rw [hy]
            simp
          · rw [if_pos (by omega)]
            rw [List.getElem?_append_right (by simp; omega)] at hy
            rw [List.length_take, Nat.min_eq_left (by omega), show k - i = (k - (i + 1)) + 1 by omega, List.getElem?_cons_succ] at hy
            rw [List.getElem?_drop, List.getElem?_map, ← List.getElem?_drop, hy]
            rfl

theorem holds_of {w : World} {b : Nat} {cs : Array Value} {zs : List Int} (hB : Blk w b 3 cs) (hc : ∀ (k : Nat) (x : Int), zs[k]? = some x → cs[k]? = some (Value.int .i64 x)) : Sort.Holds (Value.int .i64) w b 0 zs.toArray := fun j hj => by
  have hj' : j < zs.length := by simpa using hj
  refine ⟨?_, hB.frozen _⟩
  rw [Nat.zero_add, hB.cell, hc j zs[j] (List.getElem?_eq_getElem hj')]
  congr 2
  rw [getElem!_pos zs.toArray j hj]
  simp
theorem blk_putRow {w : World} {b : Nat} {cs : Array Value} {t : TypeId} (hB : Blk w b t cs) (off : Nat) (d : Array Int) : Blk (Sort.putRow (Value.int .i64) w b off d) b t (Sort.putCells (Value.int .i64) off d cs) := by
  unfold Blk at hB ⊢
  simp [Sort.putRow, Sort.mapBlock, Array.getElem?_modify, hB, Sort.onCells]
theorem fr_putRow (w : World) (b off : Nat) (d : Array Int) : Fr (fun k => k = b) w (Sort.putRow (Value.int .i64) w b off d) :=
  ⟨rfl, rfl, rfl, by simp [Sort.putRow, Sort.mapBlock], fun k _ hk => by simp [Sort.putRow, Sort.mapBlock, Array.getElem?_modify]; intro e; exact absurd e.symm hk⟩
theorem fr_ahead {S : Nat → Prop} (w : World) (q : Nat) : Fr S w (Sort.ahead w q) := ⟨rfl, rfl, rfl, Nat.le_refl _, fun _ _ _ => rfl⟩

set_option maxHeartbeats 2000000 in
theorem Delete_one (v : Value) (ts : List Int) (i B : Nat) (w : World) (h : OwnI w B v ts) (hl : ts.length ≤ 1000000) (hi : i < ts.length) :
    Calls Try.prog 72 #[v, .int .i64 i, .int .i64 ((i : Int) + 1)] w fun e w' => ∃ v', e = .returned v' ∧ OwnI w' B v' (ts.eraseIdx i) ∧ Fr (fun k => v.ownBlock = some k) w w' ∧ v'.ownBlock = v.ownBlock := by
  rcases ownI_open h with ⟨rfl, rfl⟩ | ⟨b, cap, cs, rfl, hb, hBk, hle, hm, hsz, hc⟩
  · simp at hi
  · have hD := Any.slices_Delete_int delLays b 0 cap i (i + 1) ts w (holds_of hBk hc) hle hm (by omega) (by omega)
    rw [show ((i + 1 : Nat) : Int) = (i : Int) + 1 by push_cast; rfl] at hD
    refine hD.mono ?_
    rintro e w' ⟨rfl, q, rfl⟩
    refine ⟨_, rfl, ?_, (fr_ahead w q).trans ((fr_putRow _ b 0 _).mono (fun k _ e => by rw [e]; rfl)), rfl⟩
    have hBq : Blk (Sort.ahead w q) b 3 cs := hBk
    have hB2 := blk_putRow hBq 0 (ts.take i ++ ts.drop (i + 1) ++ List.replicate (i + 1 - i) 0).toArray
    have hlen : (ts.eraseIdx i).length = ts.length - 1 := by rw [List.length_eraseIdx, if_pos hi]
    have hO := ownI_mk (zs := ts.eraseIdx i) hb hB2 (cap := cap) (by simp [Sort.putCells, hsz]) (by omega) hm (fun k y hy => ?_)
    · rw [hlen, show ts.length - 1 = ts.length - (i + 1 - i) by omega] at hO
      exact hO
    · have hk := (List.getElem?_eq_some_iff.1 hy).1
      rw [hlen] at hk
      rw [List.eraseIdx_eq_take_drop_succ] at hy
      unfold Sort.putCells
      rw [Array.getElem?_mapIdx, Array.getElem?_eq_getElem (by omega)]
      simp only [Option.map_some, Option.some.injEq]
      rw [if_pos (by simp; omega)]
      congr 1
      rw [Nat.sub_zero, getElem!_pos _ k (by simp; omega)]
      simp only [List.getElem_toArray]
      rw [List.getElem_append_left (by simp; omega)]
      have := (List.getElem?_eq_some_iff.1 hy).2
      exact this
end Go.Proofs.Ytmhjnbolngdijaa
