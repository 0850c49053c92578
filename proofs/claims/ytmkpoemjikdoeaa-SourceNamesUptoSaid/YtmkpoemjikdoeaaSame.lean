/- Rows of bytes: as strings, appended. -/
import Derived.Test.YtmkpoemjikdoeaaCopy
namespace Go.Proofs.Ytmkpoemjikdoeaa
open Go Go.RowKit

theorem strOf_inj {a b : List Int} (ha : Bytes a) (hb : Bytes b) (h : strOfNums a = strOfNums b) : a = b := by
  have h1 : (strOfNums a).data.toList = (strOfNums b).data.toList := by rw [h]
  rw [strOfNums_data, strOfNums_data] at h1
  have h2 : a.length = b.length := by have := congrArg List.length h1; simpa using this
  apply List.ext_getElem h2
  intro i h3 h4
  have h5 := congrArg (fun l => l[i]?) h1
  simp only [List.getElem?_map, List.getElem?_eq_getElem h3, List.getElem?_eq_getElem h4, Option.map_some, Option.some.injEq] at h5
  have k1 := ha.at_ h3
  have k2 := hb.at_ h4
  have h6 := congrArg UInt8.toNat h5
  simp only [UInt8.toNat_ofNat'] at h6
  rw [Nat.mod_eq_of_lt (by omega), Nat.mod_eq_of_lt (by omega)] at h6
  omega

theorem Row8.conv {w : World} {B : Nat} {sv : Value} {zs : List Int} (h : Row8 w B sv zs) : (convert 25 9 sv).run Try.prog w = .ok (.string (strOfNums zs)) w := by
  obtain ⟨A, cap, rfl, h1, h2, h3, h4⟩ := h
  rcases Nat.eq_zero_or_pos zs.length with h0 | h0
  · obtain rfl := List.eq_nil_of_length_eq_zero h0
    rcases A with _ | ad
    · rw [run_convert_bytes_nil w 25 5 Try.underlying25 Try.underlying5 _ _ 9 Try.underlying9]
      rfl
    · rw [run_convert_bytes_string w 25 9 5 _ _ _ Try.underlying25 Try.underlying5 Try.underlying9, run_bytesToString w ad _ _ [] (by
        have := run_loadCells_list (P := Try.prog) w ad [] (by simp)
        simpa using this)]
      rfl
  · obtain ⟨b, off, rfl, hb, hc⟩ := h4 h0
    exact run_convert_bytes_arg w 25 5 Try.underlying25 Try.underlying5 b off _ cap zs rfl (fun i hi => by
      rw [hc i zs[i] (List.getElem?_eq_getElem hi)]
      simp [List.getD, hi]) 9 Try.underlying9

theorem Own8.row {w : World} {base : Nat} {v : Value} {zs : List Int} (h : Own8 w base v zs) (hb : Bytes zs) (hl : zs.length ≤ 9223372036854775807) : Row8 w w.heap.size v zs := by
  obtain ⟨_, h2⟩ := h
  rcases h2 with ⟨rfl, hn⟩ | ⟨g, cap, cur, rfl, hg, hh, hle, hm, hsz, htk⟩
  · obtain rfl := List.eq_nil_of_length_eq_zero hn
    exact ⟨none, 0, rfl, Nat.le_refl _, by simp, hb, fun h => by simp at h⟩
  · refine ⟨some ⟨g, 0, none⟩, cap, rfl, hle, ⟨hm, hl⟩, hb, fun _ => ⟨g, 0, rfl, (Array.getElem?_eq_some_iff.1 hh).1, fun j x hx => ?_⟩⟩
    have hj : j < zs.length := (List.getElem?_eq_some_iff.1 hx).1
    rw [Nat.zero_add, cell_of_row w g j cur _ _ hh]
    have e : (zs.map (Value.int .u8))[j]? = some (.int .u8 x) := by rw [List.getElem?_map, hx]; rfl
    rw [← htk, List.getElem?_take, if_pos (by omega)] at e
    simpa using e

theorem Own8.fr {S : Nat → Prop} {w w' : World} {base : Nat} {v : Value} {zs : List Int} (h : Own8 w base v zs) (hf : Fr S w w') (hS : ∀ k, v.ownBlock = some k → ¬ S k) : Own8 w' base v zs := by
  refine ⟨h.1, ?_⟩
  rcases h.2 with hn | ⟨g, cap, cur, rfl, hb, hgg, rest⟩
  · exact .inl hn
  · refine .inr ⟨g, cap, cur, rfl, hb, ?_, rest⟩
    rw [hf.block g (Array.getElem?_eq_some_iff.1 hgg).1 (hS g rfl)]
    exact hgg
/-- A row that holds something is laid at the head of a block. -/
theorem Own8.form {w : World} {base : Nat} {v : Value} {zs : List Int} (h : Own8 w base v zs) (hn : 0 < zs.length) : ∃ g cap, v = .slice (some ⟨g, 0, none⟩) zs.length cap ∧ base ≤ g ∧ g < w.heap.size ∧ zs.length ≤ cap ∧ cap ≤ 9223372036854775807 := by
  rcases h.2 with ⟨_, h0⟩ | ⟨g, cap, cur, rfl, hb, hgg, hle, hm, _⟩
  · omega
  · exact ⟨g, cap, rfl, hb, (Array.getElem?_eq_some_iff.1 hgg).1, hle, hm⟩
theorem Own8.cell {w : World} {base g n cap : Nat} {zs : List Int} (h : Own8 w base (.slice (some ⟨g, 0, none⟩) n cap) zs) (hn : n = zs.length) {j : Nat} (hj : j < zs.length) : w.cell? ⟨g, j, none⟩ = some (.int .u8 zs[j]) := by
  subst hn
  have := World.ownsRow.cellAt h j (by omega)
  rw [this, List.getElem?_map, List.getElem?_eq_getElem hj]
  rfl
theorem Own8.cellE {w : World} {base g n cap : Nat} {zs : List Int} (h : Own8 w base (.slice (some ⟨g, 0, none⟩) n cap) zs) (hn : n = zs.length) {j : Nat} (hj : j < zs.length) : ∃ y, w.cell? ⟨g, j, none⟩ = some (.int .u8 y) := ⟨_, h.cell hn hj⟩
theorem Own8.frozen {w : World} {base g n cap : Nat} {zs : List Int} (h : Own8 w base (.slice (some ⟨g, 0, none⟩) n cap) zs) (hn : n = zs.length) (j : Nat) : w.frozen? ⟨g, j, none⟩ = false := by
  subst hn
  exact World.ownsRow.frozenAt h j
theorem Own8.stored {w : World} {base g n cap : Nat} {zs : List Int} (h : Own8 w base (.slice (some ⟨g, 0, none⟩) n cap) zs) (hn : n = zs.length) (j : Nat) (x : Int) : Own8 (w.setCell ⟨g, j, none⟩ (.int .u8 x)) base (.slice (some ⟨g, 0, none⟩) n cap) (zs.set j x) := by
  subst hn
  have := World.ownsRow.stored h j (.int .u8 x)
  unfold Own8
  rw [List.length_set, List.map_set]
  exact this.1

/-- The first bytes of a row. -/
theorem Row8.front {w : World} {B : Nat} {A : Option Addr} {n cap k : Nat} {zs : List Int} (h : Row8 w B (.slice A n cap) zs) (hk : k ≤ n) : Row8 w B (.slice A k cap) (zs.take k) := by
  obtain ⟨A', cap', e, h1, h2, h3, h4⟩ := h
  injection e with e1 e2 e3
  subst e1 e2 e3
  have hl : (zs.take k).length = k := by simp; omega
  refine ⟨A, cap, by rw [hl], by omega, ⟨h2.1, by omega⟩, h3.take _, fun hp => ?_⟩
  obtain ⟨b, off, e, hb, hc⟩ := h4 (by omega)
  refine ⟨b, off, e, hb, fun j x hx => hc j x ?_⟩
  rw [List.getElem?_take] at hx
  split at hx
  · exact hx
  · cases hx

/-- A row of bytes that has just been laid. -/
theorem Row8.new (w : World) (t : TypeId) (zs : List Int) (hz : Bytes zs) (hl : zs.length ≤ 9223372036854775807) : Row8 (w.alloc (.cells (cells8 zs) t)) (w.heap.size + 1) (.slice (some ⟨w.heap.size, 0, none⟩) zs.length zs.length) zs :=
  ⟨_, _, rfl, Nat.le_refl _, ⟨by omega, hl⟩, hz, fun _ => ⟨_, 0, rfl, Nat.lt_succ_self _, fun j x hx => by rw [(Blk.new w t (cells8 zs)).cell, cells8_at, Nat.zero_add, hx]; rfl⟩⟩

/-- An append of bytes onto a row of the call's own, the source nil, empty or not. -/
theorem run_append8 {w : World} {base B : Nat} {v sv : Value} {xs zs : List Int} (hown : Own8 w base v xs) (hr : Row8 w B sv zs) (hbase : base ≤ w.heap.size) (hlen : xs.length + zs.length ≤ 140737488351232) :
    ∃ v' w', (Builtin.append_ #[25, 25] 25 #[v, sv]).run Try.prog w = .ok v' w' ∧ Own8 w' base v' (xs ++ zs) ∧ w.grownBy w' v.ownBlock ∧ (v'.ownBlock = v.ownBlock ∨ v'.ownBlock = some w.heap.size) := by
  obtain ⟨i0, hi, hz0, hz1, hz2⟩ := info_parts info8
  obtain ⟨A, cap, rfl, h1, h2, h3, h4⟩ := hr
  rcases A with _ | ad
  · have h0 : zs = [] := by
      rcases Nat.eq_zero_or_pos zs.length with h | h
      · exact List.eq_nil_of_length_eq_zero h
      · obtain ⟨_, _, e, _⟩ := h4 h; cases e
    subst h0
    refine ⟨v, w, ?_, by simpa using hown, World.grownBy.refl w _, .inl rfl⟩
    have hown' := hown
    rcases hown.2 with ⟨rfl, hn⟩ | ⟨g, cap', cur, rfl, _, _, hnc, _⟩
    · have hx : xs = [] := List.eq_nil_of_length_eq_zero hn
      subst hx
      simp [Builtin.append_, run_underlying Try.underlying25, sizeOf, typeInfo, hi, Builtin.lenOf, Builtin.firstCells]
    · simp [Builtin.append_, run_underlying Try.underlying25, sizeOf, typeInfo, hi, Builtin.lenOf, Builtin.firstCells, hnc, storeCells]
  · obtain ⟨v', w', hrun, k2, k3, _, k5⟩ := run_append_own_at (P := Try.prog) w base 25 25 5 i0 (.int .u8 0) 1 1 Try.underlying25 hi hz0 hz1 hz2 rfl (by decide) v xs.length (xs.map (Value.int .u8)) hown ad zs.length cap (zs.map (Value.int .u8)) (by simp)
      (fun j u hu => by
        rw [List.getElem?_map] at hu
        obtain ⟨x, hx, rfl⟩ := Option.map_eq_some_iff.1 hu
        have hj : j < zs.length := (List.getElem?_eq_some_iff.1 hx).1
        obtain ⟨b, off, e, hb, hc⟩ := h4 (by omega)
        injection e with e
        subst e
        have := hc j x hx
        unfold Addr.add
        by_cases h : j = 0
        · simpa [h] using this
        · simpa [h] using this)
      (fun u hu => by
        obtain ⟨x, _, rfl⟩ := List.mem_map.1 hu
        rfl) (by unfold maxLen; omega) (by omega) hbase
    refine ⟨v', w', hrun, ?_, k3, k5⟩
    unfold Own8
    rw [List.length_append, List.map_append]
    exact k2

theorem wpList_append8 {w : World} {ops : Array Oper} {rest : List Oper} {o : Oper} {a : Act} {Q : Exit → Act → World → Prop} (hgd : o.guard = none) (s x : Operand)
    (ho : o.op = .call { callee := .builtin .append, args := #[s, x], argTypes := #[25, 25] }) (hty : o.type = 25)
    {base B : Nat} {v sv : Value} {xs zs : List Int} (hs : a.eval s = v) (hx : a.eval x = sv) (hown : Own8 w base v xs) (hr : Row8 w B sv zs) (hbase : base ≤ w.heap.size) (hlen : xs.length + zs.length ≤ 140737488351232)
    (h : ∀ v' w', Own8 w' base v' (xs ++ zs) → w.grownBy w' v.ownBlock → (v'.ownBlock = v.ownBlock ∨ v'.ownBlock = some w.heap.size) → wpList Try.prog ops Q rest (a.put o.dst v') w') : wpList Try.prog ops Q (o :: rest) a w := by
  obtain ⟨v', w', hrun, h2, h3, h4⟩ := run_append8 hown hr hbase hlen
  refine wpList_plain hgd fun K hK => ?_
  unfold Oper.wp execOp
  simp only [ho, hty, resolve, invoke, builtin, Sem.run_bind, Sem.run_pure, Result.andThen_ok, List.map_toArray, List.map_cons, List.map_nil, hs, hx, hrun]
  exact hK _ _ (h v' w' h2 h3 h4)

end Go.Proofs.Ytmkpoemjikdoeaa
