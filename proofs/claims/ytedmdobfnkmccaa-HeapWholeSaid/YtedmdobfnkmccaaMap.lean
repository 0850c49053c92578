/- A map with keys of type int, known by what it holds at each key. -/
import Derived.Test.YtedmdobfnkmccaaLib
import Derived.RangeFuncRecord
import Derived.MapKept
namespace Go.Proofs.Ytedmdobfnkmccaa
open Go Go.RowKit

/-- The entries are of int keys, no key twice. -/
def IntKeys (E : List MapEntry) : Prop := (∀ e ∈ E, ∃ k, e.key = .int .i64 k) ∧ (E.map (·.key)).Nodup
/-- Block m is a map that holds f. -/
def MapI (w : World) (m : Nat) (f : Int → Option Value) : Prop :=
  ∃ E clock, w.heap[m]? = some (.map E clock) ∧ IntKeys E.toList ∧ ∀ k v, f k = some v ↔ ∃ e ∈ E.toList, e.key = .int .i64 k ∧ e.val = v

theorem MapI.lt {w : World} {m : Nat} {f : Int → Option Value} (h : MapI w m f) : m < w.heap.size := by
  obtain ⟨E, c, h, _⟩ := h
  exact (Array.getElem?_eq_some_iff.1 h).1
theorem MapI.block {w w' : World} {m : Nat} {f : Int → Option Value} (h : MapI w m f) (hb : w'.heap[m]? = w.heap[m]?) : MapI w' m f := by
  obtain ⟨E, c, h, r⟩ := h
  exact ⟨E, c, hb.trans h, r⟩
theorem MapI.fr {S : Nat → Prop} {w w' : World} {m : Nat} {f : Int → Option Value} (h : MapI w m f) (hf : Fr S w w') (hm : ¬ S m) : MapI w' m f := h.block (hf.block m h.lt hm)
theorem MapI.alloc {w : World} {m : Nat} {f : Int → Option Value} (h : MapI w m f) (o : Obj) : MapI (w.alloc o) m f := h.block (Below.heap_alloc w o m h.lt)
theorem MapI.drewN {w : World} {m : Nat} {f : Int → Option Value} (h : MapI w m f) (n : Nat) : MapI (w.drewN n) m f := h
theorem MapI.setCell {w : World} {m : Nat} {f : Int → Option Value} (h : MapI w m f) {a : Addr} (ha : m ≠ a.block) (v : Value) : MapI (w.setCell a v) m f := h.block (Below.heap_setCell w a v m ha)
theorem MapI.made (w : World) : MapI (w.alloc (.map #[] 0)) w.heap.size (fun _ => none) :=
  ⟨#[], 0, heap_alloc_new w _, ⟨fun e he => by simp at he, by simp⟩, fun k v => by simp⟩
theorem MapI.ne_ {w : World} {m g : Nat} {f : Int → Option Value} {t : TypeId} {cs : Array Value} (h : MapI w m f) (hb : Blk w g t cs) : m ≠ g := by
  rintro rfl
  obtain ⟨E, c, h, _⟩ := h
  unfold Blk at hb
  rw [h] at hb
  cases hb

theorem findNow_none {k : Int} : ∀ (E : List MapEntry) (i : Nat), (∀ e ∈ E, ∃ j, e.key = .int .i64 j ∧ j ≠ k) → Instr.findNow (.int .i64) (.int .i64 k) E i = some none
  | [], _, _ => rfl
  | e :: E, i, h => by
    obtain ⟨j, hj, hne⟩ := h e (by simp)
    have e1 : Instr.sameNow (.int .i64) (.int .i64 k) e.key = some false := by
      rw [hj]
      simp [Instr.sameNow]
      exact fun x => hne x.symm
    simp only [Instr.findNow, e1]
    exact findNow_none E _ fun e' he' => h e' (by simp [he'])

theorem findNow_some {k : Int} : ∀ (E : List MapEntry) (i p : Nat) (e : MapEntry), (∀ e ∈ E, ∃ j, e.key = .int .i64 j) → (E.map (·.key)).Nodup → E[p]? = some e → e.key = .int .i64 k → Instr.findNow (.int .i64) (.int .i64 k) E i = some (some (i + p, e.val))
  | [], _, p, e, _, _, h, _ => by simp at h
  | e0 :: E, i, 0, e, _, _, h, hk => by
    simp at h
    subst h
    have e1 : Instr.sameNow (.int .i64) (.int .i64 k) e0.key = some true := by rw [hk]; simp [Instr.sameNow]
    simp [Instr.findNow, e1]
  | e0 :: E, i, p + 1, e, hi, hn, h, hk => by
    obtain ⟨j, hj⟩ := hi e0 (by simp)
    simp only [List.map_cons, List.nodup_cons] at hn
    have he : e ∈ E := List.mem_of_getElem? (by simpa using h)
    have hne : j ≠ k := fun x => hn.1 (by rw [hj, x, ← hk]; exact List.mem_map.2 ⟨e, he, rfl⟩)
    have e1 : Instr.sameNow (.int .i64) (.int .i64 k) e0.key = some false := by
      rw [hj]
      simp [Instr.sameNow]
      exact fun x => hne x.symm
    simp only [Instr.findNow, e1]
    rw [findNow_some E (i + 1) p e (fun e' he' => hi e' (by simp [he'])) hn.2 (by simpa using h) hk]
    congr 2
    congr 1
    omega

section
variable {P : Program} {K T V : TypeId}
theorem run_checkKey_int (w : World) (hK : P.underlying K = some (.int .i64)) (b : Bool) (k : Int) : (Instr.checkKey b 10000 K (.int .i64 k)).run P w = .ok () w :=
  MapKept.run_checkKey hK (by simp [MapKept.IsKey]) b 9999

theorem run_findKey_none {w : World} {k : Int} {E : List MapEntry} (hK : P.underlying K = some (.int .i64)) (h : ∀ e ∈ E, ∃ j, e.key = .int .i64 j ∧ j ≠ k) : (Instr.findKey K (.int .i64 k) E).run P w = .ok none w := by
  simp [Instr.findKey, run_underlying hK, findNow_none E 0 h]
theorem run_findKey_some {w : World} {k : Int} {E : List MapEntry} {p : Nat} {e : MapEntry} (hK : P.underlying K = some (.int .i64)) (h : IntKeys E) (he : E[p]? = some e) (hk : e.key = .int .i64 k) : (Instr.findKey K (.int .i64 k) E).run P w = .ok (some (p, e.val)) w := by
  simp [Instr.findKey, run_underlying hK, findNow_some E 0 p e h.1 h.2 he hk]

theorem getObj_map {w : World} {m : Nat} {E : Array MapEntry} {c : Nat} (h : w.heap[m]? = some (.map E c)) : (getObj m).run P w = .ok (.map E c) w := by
  simp [getObj, Sem.run, h]
theorem setObj_map {w : World} {m : Nat} {E : Array MapEntry} {c : Nat} (o : Obj) (h : w.heap[m]? = some (.map E c)) : (setObj m o).run P w = .ok () (w.putObj m o) := by
  simp [setObj, Sem.run, h, World.putObj]

theorem fr_putObj (w : World) (m : Nat) (o : Obj) : Fr1 m w (w.putObj m o) := ⟨rfl, rfl, rfl, by simp, fun k _ hk => World.putObj_heap_other hk⟩

/-- m[k] -/
theorem run_lookupI {w : World} {m : Nat} {f : Int → Option Value} {z : Value} (hT : P.underlying T = some (.map K V)) (hK : P.underlying K = some (.int .i64)) (h : MapI w m f) (hz : ∀ W : World, (zeroValue V).run P W = .ok z W) (k : Int) :
    (Instr.lookup T (.map (some m)) (.int .i64 k) false).run P w = .ok ((f k).getD z) w := by
  obtain ⟨E, c, hm, hk, hf⟩ := h
  cases hfk : f k with
  | none =>
    have hn : ∀ e ∈ E.toList, ∃ j, e.key = .int .i64 j ∧ j ≠ k := fun e he => by
      obtain ⟨j, hj⟩ := hk.1 e he
      refine ⟨j, hj, fun x => ?_⟩
      subst x
      have := (hf j e.val).2 ⟨e, he, hj, rfl⟩
      rw [hfk] at this
      cases this
    simp [Instr.lookup, run_underlying hT, getObj_map hm, run_checkKey_int _ hK, run_findKey_none hK hn, hz]
  | some v =>
    obtain ⟨e, he, hek, hev⟩ := (hf k v).1 hfk
    obtain ⟨p, hp⟩ := List.getElem?_of_mem he
    simp [Instr.lookup, run_underlying hT, getObj_map hm, run_checkKey_int _ hK, run_findKey_some hK hk hp hek, hev]

/-- m[k] = v -/
theorem run_updateI {w : World} {m : Nat} {f : Int → Option Value} (hT : P.underlying T = some (.map K V)) (hK : P.underlying K = some (.int .i64)) (h : MapI w m f) (k : Int) (v : Value) :
    ∃ w', (Instr.mapUpdate T (.map (some m)) (.int .i64 k) v).run P w = .ok () w' ∧ Fr1 m w w' ∧ w'.heap.size = w.heap.size ∧ MapI w' m (fun j => if j = k then some v else f j) := by
  obtain ⟨E, c, hm, hk, hf⟩ := h
  have hlt : m < w.heap.size := (Array.getElem?_eq_some_iff.1 hm).1
  cases hfk : f k with
  | none =>
    have hn : ∀ e ∈ E.toList, ∃ j, e.key = .int .i64 j ∧ j ≠ k := fun e he => by
      obtain ⟨j, hj⟩ := hk.1 e he
      refine ⟨j, hj, fun x => ?_⟩
      subst x
      have := (hf j e.val).2 ⟨e, he, hj, rfl⟩
      rw [hfk] at this
      cases this
    refine ⟨w.putObj m (.map (E.push { key := .int .i64 k, val := v, born := c }) (c + 1)), ?_, fr_putObj _ _ _, by simp, _, _, World.putObj_heap_same hlt, ⟨?_, ?_⟩, ?_⟩
    · simp [Instr.mapUpdate, run_underlying hT, getObj_map hm, run_checkKey_int _ hK, run_findKey_none hK hn, setObj_map _ hm]
    · intro e he
      rw [Array.toList_push, List.mem_append] at he
      rcases he with he | he
      · exact hk.1 e he
      · simp at he; subst he; exact ⟨k, rfl⟩
    · rw [Array.toList_push, List.map_append, List.nodup_append]
      refine ⟨hk.2, by simp, fun a ha b hb => ?_⟩
      simp at hb
      subst hb
      obtain ⟨e, he, rfl⟩ := List.mem_map.1 ha
      obtain ⟨j, hj, hne⟩ := hn e he
      rw [hj]
      intro x
      injection x with _ x
      exact hne x
    · intro j u
      dsimp only
      rw [Array.toList_push]
      by_cases hj : j = k
      · subst hj
        rw [if_pos rfl]
        constructor
        · intro x
          injection x with x
          exact ⟨{ key := .int .i64 j, val := v, born := c }, List.mem_append_right _ (by simp), rfl, x⟩
        · rintro ⟨e, he, h1, h2⟩
          rcases List.mem_append.1 he with he | he
          · obtain ⟨j', hj', hne⟩ := hn e he
            rw [hj'] at h1
            injection h1 with _ h1
            exact absurd h1 hne
          · simp at he; subst he; rw [← h2]
      · rw [if_neg hj, hf]
        constructor
        · rintro ⟨e, he, h⟩
          exact ⟨e, List.mem_append_left _ he, h⟩
        · rintro ⟨e, he, h1, h2⟩
          rcases List.mem_append.1 he with he | he
          · exact ⟨e, he, h1, h2⟩
          · simp at he; subst he
            injection h1 with _ h1
            exact absurd h1.symm hj
  | some v0 =>
    obtain ⟨e, he, hek, hev⟩ := (hf k v0).1 hfk
    obtain ⟨p, hp⟩ := List.getElem?_of_mem he
    have hpE : E[p]? = some e := by rw [← Array.getElem?_toList]; exact hp
    have hpl : p < E.size := (Array.getElem?_eq_some_iff.1 hpE).1
    have hmod : (E.modify p fun x => { x with key := .int .i64 k, val := v }).toList = E.toList.set p { e with key := .int .i64 k, val := v } := by
      apply List.ext_getElem?
      intro i
      rw [Array.getElem?_toList, Array.getElem?_modify, List.getElem?_set]
      by_cases hi : p = i
      · subst hi; rw [if_pos rfl, if_pos rfl, hpE]; simp [hpl]
      · rw [if_neg hi, if_neg hi, Array.getElem?_toList]
    have hkeys : (E.toList.set p { e with key := .int .i64 k, val := v }).map (·.key) = E.toList.map (·.key) := by
      apply List.ext_getElem?
      intro i
      rw [List.getElem?_map, List.getElem?_map, List.getElem?_set]
      by_cases hi : p = i
      · subst hi; rw [if_pos rfl, hp]; simp [hpl, hek]
      · rw [if_neg hi]
    refine ⟨w.putObj m (.map (E.modify p fun x => { x with key := .int .i64 k, val := v }) c), ?_, fr_putObj _ _ _, by simp, _, _, World.putObj_heap_same hlt, ⟨?_, ?_⟩, ?_⟩
    · have hs : (Instr.keyThatStays (.int .i64 k) (.int .i64 k)).run P w = .ok (.int .i64 k) w := by
        show (if Instr.sameBits 10000 (.int .i64 k) (.int .i64 k) then pure (.int .i64 k) else _ : Sem Value).run P w = _
        rw [if_pos (by simp [Instr.sameBits])]
        rfl
      have hgk : ((E[p]?).map (·.key)).getD (.int .i64 k) = .int .i64 k := by rw [hpE]; simp [hek]
      simp only [Instr.mapUpdate, Sem.run_bind, run_underlying hT, Result.andThen_ok, getObj_map hm, run_checkKey_int _ hK, run_findKey_some hK hk hp hek, hgk, hs, setObj_map _ hm]
    · rw [hmod]
      intro e' he'
      rcases List.mem_or_eq_of_mem_set he' with h | rfl
      · exact hk.1 e' h
      · exact ⟨k, rfl⟩
    · rw [hmod, hkeys]; exact hk.2
    · intro j u
      dsimp only
      rw [hmod]
      by_cases hj : j = k
      · subst hj
        rw [if_pos rfl]
        constructor
        · intro x
          injection x with x
          subst x
          exact ⟨{ e with key := .int .i64 j, val := v }, List.mem_of_getElem? (i := p) (by rw [List.getElem?_set, if_pos rfl, if_pos (by simpa using hpl)]), rfl, rfl⟩
        · rintro ⟨e', he', h1, h2⟩
          obtain ⟨q, hq⟩ := List.getElem?_of_mem he'
          rw [List.getElem?_set] at hq
          by_cases hqp : p = q
          · subst hqp
            rw [if_pos rfl] at hq
            split at hq
            · injection hq with hq; subst hq; rw [← h2]
            · cases hq
          · rw [if_neg hqp] at hq
            have hnd := hk.2
            exfalso
            have e1 : (E.toList.map (·.key))[p]? = some (.int .i64 j) := by rw [List.getElem?_map, hp]; simp [hek]
            have e2 : (E.toList.map (·.key))[q]? = some (.int .i64 j) := by rw [List.getElem?_map, hq]; simp [h1]
            have hql : q < (E.toList.map (·.key)).length := (List.getElem?_eq_some_iff.1 e2).1
            exact hqp (((List.getElem?_inj (by simpa using hpl) hnd).1 (e1.trans e2.symm)))
      · rw [if_neg hj, hf]
        constructor
        · rintro ⟨e', he', h1, h2⟩
          obtain ⟨q, hq⟩ := List.getElem?_of_mem he'
          refine ⟨e', ?_, h1, h2⟩
          have hqp : p ≠ q := fun x => by
            subst x
            rw [hp] at hq
            injection hq with hq
            subst hq
            rw [hek] at h1
            injection h1 with _ h1
            exact hj h1.symm
          exact List.mem_of_getElem? (by rw [List.getElem?_set, if_neg hqp]; exact hq)
        · rintro ⟨e', he', h1, h2⟩
          rcases List.mem_or_eq_of_mem_set he' with h | rfl
          · exact ⟨e', h, h1, h2⟩
          · injection h1 with _ h1
            exact absurd h1.symm hj

/-- delete(m, k) -/
theorem run_deleteI {w : World} {m : Nat} {f : Int → Option Value} (ty KT : TypeId) (hT : P.underlying T = some (.map K V)) (hK : P.underlying K = some (.int .i64)) (h : MapI w m f) (k : Int) :
    ∃ w', (Builtin.delete_ #[T, KT] ty #[.map (some m), .int .i64 k]).run P w = .ok (.tuple #[]) w' ∧ Fr1 m w w' ∧ w'.heap.size = w.heap.size ∧ MapI w' m (fun j => if j = k then none else f j) := by
  obtain ⟨E, c, hm, hk, hf⟩ := h
  have hlt : m < w.heap.size := (Array.getElem?_eq_some_iff.1 hm).1
  cases hfk : f k with
  | none =>
    have hn : ∀ e ∈ E.toList, ∃ j, e.key = .int .i64 j ∧ j ≠ k := fun e he => by
      obtain ⟨j, hj⟩ := hk.1 e he
      refine ⟨j, hj, fun x => ?_⟩
      subst x
      have := (hf j e.val).2 ⟨e, he, hj, rfl⟩
      rw [hfk] at this
      cases this
    refine ⟨w.putObj m (.map E c), ?_, fr_putObj _ _ _, by simp, _, _, World.putObj_heap_same hlt, hk, fun j u => ?_⟩
    · simp [Builtin.delete_, run_underlying hT, getObj_map hm, run_checkKey_int _ hK, run_findKey_none hK hn, setObj_map _ hm]
    · dsimp only
      by_cases hj : j = k
      · subst hj
        rw [if_pos rfl]
        constructor
        · intro x; cases x
        · rintro h; have := (hf j u).2 h; rw [hfk] at this; cases this
      · rw [if_neg hj, hf]
  | some v0 =>
    obtain ⟨e, he, hek, hev⟩ := (hf k v0).1 hfk
    obtain ⟨p, hp⟩ := List.getElem?_of_mem he
    have hpE : E[p]? = some e := by rw [← Array.getElem?_toList]; exact hp
    have hpl : p < E.size := (Array.getElem?_eq_some_iff.1 hpE).1
    have hdel : (E.eraseIdxIfInBounds p).toList = E.toList.eraseIdx p := by
      rw [Array.eraseIdxIfInBounds, dif_pos hpl, Array.toList_eraseIdx]
    have hsub : (E.toList.eraseIdx p).Sublist E.toList := List.eraseIdx_sublist _ _
    refine ⟨w.putObj m (.map (E.eraseIdxIfInBounds p) c), ?_, fr_putObj _ _ _, by simp, _, _, World.putObj_heap_same hlt, ⟨?_, ?_⟩, ?_⟩
    · simp [Builtin.delete_, run_underlying hT, getObj_map hm, run_checkKey_int _ hK, run_findKey_some hK hk hp hek, setObj_map _ hm]
    · rw [hdel]
      exact fun e' he' => hk.1 e' (hsub.subset he')
    · rw [hdel]
      exact hk.2.sublist (hsub.map _)
    · intro j u
      dsimp only
      rw [hdel]
      have hmem : ∀ e', e' ∈ E.toList.eraseIdx p ↔ ∃ q, q ≠ p ∧ E.toList[q]? = some e' := fun e' => by
        rw [List.mem_eraseIdx_iff_getElem?]
      by_cases hj : j = k
      · subst hj
        rw [if_pos rfl]
        constructor
        · intro x; cases x
        · rintro ⟨e', he', h1, h2⟩
          obtain ⟨q, hqp, hq⟩ := (hmem e').1 he'
          exfalso
          have e1 : (E.toList.map (·.key))[p]? = some (.int .i64 j) := by rw [List.getElem?_map, hp]; simp [hek]
          have e2 : (E.toList.map (·.key))[q]? = some (.int .i64 j) := by rw [List.getElem?_map, hq]; simp [h1]
          exact hqp (((List.getElem?_inj (by simpa using hpl) hk.2).1 (e1.trans e2.symm))).symm
      · rw [if_neg hj, hf]
        constructor
        · rintro ⟨e', he', h1, h2⟩
          obtain ⟨q, hq⟩ := List.getElem?_of_mem he'
          refine ⟨e', (hmem e').2 ⟨q, fun x => ?_, hq⟩, h1, h2⟩
          subst x
          rw [hp] at hq
          injection hq with hq
          subst hq
          rw [hek] at h1
          injection h1 with _ h1
          exact hj h1.symm
        · rintro ⟨e', he', h1, h2⟩
          exact ⟨e', hsub.subset he', h1, h2⟩
end

end Go.Proofs.Ytedmdobfnkmccaa
