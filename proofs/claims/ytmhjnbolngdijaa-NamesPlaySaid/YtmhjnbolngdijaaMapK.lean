/- A map with keys of any one kind, known by what it holds at each key. -/
import Derived.Test.YtmhjnbolngdijaaLib
import Derived.RangeFuncRecord
import Derived.MapKept
namespace Go.Proofs.Ytmhjnbolngdijaa
open Go Go.RowKit
set_option linter.unusedVariables false

/-- The entries are of keys of this kind, no key twice. -/
def EncKeys {κ : Type} (enc : κ → Value) (E : List MapEntry) : Prop := (∀ e ∈ E, ∃ k, e.key = enc k) ∧ (E.map (·.key)).Nodup
/-- What is needed of a kind of keys. -/
structure KeyLaws (P : Program) (K : TypeId) {κ : Type} (enc : κ → Value) : Prop where
  inj : ∀ a b, enc a = enc b → a = b
  check : ∀ (w : World) (b : Bool) (k : κ), (Instr.checkKey b 10000 K (enc k)).run P w = .ok () w
  none_ : ∀ (w : World) (k : κ) (E : List MapEntry), (∀ e ∈ E, ∃ j, e.key = enc j ∧ j ≠ k) → (Instr.findKey K (enc k) E).run P w = .ok none w
  some_ : ∀ (w : World) (k : κ) (E : List MapEntry) (p : Nat) (e : MapEntry), EncKeys enc E → E[p]? = some e → e.key = enc k → (Instr.findKey K (enc k) E).run P w = .ok (some (p, e.val)) w
  stays : ∀ (w : World) (k : κ), (Instr.keyThatStays (enc k) (enc k)).run P w = .ok (enc k) w

section
variable {κ : Type} {enc : κ → Value}
/-- Block m is a map that holds f. -/
def MapK (enc : κ → Value) (w : World) (m : Nat) (f : κ → Option Value) : Prop :=
  ∃ E clock, w.heap[m]? = some (.map E clock) ∧ EncKeys enc E.toList ∧ ∀ k v, f k = some v ↔ ∃ e ∈ E.toList, e.key = enc k ∧ e.val = v

theorem MapK.lt {w : World} {m : Nat} {f : κ → Option Value} (h : MapK enc w m f) : m < w.heap.size := by
  obtain ⟨E, c, h, _⟩ := h
  exact (Array.getElem?_eq_some_iff.1 h).1
theorem MapK.block {w w' : World} {m : Nat} {f : κ → Option Value} (h : MapK enc w m f) (hb : w'.heap[m]? = w.heap[m]?) : MapK enc w' m f := by
  obtain ⟨E, c, h, r⟩ := h
  exact ⟨E, c, hb.trans h, r⟩
theorem MapK.fr {S : Nat → Prop} {w w' : World} {m : Nat} {f : κ → Option Value} (h : MapK enc w m f) (hf : Fr S w w') (hm : ¬ S m) : MapK enc w' m f := h.block (hf.block m h.lt hm)
theorem MapK.alloc {w : World} {m : Nat} {f : κ → Option Value} (h : MapK enc w m f) (o : Obj) : MapK enc (w.alloc o) m f := h.block (Below.heap_alloc w o m h.lt)
theorem MapK.setCell {w : World} {m : Nat} {f : κ → Option Value} (h : MapK enc w m f) {a : Addr} (ha : m ≠ a.block) (v : Value) : MapK enc (w.setCell a v) m f := h.block (Below.heap_setCell w a v m ha)
theorem MapK.made (w : World) : MapK enc (w.alloc (.map #[] 0)) w.heap.size (fun _ => none) :=
  ⟨#[], 0, heap_alloc_new w _, ⟨fun e he => by simp at he, by simp⟩, fun k v => by simp⟩
theorem MapK.ne_ {w : World} {m g : Nat} {f : κ → Option Value} {t : TypeId} {cs : Array Value} (h : MapK enc w m f) (hb : Blk w g t cs) : m ≠ g := by
  rintro rfl
  obtain ⟨E, c, h, _⟩ := h
  unfold Blk at hb
  rw [h] at hb
  cases hb
theorem MapK.congr {w : World} {m : Nat} {f g : κ → Option Value} (h : MapK enc w m f) (hfg : ∀ k, f k = g k) : MapK enc w m g := by
  rw [← funext hfg]; exact h

variable {P : Program} {K T V : TypeId}
theorem kgetObj_map {w : World} {m : Nat} {E : Array MapEntry} {c : Nat} (h : w.heap[m]? = some (.map E c)) : (getObj m).run P w = .ok (.map E c) w := by
  simp [getObj, Sem.run, h]
theorem ksetObj_map {w : World} {m : Nat} {E : Array MapEntry} {c : Nat} (o : Obj) (h : w.heap[m]? = some (.map E c)) : (setObj m o).run P w = .ok () (w.putObj m o) := by
  simp [setObj, Sem.run, h, World.putObj]
theorem kfr_putObj (w : World) (m : Nat) (o : Obj) : Fr1 m w (w.putObj m o) := ⟨rfl, rfl, rfl, by simp, fun k _ hk => World.putObj_heap_other hk⟩

theorem mapK_none {w : World} {E : Array MapEntry} {f : κ → Option Value} (hk : EncKeys enc E.toList) (hf : ∀ k v, f k = some v ↔ ∃ e ∈ E.toList, e.key = enc k ∧ e.val = v) {k : κ} (hfk : f k = none) : ∀ e ∈ E.toList, ∃ j, e.key = enc j ∧ j ≠ k := fun e he => by
  obtain ⟨j, hj⟩ := hk.1 e he
  refine ⟨j, hj, fun x => ?_⟩
  subst x
  have := (hf j e.val).2 ⟨e, he, hj, rfl⟩
  rw [hfk] at this
  cases this

/-- m[k] -/
theorem run_lookupK {w : World} {m : Nat} {f : κ → Option Value} {z : Value} (HK : KeyLaws P K enc) (hT : P.underlying T = some (.map K V)) (h : MapK enc w m f) (hz : ∀ W : World, (zeroValue V).run P W = .ok z W) (k : κ) :
    (Instr.lookup T (.map (some m)) (enc k) false).run P w = .ok ((f k).getD z) w := by
  obtain ⟨E, c, hm, hk, hf⟩ := h
  cases hfk : f k with
  | none => simp [Instr.lookup, run_underlying hT, kgetObj_map hm, HK.check, HK.none_ w k _ (mapK_none (w := w) hk hf hfk), hz]
  | some v =>
    obtain ⟨e, he, hek, hev⟩ := (hf k v).1 hfk
    obtain ⟨p, hp⟩ := List.getElem?_of_mem he
    simp [Instr.lookup, run_underlying hT, kgetObj_map hm, HK.check, HK.some_ w k _ p e hk hp hek, hev]

/-- m[k] = v -/
theorem run_updateK [DecidableEq κ] {w : World} {m : Nat} {f : κ → Option Value} (HK : KeyLaws P K enc) (hT : P.underlying T = some (.map K V)) (h : MapK enc w m f) (k : κ) (v : Value) :
    ∃ w', (Instr.mapUpdate T (.map (some m)) (enc k) v).run P w = .ok () w' ∧ Fr1 m w w' ∧ w'.heap.size = w.heap.size ∧ MapK enc w' m (fun j => if j = k then some v else f j) := by
  obtain ⟨E, c, hm, hk, hf⟩ := h
  have hlt : m < w.heap.size := (Array.getElem?_eq_some_iff.1 hm).1
  cases hfk : f k with
  | none =>
    have hn := mapK_none (w := w) hk hf hfk
    refine ⟨w.putObj m (.map (E.push { key := enc k, val := v, born := c }) (c + 1)), ?_, kfr_putObj _ _ _, by simp, _, _, World.putObj_heap_same hlt, ⟨?_, ?_⟩, ?_⟩
    · simp [Instr.mapUpdate, run_underlying hT, kgetObj_map hm, HK.check, HK.none_ w k _ hn, ksetObj_map _ hm]
    · intro e he
      rw [Array.toList_push, List.mem_append] at he
      rcases he with he | he
      · exact hk.1 e he
      · simp at he; subst he; exact ⟨k, rfl⟩
    · rw [Array.toList_push, List.map_append, List.nodup_append]
      refine ⟨hk.2, by simp, fun a ha b hb => ?_⟩
      simp at hb
      subst hb
      obtain ⟨e, he, rfl⟩ := List.mem_map.1 ha
      obtain ⟨j, hj, hne⟩ := hn e he
      rw [hj]
      intro x
      exact hne (HK.inj _ _ x)
    · intro j u
      dsimp only
      rw [Array.toList_push]
      by_cases hj : j = k
      · subst hj
        rw [if_pos rfl]
        constructor
        · intro x
          injection x with x
          exact ⟨{ key := enc j, val := v, born := c }, List.mem_append_right _ (by simp), rfl, x⟩
        · rintro ⟨e, he, h1, h2⟩
          rcases List.mem_append.1 he with he | he
          · obtain ⟨j', hj', hne⟩ := hn e he
            rw [hj'] at h1
            exact absurd (HK.inj _ _ h1) hne
          · simp at he; subst he; rw [← h2]
      · rw [if_neg hj, hf]
        constructor
        · rintro ⟨e, he, h⟩
          exact ⟨e, List.mem_append_left _ he, h⟩
        · rintro ⟨e, he, h1, h2⟩
          rcases List.mem_append.1 he with he | he
          · exact ⟨e, he, h1, h2⟩
          · simp at he; subst he
            exact absurd (HK.inj _ _ h1).symm hj
  | some v0 =>
    obtain ⟨e, he, hek, hev⟩ := (hf k v0).1 hfk
    obtain ⟨p, hp⟩ := List.getElem?_of_mem he
    have hpE : E[p]? = some e := by rw [← Array.getElem?_toList]; exact hp
    have hpl : p < E.size := (Array.getElem?_eq_some_iff.1 hpE).1
    have hmod : (E.modify p fun x => { x with key := enc k, val := v }).toList = E.toList.set p { e with key := enc k, val := v } := by
      apply List.ext_getElem?
      intro i
      rw [Array.getElem?_toList, Array.getElem?_modify, List.getElem?_set]
      by_cases hi : p = i
      · subst hi; rw [if_pos rfl, if_pos rfl, hpE]; simp [hpl]
      · rw [if_neg hi, if_neg hi, Array.getElem?_toList]
    have hkeys : (E.toList.set p { e with key := enc k, val := v }).map (·.key) = E.toList.map (·.key) := by
      apply List.ext_getElem?
      intro i
      rw [List.getElem?_map, List.getElem?_map, List.getElem?_set]
      by_cases hi : p = i
      · subst hi; rw [if_pos rfl, hp]; simp [hpl, hek]
      · rw [if_neg hi]
    refine ⟨w.putObj m (.map (E.modify p fun x => { x with key := enc k, val := v }) c), ?_, kfr_putObj _ _ _, by simp, _, _, World.putObj_heap_same hlt, ⟨?_, ?_⟩, ?_⟩
    · have hgk : ((E[p]?).map (·.key)).getD (enc k) = enc k := by rw [hpE]; simp [hek]
      simp only [Instr.mapUpdate, Sem.run_bind, run_underlying hT, Result.andThen_ok, kgetObj_map hm, HK.check, HK.some_ w k _ p e hk hp hek, hgk, HK.stays, ksetObj_map _ hm]
    · rw [hmod]
      intro e' he'
      rcases List.mem_or_eq_of_mem_set he' with h | rfl
      · exact hk.1 e' h
      · exact ⟨k, rfl⟩
    · rw [hmod, hkeys]; exact hk.2
    · intro j u
      dsimp only
      rw [hmod]
      by_cases hj : j = k
      · subst hj
        rw [if_pos rfl]
        constructor
        · intro x
          injection x with x
          subst x
          exact ⟨{ e with key := enc j, val := v }, List.mem_of_getElem? (i := p) (by rw [List.getElem?_set, if_pos rfl, if_pos (by simpa using hpl)]), rfl, rfl⟩
        · rintro ⟨e', he', h1, h2⟩
          obtain ⟨q, hq⟩ := List.getElem?_of_mem he'
          rw [List.getElem?_set] at hq
          by_cases hqp : p = q
          · subst hqp
            rw [if_pos rfl] at hq
            split at hq
            · injection hq with hq; subst hq; rw [← h2]
            · cases hq
          · rw [if_neg hqp] at hq
            have hnd := hk.2
            exfalso
            have e1 : (E.toList.map (·.key))[p]? = some (enc j) := by rw [List.getElem?_map, hp]; simp [hek]
            have e2 : (E.toList.map (·.key))[q]? = some (enc j) := by rw [List.getElem?_map, hq]; simp [h1]
            have hql : q < (E.toList.map (·.key)).length := (List.getElem?_eq_some_iff.1 e2).1
            exact hqp (((List.getElem?_inj (by simpa using hpl) hnd).1 (e1.trans e2.symm)))
      · rw [if_neg hj, hf]
        constructor
        · rintro ⟨e', he', h1, h2⟩
          obtain ⟨q, hq⟩ := List.getElem?_of_mem he'
          refine ⟨e', ?_, h1, h2⟩
          have hqp : p ≠ q := fun x => by
            subst x
            rw [hp] at hq
            injection hq with hq
            subst hq
            rw [hek] at h1
            exact hj (HK.inj _ _ h1).symm
          exact List.mem_of_getElem? (by rw [List.getElem?_set, if_neg hqp]; exact hq)
        · rintro ⟨e', he', h1, h2⟩
          rcases List.mem_or_eq_of_mem_set he' with h | rfl
          · exact ⟨e', h, h1, h2⟩
          · exact absurd (HK.inj _ _ h1).symm hj
end
end Go.Proofs.Ytmhjnbolngdijaa
