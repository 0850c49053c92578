/- Maps with keys of type names.key (a list's number, a folded name). -/
import Derived.Test.YtmhjnbolngdijaaMapK
import Derived.Test.YtmhjnbolngdijaaChecked
import Derived.Laws.StructEq
namespace Go.Proofs.Ytmhjnbolngdijaa
open Go Go.RowKit
set_option linter.unusedVariables false

def encN (p : Int × ByteArray) : Value := .agg #[.int .i64 p.1, .string p.2]
theorem encN_inj (a b : Int × ByteArray) (h : encN a = encN b) : a = b := by
  obtain ⟨a1, a2⟩ := a
  obtain ⟨b1, b2⟩ := b
  simp [encN] at h
  rw [h.1, h.2]
theorem toList_ba {a b : ByteArray} (h : a.toList = b.toList) : a = b := by
  rw [ByteArray.toList_eq, ByteArray.toList_eq] at h
  exact WideShapes.bytes_inj h
theorem keyStruct : Try.prog.underlying 84 = some (.struct (Try.prog.fieldsOf 84)) := by kernel_rfl
theorem keyFields : (Try.prog.fieldsOf 84).toList.map (fun f => (f.name, f.type, f.offset)) = [("list", 3, 0), ("folded", 9, 1)] := by kernel_rfl
theorem keyF : ∃ f1 f2 : Field, (Try.prog.fieldsOf 84).toList = [f1, f2] ∧ f1.name = "list" ∧ f1.type = 3 ∧ f1.offset = 0 ∧ f2.name = "folded" ∧ f2.type = 9 ∧ f2.offset = 1 := by
  have h := keyFields
  cases hF : (Try.prog.fieldsOf 84).toList with
  | nil => rw [hF] at h; cases h
  | cons f1 r =>
    cases r with
    | nil => rw [hF] at h; simp at h
    | cons f2 r2 =>
      cases r2 with
      | nil =>
        rw [hF] at h
        simp only [List.map_cons, List.map_nil, List.cons.injEq, Prod.mk.injEq, and_true] at h
        obtain ⟨⟨n1, t1, o1⟩, n2, t2, o2⟩ := h
        exact ⟨f1, f2, rfl, n1, t1, o1, n2, t2, o2⟩
      | cons f3 r3 => rw [hF] at h; simp at h
set_option maxRecDepth 100000 in
theorem run_eqKey (w : World) (a b : Int × ByteArray) : (Op.equal 84 (encN a) (encN b)).run Try.prog w = .ok (decide (a = b)) w := by
  obtain ⟨a1, a2⟩ := a
  obtain ⟨b1, b2⟩ := b
  have h1 : (Op.equal 84 (encN (a1, a2)) (encN (b1, b2))).run Try.prog w = .ok (a1 == b1 && a2.toList == b2.toList) w := by
    simp only [Op.equal, Op.maxDepth, encN]
    rw [run_equalIn_struct w 9999 84 _ _ keyStruct (by kernel_rfl)]
    obtain ⟨f1, f2, hF, n1, t1, o1, n2, t2, o2⟩ := keyF
    rw [hF]
    simp [Op.eqFields, n1, n2, t1, t2, o1, o2, go_sem, Try.underlying3, Try.underlying9]
    by_cases h1 : a1 = b1
    · by_cases h2 : a2.toList = b2.toList
      · simp [h1, h2]
      · simp [h1, h2]
    · simp [h1]
  rw [h1]
  congr 1
  rw [Bool.eq_iff_iff]
  simp only [Bool.and_eq_true, beq_iff_eq, decide_eq_true_eq, Prod.mk.injEq]
  exact ⟨fun ⟨x, y⟩ => ⟨x, toList_ba y⟩, fun ⟨x, y⟩ => ⟨x, by rw [y]⟩⟩
theorem find_none (w : World) (k : Int × ByteArray) : ∀ (E : List MapEntry) (i : Nat), (∀ e ∈ E, ∃ j, e.key = encN j ∧ j ≠ k) → (Instr.findAsking 84 (encN k) E i).run Try.prog w = .ok none w
  | [], i, _ => by simp [Instr.findAsking]
  | e :: E, i, h => by
    obtain ⟨j, hj, hne⟩ := h e (by simp)
    have hd : decide (k = j) = false := decide_eq_false fun x => hne x.symm
    simp only [Instr.findAsking, Sem.run_bind, hj, run_eqKey, hd, Result.andThen_ok]
    simpa using find_none w k E (i + 1) fun e' he' => h e' (by simp [he'])
theorem find_some (w : World) (k : Int × ByteArray) : ∀ (E : List MapEntry) (i p : Nat) (e : MapEntry), EncKeys encN E → E[p]? = some e → e.key = encN k → (Instr.findAsking 84 (encN k) E i).run Try.prog w = .ok (some (i + p, e.val)) w
  | [], _, p, e, _, h, _ => by simp at h
  | e0 :: E, i, 0, e, _, h, hk => by
    simp at h
    subst h
    simp [Instr.findAsking, hk, run_eqKey]
  | e0 :: E, i, p + 1, e, ⟨hi, hn⟩, h, hk => by
    obtain ⟨j, hj⟩ := hi e0 (by simp)
    simp only [List.map_cons, List.nodup_cons] at hn
    have he : e ∈ E := List.mem_of_getElem? (by simpa using h)
    have hne : j ≠ k := fun x => hn.1 (by rw [hj, x, ← hk]; exact List.mem_map.2 ⟨e, he, rfl⟩)
    have hd : decide (k = j) = false := decide_eq_false fun x => hne x.symm
    simp only [Instr.findAsking, Sem.run_bind, hj, run_eqKey, hd, Result.andThen_ok]
    have := find_some w k E (i + 1) p e ⟨fun e' he' => hi e' (by simp [he']), hn.2⟩ (by simpa using h) hk
    rw [show i + 1 + p = i + (p + 1) by omega] at this
    simpa using this
theorem keysN : KeyLaws Try.prog 84 encN where
  inj := encN_inj
  check := fun w b k => by
    obtain ⟨l, s⟩ := k
    obtain ⟨f1, f2, hF, n1, t1, o1, n2, t2, o2⟩ := keyF
    have c1 := fun W => MapKept.run_checkKey (P := Try.prog) (w := W) (k := .int .i64 l) Try.underlying3 (by simp [MapKept.IsKey]) b 9998
    have c2 := fun W => MapKept.run_checkKey (P := Try.prog) (w := W) (k := .string s) Try.underlying9 (by simp [MapKept.IsKey]) b 9998
    show (Instr.checkKey b (9999 + 1) 84 (encN (l, s))).run Try.prog w = _
    rw [Instr.checkKey]
    simp only [encN, Sem.run_bind, run_underlying keyStruct, Result.andThen_ok]
    rw [← Array.forIn_toList, hF]
    simp [n1, n2, t1, t2, o1, o2, go_sem, c1, c2]
  none_ := fun w k E h => by
    have hf : ∀ (E : List MapEntry) (i : Nat), E ≠ [] → Instr.findNow (.struct (Try.prog.fieldsOf 84)) (encN k) E i = none := fun E i hE => by
      cases E with
      | nil => exact absurd rfl hE
      | cons e E => simp [Instr.findNow, Instr.sameNow]
    simp only [Instr.findKey, Sem.run_bind, run_underlying keyStruct, Result.andThen_ok]
    cases E with
    | nil => simp [Instr.findNow]
    | cons e E =>
      rw [hf _ _ (by simp)]
      exact find_none w k _ 0 h
  some_ := fun w k E p e h he hk => by
    have hf : ∀ (E : List MapEntry) (i : Nat), E ≠ [] → Instr.findNow (.struct (Try.prog.fieldsOf 84)) (encN k) E i = none := fun E i hE => by
      cases E with
      | nil => exact absurd rfl hE
      | cons e E => simp [Instr.findNow, Instr.sameNow]
    simp only [Instr.findKey, Sem.run_bind, run_underlying keyStruct, Result.andThen_ok]
    rw [hf _ _ (by rintro rfl; simp at he)]
    have := find_some w k E 0 p e h he hk
    rw [Nat.zero_add] at this
    exact this
  stays := fun w k => by
    obtain ⟨l, s⟩ := k
    show (if Instr.sameBits 10000 (encN (l, s)) (encN (l, s)) then pure (encN (l, s)) else _ : Sem Value).run Try.prog w = _
    rw [if_pos ?_]
    · rfl
    · have : (s == s) = true := (MapKept.bytes_beq _ _).2 rfl
      simp [encN, Instr.sameBits, this]
end Go.Proofs.Ytmhjnbolngdijaa
