/- Maps with keys of type string. -/
import Derived.Test.YtoliidlaahhcpaaMapK
namespace Go.Proofs.Ytoliidlaahhcpaa
open Go Go.RowKit
set_option linter.unusedVariables false

theorem sfindNow_none {k : ByteArray} : ∀ (E : List MapEntry) (i : Nat), (∀ e ∈ E, ∃ j, e.key = .string j ∧ j ≠ k) → Instr.findNow .string (.string k) E i = some none
  | [], _, _ => rfl
  | e :: E, i, h => by
    obtain ⟨j, hj, hne⟩ := h e (by simp)
    have e1 : Instr.sameNow .string (.string k) e.key = some false := by
      rw [hj]
      simp only [Instr.sameNow, Option.some.injEq]
      exact Bool.eq_false_iff.2 fun x => hne ((MapKept.bytes_beq _ _).1 x).symm
    simp only [Instr.findNow, e1]
    exact sfindNow_none E _ fun e' he' => h e' (by simp [he'])
theorem sfindNow_some {k : ByteArray} : ∀ (E : List MapEntry) (i p : Nat) (e : MapEntry), EncKeys Value.string E → E[p]? = some e → e.key = .string k → Instr.findNow .string (.string k) E i = some (some (i + p, e.val))
  | [], _, p, e, _, h, _ => by simp at h
  | e0 :: E, i, 0, e, _, h, hk => by
    simp at h
    subst h
    have e1 : Instr.sameNow .string (.string k) e0.key = some true := by rw [hk]; simp only [Instr.sameNow, Option.some.injEq]; exact (MapKept.bytes_beq _ _).2 rfl
    simp [Instr.findNow, e1]
  | e0 :: E, i, p + 1, e, ⟨hi, hn⟩, h, hk => by
    obtain ⟨j, hj⟩ := hi e0 (by simp)
    simp only [List.map_cons, List.nodup_cons] at hn
    have he : e ∈ E := List.mem_of_getElem? (by simpa using h)
    have hne : j ≠ k := fun x => hn.1 (by rw [hj, x, ← hk]; exact List.mem_map.2 ⟨e, he, rfl⟩)
    have e1 : Instr.sameNow .string (.string k) e0.key = some false := by
      rw [hj]
      simp only [Instr.sameNow, Option.some.injEq]
      exact Bool.eq_false_iff.2 fun x => hne ((MapKept.bytes_beq _ _).1 x).symm
    simp only [Instr.findNow, e1]
    rw [sfindNow_some E (i + 1) p e ⟨fun e' he' => hi e' (by simp [he']), hn.2⟩ (by simpa using h) hk]
    congr 2
    congr 1
    omega
theorem strKeys {P : Program} {K : TypeId} (hK : P.underlying K = some .string) : KeyLaws P K (κ := ByteArray) Value.string where
  inj := fun a b h => by injection h
  check := fun w b k => MapKept.run_checkKey hK (by simp [MapKept.IsKey]) b 9999
  none_ := fun w k E h => by simp [Instr.findKey, run_underlying hK, sfindNow_none E 0 h]
  some_ := fun w k E p e h he hk => by simp [Instr.findKey, run_underlying hK, sfindNow_some E 0 p e h he hk]
  stays := fun w k => by
    show (if Instr.sameBits 10000 (.string k) (.string k) then pure (.string k) else _ : Sem Value).run P w = _
    rw [if_pos (by simp only [Instr.sameBits]; exact (MapKept.bytes_beq _ _).2 rfl)]
    rfl
end Go.Proofs.Ytoliidlaahhcpaa
