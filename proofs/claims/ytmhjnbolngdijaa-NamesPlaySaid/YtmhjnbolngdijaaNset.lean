/- Names: Set. -/
import Derived.Test.YtmhjnbolngdijaaNget
import Derived.Test.YtmhjnbolngdijaaNhide
import Derived.Laws.StructEq
namespace Go.Proofs.Ytmhjnbolngdijaa
open Go Go.RowKit
set_option linter.unusedVariables false
attribute [local go_sem] Oper.semAt_some

/-- Are two words one? -/
def eqWd (a b : Wd) : Bool := decide (a.name = b.name) && (decide (a.xt = b.xt) && (decide (a.list = b.list) && (decide (a.imm = b.imm) && decide (a.only = b.only))))
theorem eqWd_true {a b : Wd} (h : eqWd a b = true) : a = b := by
  unfold eqWd at h
  simp only [Bool.and_eq_true, decide_eq_true_eq] at h
  obtain ⟨h1, h2, h3, h4, h5⟩ := h
  cases a
  cases b
  simp_all
theorem wordStruct : Try.prog.underlying 30 = some (.struct (Try.prog.fieldsOf 30)) := by kernel_rfl
theorem wordFields : (Try.prog.fieldsOf 30).toList.map (fun f => (f.name, f.type, f.offset)) = [("Name", 9, 0), ("Xt", 3, 1), ("List", 3, 2), ("Immediate", 4, 3), ("Only", 4, 4)] := by kernel_rfl
theorem fields5 {l : List Field} {a b c d e : String × Nat × Nat} (h : l.map (fun f => (f.name, f.type, f.offset)) = [a, b, c, d, e]) : ∃ f1 f2 f3 f4 f5, l = [f1, f2, f3, f4, f5] ∧ (f1.name = a.1 ∧ f1.type = a.2.1 ∧ f1.offset = a.2.2) ∧ (f2.name = b.1 ∧ f2.type = b.2.1 ∧ f2.offset = b.2.2) ∧ (f3.name = c.1 ∧ f3.type = c.2.1 ∧ f3.offset = c.2.2) ∧ (f4.name = d.1 ∧ f4.type = d.2.1 ∧ f4.offset = d.2.2) ∧ (f5.name = e.1 ∧ f5.type = e.2.1 ∧ f5.offset = e.2.2) := by
  match l, h with
  | [f1, f2, f3, f4, f5], h =>
    simp only [List.map_cons, List.map_nil, List.cons.injEq, and_true] at h
    obtain ⟨h1, h2, h3, h4, h5⟩ := h
    subst h1 h2 h3 h4 h5
    exact ⟨f1, f2, f3, f4, f5, rfl, ⟨rfl, rfl, rfl⟩, ⟨rfl, rfl, rfl⟩, ⟨rfl, rfl, rfl⟩, ⟨rfl, rfl, rfl⟩, ⟨rfl, rfl, rfl⟩⟩
  | [], h => cases h
  | [_], h => simp at h
  | [_, _], h => simp at h
  | [_, _, _], h => simp at h
  | [_, _, _, _], h => simp at h
  | _ :: _ :: _ :: _ :: _ :: _ :: _, h => simp at h
set_option maxRecDepth 100000 in
set_option maxHeartbeats 2000000 in
theorem run_eqWord (w : World) (a b : Wd) (ha : ∀ x ∈ a.name, 0 ≤ x ∧ x ≤ 255) (hb : ∀ x ∈ b.name, 0 ≤ x ∧ x ≤ 255) : (binOp .eql 30 a.val b.val).run Try.prog w = .ok (.bool (eqWd a b)) w := by
  have h1 : (Op.equal 30 a.val b.val).run Try.prog w = .ok ((strOfNums a.name).toList == (strOfNums b.name).toList && (a.xt == b.xt && (a.list == b.list && (a.imm == b.imm && a.only == b.only)))) w := by
    simp only [Op.equal, Op.maxDepth, Wd.val]
    rw [run_equalIn_struct w 9999 30 _ _ wordStruct (by kernel_rfl)]
    obtain ⟨f1, f2, f3, f4, f5, hF, ⟨n1, t1, o1⟩, ⟨n2, t2, o2⟩, ⟨n3, t3, o3⟩, ⟨n4, t4, o4⟩, ⟨n5, t5, o5⟩⟩ := fields5 wordFields
    rw [hF]
    simp [Op.eqFields, n1, n2, n3, n4, n5, t1, t2, t3, t4, t5, o1, o2, o3, o4, o5, go_sem, Try.underlying3, Try.underlying9, Try.underlying4]
    by_cases g1 : (strOfNums a.name).toList = (strOfNums b.name).toList
    · by_cases g2 : a.xt = b.xt
      · by_cases g3 : a.list = b.list
        · by_cases g4 : a.imm = b.imm
          · by_cases g5 : a.only = b.only
            · simp [g1, g2, g3, g4, g5]
            · simp [g1, g2, g3, g4, g5]
          · simp [g1, g2, g3, g4]
        · simp [g1, g2, g3]
      · simp [g1, g2]
    · simp [g1]
  have h2 : ((strOfNums a.name).toList == (strOfNums b.name).toList && (a.xt == b.xt && (a.list == b.list && (a.imm == b.imm && a.only == b.only)))) = eqWd a b := by
    unfold eqWd
    rw [Bool.eq_iff_iff]
    simp only [Bool.and_eq_true, beq_iff_eq, decide_eq_true_eq]
    exact ⟨fun ⟨g1, g2⟩ => ⟨str_inj ha hb (toList_ba g1), g2⟩, fun ⟨g1, g2⟩ => ⟨by rw [g1], g2⟩⟩
  rw [h2] at h1
  show (Op.equal 30 a.val b.val >>= fun q => pure (.bool q) : Sem Value).run Try.prog w = _
  simp [h1]

theorem flat_len5 {l : List Wd} {k : Nat} : (l.flatMap Wd.cells)[k]? = (l[k / 5]?).bind (fun x => x.cells[k % 5]?) := by
  have hm : k % 5 < 5 := Nat.mod_lt _ (by omega)
  have hk : k / 5 * 5 + k % 5 = k := by omega
  cases hx : l[k / 5]? with
  | some x =>
    have := flat_at hx hm
    rw [hk] at this
    rw [this]
    rfl
  | none =>
    have h1 := List.getElem?_eq_none_iff.1 hx
    rw [List.getElem?_eq_none (by rw [wcells_len]; omega)]
    rfl
/-- One word turned, in its row. -/
theorem own_setWd {w : World} {B b cap i : Nat} {ws : List Wd} {t : TypeId} {x : Wd} (h : w.ownsRow B t 5 (.slice (some ⟨b, 0, none⟩) ws.length cap) ws.length (ws.flatMap Wd.cells)) (hi : i < ws.length) :
    (((((w.setCell ⟨b, i * 5, none⟩ (.string (strOfNums x.name))).setCell ⟨b, i * 5 + 1, none⟩ (.int .i64 x.xt)).setCell ⟨b, i * 5 + 2, none⟩ (.int .i64 x.list)).setCell ⟨b, i * 5 + 3, none⟩ (.bool x.imm)).setCell ⟨b, i * 5 + 4, none⟩ (.bool x.only)).ownsRow B t 5 (.slice (some ⟨b, 0, none⟩) ws.length cap) (ws.set i x).length ((ws.set i x).flatMap Wd.cells) := by
  rcases h.2 with ⟨e, _⟩ | ⟨g, cap', cs, e, hb, hg, hle, hm, hsz, htk⟩
  · cases e
  · simp only [Value.slice.injEq, Option.some.injEq, Addr.mk.injEq, and_true, true_and] at e
    obtain ⟨rfl, rfl⟩ := e
    have hB : Blk w b t cs := hg
    have hS := ((((hB.set_ (i * 5) (.string (strOfNums x.name))).set_ (i * 5 + 1) (.int .i64 x.xt)).set_ (i * 5 + 2) (.int .i64 x.list)).set_ (i * 5 + 3) (.bool x.imm)).set_ (i * 5 + 4) (.bool x.only)
    obtain ⟨W, hW⟩ : ∃ W, (((((w.setCell ⟨b, i * 5, none⟩ (.string (strOfNums x.name))).setCell ⟨b, i * 5 + 1, none⟩ (.int .i64 x.xt)).setCell ⟨b, i * 5 + 2, none⟩ (.int .i64 x.list)).setCell ⟨b, i * 5 + 3, none⟩ (.bool x.imm)).setCell ⟨b, i * 5 + 4, none⟩ (.bool x.only)) = W := ⟨_, rfl⟩
    rw [hW] at hS ⊢
    obtain ⟨cs', hcs⟩ : ∃ cs', ((((cs.setIfInBounds (i * 5) (.string (strOfNums x.name))).setIfInBounds (i * 5 + 1) (.int .i64 x.xt)).setIfInBounds (i * 5 + 2) (.int .i64 x.list)).setIfInBounds (i * 5 + 3) (.bool x.imm)).setIfInBounds (i * 5 + 4) (.bool x.only) = cs' := ⟨_, rfl⟩
    rw [hcs] at hS
    have hsz' : cs'.size = cs.size := by rw [← hcs]; simp only [Array.size_setIfInBounds]
    refine ⟨by rw [wcells_len], .inr ⟨b, cap, cs', by rw [List.length_set], hb, hS, by rw [List.length_set]; exact hle, hm, hsz'.trans hsz, ?_⟩⟩
    subst hcs
    have hlt : ws.length * 5 ≤ cs.size := by rw [hsz]; exact Nat.mul_le_mul_right 5 hle
    apply List.ext_getElem?
    intro k
    rw [List.getElem?_take, List.length_set, flat_len5]
    by_cases hk : k < ws.length * 5
    · rw [if_pos hk, Array.getElem?_toList]
      have hold : cs[k]? = (ws[k / 5]?).bind (fun x => x.cells[k % 5]?) := by
        rw [← flat_len5, ← htk, List.getElem?_take, if_pos hk, Array.getElem?_toList]
      have hk5 : k / 5 < ws.length := by omega
      by_cases hki : k / 5 = i
      · rw [hki, List.getElem?_set_self hi, Option.bind_some]
        have hr : k % 5 = 0 ∨ k % 5 = 1 ∨ k % 5 = 2 ∨ k % 5 = 3 ∨ k % 5 = 4 := by omega
        simp only [Array.getElem?_setIfInBounds, Array.size_setIfInBounds]
        rcases hr with hr | hr | hr | hr | hr
        · rw [hr, if_neg (by omega), if_neg (by omega), if_neg (by omega), if_neg (by omega), if_pos (by omega), if_pos (by omega)]; rfl
        · rw [hr, if_neg (by omega), if_neg (by omega), if_neg (by omega), if_pos (by omega), if_pos (by omega)]; rfl
        · rw [hr, if_neg (by omega), if_neg (by omega), if_pos (by omega), if_pos (by omega)]; rfl
        · rw [hr, if_neg (by omega), if_pos (by omega), if_pos (by omega)]; rfl
        · rw [hr, if_pos (by omega), if_pos (by omega)]; rfl
      · rw [List.getElem?_set_ne (fun e => hki e.symm), ← hold]
        simp only [Array.getElem?_setIfInBounds]
        rw [if_neg (by omega), if_neg (by omega), if_neg (by omega), if_neg (by omega), if_neg (by omega)]
    · rw [if_neg hk, List.getElem?_eq_none (by simp; omega)]
      rfl
theorem fr_setWd {S : Nat → Prop} {w : World} {b i : Nat} {x : Wd} (hb : S b) : Fr S w (((((w.setCell ⟨b, i * 5, none⟩ (.string (strOfNums x.name))).setCell ⟨b, i * 5 + 1, none⟩ (.int .i64 x.xt)).setCell ⟨b, i * 5 + 2, none⟩ (.int .i64 x.list)).setCell ⟨b, i * 5 + 3, none⟩ (.bool x.imm)).setCell ⟨b, i * 5 + 4, none⟩ (.bool x.only)) :=
  (((((Fr.refl S w).setCell (p := ⟨b, i * 5, none⟩) (.inl hb) _).setCell (p := ⟨b, i * 5 + 1, none⟩) (.inl hb) _).setCell (p := ⟨b, i * 5 + 2, none⟩) (.inl hb) _).setCell (p := ⟨b, i * 5 + 3, none⟩) (.inl hb) _).setCell (p := ⟨b, i * 5 + 4, none⟩) (.inl hb) _
theorem toksP_set {ws : List Wd} {P : Nat → Bool} {i : Nat} {x : Wd} (hP : P i = false) (k : Int × ByteArray) : toksP (ws.set i x) P k = toksP ws P k := toksP_congr fun j => by
  by_cases hj : i = j
  · subst hj
    constructor
    · rintro ⟨y, _, h2, _⟩; rw [hP] at h2; cases h2
    · rintro ⟨y, _, h2, _⟩; rw [hP] at h2; cases h2
  · rw [List.getElem?_set_ne hj]
section
variable {w w' : World} {B c m : Nat} {wv ov : Value} {lists cur : Int} {order : List Int} {ws : List Wd} {P : Nat → Bool} {mf : Int × ByteArray → Option Value}
/-- A word that is not laid, turned. -/
theorem Ng.setWd (h : Ng w B c m wv ov lists cur order ws P mf) {i b : Nat} {x : Wd} (hP : P i = false) (hx : (∀ y ∈ x.name, 0 ≤ y ∧ y ≤ 255) ∧ x.name.length ≤ 1000000) (hb : wv.ownBlock = some b) (hf : Fr (fun k => k = b) w w')
    (ho : w'.ownsRow B 30 5 wv (ws.set i x).length ((ws.set i x).flatMap Wd.cells)) : Ng w' B c m wv ov lists cur order (ws.set i x) P mf := by
  refine ⟨h.obj.blk.fr hf (fun e => word_own h.words h.obj.blk (by decide) (by rw [hb, e])), ho, h.map.fr hf (fun e => word_map h.words h.map (by rw [hb, e])), fun k v hk => ?_, fun k hk => by rw [toksP_set hP]; exact h.none_ k hk, h.apart, h.ord.fr hf (fun k hk e => int_word h.ord h.words k hk (by rw [hb, e])), h.ordA, ⟨h.lo.1, h.lo.2.1, Nat.le_trans h.lo.2.2 hf.size⟩, by rw [List.length_set]; exact h.few, fun y hy => ?_⟩
  · rw [toksP_set hP]
    exact (h.rows k v hk).fr hf (fun q hq e => int_word (h.rows k v hk) h.words q hq (by rw [hb, e]))
  · rcases List.mem_or_eq_of_mem_set hy with h1 | rfl
    · exact h.byt y h1
    · exact hx
end
end Go.Proofs.Ytmhjnbolngdijaa
