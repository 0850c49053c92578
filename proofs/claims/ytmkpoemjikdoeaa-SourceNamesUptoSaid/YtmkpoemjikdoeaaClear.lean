/- clear and copy at rows of bytes. -/
import Derived.Test.YtmkpoemjikdoeaaMove
import Derived.Lib.SliceRun
namespace Go.Proofs.Ytmkpoemjikdoeaa
open Go Go.RowKit

theorem fr_setCells (b : Nat) (vs : List Value) : ∀ (w : World) (o : Nat), Fr1 b w (w.setCells b o vs) ∧ (w.setCells b o vs).heap.size = w.heap.size := by
  induction vs with
  | nil => intro w o; exact ⟨Fr.refl _ w, rfl⟩
  | cons v vs ih =>
    intro w o
    obtain ⟨h1, h2⟩ := ih (w.setCell ⟨b, o, none⟩ v) (o + 1)
    exact ⟨((Fr.refl (fun k => k = b) w).setCell (p := ⟨b, o, none⟩) (.inl rfl) v).trans h1, by simp only [World.setCells]; rw [h2]; simp [World.setCell]⟩
theorem poke_cons (cur : List Int) (off : Nat) (x : Int) (l : List Int) (h : off < cur.length) : poke (cur.set off x) (off + 1) l = poke cur off (x :: l) := by
  unfold poke
  have e : (cur.take off ++ [cur[off]]).set off x = cur.take off ++ [x] := by
    rw [List.set_append, if_neg (by simp; omega)]
    simp [Nat.min_eq_left (show off ≤ cur.length by omega)]
  rw [List.drop_set_of_lt (by omega), List.take_set, List.take_succ_eq_append_getElem h, e]
  simp only [ List.append_assoc, List.cons_append, List.nil_append, List.length_cons]
  rw [show off + 1 + l.length = off + (l.length + 1) by omega]
theorem blk_setCells {t : TypeId} (g : Nat) (l : List Int) : ∀ (w : World) (off : Nat) (cur : List Int), Blk w g t (cells8 cur) → off + l.length ≤ cur.length → Blk (w.setCells g off (l.map (Value.int .u8))) g t (cells8 (poke cur off l)) := by
  induction l with
  | nil => intro w off cur h _; rw [poke_nil]; exact h
  | cons x l ih =>
    intro w off cur h hl
    simp only [List.length_cons] at hl
    have h1 := h.set_ off (.int .u8 x)
    rw [cells8_set] at h1
    have := ih (w.setCell ⟨g, off, none⟩ (.int .u8 x)) (off + 1) (cur.set off x) h1 (by simp; omega)
    rw [poke_cons _ _ _ _ (by omega)] at this
    exact this

theorem wpList_clear_none {P : Program} {w : World} {ops : Array Oper} {rest : List Oper} {o : Oper} {a : Act} {Q : Exit → Act → World → Prop} (hgd : o.guard = none) (d : Operand) (dT : TypeId)
    (ho : o.op = .call { callee := .builtin .clear, args := #[d], argTypes := #[dT] }) (elem : TypeId) (hu : P.underlying dT = some (.slice elem)) {c : Nat} {A : Option Addr}
    (hd : a.eval d = .slice A 0 c) (h : wpList P ops Q rest (a.put o.dst (.tuple #[])) w) : wpList P ops Q (o :: rest) a w := by
  refine wpList_plain hgd fun K hK => ?_
  unfold Oper.wp
  have hrun : (Builtin.clear_ #[dT] o.type #[.slice A 0 c]).run P w = .ok (.tuple #[]) w := by
    cases A <;> simp [Builtin.clear_, run_underlying hu]
  simp [execOp, ho, resolve, invoke, builtin, hd, hrun, Result.andThen]
  exact hK _ _ h
theorem wpList_clear8 {w : World} {ops : Array Oper} {rest : List Oper} {o : Oper} {a : Act} {Q : Exit → Act → World → Prop} (hgd : o.guard = none) (d : Operand)
    (ho : o.op = .call { callee := .builtin .clear, args := #[d], argTypes := #[25] }) {g off n c : Nat} {t : TypeId} {cur : List Int} (hg : Blk w g t (cells8 cur)) (hn : 0 < n) (hl : off + n ≤ cur.length)
    (hd : a.eval d = .slice (some ⟨g, off, none⟩) n c)
    (h : ∀ w', Fr1 g w w' → w'.heap.size = w.heap.size → Blk w' g t (cells8 (poke cur off (List.replicate n 0))) → wpList Try.prog ops Q rest (a.put o.dst (.tuple #[])) w') : wpList Try.prog ops Q (o :: rest) a w := by
  refine wpList_plain hgd fun K hK => ?_
  unfold Oper.wp
  have hrun := Lib.run_clear_slice (P := Try.prog) w 25 5 o.type (.int .u8 0) Try.underlying25 (fun W => by kernel_rfl) rfl rfl g off n c hn
    (fun j hj => by rw [hg.cell, cells8_at, List.getElem?_eq_getElem (by omega)]; rfl) (fun j _ => hg.frozen _)
  have e : List.replicate n (Value.int .u8 0) = (List.replicate n (0 : Int)).map (Value.int .u8) := by simp
  rw [e] at hrun
  simp only [execOp, ho, resolve, invoke, builtin, List.map_toArray, List.map_cons, List.map_nil, hd, hrun, Result.andThen, Sem.run_bind, Sem.run_pure]
  exact hK _ _ (h _ (fr_setCells _ _ _ _).1 (fr_setCells _ _ _ _).2 (blk_setCells g _ w off cur hg (by simpa using hl)))
end Go.Proofs.Ytmkpoemjikdoeaa
