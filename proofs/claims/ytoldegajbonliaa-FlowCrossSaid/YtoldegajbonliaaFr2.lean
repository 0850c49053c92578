/- Flow: the document's pool: Open. -/
import Derived.Test.YtoldegajbonliaaFawake
import Derived.Deep.Cut
import Derived.Deep.CutRange
namespace Go.Proofs.Ytoldegajbonliaa
open Go Go.RowKit
set_option linter.unusedVariables false
attribute [local go_sem] Oper.semAt_some

section
variable {w : World} {B p q cap : Nat} {tv : Value} {ts : List Tk} {S : Nat → Prop}
set_option maxRecDepth 100000 in
set_option maxHeartbeats 2000000 in
theorem Open_r (w : World) (h : Blk w p RP #[.slice none 0 0, .int .i64 0]) (hB : B ≤ p ∧ B ≤ w.heap.size) : Calls Try.prog 40 #[.pointer (some ⟨p, 0, none⟩)] w fun e w' => e = .returned (.tuple #[.int .i64 1, .int .i64 0]) ∧ ∃ q cap, Pl RP w' B p q cap (.slice none 0 0) [] ∧ Fr (fun k => k = p) w w' ∧ w.heap.size ≤ q := by
  have c0 := h.cell 0
  have y0 := h.frozen 0
  have hpl := h.lt
  have HH := Lib.hid h
  obtain ⟨i0, hi0⟩ := info_parts3 infoTr
  have HI0 := Lib.hid hi0
  clear h hi0
  go_enter Try.func40, Try.ntmps40
  go_wp2_with (at_builtin; refine wpList_append_src (P := Try.prog) (t := 58) (e := 75) (size := 1) (n := 0) (m := 1) (base := w.heap.size) (i := i0) (bytes := 24) (v := .slice none 0 0) (xs := []) (news := [.slice none 0 0]) rfl (.tmp 14) (.tmp 15) rfl Try.underlying58 HI0.out.1 HI0.out.2.1 HI0.out.2.2.1 HI0.out.2.2.2 rfl (by decide) rfl rfl (World.ownsRow_nil _ _ _ _) (Rd.new w #[.slice none 0 0] rfl 1) (fun u hu => by simp at hu; subst hu; rfl) (by unfold maxLen; omega) (by omega) (by simp) ?_; intro v2 w2 ho2 hg2 hk2; have HO2 := Lib.hid ho2; obtain ⟨q, cap, rfl⟩ : ∃ q cap, v2 = .slice (some ⟨q, 0, none⟩) 1 cap := (by rcases ho2.2 with ⟨e, e0⟩ | ⟨g', c', cs, e, _⟩; exact absurd e0 (by decide); exact ⟨g', c', e⟩); have hf2 := ((Fr.refl (fun _ => False) w).alloc (.cells #[.slice none 0 0] 75)).grown hg2 (fun k hk => by cases hk); have HF2 := Lib.hid hf2; have c0 := (hf2.cell (p := ⟨p, 0, none⟩) hpl (fun x => x)).trans c0; have y0 := (hf2.frozen (p := ⟨p, 0, none⟩) hpl (fun x => x)).trans y0; clear ho2 hg2 hk2 hf2)
  go_ret2
  have hpo := (HH.out.fr0 HF2.out).set_ 0 (.slice (some ⟨q, 0, none⟩) 1 cap)
  simp only [List.setIfInBounds_toArray, List.set_cons_zero] at hpo
  have hff := (HF2.out.of0 (S := fun k => k = p)).setCell (p := ⟨p, 0, none⟩) (.inl rfl) (.slice (some ⟨q, 0, none⟩) 1 cap)
  obtain ⟨hlo, cs, hq, hc⟩ : w.heap.size ≤ q ∧ ∃ cs, Blk w2 q 75 cs ∧ cs[0]? = some (.slice none 0 0) := by
    rcases HO2.out.2 with ⟨e, _⟩ | ⟨g', c', cs, e, hb, hgg, hle, _, hsz, htk⟩
    · cases e
    · simp only [Value.slice.injEq, Option.some.injEq, Addr.mk.injEq, and_true, true_and] at e
      obtain ⟨rfl, rfl⟩ := e
      refine ⟨hb, cs, hgg, ?_⟩
      have := congrArg (fun l => l[0]?) htk
      rw [List.getElem?_take, if_pos (by decide), Array.getElem?_toList] at this
      exact this
  refine ⟨rfl, q, cap, ⟨hpo, ⟨cs, hq.far (p := ⟨p, 0, none⟩) (by dsimp only; omega) _, hc⟩, World.ownsRow_nil _ _ _ _, ⟨hB.1, by omega, Nat.le_trans hB.2 hff.size⟩, by simp⟩, hff, hlo⟩
end
end Go.Proofs.Ytoldegajbonliaa
