/- Flow: the document's pool: At, Patch. -/
import Derived.Test.YtoldegajbonliaaFr1
namespace Go.Proofs.Ytoldegajbonliaa
open Go Go.RowKit
set_option linter.unusedVariables false
attribute [local go_sem] Oper.semAt_some

section
variable {w : World} {B p q cap : Nat} {tv : Value} {ts : List Tk} {S : Nat → Prop}
set_option maxRecDepth 100000 in
set_option maxHeartbeats 1000000 in
theorem At_r (i : Int) (w : World) (h : Pl RP w B p q cap tv ts) : Calls Try.prog 77 #[.pointer (some ⟨p, 0, none⟩), .int .i64 1, .int .i64 i] w fun e w' => e = .returned (.tuple #[(atT ts i).val, .bool (decide (0 ≤ i ∧ i < ts.length))]) ∧ Fr0 w w' := by
  have hf := (Fr.refl (fun _ => False) w).alloc (.cells #[.int .i64 0, .int .i64 0, .int .i64 0] 39)
  have h2 := h.fr hf (fun _ _ x => x)
  have HIS := Lib.hid (is_r _ h2)
  obtain ⟨c0, _, c2⟩ := h2.cells
  have hfew := h.few
  obtain ⟨A, c, rfl⟩ := h.form
  have HTR := Lib.hid h2.tr
  have HFA := Lib.hid (fun (V : World) (o : Obj) => (Fr.refl (fun _ => False) V).alloc o)
  obtain ⟨n, hn⟩ : ∃ n, ts.length = n := ⟨_, rfl⟩
  rw [hn] at c2 HTR hfew ⊢
  clear h h2 hf
  rcases (show i < 0 ∨ (0 ≤ i ∧ (n : Int) ≤ i) ∨ (0 ≤ i ∧ i < (n : Int)) by omega) with hm | ⟨hm, hm2⟩ | ⟨hm, hm2⟩
  · have hd : decide (0 ≤ i ∧ i < (n : Int)) = false := by simp; omega
    have ha : atT ts i = ⟨0, 0, 0⟩ := by unfold atT; rw [if_neg (by omega)]
    rw [hd, ha]
    unfold Tk.val
    clear hd ha
    go_enter Try.func77, Try.ntmps77
    go_wp2_with (go_at_call 73; refine HIS.out.mono ?_; rintro e w' ⟨rfl, rfl⟩)
    exact bodyPost_ret (v := .tuple #[.agg #[.int .i64 0, .int .i64 0, .int .i64 0], .bool false]) (by simp [results, Try.results77, go_sem]) rfl ⟨rfl, (Fr.refl _ w).alloc _⟩
  · have hd : decide (0 ≤ i ∧ i < (n : Int)) = false := by simp; omega
    have ha : atT ts i = ⟨0, 0, 0⟩ := by unfold atT; rw [if_pos hm, List.getElem?_eq_none (by omega)]; rfl
    rw [hd, ha]
    unfold Tk.val
    clear hd ha
    go_enter Try.func77, Try.ntmps77
    go_wp2_with (go_at_call 73; refine HIS.out.mono ?_; rintro e w' ⟨rfl, rfl⟩)
    exact bodyPost_ret (v := .tuple #[.agg #[.int .i64 0, .int .i64 0, .int .i64 0], .bool false]) (by simp [results, Try.results77, go_sem]) rfl ⟨rfl, (Fr.refl _ w).alloc _⟩
  · obtain ⟨j, rfl⟩ : ∃ j : Nat, i = (j : Int) := ⟨i.toNat, by omega⟩
    obtain ⟨x, hx⟩ : ∃ x, ts[j]? = some x := ⟨_, List.getElem?_eq_getElem (by omega)⟩
    have hd : decide (0 ≤ (j : Int) ∧ (j : Int) < (n : Int)) = true := by simp; omega
    have ha : atT ts j = x := by unfold atT; rw [if_pos hm, Int.toNat_natCast, hx]; rfl
    obtain ⟨g, c', e, _, d0, d1, d2, _⟩ := tk_cells HTR.out hn.symm hx
    injection e with e e2 e3
    subst e
    rw [hd, ha]
    unfold Tk.val
    clear hd ha hx e2 e3 hn HTR
    go_enter Try.func77, Try.ntmps77
    go_wp2_with (go_at_call 73; refine HIS.out.mono ?_; rintro e w' ⟨rfl, rfl⟩)
    exact bodyPost_ret (v := .tuple #[.agg #[.int .i64 x.op, .int .i64 x.a, .int .i64 x.b], .bool true]) (by simp [results, Try.results77, go_sem]) rfl ⟨rfl, (Fr.refl _ w).alloc _⟩
set_option maxRecDepth 100000 in
set_option maxHeartbeats 1000000 in
theorem Patch_r (i a : Int) (w : World) (h : Pl RP w B p q cap tv ts) : Calls Try.prog 74 #[.pointer (some ⟨p, 0, none⟩), .int .i64 1, .int .i64 i, .int .i64 a] w fun e w' => e = .returned (.int .i64 (patchV ts i a)) ∧ Pl RP w' B p q cap tv (patchT ts i a) ∧ Fr (PlIn p q tv) w w' := by
  have HH := Lib.hid h
  have HIS := Lib.hid (is_r _ h)
  obtain ⟨c0, _, c2⟩ := h.cells
  have hfew := h.few
  obtain ⟨A, c, rfl⟩ := h.form
  unfold patchV patchT
  obtain ⟨n, hn⟩ : ∃ n, ts.length = n := ⟨_, rfl⟩
  have HN := Lib.hid hn
  rw [hn] at c2 hfew ⊢
  clear h hn
  by_cases hok : 0 ≤ i ∧ i < (n : Int) ∧ 0 ≤ a
  · rw [if_pos hok, if_pos hok]
    obtain ⟨hm, hm2, hm3⟩ := hok
    obtain ⟨j, rfl⟩ : ∃ j : Nat, i = (j : Int) := ⟨i.toNat, by omega⟩
    obtain ⟨x, hx⟩ : ∃ x, ts[j]? = some x := ⟨_, List.getElem?_eq_getElem (by rw [HN.out]; omega)⟩
    have ha : atT ts j = x := by unfold atT; rw [if_pos hm, Int.toNat_natCast, hx]; rfl
    rw [ha, Int.toNat_natCast]
    have htr := HH.out.tr
    obtain ⟨g, c', e, _, d0, d1, d2, y1⟩ := tk_cells htr rfl hx
    injection e with e e2 e3
    subst e
    have HX := Lib.hid hx
    clear ha hx htr e2 e3
    go_enter Try.func74, Try.ntmps74
    go_wp2_with (go_at_call 73; refine HIS.out.mono ?_; rintro e w' ⟨rfl, rfl⟩)
    go_ret
    have hff := (Fr.refl (PlIn p q (.slice (some ⟨g, 0, none⟩) n c)) w).setCell (p := ⟨g, j * 3 + 1, none⟩) (.inl (.inr (.inr rfl))) (.int .i64 a)
    have hlen : (ts.set j ⟨x.op, a, x.b⟩).length = n := by rw [List.length_set, HN.out]
    have htr : w.ownsRow B 39 3 (.slice (some ⟨g, 0, none⟩) n c) n (ts.flatMap Tk.cells) := by
      have := HH.out.tr
      rwa [HN.out] at this
    obtain ⟨cur, hq, hcq⟩ := HH.out.dr
    obtain ⟨cs, hgt⟩ : ∃ cs, Blk w g 39 cs := by
      rcases htr.2 with ⟨e, _⟩ | ⟨g', cap', cs, e, _, hg, _⟩
      · cases e
      · injection e with e
        injection e with e
        injection e with e
        subst e
        exact ⟨cs, hg⟩
    have hgp : p ≠ g := Blk.ne_ HH.out.po hgt (by decide)
    have hgq : q ≠ g := Blk.ne_ hq hgt (by decide)
    refine ⟨rfl, ⟨?_, ⟨cur, hq.far (p := ⟨g, j * 3 + 1, none⟩) hgq _, by rw [← HN.out]; exact hcq⟩, ?_, ⟨HH.out.lo.1, HH.out.lo.2.1, Nat.le_trans HH.out.lo.2.2 hff.size⟩, by rw [hlen]; exact hfew⟩, hff⟩
    · rw [hlen]
      have := HH.out.po
      rw [HN.out] at this
      exact this.far (p := ⟨g, j * 3 + 1, none⟩) hgp _
    · rw [hlen]
      exact rowZ_set (j := 1) (x' := ⟨x.op, a, x.b⟩) tkz htr HN.out.symm HX.out (by omega) rfl
  · rw [if_neg hok, if_neg hok]
    have HPOST := Lib.hid (show ∀ e : Ending, e = .returned (.int .i64 1) → e = .returned (.int .i64 1) ∧ Pl RP w B p q cap (.slice A n c) ts ∧ Fr (PlIn p q (.slice A n c)) w w from fun e he => ⟨he, HN.out ▸ HH.out, Fr.refl _ _⟩)
    rcases (show i < 0 ∨ (0 ≤ i ∧ (n : Int) ≤ i) ∨ (0 ≤ i ∧ i < (n : Int) ∧ a < 0) by omega) with hm | ⟨hm, hm2⟩ | ⟨hm, hm2, hm3⟩
    · go_enter Try.func74, Try.ntmps74
      go_wp2_with (go_at_call 73; refine HIS.out.mono ?_; rintro e w' ⟨rfl, rfl⟩)
      go_ret
      exact HPOST.out _ rfl
    · go_enter Try.func74, Try.ntmps74
      go_wp2_with (go_at_call 73; refine HIS.out.mono ?_; rintro e w' ⟨rfl, rfl⟩)
      go_ret
      exact HPOST.out _ rfl
    · go_enter Try.func74, Try.ntmps74
      go_wp2_with (go_at_call 73; refine HIS.out.mono ?_; rintro e w' ⟨rfl, rfl⟩)
      go_ret
      exact HPOST.out _ rfl
end
end Go.Proofs.Ytoldegajbonliaa
