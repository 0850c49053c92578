/- Flow: pools of tokens with one definition. -/
import Derived.Test.YtoldegajbonliaaFrow
import Derived.Lib.Hide
import Derived.Deep.RegionHeld3
import Derived.Deep.RegionLaw
import Derived.BigQuiet
namespace Go.Proofs.Ytoldegajbonliaa
open Go Go.RowKit
set_option linter.unusedVariables false
attribute [local go_sem] Oper.semAt_some

/-- A token. -/
structure Tk where
  op : Int
  a : Int
  b : Int
def Tk.cells (t : Tk) : List Value := [.int .i64 t.op, .int .i64 t.a, .int .i64 t.b]
def Tk.val (t : Tk) : Value := .agg #[.int .i64 t.op, .int .i64 t.a, .int .i64 t.b]
theorem tkz : ∀ t : Tk, t.cells.length = 3 := fun _ => rfl
/-- What a call turns (S), what is its own behind it (S'). -/
def Turn (S S' : Nat → Prop) (w w' : World) : Prop := Fr S w w' ∧ ∀ k, S' k → S k ∨ w.heap.size ≤ k
theorem Turn.refl (S : Nat → Prop) (w : World) : Turn S S w w := ⟨Fr.refl _ _, fun k h => .inl h⟩
theorem Turn.trans {S S' S'' : Nat → Prop} {a b w : World} (h : Turn S S' a b) (k : Turn S' S'' b w) : Turn S S'' a w :=
  ⟨h.1.then k.1 (fun i hi hs => (h.2 i hs).resolve_right (by omega)), fun i hi => by
    rcases k.2 i hi with h1 | h1
    · exact h.2 i h1
    · exact .inr (Nat.le_trans h.1.size h1)⟩
theorem Turn.of0 {S : Nat → Prop} {w w' : World} (h : Fr0 w w') : Turn S S w w' := ⟨h.of0, fun k h => .inl h⟩
/-- Pool p (of type tp): one definition, its tokens ts. -/
structure Pl (tp : TypeId) (w : World) (B p q cap : Nat) (tv : Value) (ts : List Tk) : Prop where
  po : Blk w p tp #[.slice (some ⟨q, 0, none⟩) 1 cap, .int .i64 ts.length]
  dr : ∃ cur, Blk w q 75 cur ∧ cur[0]? = some tv
  tr : w.ownsRow B 39 3 tv ts.length (ts.flatMap Tk.cells)
  lo : B ≤ p ∧ B ≤ q ∧ B ≤ w.heap.size
  few : ts.length ≤ 50000
def PlIn (p q : Nat) (tv : Value) (k : Nat) : Prop := k = p ∨ k = q ∨ tv.ownBlock = some k
/-- What a pool is told by. -/
def PlS (tp : TypeId) (w : World) (B p : Nat) (ts : List Tk) (S : Nat → Prop) : Prop := ∃ q cap tv, Pl tp w B p q cap tv ts ∧ S = PlIn p q tv
section
variable {tp : TypeId} {w w' : World} {B p q cap : Nat} {tv : Value} {ts : List Tk} {S T : Nat → Prop}
theorem Pl.in_lo (h : Pl tp w B p q cap tv ts) {k : Nat} (hk : PlIn p q tv k) : B ≤ k ∧ k < w.heap.size := by
  obtain ⟨cur, hq, _⟩ := h.dr
  rcases hk with rfl | rfl | hk
  · exact ⟨h.lo.1, h.po.lt⟩
  · exact ⟨h.lo.2.1, hq.lt⟩
  · exact own_lo h.tr k hk
theorem Pl.fr (h : Pl tp w B p q cap tv ts) (hf : Fr T w w') (hS : ∀ k, PlIn p q tv k → ¬ T k) : Pl tp w' B p q cap tv ts := by
  obtain ⟨cur, hq, hc⟩ := h.dr
  exact ⟨h.po.fr hf (hS _ (.inl rfl)), ⟨cur, hq.fr hf (hS _ (.inr (.inl rfl))), hc⟩, own_fr h.tr hf (fun k hk => hS k (.inr (.inr hk))), ⟨h.lo.1, h.lo.2.1, Nat.le_trans h.lo.2.2 hf.size⟩, h.few⟩
theorem PlS.lo (h : PlS tp w B p ts S) {k : Nat} (hk : S k) : B ≤ k ∧ k < w.heap.size := by
  obtain ⟨q, cap, tv, h, rfl⟩ := h
  exact h.in_lo hk
theorem PlS.fr (h : PlS tp w B p ts S) (hf : Fr T w w') (hS : ∀ k, S k → ¬ T k) : PlS tp w' B p ts S := by
  obtain ⟨q, cap, tv, h, rfl⟩ := h
  exact ⟨q, cap, tv, h.fr hf hS, rfl⟩
theorem PlS.fr0 (h : PlS tp w B p ts S) (hf : Fr0 w w') : PlS tp w' B p ts S := h.fr hf fun _ _ x => x
theorem PlS.self (h : PlS tp w B p ts S) : S p := by
  obtain ⟨q, cap, tv, h, rfl⟩ := h
  exact .inl rfl
theorem Pl.form (h : Pl tp w B p q cap tv ts) : ∃ A c, tv = .slice A ts.length c := by
  obtain ⟨_, A, c, e, _⟩ := own_src h.tr
  exact ⟨A, c, e⟩
theorem Pl.cells (h : Pl tp w B p q cap tv ts) : w.cell? ⟨p, 0, none⟩ = some (.slice (some ⟨q, 0, none⟩) 1 cap) ∧ w.cell? ⟨p, 1, none⟩ = some (.int .i64 ts.length) ∧ w.cell? ⟨q, 0, none⟩ = some tv := by
  obtain ⟨cur, hq, hc⟩ := h.dr
  exact ⟨h.po.cell 0, h.po.cell 1, (hq.cell 0).trans hc⟩
end
abbrev PP : TypeId := 62
def atT (ts : List Tk) (i : Int) : Tk := if 0 ≤ i then (ts[i.toNat]?).getD ⟨0, 0, 0⟩ else ⟨0, 0, 0⟩
/-- A token's jump turned. -/
def patchT (ts : List Tk) (i a : Int) : List Tk := if 0 ≤ i ∧ i < ts.length ∧ 0 ≤ a then ts.set i.toNat ⟨(atT ts i).op, a, (atT ts i).b⟩ else ts
theorem tk_cells {w : World} {B n i : Nat} {t : TypeId} {v : Value} {ts : List Tk} {x : Tk} (h : w.ownsRow B t 3 v n (ts.flatMap Tk.cells)) (hn : n = ts.length) (hx : ts[i]? = some x) : ∃ g cap, v = .slice (some ⟨g, 0, none⟩) n cap ∧ B ≤ g ∧ w.cell? ⟨g, i * 3, none⟩ = some (.int .i64 x.op) ∧ w.cell? ⟨g, i * 3 + 1, none⟩ = some (.int .i64 x.a) ∧ w.cell? ⟨g, i * 3 + 2, none⟩ = some (.int .i64 x.b) ∧ w.frozen? ⟨g, i * 3 + 1, none⟩ = false := by
  obtain ⟨g, cap, e, hB, _, hc⟩ := rowZ_cells tkz h hn hx
  exact ⟨g, cap, e, hB, (hc 0 (by omega)).1, (hc 1 (by omega)).1, (hc 2 (by omega)).1, (hc 1 (by omega)).2⟩
section
variable {w : World} {B p q cap : Nat} {tv : Value} {ts : List Tk} {S : Nat → Prop}
set_option maxRecDepth 100000 in
theorem is_p (w : World) (h : Pl PP w B p q cap tv ts) : Calls Try.prog 34 #[.pointer (some ⟨p, 0, none⟩), .int .i64 1] w fun e w' => e = .returned (.bool true) ∧ w = w' := by
  obtain ⟨c0, _, _⟩ := h.cells
  clear h
  go_enter Try.func34, Try.ntmps34
  go_wp2_with fail
  go_ret
  exact ⟨rfl, rfl⟩
set_option maxRecDepth 100000 in
theorem Len_p (w : World) (h : Pl PP w B p q cap tv ts) : Calls Try.prog 17 #[.pointer (some ⟨p, 0, none⟩), .int .i64 1] w fun e w' => e = .returned (.int .i64 ts.length) ∧ w = w' := by
  have HIS := Lib.hid (is_p w h)
  obtain ⟨c0, _, c2⟩ := h.cells
  obtain ⟨A, c, rfl⟩ := h.form
  clear h
  go_enter Try.func17, Try.ntmps17
  go_wp2_with (go_at_call 34; refine HIS.out.mono ?_; rintro e w' ⟨rfl, rfl⟩)
  go_ret
  exact ⟨rfl, rfl⟩
set_option maxRecDepth 100000 in
set_option maxHeartbeats 1000000 in
theorem At_p (i : Int) (w : World) (h : Pl PP w B p q cap tv ts) : Calls Try.prog 18 #[.pointer (some ⟨p, 0, none⟩), .int .i64 1, .int .i64 i] w fun e w' => e = .returned (.tuple #[(atT ts i).val, .bool (decide (0 ≤ i ∧ i < ts.length))]) ∧ Fr0 w w' := by
  have hf := (Fr.refl (fun _ => False) w).alloc (.cells #[.int .i64 0, .int .i64 0, .int .i64 0] 39)
  have h2 := h.fr hf (fun _ _ x => x)
  have HLE := Lib.hid (Len_p _ h2)
  obtain ⟨c0, _, c2⟩ := h2.cells
  have hfew := h.few
  obtain ⟨A, c, rfl⟩ := h.form
  have HTR := Lib.hid h2.tr
  have HFA := Lib.hid (fun (V : World) (o : Obj) => (Fr.refl (fun _ => False) V).alloc o)
  obtain ⟨n, hn⟩ : ∃ n, ts.length = n := ⟨_, rfl⟩
  rw [hn] at c2 HLE HTR hfew ⊢
  clear h h2 hf
  rcases (show i < 0 ∨ (0 ≤ i ∧ (n : Int) ≤ i) ∨ (0 ≤ i ∧ i < (n : Int)) by omega) with hm | ⟨hm, hm2⟩ | ⟨hm, hm2⟩
  · have hd : decide (0 ≤ i ∧ i < (n : Int)) = false := by simp; omega
    have ha : atT ts i = ⟨0, 0, 0⟩ := by unfold atT; rw [if_neg (by omega)]
    rw [hd, ha]
    unfold Tk.val
    clear hd ha
    go_enter Try.func18, Try.ntmps18
    go_wp2_with fail
    exact bodyPost_ret (v := .tuple #[.agg #[.int .i64 0, .int .i64 0, .int .i64 0], .bool false]) (by simp [results, Try.results18, go_sem]) rfl ⟨rfl, (Fr.refl _ w).alloc _⟩
  · have hd : decide (0 ≤ i ∧ i < (n : Int)) = false := by simp; omega
    have ha : atT ts i = ⟨0, 0, 0⟩ := by unfold atT; rw [if_pos hm, List.getElem?_eq_none (by omega)]; rfl
    rw [hd, ha]
    unfold Tk.val
    clear hd ha
    go_enter Try.func18, Try.ntmps18
    go_wp2_with (go_at_call 17; refine HLE.out.mono ?_; rintro e w' ⟨rfl, rfl⟩)
    exact bodyPost_ret (v := .tuple #[.agg #[.int .i64 0, .int .i64 0, .int .i64 0], .bool false]) (by simp [results, Try.results18, go_sem]) rfl ⟨rfl, (Fr.refl _ w).alloc _⟩
  · obtain ⟨j, rfl⟩ : ∃ j : Nat, i = (j : Int) := ⟨i.toNat, by omega⟩
    obtain ⟨x, hx⟩ : ∃ x, ts[j]? = some x := ⟨_, List.getElem?_eq_getElem (by omega)⟩
    have hd : decide (0 ≤ (j : Int) ∧ (j : Int) < (n : Int)) = true := by simp; omega
    have ha : atT ts j = x := by unfold atT; rw [if_pos hm, Int.toNat_natCast, hx]; rfl
    obtain ⟨g, c', e, _, d0, d1, d2, _⟩ := tk_cells HTR.out hn.symm hx
    injection e with e e2 e3
    subst e
    rw [hd, ha]
    unfold Tk.val
    clear hd ha hx e2 e3 hn HTR
    go_enter Try.func18, Try.ntmps18
    go_wp2_with (go_at_call 17; refine HLE.out.mono ?_; rintro e w' ⟨rfl, rfl⟩)
    exact bodyPost_ret (v := .tuple #[.agg #[.int .i64 x.op, .int .i64 x.a, .int .i64 x.b], .bool true]) (by simp [results, Try.results18, go_sem]) rfl ⟨rfl, (Fr.refl _ w).alloc _⟩
def patchV (ts : List Tk) (i a : Int) : Int := if 0 ≤ i ∧ i < ts.length ∧ 0 ≤ a then 0 else 1
set_option maxRecDepth 100000 in
set_option maxHeartbeats 1000000 in
theorem Patch_p (i a : Int) (w : World) (h : Pl PP w B p q cap tv ts) : Calls Try.prog 86 #[.pointer (some ⟨p, 0, none⟩), .int .i64 1, .int .i64 i, .int .i64 a] w fun e w' => e = .returned (.int .i64 (patchV ts i a)) ∧ Pl PP w' B p q cap tv (patchT ts i a) ∧ Fr (PlIn p q tv) w w' := by
  have HH := Lib.hid h
  have HLE := Lib.hid (Len_p _ h)
  obtain ⟨c0, _, c2⟩ := h.cells
  have hfew := h.few
  obtain ⟨A, c, rfl⟩ := h.form
  unfold patchV patchT
  obtain ⟨n, hn⟩ : ∃ n, ts.length = n := ⟨_, rfl⟩
  have HN := Lib.hid hn
  rw [hn] at c2 HLE hfew ⊢
  clear h hn
  by_cases hok : 0 ≤ i ∧ i < (n : Int) ∧ 0 ≤ a
  · rw [if_pos hok, if_pos hok]
    obtain ⟨hm, hm2, hm3⟩ := hok
    obtain ⟨j, rfl⟩ : ∃ j : Nat, i = (j : Int) := ⟨i.toNat, by omega⟩
    obtain ⟨x, hx⟩ : ∃ x, ts[j]? = some x := ⟨_, List.getElem?_eq_getElem (by rw [HN.out]; omega)⟩
    have ha : atT ts j = x := by unfold atT; rw [if_pos hm, Int.toNat_natCast, hx]; rfl
    rw [ha, Int.toNat_natCast]
    have htr := HH.out.tr
    obtain ⟨g, c', e, _, d0, d1, d2, y1⟩ := tk_cells htr rfl hx
    injection e with e e2 e3
    subst e
    have HX := Lib.hid hx
    clear ha hx htr e2 e3
    go_enter Try.func86, Try.ntmps86
    go_wp2_with (go_at_call 17; refine HLE.out.mono ?_; rintro e w' ⟨rfl, rfl⟩)
    go_ret
    have hff := (Fr.refl (PlIn p q (.slice (some ⟨g, 0, none⟩) n c)) w).setCell (p := ⟨g, j * 3 + 1, none⟩) (.inl (.inr (.inr rfl))) (.int .i64 a)
    have hlen : (ts.set j ⟨x.op, a, x.b⟩).length = n := by rw [List.length_set, HN.out]
    have htr : w.ownsRow B 39 3 (.slice (some ⟨g, 0, none⟩) n c) n (ts.flatMap Tk.cells) := by
      have := HH.out.tr
      rwa [HN.out] at this
    obtain ⟨cur, hq, hcq⟩ := HH.out.dr
    obtain ⟨cs, hgt⟩ : ∃ cs, Blk w g 39 cs := by
      rcases htr.2 with ⟨e, _⟩ | ⟨g', cap', cs, e, _, hg, _⟩
      · cases e
      · injection e with e
        injection e with e
        injection e with e
        subst e
        exact ⟨cs, hg⟩
    have hgp : p ≠ g := Blk.ne_ HH.out.po hgt (by decide)
    have hgq : q ≠ g := Blk.ne_ hq hgt (by decide)
    refine ⟨rfl, ⟨?_, ⟨cur, hq.far (p := ⟨g, j * 3 + 1, none⟩) hgq _, by rw [← HN.out]; exact hcq⟩, ?_, ⟨HH.out.lo.1, HH.out.lo.2.1, Nat.le_trans HH.out.lo.2.2 hff.size⟩, by rw [hlen]; exact hfew⟩, hff⟩
    · rw [hlen]
      have := HH.out.po
      rw [HN.out] at this
      exact this.far (p := ⟨g, j * 3 + 1, none⟩) hgp _
    · rw [hlen]
      exact rowZ_set (j := 1) (x' := ⟨x.op, a, x.b⟩) tkz htr HN.out.symm HX.out (by omega) rfl
  · rw [if_neg hok, if_neg hok]
    have HPOST := Lib.hid (show ∀ e : Ending, e = .returned (.int .i64 1) → e = .returned (.int .i64 1) ∧ Pl PP w B p q cap (.slice A n c) ts ∧ Fr (PlIn p q (.slice A n c)) w w from fun e he => ⟨he, HN.out ▸ HH.out, Fr.refl _ _⟩)
    rcases (show i < 0 ∨ (0 ≤ i ∧ (n : Int) ≤ i) ∨ (0 ≤ i ∧ i < (n : Int) ∧ a < 0) by omega) with hm | ⟨hm, hm2⟩ | ⟨hm, hm2, hm3⟩
    · go_enter Try.func86, Try.ntmps86
      go_wp2_with (go_at_call 17; refine HLE.out.mono ?_; rintro e w' ⟨rfl, rfl⟩)
      go_ret
      exact HPOST.out _ rfl
    · go_enter Try.func86, Try.ntmps86
      go_wp2_with (go_at_call 17; refine HLE.out.mono ?_; rintro e w' ⟨rfl, rfl⟩)
      go_ret
      exact HPOST.out _ rfl
    · go_enter Try.func86, Try.ntmps86
      go_wp2_with (go_at_call 17; refine HLE.out.mono ?_; rintro e w' ⟨rfl, rfl⟩)
      go_ret
      exact HPOST.out _ rfl
end
end Go.Proofs.Ytoldegajbonliaa
