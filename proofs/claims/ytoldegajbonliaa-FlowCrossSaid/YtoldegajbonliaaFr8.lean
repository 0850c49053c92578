/- Flow: the document's pop. -/
import Derived.Test.YtoldegajbonliaaFr6
import Derived.StillTailTactics
namespace Go.Proofs.Ytoldegajbonliaa
open Go Go.RowKit
set_option linter.unusedVariables false
attribute [local go_sem] Oper.semAt_some

/-- The last one off a row. -/
theorem own_pop {w : World} {B m c z : Nat} {e : TypeId} {A : Option Addr} {α : Type} {cells : α → List Value} (hz : ∀ x, (cells x).length = z) {xs : List α} {x : α} (h : w.ownsRow B e z (.slice A (m + 1) c) (m + 1) ((xs ++ [x]).flatMap cells)) (hm : xs.length = m) : w.ownsRow B e z (.slice A m c) m (xs.flatMap cells) := by
  refine ⟨by rw [flatZ_len hz, hm], ?_⟩
  rcases h.2 with ⟨e, e0⟩ | ⟨g', cap', cs, e, hb, hg, hle, hmx, hsz, htk⟩
  · omega
  · injection e with e e2 e3
    subst e3
    refine .inr ⟨g', c, cs, by rw [e], hb, hg, by omega, hmx, hsz, ?_⟩
    have h2 := congrArg (List.take (m * z)) htk
    rw [List.take_take, Nat.min_eq_left (Nat.mul_le_mul_right z (by omega)), List.flatMap_append] at h2
    rw [h2]
    exact List.take_left' (by rw [flatZ_len hz, hm])
section
variable {w w' : World} {B r p q cap : Nat} {tv tv' lv lv' : Value} {ts ts' : List Tk} {xs : List RT} {T : Nat → Prop}
set_option maxRecDepth 100000 in
set_option maxHeartbeats 4000000 in
theorem pop_r (x : RT) (w : World) (h : RF w B r p (xs ++ [x]) lv ts q cap tv) : Calls Try.prog 75 #[.pointer (some ⟨r, 0, none⟩)] w fun e w' => e = .returned (.agg #[.int .i64 x.kind, .int .i64 x.place, x.tv]) ∧ ∃ lv', RF w' B r p xs lv' ts q cap tv ∧ OwnI w' B x.tv x.to_ ∧ Turn (RFIn r p q tv lv (xs ++ [x])) (RFIn r p q tv lv' xs) w w' := by
  obtain ⟨n, hn⟩ : ∃ n, xs.length = n := ⟨_, rfl⟩
  have hlen : (xs ++ [x]).length = n + 1 := by simp [hn]
  have hx : (xs ++ [x])[n]? = some x := by rw [List.getElem?_append_right (by omega), hn, Nat.sub_self]; rfl
  obtain ⟨g, c, e, d0, d1, d2, _⟩ := h.things hx
  rw [hlen] at e
  subst e
  obtain ⟨_, _, r2⟩ := h.cells
  have y2 := h.fo.frozen 2
  have hrl := h.fo.lt
  have hgl : g < w.heap.size := World.block_lt_of_cell? _ _ d0
  obtain ⟨AJ, mj, cj, hj⟩ : ∃ AJ mj cj, x.tv = .slice AJ mj cj := by
    obtain ⟨_, A, c, e, _⟩ := own_src (h.js x (by simp)).1
    exact ⟨A, _, c, e⟩
  have hcap : n + 1 ≤ c := by
    have h1 := h.ls
    rw [hlen] at h1
    rcases h1.2 with ⟨e, _⟩ | ⟨g', cap', cs, e, _, _, hle, _⟩
    · cases e
    · injection e with _ _ e3
      rw [e3]
      exact hle
  have hfew := h.few
  rw [hlen] at hfew
  have HH := Lib.hid h
  have HN := Lib.hid hn
  have HJ := Lib.hid hj
  obtain ⟨xk, hxk⟩ : ∃ xk, x.kind = xk := ⟨_, rfl⟩
  obtain ⟨xp, hxp⟩ : ∃ xp, x.place = xp := ⟨_, rfl⟩
  rw [hxk] at d0 ⊢
  rw [hxp] at d1 ⊢
  rw [hj] at d2 ⊢
  have hwn : IntKind.i64.wrap (((n + 1 : Nat) : Int) - 1) = (n : Int) := by rw [IntWalk.i64_in _ (by omega)]; omega
  have hwn2 : IntKind.i64.wrap ((n : Int) + 1 - 1) = (n : Int) := by rw [IntWalk.i64_in _ (by omega)]; omega
  have hwn3 : IntKind.i64.wrap (n : Int) = (n : Int) := IntWalk.i64_in _ (by omega)
  have hn0 : (0 : Int) ≤ (n : Int) := by omega
  have hlt : (n : Int) < (n : Int) + 1 := by omega
  have hcI : (n : Int) ≤ (c : Int) := by omega
  have hc2 : n ≤ c := by omega
  have hs0 := HH.out.cells
  clear h hn hj hxk hxp hx hs0 hlen
  go_enter Try.func75, Try.ntmps75
  go_upto_region 1 with (fail)
  have hfa := (Fr.refl (fun _ => False) w).alloc (.cells #[.int .i64 0, .int .i64 0, .slice none 0 0] 89)
  obtain ⟨W, hW⟩ : ∃ W, w.alloc (.cells #[.int .i64 0, .int .i64 0, .slice none 0 0] 89) = W := ⟨_, rfl⟩
  have hrb := Blk.new w 89 #[.int .i64 0, .int .i64 0, .slice none 0 0]
  obtain ⟨b, hb⟩ : ∃ b, w.heap.size = b := ⟨_, rfl⟩
  rw [hW] at hfa hrb ⊢
  rw [hb] at hrb ⊢
  have HFA := Lib.hid hfa
  have HRB := Lib.hid hrb
  have HBE := Lib.hid hb
  have D0 := (hfa.cell (p := ⟨g, n * 3, none⟩) hgl (fun h => h)).trans d0
  have D1 := (hfa.cell (p := ⟨g, n * 3 + 1, none⟩) hgl (fun h => h)).trans d1
  have D2 := (hfa.cell (p := ⟨g, n * 3 + 2, none⟩) hgl (fun h => h)).trans d2
  have R2 := (hfa.cell (p := ⟨r, 2, none⟩) hrl (fun h => h)).trans r2
  have hrW := Nat.lt_of_lt_of_le hrl hfa.size
  have hgW := Nat.lt_of_lt_of_le hgl hfa.size
  have Y2 := (hfa.frozen (p := ⟨r, 2, none⟩) hrl (fun h => h)).trans y2
  clear d0 d1 d2 r2 hfa hrb hW hb hrl hgl y2
  have HS := Lib.hid (show ∀ V, Fr0 W V → V.cell? ⟨r, 2, none⟩ = some (.slice (some ⟨g, 0, none⟩) (n + 1) c) ∧ V.cell? ⟨g, n * 3, none⟩ = some (.int .i64 xk) ∧ V.cell? ⟨g, n * 3 + 1, none⟩ = some (.int .i64 xp) ∧ V.cell? ⟨g, n * 3 + 2, none⟩ = some (.slice AJ mj cj) from fun V hV => ⟨(hV.cell (p := ⟨r, 2, none⟩) hrW (fun h => h)).trans R2, (hV.cell (p := ⟨g, n * 3, none⟩) hgW (fun h => h)).trans D0, (hV.cell (p := ⟨g, n * 3 + 1, none⟩) hgW (fun h => h)).trans D1, (hV.cell (p := ⟨g, n * 3 + 2, none⟩) hgW (fun h => h)).trans D2⟩)
  have k1 := HS.out _ (Fr.refl (fun _ => False) W).drew
  have k2 := HS.out _ ((Fr.refl (fun _ => False) W).alloc (.cells #[.int .i64 0, .int .i64 0, .slice none 0 0] 89)).drew
  have k3 := HS.out _ ((Fr.refl (fun _ => False) W).alloc (.cells #[.int .i64 xk, .int .i64 xp, .slice AJ mj cj] 89)).drew
  have HYW := Lib.hid (And.intro Y2 (And.intro hrW hgW))
  clear D0 D1 D2 R2 Y2 hrW hgW
  go_region_held3 (fun V => V.cell? ⟨r, 2, none⟩ = some (.slice (some ⟨g, 0, none⟩) (n + 1) c) ∧ V.cell? ⟨g, n * 3, none⟩ = some (.int .i64 xk) ∧ V.cell? ⟨g, n * 3 + 1, none⟩ = some (.int .i64 xp) ∧ V.cell? ⟨g, n * 3 + 2, none⟩ = some (.slice AJ mj cj)) (first | (with_reducible exact k1) | (with_reducible exact k2) | (with_reducible exact k3)) (fail)
  clear k1 k2
  have hfb := ((Fr.refl (fun _ => False) W).alloc (.cells #[.int .i64 xk, .int .i64 xp, .slice AJ mj cj] 89)).drew
  have hxb := (Blk.new W 89 #[.int .i64 xk, .int .i64 xp, .slice AJ mj cj]).drew
  obtain ⟨W2, hW2⟩ : ∃ W2, (W.alloc (.cells #[.int .i64 xk, .int .i64 xp, .slice AJ mj cj] 89)).drew = W2 := ⟨_, rfl⟩
  obtain ⟨b2, hb2⟩ : ∃ b2, W.heap.size = b2 := ⟨_, rfl⟩
  rw [hW2] at hfb hxb k3 ⊢
  rw [hb2] at hxb ⊢
  have r2 := k3.1
  have y2 := (hfb.frozen (p := ⟨r, 2, none⟩) HYW.out.2.1 (fun h => h)).trans HYW.out.1
  have hrb2 := HRB.out.fr0 hfb
  have HFB := Lib.hid hfb
  have HXB := Lib.hid hxb
  have HB2 := Lib.hid hb2
  have hne2 : b2 ≠ r := fun e => by have := HYW.out.2.1; have := hb2; omega
  have hne3 : b ≠ r := fun e => by have := HH.out.fo.lt; have := HBE.out; omega
  have hs9 := ((Fr.refl (fun k => k = r) W2).setCell (p := ⟨r, 2, none⟩) (.inl rfl) (.slice (some ⟨g, 0, none⟩) n c)).drew
  have hx9 := hxb.fr hs9 hne2
  have hr9 := hrb2.fr hs9 hne3
  have HX9 := Lib.hid hx9
  have HR9 := Lib.hid hr9
  have HS9 := Lib.hid hs9
  clear k3 hfb hxb hW2 hb2 hrb2 hs9 hx9 hr9
  go_wp2_with fail
  go_still_tail 14, (by kernel_rfl)
  change wpList _ _ _ _ _ W2.drew
  go_upto_region 3 with (fail)
  obtain ⟨W9, hW9⟩ : ∃ W9, (W2.setCell ⟨r, 2, none⟩ (.slice (some ⟨g, 0, none⟩) n c)).drew = W9 := ⟨_, rfl⟩
  rw [hW9] at HX9 HR9 HS9 ⊢
  have z0 := HX9.out.cell 0
  have z1 := HX9.out.cell 1
  have z2 := HX9.out.cell 2
  have v0 := HR9.out.frozen 0
  have v1 := HR9.out.frozen 1
  have v2 := HR9.out.frozen 2
  have u0 := HR9.out.cell 0
  have u1 := HR9.out.cell 1
  have u2 := HR9.out.cell 2
  have HW9 := Lib.hid hW9
  clear hW9 r2 y2
  go_wp2_with fail
  have hb9 := ((HR9.out.set_ 0 (.int .i64 xk)).set_ 1 (.int .i64 xp)).set_ 2 (.slice AJ mj cj)
  have f9 := ((((Fr.refl (fun k => k = b) W9).setCell (p := ⟨b, 0, none⟩) (.inl rfl) (.int .i64 xk)).setCell (p := ⟨b, 1, none⟩) (.inl rfl) (.int .i64 xp)).setCell (p := ⟨b, 2, none⟩) (.inl rfl) (.slice AJ mj cj))
  simp only [List.setIfInBounds_toArray, List.set_cons_zero, List.set_cons_succ] at hb9
  have q0 := hb9.cell 0
  have q1 := hb9.cell 1
  have q2 := hb9.cell 2
  refine bodyPost_ret (v := .agg #[.int .i64 xk, .int .i64 xp, .slice AJ mj cj]) (by simp [results, Try.results75, go_sem, q0, q1, q2]) rfl ⟨rfl, .slice (some ⟨g, 0, none⟩) n c, ?_⟩
  have hHH := HH.out
  have hz := HFA.out.size
  have hlt : ∀ k, RFIn r p q tv (.slice (some ⟨g, 0, none⟩) (n + 1) c) (xs ++ [x]) k → k ≠ b := fun k hk he => by
    have := (hHH.in_lo hk).2
    have := HBE.out
    omega
  have h2 := hHH.fr0 (HFA.out.trans HFB.out)
  have hfo : Blk W9 r 50 #[.pointer (some ⟨p, 0, none⟩), .int .i64 1, .slice (some ⟨g, 0, none⟩) n c] := by
    have := (h2.fo.set_ 2 (.slice (some ⟨g, 0, none⟩) n c)).drew
    rw [HW9.out] at this
    simpa using this
  have hrne : ∀ k, PlIn p q tv k ∨ (Value.slice (some ⟨g, 0, none⟩) (n + 1) c).ownBlock = some k ∨ (∃ y ∈ xs ++ [x], y.tv.ownBlock = some k) → k ≠ r := fun k hk he => by
    subst he
    rcases hk with hk | hk | ⟨y, hy, hk⟩
    · exact h2.pl.no h2.fo (by decide) (by decide) (by decide) hk
    · obtain ⟨cs, hb⟩ := own_blk h2.ls hk
      exact Blk.ne_ hb h2.fo (by decide) rfl
    · obtain ⟨cs, hb⟩ := own_blk (h2.js y hy).1 hk
      exact Blk.ne_ hb h2.fo (by decide) rfl
  have hls : W2.ownsRow B 89 3 (.slice (some ⟨g, 0, none⟩) n c) n (xs.flatMap RT.cells) := by
    have h3 := h2.ls
    rw [show (xs ++ [x]).length = n + 1 by simp [HN.out]] at h3
    exact own_pop rtz h3 HN.out
  have fall := (HS9.out.mono (S' := fun k => k = r ∨ k = b) (fun k _ hk => .inl hk)).trans (f9.mono (S' := fun k => k = r ∨ k = b) (fun k _ hk => .inr hk))
  have hnot : ∀ k, RFIn r p q tv (.slice (some ⟨g, 0, none⟩) (n + 1) c) (xs ++ [x]) k → k ≠ r → ¬ (k = r ∨ k = b) := fun k hk hkr he => he.elim hkr (hlt k hk)
  have hown : ∀ k, (Value.slice (some ⟨g, 0, none⟩) n c).ownBlock = some k → (Value.slice (some ⟨g, 0, none⟩) (n + 1) c).ownBlock = some k := fun k hk => hk
  refine ⟨⟨hfo.fr f9 hne3.symm, h2.pl.fr fall (fun k hk => hnot k (.inl hk) (hrne k (.inl hk))), ?_, fun y hy => ?_, fun i j y z k hi hj h1 h3 => ?_, h2.lo, by rw [HN.out]; omega⟩, ?_, ?_⟩
  · rw [HN.out]
    exact own_fr hls fall (fun k hk => hnot k (.inr (.inr (.inl (hown k hk)))) (hrne k (.inr (.inl (hown k hk)))))
  · have hy' : y ∈ xs ++ [x] := List.mem_append_left _ hy
    exact ⟨own_fr (h2.js y hy').1 fall (fun k hk => hnot k (.inr (.inr (.inr ⟨y, hy', hk⟩))) (hrne k (.inr (.inr ⟨y, hy', hk⟩)))), (h2.js y hy').2⟩
  · exact hHH.dj i j y z k (by rw [List.getElem?_append_left (List.getElem?_eq_some_iff.1 hi).1]; exact hi) (by rw [List.getElem?_append_left (List.getElem?_eq_some_iff.1 hj).1]; exact hj) h1 h3
  · have hx' : x ∈ xs ++ [x] := by simp
    have hj := own_fr (h2.js x hx').1 fall (fun k hk => hnot k (.inr (.inr (.inr ⟨x, hx', hk⟩))) (hrne k (.inr (.inr ⟨x, hx', hk⟩))))
    rw [HJ.out] at hj
    exact hj
  · refine ⟨((HFA.out.trans HFB.out).of0 (S := fun k => k = r)).then fall (fun k hk he => ?_) |>.mono (fun k _ hk => hk ▸ .inr (.inl rfl)), fun k hk => .inl ?_⟩
    · rcases he with h | h
      · exact h
      · have := HBE.out
        omega
    · rcases hk with h | h | h | ⟨y, hy, h⟩
      · exact .inl h
      · exact .inr (.inl h)
      · exact .inr (.inr (.inl h))
      · exact .inr (.inr (.inr ⟨y, List.mem_append_left _ hy, h⟩))
end
end Go.Proofs.Ytoldegajbonliaa
