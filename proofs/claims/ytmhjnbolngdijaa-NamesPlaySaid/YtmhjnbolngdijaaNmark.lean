/- Names: Walk of any names; copies of a state: Mark. -/
import Derived.Test.YtmhjnbolngdijaaNset2
namespace Go.Proofs.Ytmhjnbolngdijaa
open Go Go.RowKit
set_option linter.unusedVariables false
attribute [local go_sem] Oper.semAt_some

section
variable {B c : Nat} {s : St} {S : Nat → Prop}
set_option maxRecDepth 100000 in
set_option maxHeartbeats 4000000 in
theorem Walk_ng (l : Int) (w : World) (h : NgS w B c s S) : Calls Try.prog 15 #[.pointer (some ⟨c, 0, none⟩), .int .i64 l] w fun e w' => ∃ lb tb u S', e = .returned (.func (.func 39) #[] #[.pointer (some ⟨lb, 0, none⟩), .pointer (some ⟨tb, 0, none⟩)]) ∧ Blk w' lb 74 #[u] ∧ Blk w' tb 3 #[.int .i64 l] ∧ w'.ownsRow w.heap.size 30 5 u s.ws.length (s.ws.flatMap Wd.cells) ∧ NgI w' B c s S' ∧ Turn S S' w w' ∧ (w.heap.size ≤ lb ∧ w.heap.size ≤ tb) ∧ ¬ S' lb ∧ ¬ S' tb ∧ ∀ k, u.ownBlock = some k → ¬ S' k := by
  have hf : Fr0 w ((w.alloc (.cells #[.int .i64 l] 3)).alloc (.cells #[.slice none 0 0] 74)) := ((Fr.refl _ w).alloc _).alloc _
  have hb1 : Blk ((w.alloc (.cells #[.int .i64 l] 3)).alloc (.cells #[.slice none 0 0] 74)) w.heap.size 3 #[.int .i64 l] := (Blk.new w _ _).alloc _
  have hb2 : Blk ((w.alloc (.cells #[.int .i64 l] 3)).alloc (.cells #[.slice none 0 0] 74)) (w.heap.size + 1) 74 #[.slice none 0 0] := by
    have := Blk.new (w.alloc (.cells #[.int .i64 l] 3)) 74 #[.slice none 0 0]
    simpa using this
  have hsz : ((w.alloc (.cells #[.int .i64 l] 3)).alloc (.cells #[.slice none 0 0] 74)).heap.size = w.heap.size + 2 := by simp
  have HNO := Lib.hid (none_ng _ (h.fr0 hf))
  have HX1 := Lib.hid (show ¬ S w.heap.size from fun e => by have := (h.lo e).2; omega)
  have HX2 := Lib.hid (show ¬ S (w.heap.size + 1) from fun e => by have := (h.lo e).2; omega)
  have HF := Lib.hid hf
  have HB1 := Lib.hid hb1
  have HB2 := Lib.hid hb2
  have HSZ := Lib.hid hsz
  clear h hf hb1 hb2 hsz
  go_enter Try.func15, Try.ntmps15
  go_wp2_with (first | (go_at_call 33; refine HNO.out.mono ?_; rintro e w1 ⟨rfl, S1, h1, ht, _⟩; have H1 := Lib.hid h1; obtain ⟨m, wv, ov, mf, hN, hS⟩ := h1; have hfew := hN.few; have HCL := Lib.hid (Clone_words wv s.ws w1 (own_src hN.words) (by omega)); have c0 := hN.cells.1; have HC1 := Lib.hid (HB1.out.fr ht.1 HX1.out); have HC2 := Lib.hid (HB2.out.fr ht.1 HX2.out); have HT := Lib.hid ht; clear hN hS ht hfew) | (go_at_call 38; refine HCL.out.mono ?_; rintro e w2 ⟨u, rfl, hu, hf2⟩; have b2 := HC2.out.fr0 hf2; have b0 := b2.frozen 0; have b3 := b2.cell 0; obtain ⟨_, A, cap, rfl, _⟩ := own_src hu; have HB22 := Lib.hid b2; have HB12 := Lib.hid (HC1.out.fr0 hf2); have HU := Lib.hid hu; have HF2 := Lib.hid hf2; clear b2 hu hf2))
  go_ret
  have hb := HB22.out.set_ 0 (.slice A s.ws.length cap)
  simp only [List.setIfInBounds_toArray, List.set_cons_zero] at hb
  have hff := (Fr.refl (fun k => k = w.heap.size + 1) w2).setCell (p := ⟨w.heap.size + 1, 0, none⟩) (.inl rfl) (.slice A s.ws.length cap)
  have hS1 : ∀ k, S1 k → k ≠ w.heap.size ∧ k ≠ w.heap.size + 1 ∧ k < w1.heap.size := fun k hk => by
    refine ⟨fun e => ?_, fun e => ?_, (H1.out.lo hk).2⟩
    · rcases HT.out.2 k hk with h | h
      · exact HX1.out (e ▸ h)
      · have := HSZ.out; omega
    · rcases HT.out.2 k hk with h | h
      · exact HX2.out (e ▸ h)
      · have := HSZ.out; omega
  have hu1 := HT.out.1.size
  have hsz := HSZ.out
  have hul : ∀ k, (Value.slice A s.ws.length cap).ownBlock = some k → w1.heap.size ≤ k := fun k hk => (own_lo HU.out k hk).1
  refine ⟨_, _, _, S1, rfl, hb, HB12.out.far (p := ⟨w.heap.size + 1, 0, none⟩) (by dsimp only; omega) _, ?_, (H1.out.fr0 HF2.out).fr hff (fun k hk e => (hS1 k hk).2.1 e), ⟨((Turn.of0 HF.out).trans (HT.out.trans (Turn.of0 HF2.out))).1.then hff (fun k hk e => by omega), fun k hk => ?_⟩, ⟨by omega, Nat.le_refl _⟩, fun e => (hS1 _ e).2.1 rfl, fun e => (hS1 _ e).1 rfl, fun k hk e => by have := (hS1 k e).2.2; have := hul k hk; omega⟩
  · refine own_mono (own_fr HU.out hff (fun k hk e => ?_)) (by omega)
    exact word_own HU.out HB22.out (by decide) (e ▸ hk)
  · rcases HT.out.2 k hk with h | h
    · exact .inl h
    · exact .inr (by omega)
end

theorem Rd.fr0 {w w' : World} {v : Value} {m size : Nat} {news : List Value} (h : Rd w v m size news) (hf : Fr0 w w') : Rd w' v m size news := by
  obtain ⟨h1, A', cap', e, h2⟩ := h
  refine ⟨h1, A', cap', e, fun hm => ?_⟩
  obtain ⟨b, off, eb, hc⟩ := h2 hm
  refine ⟨b, off, eb, fun j u hj => ?_⟩
  have h3 := hc j u hj
  exact (hf.cell (p := ⟨b, off + j, none⟩) (World.block_lt_of_cell? _ _ h3) (fun x => x)).trans h3
set_option maxRecDepth 100000 in
set_option maxHeartbeats 8000000 in
theorem copied_any (wv ov : Value) (lists cur : Int) (ws : List Wd) (order : List Int) (w : World) (hw : Rd w wv ws.length 5 (ws.flatMap Wd.cells)) (ho : RdI w ov order) (hwl : ws.length ≤ 1000000) (hol : order.length ≤ 1000000) :
    Calls Try.prog 46 #[.agg #[wv, .int .i64 lists, ov, .int .i64 cur]] w fun e w' => ∃ u v, e = .returned (.agg #[u, .int .i64 lists, v, .int .i64 cur]) ∧ w'.ownsRow w.heap.size 30 5 u ws.length (ws.flatMap Wd.cells) ∧ OwnI w' w.heap.size v order ∧ Fr0 w w' := by
  obtain ⟨A1, cap1, rfl⟩ : ∃ A cap, wv = .slice A ws.length cap := by
    obtain ⟨_, A, cap, e, _⟩ := hw
    exact ⟨A, cap, e⟩
  obtain ⟨A2, cap2, rfl⟩ := ho.form
  have hf : Fr0 w ((w.alloc (.cells #[.slice A1 ws.length cap1, .int .i64 lists, .slice A2 order.length cap2, .int .i64 cur] 76)).alloc (.cells #[.slice none 0 0, .int .i64 0, .slice none 0 0, .int .i64 0] 76)) := ((Fr.refl _ w).alloc _).alloc _
  have hb1 : Blk ((w.alloc (.cells #[.slice A1 ws.length cap1, .int .i64 lists, .slice A2 order.length cap2, .int .i64 cur] 76)).alloc (.cells #[.slice none 0 0, .int .i64 0, .slice none 0 0, .int .i64 0] 76)) w.heap.size 76 #[.slice A1 ws.length cap1, .int .i64 lists, .slice A2 order.length cap2, .int .i64 cur] := (Blk.new w _ _).alloc _
  have hb2 : Blk ((w.alloc (.cells #[.slice A1 ws.length cap1, .int .i64 lists, .slice A2 order.length cap2, .int .i64 cur] 76)).alloc (.cells #[.slice none 0 0, .int .i64 0, .slice none 0 0, .int .i64 0] 76)) (w.heap.size + 1) 76 #[.slice none 0 0, .int .i64 0, .slice none 0 0, .int .i64 0] := by
    have := Blk.new (w.alloc (.cells #[.slice A1 ws.length cap1, .int .i64 lists, .slice A2 order.length cap2, .int .i64 cur] 76)) 76 #[.slice none 0 0, .int .i64 0, .slice none 0 0, .int .i64 0]
    simpa using this
  have HW := Lib.hid (fun V (hV : Fr0 w V) => Clone_words (.slice A1 ws.length cap1) ws V (hw.fr0 hV) hwl)
  have HO := Lib.hid (fun V (hV : Fr0 w V) => Clone_ints (.slice A2 order.length cap2) order V (ho.fr0 hV) hol)
  obtain ⟨n1, hn1⟩ : ∃ n1, ws.length = n1 := ⟨_, rfl⟩
  obtain ⟨n2, hn2⟩ : ∃ n2, order.length = n2 := ⟨_, rfl⟩
  have HN1 := Lib.hid hn1
  have HN2 := Lib.hid hn2
  rw [hn1] at HW hb1 hb2 hf ⊢
  rw [hn2] at HO hb1 hb2 hf ⊢
  have HB1 := Lib.hid hb1
  have HB2 := Lib.hid hb2
  have HF := Lib.hid hf
  clear hw ho hf hb1 hb2 hn1 hn2
  go_enter Try.func46, Try.ntmps46
  go_wp2_with fail
  obtain ⟨W0, hW0⟩ : ∃ W0, ((w.alloc (.cells #[.slice A1 n1 cap1, .int .i64 lists, .slice A2 n2 cap2, .int .i64 cur] 76)).alloc (.cells #[.slice none 0 0, .int .i64 0, .slice none 0 0, .int .i64 0] 76)) = W0 := ⟨_, rfl⟩
  rw [hW0] at HB1 HB2 HF ⊢
  have hsz : W0.heap.size = w.heap.size + 2 := by rw [← hW0]; simp
  clear hW0
  have c0 := HB1.out.cell 0
  have c1 := HB1.out.cell 1
  have c2 := HB1.out.cell 2
  have c3 := HB1.out.cell 3
  have y0 := HB1.out.frozen 0
  have y2 := HB1.out.frozen 2
  go_region_with (first | (go_at_call 38; (with_reducible refine (HW.out _ (HF.out.trans (Fr.refl _ _).drew)).mono ?_); rintro e w1 ⟨u, rfl, hq, hf⟩; obtain ⟨_, A3, cap3, rfl, _⟩ := own_src hq; have HU := Lib.hid hq; have HFA := Lib.hid (((Fr.refl (fun _ => False) W0).drew).trans hf); have z0 := (HFA.out.cell (p := ⟨w.heap.size, 0, none⟩) HB1.out.lt (fun x => x)).trans c0; have z2 := (HFA.out.cell (p := ⟨w.heap.size, 2, none⟩) HB1.out.lt (fun x => x)).trans c2; clear hq hf) | (go_at_call 41; (with_reducible refine (HO.out _ (HF.out.trans HFA.out)).mono ?_); rintro e w2 ⟨v, rfl, hq, hf⟩; obtain ⟨A4, cap4, rfl⟩ := hq.rd.form; have HV := Lib.hid hq; have HF12 := Lib.hid hf; have HFB := Lib.hid (HFA.out.trans hf); have x0 := (HFB.out.frozen (p := ⟨w.heap.size, 0, none⟩) HB1.out.lt (fun x => x)).trans y0; have x2 := (HFB.out.frozen (p := ⟨w.heap.size, 2, none⟩) HB1.out.lt (fun x => x)).trans y2; have z0 := (HFB.out.cell (p := ⟨w.heap.size, 0, none⟩) HB1.out.lt (fun x => x)).trans c0; have z2 := (HFB.out.cell (p := ⟨w.heap.size, 2, none⟩) HB1.out.lt (fun x => x)).trans c2; clear hq hf))
  all_goals
    have hb := ((HB1.out.fr0 HFB.out).set_ 0 (.slice A3 n1 cap3)).set_ 2 (.slice A4 order.length cap4)
    simp only [List.setIfInBounds_toArray, List.set_cons_succ, List.set_cons_zero] at hb
    have hb2 := ((HB2.out.fr0 HFB.out).far (p := ⟨w.heap.size, 0, none⟩) (by dsimp only; omega) (.slice A3 n1 cap3)).far (p := ⟨w.heap.size, 2, none⟩) (by dsimp only; omega) (.slice A4 order.length cap4)
    have hf5 := (((Fr.refl (fun k => w.heap.size ≤ k ∧ k ≤ w.heap.size + 1) w2).setCell (p := ⟨w.heap.size, 0, none⟩) (.inl (by dsimp only; omega)) (.slice A3 n1 cap3)).setCell (p := ⟨w.heap.size, 2, none⟩) (.inl (by dsimp only; omega)) (.slice A4 order.length cap4))
    obtain ⟨W5, hW5⟩ : ∃ W5, (w2.setCell ⟨w.heap.size, 0, none⟩ (.slice A3 n1 cap3)).setCell ⟨w.heap.size, 2, none⟩ (.slice A4 order.length cap4) = W5 := ⟨_, rfl⟩
    rw [hW5] at hb hb2 hf5 ⊢
    clear hW5 z0 z2 x0 x2 c0 c1 c2 c3 y0 y2
    have c0 := hb.cell 0
    have c1 := hb.cell 1
    have c2 := hb.cell 2
    have c3 := hb.cell 3
    have q0 := hb2.cell 0
    have q1 := hb2.cell 1
    have q2 := hb2.cell 2
    have q3 := hb2.cell 3
    have y0 := hb2.frozen 0
    have y1 := hb2.frozen 1
    have y2 := hb2.frozen 2
    have y3 := hb2.frozen 3
    have HB5 := Lib.hid hb2
    have HF5 := Lib.hid hf5
    clear hb hb2 hf5
    go_wp2_with fail
    have hR := ((((HB5.out.set_ 0 (.slice A3 n1 cap3)).set_ 1 (.int .i64 lists)).set_ 2 (.slice A4 order.length cap4)).set_ 3 (.int .i64 cur))
    have hF6 := (((((Fr.refl (fun k => w.heap.size ≤ k ∧ k ≤ w.heap.size + 1) W5).setCell (p := ⟨w.heap.size + 1, 0, none⟩) (.inl (by dsimp only; omega)) (.slice A3 n1 cap3)).setCell (p := ⟨w.heap.size + 1, 1, none⟩) (.inl (by dsimp only; omega)) (.int .i64 lists)).setCell (p := ⟨w.heap.size + 1, 2, none⟩) (.inl (by dsimp only; omega)) (.slice A4 order.length cap4)).setCell (p := ⟨w.heap.size + 1, 3, none⟩) (.inl (by dsimp only; omega)) (.int .i64 cur))
    obtain ⟨W6, hW6⟩ : ∃ W6, ((((W5.setCell ⟨w.heap.size + 1, 0, none⟩ (.slice A3 n1 cap3)).setCell ⟨w.heap.size + 1, 1, none⟩ (.int .i64 lists)).setCell ⟨w.heap.size + 1, 2, none⟩ (.slice A4 order.length cap4)).setCell ⟨w.heap.size + 1, 3, none⟩ (.int .i64 cur)) = W6 := ⟨_, rfl⟩
    rw [hW6] at hR hF6 ⊢
    simp only [List.setIfInBounds_toArray, List.set_cons_succ, List.set_cons_zero] at hR
    have r0 : W6.cell? ⟨w.heap.size + 1, 0, none⟩ = some (.slice A3 n1 cap3) := hR.cell 0
    have r1 : W6.cell? ⟨w.heap.size + 1, 1, none⟩ = some (.int .i64 lists) := hR.cell 1
    have r2 : W6.cell? ⟨w.heap.size + 1, 2, none⟩ = some (.slice A4 order.length cap4) := hR.cell 2
    have r3 : W6.cell? ⟨w.heap.size + 1, 3, none⟩ = some (.int .i64 cur) := hR.cell 3
    have hFF := (HF5.out.trans hF6)
    have hzA := HFA.out.size
    have hzB := HF12.out.size
    clear hR hW6 hF6 c0 c1 c2 c3 q0 q1 q2 q3 y0 y1 y2 y3
    refine bodyPost_ret (v := .agg #[.slice A3 n1 cap3, .int .i64 lists, .slice A4 order.length cap4, .int .i64 cur]) (by simp [results, Try.results46, go_sem, r0, r1, r2, r3]) rfl ⟨_, _, rfl, ?_, ?_, (HF.out.trans HFB.out).then hFF (fun k hk e => by omega)⟩
    · refine own_mono (own_fr (own_fr HU.out HF12.out (fun _ _ x => x)) hFF (fun k hk e => ?_)) (by simp; omega)
      have := (own_lo HU.out k hk).1
      have h2 : W0.heap.size ≤ k := this
      omega
    · refine own_mono (own_fr HV.out hFF (fun k hk e => ?_)) (by omega)
      have := (own_lo HV.out k hk).1
      omega
end Go.Proofs.Ytmhjnbolngdijaa
