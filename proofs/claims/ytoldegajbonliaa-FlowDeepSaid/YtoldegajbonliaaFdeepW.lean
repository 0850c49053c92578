/- The walk of FlowDeep. -/
import Derived.Test.YtoldegajbonliaaFdeep
import Derived.Test.YtoldegajbonliaaFdoes5
import Derived.Test.YtoldegajbonliaaFtok
namespace Go.Proofs.Ytoldegajbonliaa
open Go Go.RowKit
set_option linter.unusedVariables false
attribute [local go_sem] Oper.semAt_some

section
variable {w w' : World} {B x p f q r : Nat} {ks ls : List Int} {ts : List Tk} {S R : Nat → Prop} {word kd : Int} {tk : List Tk}
/-- How high the word has piled up after so many rounds. -/
def Piled (word : Int) (j : Nat) (ks : List Int) : Prop := ((∃ kd tk, Six word kd tk) ∧ ks.length = min (j + 1) 64) ∨ ((word == 1) = false ∧ (∀ (B f p : Nat) (ts : List Tk) (S : Nat → Prop), DoP f word (-22) (FlS B f p [6] ts) (FlS B f p [6] ts) S) ∧ (∀ (B r q : Nat) (ts : List Tk) (R : Nat → Prop), DoR r word (-22) (RFS B r q [6] ts) (RFS B r q [6] ts) R) ∧ ks = [6])
theorem Piled.start (word : Int) : Piled word 0 [6] := by
  rcases deep_any word with h | ⟨h1, h2, h3⟩
  · exact .inl ⟨h, rfl⟩
  · exact .inr ⟨h1, h2, h3, rfl⟩
theorem deep_step {j : Nat} (h : Bo w x p f q r (FlS B f p ks ts) (RFS B r q ks ts) S R) (hp : Piled word j ks) (ht : ts.length ≤ j) (hj : j ≤ 100) :
    Calls Try.prog 20 #[.pointer (some ⟨x, 0, none⟩), .agg #[.int .i64 1, .int .i64 word]] w fun e w' => e = .returned (.bool true) ∧ ∃ ks' ts' S' R', Bo w' x p f q r (FlS B f p ks' ts') (RFS B r q ks' ts') S' R' ∧ Piled word (j + 1) ks' ∧ ts'.length ≤ j + 1 ∧ Turn (fun k => S k ∨ R k) (fun k => S' k ∨ R' k) w w' := by
  rcases id hp with ⟨⟨kd, tk, h6⟩, hk⟩ | ⟨h1, h2, h3, rfl⟩
  · by_cases hlt : ks.length < 64
    · refine (does_1 word 0 0 w h (FlS.side _ _ _ _ _) (RFS.side _ _ _ _ _) (FlS.side _ _ _ _ _) (RFS.side _ _ _ _ _) (sixP h6 hlt (by omega)) (sixR h6 hlt (by omega))).mono ?_
      rintro e w' ⟨rfl, S', R', hb, ht'⟩
      refine ⟨rfl, _, _, S', R', hb, .inl ⟨⟨kd, tk, h6⟩, by simp; omega⟩, ?_, ht'⟩
      have : tk.length ≤ 1 := by cases h6 <;> simp
      rw [List.length_append]
      omega
    · have h64 : ks.length = 64 := by have := (FlS.len h.a).1; omega
      refine (does_1 word (-52) (-52) w h (FlS.side _ _ _ _ _) (RFS.side _ _ _ _ _) (FlS.side _ _ _ _ _) (RFS.side _ _ _ _ _) (sixOverP h6 h64) (sixOverR h6 h64)).mono ?_
      rintro e w' ⟨rfl, S', R', hb, ht'⟩
      exact ⟨rfl, _, _, S', R', hb, .inl ⟨⟨kd, tk, h6⟩, by omega⟩, by omega, ht'⟩
  · refine (does_1 word (-22) (-22) w h (FlS.side _ _ _ _ _) (RFS.side _ _ _ _ _) (FlS.side _ _ _ _ _) (RFS.side _ _ _ _ _) (h2 _ _ _ _ _) (h3 _ _ _ _ _)).mono ?_
    rintro e w' ⟨rfl, S', R', hb, ht'⟩
    exact ⟨rfl, _, _, S', R', hb, .inr ⟨h1, h2, h3, rfl⟩, by omega, ht'⟩
theorem DepthS (V : World) (h : FlS B f p ks ts V S) : Calls Try.prog 14 #[.pointer (some ⟨f, 0, none⟩)] V fun e w' => e = .returned (.int .i64 ks.length) ∧ V = w' := by
  obtain ⟨st, g, scap, q1, cap, tv, h, rfl, _⟩ := h
  rw [List.length_map]
  exact Depth_f V h
theorem RFS.list (V : World) (h : RFS B r q ks ts V R) : ∃ A c, V.cell? ⟨r, 2, none⟩ = some (.slice A ks.length c) ∧ r < V.heap.size ∧ R r := by
  obtain ⟨xs, lv, q1, cap, tv, h, rfl, rfl⟩ := h
  obtain ⟨A, c, rfl⟩ := h.form
  exact ⟨A, c, by rw [List.length_map]; exact h.cells.2.2, h.fo.lt, .inr (.inl rfl)⟩
theorem overP0 (V : World) (hA : FlS B f p ks ts V S) (hk : ks.length = 64) : Calls Try.prog 12 #[.pointer (some ⟨f, 0, none⟩), .int .i64 5] V fun e V' => e = .returned (.int .i64 (-52)) ∧ Fr0 V V' := by
  obtain ⟨st, g, scap, q1, cap, tv, h, e1, e2⟩ := id hA
  have h' : Fl V B f p (st ++ []) g scap ts q1 cap tv := by rw [List.append_nil]; exact h
  have h64 : (st ++ []).length = 64 := by rw [List.append_nil, ← List.length_map (f := Th.kind), e1]; exact hk
  exact do_over 5 _ [] 1 st [] V h' find_5 rfl rfl h64
set_option maxRecDepth 100000 in
set_option maxHeartbeats 8000000 in
theorem deep_walk (n word : Int) (w : World) (hn : -9223372036854775808 ≤ n ∧ n ≤ 9223372036854775807) (hw : -9223372036854775808 ≤ word ∧ word ≤ 9223372036854775807) : Calls Try.prog 4 #[.int .i64 n, .int .i64 word] w fun e w' => e = .returned (.bool true) ∧ Fr0 w w' := by
  clear hn hw
  by_cases hneg : n < 0
  · go_enter Try.func4, Try.ntmps4
    go_wp2_with (go_at_call 7; refine (awake16 _).mono ?_; rintro e w2 ⟨rfl, hf2⟩)
    go_ret
    exact ⟨rfl, hf2⟩
  by_cases hbig : 100 < n
  · have hneg' : 0 ≤ n := by omega
    go_enter Try.func4, Try.ntmps4
    go_wp2_with (go_at_call 7; refine (awake16 _).mono ?_; rintro e w2 ⟨rfl, hf2⟩)
    go_ret
    exact ⟨rfl, hf2⟩
  obtain ⟨m, rfl⟩ : ∃ m : Nat, n = (m : Int) := ⟨n.toNat, by omega⟩
  have hm : m ≤ 100 := by omega
  have hd1 : decide (100 < m) = false := decide_eq_false (by omega)
  have hd2 : decide ((100 : Int) < (m : Int)) = false := decide_eq_false (by omega)
  have hd0 : ¬ ((m : Int) < 0) := by omega
  clear hneg hbig
  go_enter Try.func4, Try.ntmps4
  go_wp2_with fail
  go_at_call 8
  refine (begun_16 _).mono ?_
  rintro e w1 ⟨x, p, f, q, r, rfl, hx, hp, hf, hq, hr, ⟨hlx, hlp, hlf, hlq, hlr⟩, hfr⟩
  have HF1 := Lib.hid hfr
  have x0 := hx.cell 0
  have x1 := hx.cell 1
  have HBG := Lib.hid (does_5 (B := w.heap.size) w1 hx hp hf hq hr ⟨hlx, hlp, hlf, hlq, hlr⟩)
  clear hx hp hf hq hr hlx hlp hlf hlq hlr hfr
  go_wp2_with (go_at_call 20; refine HBG.out.mono ?_; rintro e w2 ⟨rfl, S, R, hb, hf2⟩)
  have HB := Lib.hid hb
  have HF2 := Lib.hid ((HF1.out.of0 (S := fun k => w.heap.size ≤ k)).then hf2 (fun k _ hk => hk))
  clear hb hf2 x0 x1
  go_loopw [6] (fun i wr => ∃ j : Nat, j ≤ m ∧ i = .int .i64 j ∧ ∃ ks ts S R, Bo wr x p f q r (FlS w.heap.size f p ks ts) (RFS w.heap.size r q ks ts) S R ∧ Piled word j ks ∧ ts.length ≤ j ∧ Fr (fun k => w.heap.size ≤ k) w wr) (fun i _ => m - (intOf i).toNat)
  case atStart => exact ⟨0, by omega, rfl, _, _, _, _, HB.out, Piled.start word, by simp, HF2.out⟩
  case round =>
    obtain ⟨j, hj, rfl, ks, ts, S1, R1, hb, hpi, htl, hfr⟩ := hrel
    have HB1 := Lib.hid hb
    have HPI := Lib.hid hpi
    have HFR := Lib.hid hfr
    have HTL := Lib.hid htl
    clear hb hpi hfr htl
    have HIN := Lib.hid (fun k (hk : S1 k ∨ R1 k) => hk.elim (fun h => ((FlS.side _ _ _ _ _).lo HB1.out.a h).1) (fun h => ((RFS.side _ _ _ _ _).lo HB1.out.c h).1))
    by_cases hlt : j < m
    · have hltI : (j : Int) < (m : Int) := by omega
      have HST := Lib.hid (deep_step HB1.out HPI.out HTL.out (by omega))
      go_wp2_with (go_at_call 20; refine HST.out.mono ?_; rintro e w3 ⟨rfl, ks', ts', S', R', hb3, hp3, ht3, t3⟩)
      exact ⟨⟨j + 1, by omega, by push_cast; rfl, ks', ts', S', R', hb3, hp3, ht3, HFR.out.then t3.1 (fun k _ hk => HIN.out k hk)⟩, by simp [intOf]; omega⟩
    · obtain rfl : j = m := by omega
      have hx1 := HB1.out.tw.cell 1
      have hx3 := HB1.out.tw.cell 3
      obtain ⟨LA, lc, hl2, hrl, hRr⟩ := RFS.list _ HB1.out.c
      have hle := (FlS.len HB1.out.a).1
      obtain ⟨nk, hnk⟩ : ∃ nk, ks.length = nk := ⟨_, rfl⟩
      have HNK := Lib.hid hnk
      rw [hnk] at hl2 hle
      clear hnk
      have HEND := Lib.hid (show ∀ V, Fr0 wr V → Bo V x p f q r (FlS w.heap.size f p ks ts) (RFS w.heap.size r q ks ts) S1 R1 from fun V hV => HB1.out.fr0 (FlS.side _ _ _ _ _) (RFS.side _ _ _ _ _) hV)
      have HDE := Lib.hid (show ∀ V, Fr0 wr V → Calls Try.prog 14 #[.pointer (some ⟨f, 0, none⟩)] V fun e w' => e = .returned (.int .i64 nk) ∧ V = w' from fun V hV => HNK.out ▸ DepthS V (HEND.out V hV).a)
      have HTO := Lib.hid (show ∀ V, Fr0 wr V → Calls Try.prog 21 #[.pointer (some ⟨x, 0, none⟩)] V fun e w' => e = .returned (.bool true) ∧ Fr0 V w' from fun V hV => tokens1_any V (HEND.out V hV))
      have HCE := Lib.hid (show ∀ V, Fr0 wr V → V.cell? ⟨x, 1, none⟩ = some (.pointer (some ⟨f, 0, none⟩)) ∧ V.cell? ⟨x, 3, none⟩ = some (.pointer (some ⟨r, 0, none⟩)) ∧ V.cell? ⟨r, 2, none⟩ = some (.slice LA nk lc) from fun V hV => ⟨(HEND.out V hV).tw.cell 1, (HEND.out V hV).tw.cell 3, (hV.cell (p := ⟨r, 2, none⟩) hrl (fun h => h)).trans hl2⟩)
      have HV0 := Lib.hid (Fr.refl (fun _ => False) wr)
      by_cases hw1 : word = 1
      · subst hw1
        by_cases h64 : 64 ≤ j
        · have hk64 : ks.length = 64 := by
            rcases HPI.out with ⟨_, h⟩ | ⟨h, _⟩
            · omega
            · cases h
          have HOV := Lib.hid (overP0 wr HB1.out.a hk64)
          have hd1 : decide (64 ≤ j) = true := decide_eq_true h64
          have hd2 : decide ((64 : Int) ≤ (j : Int)) = true := decide_eq_true (by omega)
          clear hk64 h64
          go_wp2_with (go_at_call 12; refine HOV.out.mono ?_; rintro e w2 ⟨rfl, hf2⟩; have HV1 := Lib.hid hf2; clear hf2)
          clear hx1 hx3 hl2
          have hd64 : decide (nk ≤ 64) = true := decide_eq_true hle
          have hd65 : decide ((nk : Int) ≤ 64) = true := decide_eq_true (by omega)
          obtain ⟨c1, c3, c2⟩ := HCE.out _ HV1.out.drew
          go_region_held3 (fun U => U.cell? ⟨x, 1, none⟩ = some (.pointer (some ⟨f, 0, none⟩)) ∧ U.cell? ⟨x, 3, none⟩ = some (.pointer (some ⟨r, 0, none⟩)) ∧ U.cell? ⟨r, 2, none⟩ = some (.slice LA nk lc)) (first | exact ⟨c1, c3, c2⟩ | exact kk2 | exact kk1) (first | (go_at_call 14; refine (HDE.out _ HV1.out.drew).mono ?_; rintro e w3 ⟨rfl, rfl⟩) | (go_at_call 21; refine (HTO.out _ HV1.out.drew).mono ?_; rintro e w4 ⟨rfl, hf4⟩; have HF4 := Lib.hid (HV1.out.drew.trans hf4); have kk1 := HCE.out _ HF4.out) | (go_at_call 7; refine (awake16 _).mono ?_; rintro e w5 ⟨rfl, hf5⟩; have HF5 := Lib.hid (HF4.out.trans hf5); have kk2 := HCE.out _ HF5.out))
          go_wp2_with fail
          go_ret
          exact ⟨rfl, (HFR.out.then HF5.out (fun k _ hk => hk.elim)).mono (fun k hk h => by omega)⟩
        · have hd1 : decide (64 ≤ j) = false := decide_eq_false h64
          have hd2 : decide ((64 : Int) ≤ (j : Int)) = false := decide_eq_false (by omega)
          go_wp2_with fail
          clear hx1 hx3 hl2
          have hd64 : decide (nk ≤ 64) = true := decide_eq_true hle
          have hd65 : decide ((nk : Int) ≤ 64) = true := decide_eq_true (by omega)
          obtain ⟨c1, c3, c2⟩ := HCE.out _ HV0.out.drew
          go_region_held3 (fun U => U.cell? ⟨x, 1, none⟩ = some (.pointer (some ⟨f, 0, none⟩)) ∧ U.cell? ⟨x, 3, none⟩ = some (.pointer (some ⟨r, 0, none⟩)) ∧ U.cell? ⟨r, 2, none⟩ = some (.slice LA nk lc)) (first | exact ⟨c1, c3, c2⟩ | exact kk2 | exact kk1) (first | (go_at_call 14; refine (HDE.out _ HV0.out.drew).mono ?_; rintro e w3 ⟨rfl, rfl⟩) | (go_at_call 21; refine (HTO.out _ HV0.out.drew).mono ?_; rintro e w4 ⟨rfl, hf4⟩; have HF4 := Lib.hid (HV0.out.drew.trans hf4); have kk1 := HCE.out _ HF4.out) | (go_at_call 7; refine (awake16 _).mono ?_; rintro e w5 ⟨rfl, hf5⟩; have HF5 := Lib.hid (HF4.out.trans hf5); have kk2 := HCE.out _ HF5.out))
          go_wp2_with fail
          go_ret
          exact ⟨rfl, (HFR.out.then HF5.out (fun k _ hk => hk.elim)).mono (fun k hk h => by omega)⟩
      · have hb1 : (word == (1 : Int)) = false := by simpa using hw1
        go_wp2_with fail
        clear hx1 hx3 hl2
        have hd64 : decide (nk ≤ 64) = true := decide_eq_true hle
        have hd65 : decide ((nk : Int) ≤ 64) = true := decide_eq_true (by omega)
        obtain ⟨c1, c3, c2⟩ := HCE.out _ HV0.out.drew
        go_region_held3 (fun U => U.cell? ⟨x, 1, none⟩ = some (.pointer (some ⟨f, 0, none⟩)) ∧ U.cell? ⟨x, 3, none⟩ = some (.pointer (some ⟨r, 0, none⟩)) ∧ U.cell? ⟨r, 2, none⟩ = some (.slice LA nk lc)) (first | exact ⟨c1, c3, c2⟩ | exact kk2 | exact kk1) (first | (go_at_call 14; refine (HDE.out _ HV0.out.drew).mono ?_; rintro e w3 ⟨rfl, rfl⟩) | (go_at_call 21; refine (HTO.out _ HV0.out.drew).mono ?_; rintro e w4 ⟨rfl, hf4⟩; have HF4 := Lib.hid (HV0.out.drew.trans hf4); have kk1 := HCE.out _ HF4.out) | (go_at_call 7; refine (awake16 _).mono ?_; rintro e w5 ⟨rfl, hf5⟩; have HF5 := Lib.hid (HF4.out.trans hf5); have kk2 := HCE.out _ HF5.out))
        go_wp2_with fail
        go_ret
        exact ⟨rfl, (HFR.out.then HF5.out (fun k _ hk => hk.elim)).mono (fun k hk h => by omega)⟩
end
end Go.Proofs.Ytoldegajbonliaa
