/- The walk of FlowPairs. -/
import Derived.Test.YtoldegajbonliaaFpw1
import Derived.Test.YtoldegajbonliaaFdeep
namespace Go.Proofs.Ytoldegajbonliaa
open Go Go.RowKit
set_option linter.unusedVariables false
attribute [local go_sem] Oper.semAt_some

theorem row_no6 {k : Int} {K N : List Int} (h : rowOf k = some (K, N)) : (6 : Int) ∉ K := by
  unfold rowOf at h
  by_cases h1 : k = 1
  · rw [if_pos h1] at h
    cases h
    decide
  rw [if_neg h1] at h
  by_cases h2 : k = 2
  · rw [if_pos h2] at h
    cases h
    decide
  rw [if_neg h2] at h
  by_cases h3 : k = 3
  · rw [if_pos h3] at h
    cases h
    decide
  rw [if_neg h3] at h
  by_cases h4 : k = 4
  · rw [if_pos h4] at h
    cases h
    decide
  rw [if_neg h4] at h
  by_cases h5 : k = 5
  · rw [if_pos h5] at h
    cases h
    decide
  rw [if_neg h5] at h
  by_cases h6 : k = 6
  · rw [if_pos h6] at h
    cases h
    decide
  rw [if_neg h6] at h
  by_cases h7 : k = 7
  · rw [if_pos h7] at h
    cases h
    decide
  rw [if_neg h7] at h
  by_cases h8 : k = 8
  · rw [if_pos h8] at h
    cases h
    decide
  rw [if_neg h8] at h
  by_cases h9 : k = 9
  · rw [if_pos h9] at h
    cases h
    decide
  rw [if_neg h9] at h
  by_cases h10 : k = 10
  · rw [if_pos h10] at h
    cases h
    decide
  rw [if_neg h10] at h
  by_cases h11 : k = 11
  · rw [if_pos h11] at h
    cases h
    decide
  rw [if_neg h11] at h
  by_cases h12 : k = 12
  · rw [if_pos h12] at h
    cases h
    decide
  rw [if_neg h12] at h
  by_cases h13 : k = 13
  · rw [if_pos h13] at h
    cases h
    decide
  rw [if_neg h13] at h
  by_cases h14 : k = 14
  · rw [if_pos h14] at h
    cases h
    decide
  rw [if_neg h14] at h
  by_cases h15 : k = 15
  · rw [if_pos h15] at h
    cases h
    decide
  rw [if_neg h15] at h
  by_cases h16 : k = 16
  · rw [if_pos h16] at h
    cases h
    decide
  rw [if_neg h16] at h
  by_cases h17 : k = 17
  · rw [if_pos h17] at h
    cases h
    decide
  rw [if_neg h17] at h
  by_cases h18 : k = 18
  · rw [if_pos h18] at h
    cases h
    decide
  rw [if_neg h18] at h
  cases h
theorem step_head {k : Int} {t ks : List Int} (h : stepK k (6 :: t) = some ks) : ∃ t', ks = 6 :: t' := by
  unfold stepK at h
  split at h
  · cases h
  · rename_i K N hr
    split at h
    · rename_i hc
      have hv := hc.1
      unfold isV at hv
      obtain ⟨h1, h2⟩ := of_decide_eq_true hv
      have hne : K.length ≠ (6 :: t).length := fun e => by
        rw [e, Nat.sub_self, List.drop_zero] at h2
        exact row_no6 hr (h2 ▸ List.mem_cons_self)
      obtain ⟨m, hm⟩ : ∃ m, (6 :: t).length - K.length = m + 1 := ⟨(6 :: t).length - K.length - 1, by omega⟩
      rw [hm, List.take_succ_cons] at h
      exact ⟨_, (Option.some.inj h).symm⟩
    · cases h
theorem run_head (ws : List Int) : ∀ (t ks : List Int), runB (6 :: t) ws = some ks → ∃ t', ks = 6 :: t' := by
  induction ws with
  | nil => intro t ks h; exact ⟨t, (Option.some.inj h).symm⟩
  | cons k ws ih =>
    intro t ks h
    have h2 : (stepB k (6 :: t)).bind (fun ks' => runB ks' ws) = some ks := h
    cases hs : stepB k (6 :: t) with
    | none => rw [hs] at h2; cases h2
    | some kj =>
      rw [hs] at h2
      unfold stepB at hs
      split at hs
      · obtain ⟨t', rfl⟩ := step_head hs
        exact ih t' ks h2
      · cases hs
/-- The tokens of a definition that has ended well. -/
def Fin (ts : List Tk) (n : Nat) : Prop := ts.length = n ∧ ∀ (i : Nat) (t : Tk), ts[i]? = some t → (jumpOp t.op = true → 0 ≤ t.a ∧ t.a < n) ∧ (t.op = 12 → (i : Int) < t.a ∧ t.a < n) ∧ (t.op = 14 ↔ i + 1 = n)
theorem fin_of {x : Th} {ts : List Tk} (hx : x.kind = 6) (h : Good [x] ts) : Fin (ts ++ [⟨14, 0, 0⟩]) (ts.length + 1) := by
  refine ⟨by simp, fun i t ht => ?_⟩
  rw [List.getElem?_append] at ht
  split at ht
  · obtain ⟨h1, h2, h3⟩ := h.2 i t ht
    refine ⟨fun hj => ⟨(h2 hj).1, by have := (h2 hj).2; omega⟩, fun h12 => ?_, fun h14 => absurd h14 h1, fun e => by omega⟩
    rcases h3 h12 with h | ⟨y, hy, hk, _⟩
    · exact ⟨h.1, by omega⟩
    · rw [List.mem_singleton.1 hy, hx] at hk
      cases hk
  · rename_i hlt
    rw [List.getElem?_singleton] at ht
    split at ht
    · obtain rfl := Option.some.inj ht
      exact ⟨(fun e => by cases e), (fun e => by cases e), (fun _ => by omega), (fun _ => rfl)⟩
    · cases ht
section
variable {w w' : World} {B f p : Nat} {ks : List Int} {N : Nat} {S : Nat → Prop}
theorem prDepth (h : PrS B f p ks N w S) : Calls Try.prog 14 #[.pointer (some ⟨f, 0, none⟩)] w fun e w' => e = .returned (.int .i64 ks.length) ∧ w = w' := by
  obtain ⟨st, g, scap, ts, q, cap, tv, h, rfl, _⟩ := h
  rw [List.length_map]
  exact Depth_f w h
theorem prFinish (h : PrS B f p [6] N w S) (hN : N < 50000) : Calls Try.prog 15 #[.pointer (some ⟨f, 0, none⟩)] w fun e w' => e = .returned (.int .i64 0) ∧ ∃ ts q cap tv n, Blk w' f 67 #[.pointer (some ⟨p, 0, none⟩), .int .i64 0, .slice none 0 0] ∧ Pl PP w' B p q cap tv ts ∧ Fin ts n ∧ n ≤ N + 1 ∧ Fr S w w' := by
  obtain ⟨st, g, scap, ts, q, cap, tv, h, hk, hg, hn, rfl⟩ := h
  obtain ⟨x, rfl, hx⟩ := colon_of hk
  refine (Finish_f x w h hx (by omega)).mono ?_
  rintro e w' ⟨rfl, tv', hb, hp, hf⟩
  exact ⟨rfl, _, _, _, _, _, hb, hp, fin_of hx hg, by omega, hf⟩
set_option maxRecDepth 100000 in
set_option maxHeartbeats 8000000 in
theorem pairs_walk (v1 : Value) (l : List Int) (w : World) (h1 : RowI w w.heap.size v1 l) : Calls Try.prog 3 #[v1] w fun e w' => e = .returned (.bool true) ∧ Fr0 w w' := by
  have hrd := h1.rd
  obtain ⟨LA, lc, rfl⟩ := hrd.form
  obtain ⟨ln, hln⟩ : ∃ ln, l.length = ln := ⟨_, rfl⟩
  have hlmax : ln ≤ 9223372036854775807 := by
    obtain ⟨A, cap, e, h2, h3, _⟩ := h1
    omega
  have HLN := Lib.hid hln
  have HRD := Lib.hid hrd
  rw [hln] at HRD ⊢
  clear h1 hrd hln
  by_cases hbig : 400 < ln
  · have hbI : (400 : Int) < (ln : Int) := by omega
    go_enter Try.func3, Try.ntmps3
    go_wp2_with (go_at_call 7; refine (awake16 _).mono ?_; rintro e w2 ⟨rfl, hf2⟩)
    go_ret
    exact ⟨rfl, hf2⟩
  have hbI : ¬ ((400 : Int) < (ln : Int)) := by omega
  have HBG := Lib.hid hbig
  go_enter Try.func3, Try.ntmps3
  go_wp2_with fail
  go_at_call 8
  refine (begun_16 _).mono ?_
  rintro e w1 ⟨x, p, f, q0, r, rfl, hx, hp, hf, hq, hr, ⟨hlx, hlp, hlf, _, _⟩, hfr⟩
  have x0 := hx.cell 0
  have x1 := hx.cell 1
  clear hq hr hbig hbI
  go_wp2_with fail
  go_at_call 9
  refine (Open_p (B := w.heap.size) _ hp ⟨hlp, hfr.size⟩).mono ?_
  rintro e w2 ⟨rfl, q, cap, hpl, hf2, hlq⟩
  have hx := hx.fr hf2 (fun e => Blk.ne_ hx hp (by decide) e)
  have hf := hf.fr hf2 (fun e => Blk.ne_ hf hp (by decide) e)
  have hfr := hfr.then hf2 (fun k hk he => by rw [he] at hk; omega)
  clear x0 x1 hp hf2
  have x0 := hx.cell 0
  have x1 := hx.cell 1
  go_wp2_with fail
  go_at_call 10
  refine (Start_f _ hf hpl hlf).mono ?_
  rintro e w3 ⟨rfl, g, hfl, hf3, hlg⟩
  have hx := hx.fr hf3 (fun e => Blk.ne_ hx hf (by decide) e)
  have hfr := hfr.then hf3 (fun k hk he => by rw [he] at hk; omega)
  have hpr : PrS w.heap.size f p [6] 0 w3 (FlIn f p q (.slice none 0 0) g [colonT]) := ⟨_, _, _, _, _, _, _, hfl, rfl, ⟨fun y hy => by
    obtain rfl : y = colonT := by simpa using hy
    exact ⟨Int.le_refl 0, by simp [colonT], by simp [colonT], fun j hj => by cases hj⟩, fun i t ht => by simp at ht⟩, Nat.le_refl _, rfl⟩
  clear x0 x1 hf hf3 hfl hpl
  have HPR := Lib.hid hpr
  have HX := Lib.hid hx
  have HFR := Lib.hid hfr
  have HPA := Lib.hid (pairs_any (.slice LA ln lc) l w3 (HRD.out.fr0 hfr) (by have := HBG.out; have := HLN.out; omega))
  clear hpr hx hfr
  go_wp2_with (go_at_call 11; refine HPA.out.mono ?_; rintro e w4 ⟨v4, rfl, hv4, hf4⟩)
  obtain ⟨hrun, hwl⟩ := pairs_run l
  obtain ⟨A4, c4, rfl⟩ := hv4.src
  obtain ⟨Ws, hWs⟩ : ∃ Ws, pairsV l = Ws := ⟨_, rfl⟩
  rw [hWs] at hv4 hrun hwl ⊢
  obtain ⟨m, hm⟩ : ∃ m, Ws.length = m := ⟨_, rfl⟩
  have hm2 : m ≤ 1300 := by have := HBG.out; have := HLN.out; omega
  rw [hm] at hv4 ⊢
  have HM := Lib.hid hm
  have HRU := Lib.hid hrun
  have HV0 := Lib.hid hv4
  have HF4 := Lib.hid (HFR.out.trans hf4)
  have HX4 := Lib.hid (HX.out.fr0 hf4)
  have HPR4 := Lib.hid (HPR.out.fr0 hf4)
  have HSV := Lib.hid (show ∀ k, (Value.slice A4 m c4).ownBlock = some k → ¬ FlIn f p q (.slice none 0 0) g [colonT] k from fun k hk hs => by
    have h1 := (own_lo hv4 k hk).1
    have h2 := (HPR.out.lo hs).2
    omega)
  clear hrun hwl hWs hm hv4 hf4
  go_loopw [7] (fun i wr => ∃ j : Nat, j ≤ m ∧ i = .int .i64 j ∧ ∃ kj S, runB [6] (Ws.take j) = some kj ∧ PrS w.heap.size f p kj (2 * j) wr S ∧ (∃ y1 y2, Blk wr x 31 #[.pointer (some ⟨p, 0, none⟩), .pointer (some ⟨f, 0, none⟩), y1, y2]) ∧ OwnI wr w3.heap.size (.slice A4 m c4) Ws ∧ (∀ k, (Value.slice A4 m c4).ownBlock = some k → ¬ S k) ∧ Fr (fun k => w.heap.size ≤ k) w wr) (fun i _ => m - (intOf i).toNat)
  case atStart => exact ⟨0, by omega, rfl, [6], _, rfl, HPR4.out, ⟨_, _, HX4.out⟩, HV0.out, HSV.out, HF4.out.of0⟩
  case round =>
    obtain ⟨j, hj, rfl, kj, S, hrj, hpr, ⟨y1, y2, hx⟩, hv, hsv, hfr⟩ := hrel
    have HPJ := Lib.hid hpr
    have HXJ := Lib.hid hx
    have HVJ := Lib.hid hv
    have HSJ := Lib.hid hsv
    have HFJ := Lib.hid hfr
    have HRJ := Lib.hid hrj
    have x0 := hx.cell 0
    have x1 := hx.cell 1
    have hne : kj ≠ [] := by
      obtain ⟨t', rfl⟩ := run_head _ [] kj hrj
      exact fun e => by cases e
    have HNE := Lib.hid hne
    clear hpr hx hv hsv hfr hrj hne
    by_cases hlt : j < m
    · have hltI : (j : Int) < (m : Int) := by omega
      have hj0 : (0 : Int) ≤ (j : Int) := by omega
      obtain ⟨k, hk⟩ : ∃ k, Ws[j]? = some k := ⟨_, List.getElem?_eq_getElem (by rw [HM.out]; exact hlt)⟩
      obtain ⟨b4, e4, e5⟩ := HVJ.out.at_ hk
      subst e4
      obtain ⟨ki, h1, h2⟩ := runB_at HRU.out j
      rw [HRJ.out] at h1
      obtain rfl := Option.some.inj h1
      obtain ⟨kn, hst, hrn⟩ := h2 k hk
      have HDO := Lib.hid (fun V (hV : Fr0 wr V) => prDo (HPJ.out.fr0 hV) hst (by omega) HNE.out)
      have HRN := Lib.hid hrn
      have hb4 : b4 < wr.heap.size := World.block_lt_of_cell? _ _ e5
      have HB4 := Lib.hid hb4
      clear h1 h2 hst hrn hk hb4
      go_wp2_with fail
      have hxd := HXJ.out.drew.cell 1
      have e5d : wr.drew.cell? ⟨b4, j, none⟩ = some (.int .i64 k) := e5
      go_region_held3 (fun V => V.cell? ⟨x, 1, none⟩ = some (.pointer (some ⟨f, 0, none⟩)) ∧ V.cell? ⟨b4, j, none⟩ = some (.int .i64 k)) (first | exact ⟨hxd, e5d⟩ | exact kk1) (first | (go_at_call 12; refine (HDO.out _ (Fr.refl (fun _ => False) wr).drew).mono ?_; rintro e w5 ⟨rfl, S5, hp5, t5⟩; have HP5 := Lib.hid hp5; have HT5 := Lib.hid t5; have HX5 := Lib.hid (HXJ.out.drew.fr t5.1 (HPJ.out.no HXJ.out (by decide) (by decide) (by decide) (by decide) (by decide) (by decide))); have kk1 := And.intro (HX5.out.cell 1) ((t5.1.cell (p := ⟨b4, j, none⟩) HB4.out (HSJ.out b4 rfl)).trans e5)))
      clear x0 x1 hxd e5d e5
      have x0 := HX5.out.cell 0
      have HLI := Lib.hid (prLit (j : Int) HP5.out (by omega))
      clear kk1 hp5 t5
      go_wp2_with (go_at_call 13; refine HLI.out.mono ?_; rintro e w6 ⟨⟨i6, rfl⟩, S6, hp6, t6⟩)
      have hv5 := own_fr (show wr.drew.ownsRow w3.heap.size 3 1 (.slice (some ⟨b4, 0, none⟩) m c4) Ws.length (Ws.map (Value.int .i64)) from HVJ.out) HT5.out.1 (fun k hk => HSJ.out k hk)
      have hs5 : ∀ k, (Value.slice (some ⟨b4, 0, none⟩) m c4).ownBlock = some k → ¬ S5 k := fun k hk hs => by
        rcases HT5.out.2 k hs with h | h
        · exact HSJ.out k hk h
        · have := (own_lo HVJ.out k hk).2
          have h' : wr.heap.size ≤ k := h
          omega
      have hs6 : ∀ k, (Value.slice (some ⟨b4, 0, none⟩) m c4).ownBlock = some k → ¬ S6 k := fun k hk hs => by
        rcases t6.2 k hs with h | h
        · exact hs5 k hk h
        · have := (own_lo hv5 k hk).2
          omega
      go_roundw
      case rel =>
        refine ⟨j + 1, by omega, by push_cast; rfl, kn, S6, HRN.out, ?_, ⟨y1, y2, HX5.out.fr t6.1 (HP5.out.no HX5.out (by decide) (by decide) (by decide) (by decide) (by decide) (by decide))⟩, own_fr hv5 t6.1 (fun k hk => hs5 k hk), hs6, ?_⟩
        · rw [show 2 * (j + 1) = 2 * j + 1 + 1 by omega]
          exact hp6
        · exact (HFJ.out.drew.then HT5.out.1 (fun k _ hk => (HPJ.out.lo hk).1)).then t6.1 (fun k _ hk => (HP5.out.lo hk).1)
      case measure => first | omega | (simp [intOf]; omega)
    · obtain rfl : j = m := by omega
      have hk6 : kj = [6] := by
        have := HRJ.out
        rw [List.take_of_length_le (by rw [HM.out]; exact Nat.le_refl _), HRU.out] at this
        exact (Option.some.inj this).symm
      subst hk6
      have HDE := Lib.hid (prDepth HPJ.out)
      have HFI := Lib.hid (prFinish HPJ.out (by omega))
      go_wp2_with (first | (go_at_call 14; refine HDE.out.mono ?_; rintro e w5 ⟨rfl, rfl⟩) | (go_at_call 15; refine HFI.out.mono ?_; rintro e w5 ⟨rfl, ts, q5, cap5, tv5, n, hb5, hp5, hfin, hn5, hf5⟩; have HB5 := Lib.hid hb5; have HP5 := Lib.hid hp5; have HFN := Lib.hid hfin; have HX5 := Lib.hid (HXJ.out.fr hf5 (HPJ.out.no HXJ.out (by decide) (by decide) (by decide) (by decide) (by decide) (by decide))); have HF5 := Lib.hid (HFJ.out.then hf5 (fun k _ hk => (HPJ.out.lo hk).1)); have HLE := Lib.hid (Len_p _ hp5); rw [hfin.1] at HLE; clear x0 x1 hf5 hb5 hp5 hfin; have x0 := HX5.out.cell 0; have x1 := HX5.out.cell 1) | (go_at_call 16; refine (Def_b _ _ _ _ HB5.out).mono ?_; rintro e w6 ⟨rfl, rfl⟩) | (go_at_call 14; refine (Depth_e _ (Idle.idle f p HB5.out)).mono ?_; rintro e w6 ⟨rfl, rfl⟩) | (go_at_call 17; refine HLE.out.mono ?_; rintro e w6 ⟨rfl, rfl⟩))
      have hn5' : n ≤ 3000 := by omega
      obtain ⟨TA5, tc5, rfl⟩ := HP5.out.form
      have hlen5 := HFN.out.1
      clear x0 x1 hlen5
      go_loopw [9] (fun i wr => ∃ j : Nat, j ≤ n ∧ i = .int .i64 j ∧ Fr0 w5 wr) (fun i _ => n - (intOf i).toNat)
      case atStart => exact ⟨0, by omega, rfl, Fr.refl _ _⟩
      case round =>
        obtain ⟨j, hj, rfl, hf9⟩ := hrel
        have HF9 := Lib.hid hf9
        have x0 := (HX5.out.fr0 hf9).cell 0
        by_cases hlt : j < n
        · have hltI : (j : Int) < (n : Int) := by omega
          have hj0 : (0 : Int) ≤ (j : Int) := by omega
          obtain ⟨y, hy⟩ : ∃ y, ts[j]? = some y := ⟨_, List.getElem?_eq_getElem (by rw [HFN.out.1]; exact hlt)⟩
          have hat : atT ts j = y := by unfold atT; rw [if_pos hj0, Int.toNat_natCast, hy]; rfl
          have hdc : decide (0 ≤ (j : Int) ∧ (j : Int) < (ts.length : Int)) = true := decide_eq_true (by rw [HFN.out.1]; omega)
          have HAT := Lib.hid (At_p (j : Int) _ (HP5.out.fr hf9 (fun _ _ h => h)))
          rw [hat, hdc] at HAT
          unfold Tk.val at HAT
          obtain ⟨q1, q2, q3⟩ := HFN.out.2 j y hy
          have HQQ := Lib.hid (And.intro q1 (And.intro q2 q3))
          clear hat hdc hy hf9 q1 q2 q3
          have hwn : IntKind.i64.wrap ((n : Int) - 1) = (n : Int) - 1 := IntWalk.i64_in _ (by omega)
          by_cases hj1 : j + 1 = n
          · have h14 : y.op = 14 := HQQ.out.2.2.2 hj1
            have hjn : ((j : Int) == (n : Int) - 1) = true := by simp; omega
            go_wp2_with (first | (go_at_call 18; refine HAT.out.mono ?_; rintro e w7 ⟨rfl, hf7⟩; have HF7 := Lib.hid (HF9.out.trans hf7); clear hf7) | (go_at_call 19; refine (Jumps_any _ _).mono ?_; rintro e w8 ⟨rfl, rfl⟩))
            go_roundw
            case rel => exact ⟨j + 1, by omega, by push_cast; rfl, HF7.out.alloc _⟩
            case measure => first | omega | (simp [intOf]; omega)
          · have h14 : (y.op == (14 : Int)) = false := by
              have := HQQ.out.2.2
              simp
              omega
            have hjn : ((j : Int) == (n : Int) - 1) = false := by simp; omega
            by_cases hjo : jumpOp y.op = true
            · have h12 : (y.op == (12 : Int)) = false := by
                simp
                intro e
                rw [e] at hjo
                cases hjo
              have ha0 : ¬ (y.a < 0) := by have := (HQQ.out.1 hjo).1; omega
              have han : ¬ ((n : Int) ≤ y.a) := by have := (HQQ.out.1 hjo).2; omega
              have ha0' : decide (y.a < 0) = false := decide_eq_false ha0
              have han' : decide ((n : Int) ≤ y.a) = false := decide_eq_false han
              go_wp2_with (first | (go_at_call 18; refine HAT.out.mono ?_; rintro e w7 ⟨rfl, hf7⟩; have HF7 := Lib.hid (HF9.out.trans hf7); clear hf7) | (go_at_call 19; refine (Jumps_any _ _).mono ?_; rintro e w8 ⟨rfl, rfl⟩))
              go_roundw
              case rel => exact ⟨j + 1, by omega, by push_cast; rfl, HF7.out.alloc _⟩
              case measure => first | omega | (simp [intOf]; omega)
            · have hjo' : jumpOp y.op = false := by simpa using hjo
              by_cases h12 : y.op = 12
              · have hai : ¬ (y.a ≤ (j : Int)) := by have := (HQQ.out.2.1 h12).1; omega
                have han : ¬ ((n : Int) ≤ y.a) := by have := (HQQ.out.2.1 h12).2; omega
                have hai' : decide (y.a ≤ (j : Int)) = false := decide_eq_false hai
                have han' : decide ((n : Int) ≤ y.a) = false := decide_eq_false han
                go_wp2_with (first | (go_at_call 18; refine HAT.out.mono ?_; rintro e w7 ⟨rfl, hf7⟩; have HF7 := Lib.hid (HF9.out.trans hf7); clear hf7) | (go_at_call 19; refine (Jumps_any _ _).mono ?_; rintro e w8 ⟨rfl, rfl⟩))
                go_roundw
                case rel => exact ⟨j + 1, by omega, by push_cast; rfl, HF7.out.alloc _⟩
                case measure => first | omega | (simp [intOf]; omega)
              · have h12' : (y.op == (12 : Int)) = false := by simpa using h12
                clear h12
                go_wp2_with (first | (go_at_call 18; refine HAT.out.mono ?_; rintro e w7 ⟨rfl, hf7⟩; have HF7 := Lib.hid (HF9.out.trans hf7); clear hf7) | (go_at_call 19; refine (Jumps_any _ _).mono ?_; rintro e w8 ⟨rfl, rfl⟩))
                go_roundw
                case rel => exact ⟨j + 1, by omega, by push_cast; rfl, HF7.out.alloc _⟩
                case measure => first | omega | (simp [intOf]; omega)
        · obtain rfl : j = n := by omega
          go_wp2_with (go_at_call 7; refine (awake16 _).mono ?_; rintro e w8 ⟨rfl, hf8⟩)
          go_ret
          exact ⟨rfl, ((HF5.out.trans (HF9.out.of0)).trans hf8.of0).mono (fun k hk h => by omega)⟩
end
end Go.Proofs.Ytoldegajbonliaa
