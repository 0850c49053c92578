/- The document's own heap: Resize, New. -/
import Derived.Test.YtedmdobfnkmccaaHref4
namespace Go.Proofs.Ytedmdobfnkmccaa
open Go Go.RowKit

theorem resizeR_eq {a n : Int} {L : List Bk} {c d : Int} (h : Cov0 c d L) (hd : d - c ≤ 1048576) (h0 : 0 ≤ n) : resizeR a n L = resizeS a (rnd n) L := by
  unfold resizeR
  by_cases hn : n ≤ 1048576
  · rw [if_pos ⟨h0, hn⟩]
  · rw [if_neg (by omega)]
    have hz : n ≤ rnd n := by unfold rnd; omega
    unfold resizeS
    cases hq : pick (takenAt a) L with
    | none => rfl
    | some t =>
      obtain ⟨A, x, R⟩ := t
      dsimp only
      obtain ⟨g1, _, _⟩ := pick_spec hq
      have hx := (cov_le h).2 x (by rw [g1]; simp)
      rw [if_neg (by omega)]
      have hg : growN x (rnd n) R = none := by
        cases R with
        | nil => rfl
        | cons y R =>
          rw [g1] at h
          obtain ⟨m, k1, k2, k3, k4, k5, k6, k7, k8⟩ := cov_app.1 h
          have := (cov_le k1).1
          have := (cov_le k8).1
          simp only [growN]
          rw [if_neg]
          simp
          intro _
          omega
      rw [hg]
      dsimp only
      rw [allocR_far h hd (by omega)]

section
variable {rp base : Nat} {sv : Value} {L : List Bk} {c d : Int}

theorem OwnB.sized {w : World} {g cap N : Nat} {t : TypeId} {A B : List Bk} {x : Bk} (h : OwnB w base t (.slice (some ⟨g, 0, none⟩) N cap) (A ++ x :: B)) (hN : N = (A ++ x :: B).length) (v : Int) :
    OwnB (w.setCell ⟨g, A.length * 3 + 1, none⟩ (.int .i64 v)) base t (.slice (some ⟨g, 0, none⟩) N cap) (A ++ { x with size := v } :: B) := by
  subst hN
  have h1 := (World.ownsRow.stored h (A.length * 3 + 1) (.int .i64 v)).1
  have e : (rowB (A ++ x :: B)).set (A.length * 3 + 1) (.int .i64 v) = rowB (A ++ { x with size := v } :: B) := by
    rw [rowB_app, rowB_app, List.set_append_right _ _ (by rw [rowB_length]; omega), rowB_length, show A.length * 3 + 1 - A.length * 3 = 1 by omega]
    rfl
  have e2 : (A ++ { x with size := v } :: B).length = (A ++ x :: B).length := by simp
  unfold OwnB
  rw [← e, e2]
  exact h1

theorem RRep.ne_ {w : World} {g n cap : Nat} (h : RRep w rp base (.slice (some ⟨g, 0, none⟩) n cap) L) : g ≠ rp := by
  rintro rfl
  have hob := h.obj
  rcases h.row.2 with ⟨e, _⟩ | ⟨g', cap', cur, e, _, hg, _⟩
  · cases e
  · injection e with e
    injection e with e
    injection e with e
    subst e
    unfold Blk at hob
    rw [hob] at hg
    injection hg with hg
    injection hg with _ hg
    cases hg

set_option maxHeartbeats 2000000 in
theorem ResizeR_bad (a n : Int) (w : World) (h : RInv w rp base sv c d L) (hn : n < 0 ∨ 2147483647 < n) :
    Calls Try.prog 21 #[ptr rp, .int .i64 a, .int .i64 n] w fun e w' => e = .returned (.tuple #[.int .i64 a, .int .i64 0, .int .i64 (-61)]) ∧ w' = w := by
  have HF := Lib.hid (find_any a w h.rep (by have := h.len; omega))
  have HS := Lib.hid (size_err n w hn)
  have hv : findI a L = -1 ∨ ∃ i : Nat, findI a L = i := by
    unfold findI
    split
    · exact .inl rfl
    · exact .inr ⟨_, rfl⟩
  clear h hn
  generalize findI a L = T at *
  rw [show ptr rp = .pointer (some ⟨rp, 0, none⟩) from rfl] at *
  rcases hv with rfl | ⟨i, rfl⟩
  · go_enter Try.func21, Try.ntmps21
    go_wp2_with (first | (go_at_call 28; refine HF.out.mono ?_; rintro e w ⟨rfl, rfl⟩) | (go_at_call 26; refine HS.out.mono ?_; rintro e w ⟨rfl, rfl⟩))
    go_ret3
    exact ⟨rfl, rfl⟩
  · go_enter Try.func21, Try.ntmps21
    go_wp2_with (first | (go_at_call 28; refine HF.out.mono ?_; rintro e w ⟨rfl, rfl⟩) | (go_at_call 26; refine HS.out.mono ?_; rintro e w ⟨rfl, rfl⟩))
    go_ret3
    exact ⟨rfl, rfl⟩

set_option maxHeartbeats 2000000 in
theorem ResizeR_none (a n : Int) (w : World) (h : RInv w rp base sv c d L) (h0 : 0 ≤ n) (h1 : n ≤ 2147483647) (hn : pick (takenAt a) L = none) :
    Calls Try.prog 21 #[ptr rp, .int .i64 a, .int .i64 n] w fun e w' => e = .returned (.tuple #[.int .i64 a, .int .i64 0, .int .i64 (-61)]) ∧ w' = w := by
  have hF := find_any a w h.rep (by have := h.len; omega)
  have e2 : findI a L = -1 := by unfold findI; rw [hn]
  rw [e2] at hF
  have HF := Lib.hid hF
  have HS := Lib.hid (size_ok n w h0 h1)
  clear h hn hF e2 h0 h1
  generalize rnd n = z at *
  rw [show ptr rp = .pointer (some ⟨rp, 0, none⟩) from rfl] at *
  go_enter Try.func21, Try.ntmps21
  go_wp2_with (first | (go_at_call 28; refine HF.out.mono ?_; rintro e w ⟨rfl, rfl⟩) | (go_at_call 26; refine HS.out.mono ?_; rintro e w ⟨rfl, rfl⟩))
  go_ret3
  exact ⟨rfl, rfl⟩

variable {A R : List Bk} {a s n : Int}

set_option maxHeartbeats 2000000 in
theorem ResizeR_cut (w : World) (h : RInv w rp base sv c d (A ++ ⟨a, s, false⟩ :: R)) (h0 : 0 ≤ n) (h1 : n ≤ 2147483647) (hn : pick (takenAt a) (A ++ ⟨a, s, false⟩ :: R) = some (A, ⟨a, s, false⟩, R)) (hzs : rnd n ≤ s) :
    Calls Try.prog 21 #[ptr rp, .int .i64 a, .int .i64 n] w fun e w' => e = .returned (.tuple #[.int .i64 a, .int .i64 s, .int .i64 0]) ∧ Fr (RIn rp sv) w w' ∧ ∃ sv', RInv w' rp base sv' c d (cutL A ⟨a, s, false⟩ s (rnd n) R) ∧ RNewer w sv sv' := by
  have hlen := h.len
  have hF := find_any a w h.rep (by omega)
  have e2 : findI a (A ++ ⟨a, s, false⟩ :: R) = A.length := by unfold findI; rw [hn]
  rw [e2] at hF
  have HF := Lib.hid hF
  have HS := Lib.hid (size_ok n w h0 h1)
  obtain ⟨z1, z2⟩ := rnd_pos n
  have hcut := cut_any (n := rnd n) w h.rep (cov1_of h.inv.cov) h.cd h.c0 h.d0 (by omega) h.lt z1 z2 hzs
  have HC := Lib.hid hcut
  have hiv := cutL_inv h.inv.cov z1 z2 hzs
  have HIV := Lib.hid hiv
  have c0 := h.rep.obj.cell 0
  obtain ⟨g, cap, rfl, hg1, hg2⟩ := h.rep.row.form (by simp; omega)
  obtain ⟨d0, d1, d2⟩ := h.rep.row.cells (k := A.length) (x := ⟨a, s, false⟩) (by simp)
  have hsb := (cov_le h.inv.cov).2 ⟨a, s, false⟩ (by simp)
  have hcd := h.cd
  dsimp only at hsb
  have hlx : (A ++ (⟨a, s, false⟩ : Bk) :: R).length = A.length + 1 + R.length := by simp; omega
  rw [hlx] at c0 hlen
  have HH := Lib.hid h
  clear h hn hF e2 h0 h1 hcut hiv hlx
  obtain ⟨q, hqq⟩ : ∃ q, A.length = q := ⟨_, rfl⟩
  obtain ⟨r, hrr⟩ : ∃ r, R.length = r := ⟨_, rfl⟩
  rw [hqq] at HC HF d0 d1 d2
  rw [hqq, hrr] at c0 hlen
  have hqr : (q : Int) < (q : Int) + 1 + (r : Int) := by omega
  clear hqq hrr
  rw [show (#[Value.slice (some ⟨g, 0, none⟩) (q + 1 + r) cap] : Array Value)[0]? = some (.slice (some ⟨g, 0, none⟩) (q + 1 + r) cap) from rfl] at c0
  generalize rnd n = z at *
  rw [show ptr rp = .pointer (some ⟨rp, 0, none⟩) from rfl] at *
  go_enter Try.func21, Try.ntmps21
  go_wp2_with (first | (go_at_call 28; refine HF.out.mono ?_; rintro e w ⟨rfl, rfl⟩) | (go_at_call 26; refine HS.out.mono ?_; rintro e w ⟨rfl, rfl⟩) | (go_at_call 27; refine HC.out.mono ?_; rintro e w2 ⟨rfl, hf2, sv2, h2, hl2⟩))
  go_ret3
  exact ⟨rfl, hf2.mono (fun k _ e => .inl e), sv2, ⟨h2, HIV.out, HH.out.c0, HH.out.d0, HH.out.cd, Nat.le_trans HH.out.lt hf2.size⟩, fun k hk => .inr (hl2 k hk)⟩

set_option maxHeartbeats 4000000 in
theorem ResizeR_grow {b t : Int} (w : World) (h : RInv w rp base sv c d (A ++ ⟨a, s, false⟩ :: ⟨b, t, true⟩ :: R)) (h0 : 0 ≤ n) (h1 : n ≤ 2147483647) (hn : pick (takenAt a) (A ++ ⟨a, s, false⟩ :: ⟨b, t, true⟩ :: R) = some (A, ⟨a, s, false⟩, ⟨b, t, true⟩ :: R)) (hzs : s < rnd n) (hzt : rnd n ≤ s + t) :
    Calls Try.prog 21 #[ptr rp, .int .i64 a, .int .i64 n] w fun e w' => e = .returned (.tuple #[.int .i64 a, .int .i64 s, .int .i64 0]) ∧ Fr (RIn rp sv) w w' ∧ ∃ sv', RInv w' rp base sv' c d (cutL A ⟨a, s, false⟩ (s + t) (rnd n) R) ∧ RNewer w sv sv' := by
  have hlen := h.len
  have hF := find_any a w h.rep (by omega)
  have e2 : findI a (A ++ ⟨a, s, false⟩ :: ⟨b, t, true⟩ :: R) = A.length := by unfold findI; rw [hn]
  rw [e2] at hF
  have HF := Lib.hid hF
  have HS := Lib.hid (size_ok n w h0 h1)
  obtain ⟨z1, z2⟩ := rnd_pos n
  have hiv := cutL_inv2 (z := ⟨b, t, true⟩) h.inv.cov z1 z2 hzt
  dsimp only at hiv
  have HIV := Lib.hid hiv
  have c0 := h.rep.obj.cell 0
  obtain ⟨g, cap, rfl, hg1, hg2⟩ := h.rep.row.form (by simp; omega)
  obtain ⟨d0, d1, d2⟩ := h.rep.row.cells (k := A.length) (x := ⟨a, s, false⟩) (by simp)
  obtain ⟨p0, p1, p2⟩ := h.rep.row.cells (k := A.length + 1) (x := ⟨b, t, true⟩) (by simp)
  have hgr := h.rep.ne_
  have y1 := World.ownsRow.frozenAt h.rep.row (A.length * 3 + 1)
  have y2 := World.ownsRow.frozenAt h.rep.row ((A.length + 1) * 3 + 1)
  have hsb := (cov_le h.inv.cov).2 ⟨a, s, false⟩ (by simp)
  have htb := (cov_le h.inv.cov).2 ⟨b, t, true⟩ (by simp)
  have hcd := h.cd
  dsimp only at hsb htb
  have hlx : (A ++ (⟨a, s, false⟩ : Bk) :: ⟨b, t, true⟩ :: R).length = A.length + 1 + (R.length + 1) := by simp; omega
  -- the row behind the two stores
  have hr1 := h.rep.row.sized rfl (s + t)
  have hr2 := (OwnB.sized (A := A ++ [⟨a, s + t, false⟩]) (x := ⟨b, t, true⟩) (B := R) (by simpa using hr1) (by simp) 0)
  have el : (A ++ [(⟨a, s + t, false⟩ : Bk)]).length = A.length + 1 := by simp
  rw [el] at hr2
  have hr3 : OwnB ((w.setCell ⟨g, A.length * 3 + 1, none⟩ (.int .i64 (s + t))).setCell ⟨g, (A.length + 1) * 3 + 1, none⟩ (.int .i64 0)) base 62 (.slice (some ⟨g, 0, none⟩) (A ++ (⟨a, s, false⟩ : Bk) :: ⟨b, t, true⟩ :: R).length cap) (A ++ ⟨a, s + t, false⟩ :: ⟨b, 0, true⟩ :: R) := by simpa using hr2
  have hob : Blk ((w.setCell ⟨g, A.length * 3 + 1, none⟩ (.int .i64 (s + t))).setCell ⟨g, (A.length + 1) * 3 + 1, none⟩ (.int .i64 0)) rp 41 #[.slice (some ⟨g, 0, none⟩) (A ++ (⟨a, s, false⟩ : Bk) :: ⟨b, t, true⟩ :: R).length cap] := (h.rep.obj.far hgr.symm _).far hgr.symm _
  have hcv : Cov1 c d (A ++ ⟨a, s + t, false⟩ :: ⟨b, 0, true⟩ :: R) := by
    obtain ⟨m, k1, k2, k3, k4, k5, k6, k7, k8⟩ := cov_app.1 h.inv.cov
    dsimp only at k2 k3 k4 k5 k6 k7
    refine cov1_app.2 ⟨m, cov1_of k1, fun _ => k2, by dsimp only; omega, by dsimp only; omega, fun e => absurd rfl e, by dsimp only; omega, by dsimp only; omega, ?_⟩
    dsimp only
    rw [show m + (s + t) + 0 = m + s + t by omega]
    exact cov1_of k8
  have hsz : ((w.setCell ⟨g, A.length * 3 + 1, none⟩ (.int .i64 (s + t))).setCell ⟨g, (A.length + 1) * 3 + 1, none⟩ (.int .i64 0)).drew.heap.size = w.heap.size := by simp [World.setCell]
  have hcut := cut_any (n := rnd n) (f := false) ((w.setCell ⟨g, A.length * 3 + 1, none⟩ (.int .i64 (s + t))).setCell ⟨g, (A.length + 1) * 3 + 1, none⟩ (.int .i64 0)).drew ⟨hob.drew, hr3, h.rep.lo⟩ hcv h.cd h.c0 h.d0 (by simp at hlen ⊢; omega) (by rw [hsz]; exact h.lt) z1 z2 hzt
  have ec : cutL A ⟨a, s + t, false⟩ (s + t) (rnd n) (⟨b, 0, true⟩ :: R) = cutL A ⟨a, s, false⟩ (s + t) (rnd n) R := by
    unfold cutL
    rw [norm_app, norm_app, norm_cons, norm_cons, norm_cons, norm_cons, norm_cons]
    congr 2
  rw [ec] at hcut
  have HC := Lib.hid hcut
  have HZ := Lib.hid hsz
  rw [hlx] at c0 hlen
  have HH := Lib.hid h
  clear h hn hF e2 h0 h1 hcut hiv hlx hr1 hr2 hr3 hob hcv hsz ec el
  obtain ⟨q, hqq⟩ : ∃ q, A.length = q := ⟨_, rfl⟩
  obtain ⟨r, hrr⟩ : ∃ r, R.length = r := ⟨_, rfl⟩
  rw [hqq] at HC HF HZ d0 d1 d2 p0 p1 p2 y1 y2
  rw [hqq, hrr] at c0 hlen
  have hqr : (q : Int) < (q : Int) + 1 + ((r : Int) + 1) := by omega
  have hqr2 : (q : Int) + 1 < (q : Int) + 1 + ((r : Int) + 1) := by omega
  clear hqq hrr
  rw [show (#[Value.slice (some ⟨g, 0, none⟩) (q + 1 + (r + 1)) cap] : Array Value)[0]? = some (.slice (some ⟨g, 0, none⟩) (q + 1 + (r + 1)) cap) from rfl] at c0
  generalize rnd n = z at *
  have hfr0 : Fr (RIn rp (.slice (some ⟨g, 0, none⟩) (A ++ (⟨a, s, false⟩ : Bk) :: ⟨b, t, true⟩ :: R).length cap)) w ((w.setCell ⟨g, q * 3 + 1, none⟩ (.int .i64 (s + t))).setCell ⟨g, (q + 1) * 3 + 1, none⟩ (.int .i64 0)).drew :=
    (((Fr.refl _ w).setCell (p := ⟨g, q * 3 + 1, none⟩) (.inl (.inr rfl)) _).setCell (p := ⟨g, (q + 1) * 3 + 1, none⟩) (.inl (.inr rfl)) _).drew
  have HFR := Lib.hid hfr0
  clear hfr0
  rw [show ptr rp = .pointer (some ⟨rp, 0, none⟩) from rfl] at *
  go_enter Try.func21, Try.ntmps21
  go_wp2_with (first | (go_at_call 28; refine HF.out.mono ?_; rintro e w ⟨rfl, rfl⟩) | (go_at_call 26; refine HS.out.mono ?_; rintro e w ⟨rfl, rfl⟩))
  go_region
  go_wp2_with (go_at_call 27; refine HC.out.mono ?_; rintro e w2 ⟨rfl, hf2, sv2, h2, hl2⟩)
  go_ret3
  have hfr := HFR.out.then hf2 (fun k _ e => .inl e)
  exact ⟨rfl, hfr, sv2, ⟨h2, HIV.out, HH.out.c0, HH.out.d0, HH.out.cd, Nat.le_trans HH.out.lt hfr.size⟩, fun k hk => .inr (by have := hl2 k hk; have := HZ.out; omega)⟩

set_option maxHeartbeats 4000000 in
theorem ResizeR_move (w : World) (h : RInv w rp base sv c d (A ++ ⟨a, s, false⟩ :: R)) (h0 : 0 ≤ n) (h1 : n ≤ 2147483647) (hn : pick (takenAt a) (A ++ ⟨a, s, false⟩ :: R) = some (A, ⟨a, s, false⟩, R)) (hzs : s < rnd n) (hg : growN ⟨a, s, false⟩ (rnd n) R = none) {e : Int} {L1 : List Bk} (ha : allocR n (A ++ ⟨a, s, false⟩ :: R) = (e, 0, L1)) :
    Calls Try.prog 21 #[ptr rp, .int .i64 a, .int .i64 n] w fun e' w' => e' = .returned (.tuple #[.int .i64 e, .int .i64 s, .int .i64 0]) ∧ Fr (RIn rp sv) w w' ∧ ∃ sv', RInv w' rp base sv' c d ((freeR a L1).2) ∧ RNewer w sv sv' := by
  have hlen := h.len
  have hF := find_any a w h.rep (by omega)
  have e2 : findI a (A ++ ⟨a, s, false⟩ :: R) = A.length := by unfold findI; rw [hn]
  rw [e2] at hF
  have HF := Lib.hid hF
  have HS := Lib.hid (size_ok n w h0 h1)
  have hAl := AllocR_any n w h (by omega)
  rw [ha] at hAl
  have HAl := Lib.hid hAl
  have hFr := fun (w1 : World) (sv1 : Value) (L' : List Bk) (h' : RInv w1 rp base sv1 c d L') => FreeR_any a w1 h'
  have HFr := Lib.hid hFr
  obtain ⟨z1, z2⟩ := rnd_pos n
  have hzb : rnd n ≤ 2147483656 := by unfold rnd; omega
  have c0 := h.rep.obj.cell 0
  obtain ⟨g, cap, rfl, hg1, hg2⟩ := h.rep.row.form (by simp; omega)
  obtain ⟨d0, d1, d2⟩ := h.rep.row.cells (k := A.length) (x := ⟨a, s, false⟩) (by simp)
  have hsb := (cov_le h.inv.cov).2 ⟨a, s, false⟩ (by simp)
  have hcd := h.cd
  dsimp only at hsb
  have hlx : (A ++ (⟨a, s, false⟩ : Bk) :: R).length = A.length + 1 + R.length := by simp; omega
  rw [hlx] at c0 hlen
  have HH := Lib.hid h
  have hp := fun (y : Bk) (R' : List Bk) (e : R = y :: R') => h.rep.row.cells (k := A.length + 1) (x := y) (by rw [e]; simp)
  have hpb := fun (y : Bk) (R' : List Bk) (e : R = y :: R') => (cov_le h.inv.cov).2 y (by rw [e]; simp)
  clear h hn hF e2 h0 h1 hlx hAl hFr ha
  obtain ⟨q, hqq⟩ : ∃ q, A.length = q := ⟨_, rfl⟩
  rw [hqq] at HF d0 d1 d2
  rw [hqq] at c0 hlen
  rw [hqq] at hp
  clear hqq
  rw [show ptr rp = .pointer (some ⟨rp, 0, none⟩) from rfl] at *
  rw [show (#[Value.slice (some ⟨g, 0, none⟩) (q + 1 + R.length) cap] : Array Value)[0]? = some (.slice (some ⟨g, 0, none⟩) (q + 1 + R.length) cap) from rfl] at c0
  cases R with
  | nil =>
    rw [show ([] : List Bk).length = 0 from rfl] at c0 hlen
    rw [Nat.add_zero] at c0 hlen
    have hqr : (q : Int) < (q : Int) + 1 := by omega
    clear hp hpb hg
    generalize rnd n = z at *
    go_enter Try.func21, Try.ntmps21
    go_wp2_with (first | (go_at_call 28; refine HF.out.mono ?_; rintro e w ⟨rfl, rfl⟩) | (go_at_call 26; refine HS.out.mono ?_; rintro e w ⟨rfl, rfl⟩) | (go_at_call 18; refine HAl.out.mono ?_; rintro e w1 ⟨rfl, hf1, sv1, h1, hw1⟩) | (go_at_call 20; refine (HFr.out _ _ _ h1).mono ?_; rintro e w2 ⟨rfl, hf2, sv2, h2, hw2⟩))
    go_ret3
    exact ⟨rfl, hf1.thenR hf2 hw1, sv2, h2, hw1.trans hw2 hf1.size⟩
  | cons y R =>
    obtain ⟨p0, p1, p2⟩ := hp y R rfl
    have hyb := hpb y R rfl
    rw [show (y :: R : List Bk).length = R.length + 1 from rfl] at c0 hlen
    obtain ⟨r, hrr⟩ : ∃ r, R.length = r := ⟨_, rfl⟩
    rw [hrr] at c0 hlen
    have hqr : (q : Int) < (q : Int) + 1 + ((r : Int) + 1) := by omega
    have hqr2 : (q : Int) + 1 < (q : Int) + 1 + ((r : Int) + 1) := by omega
    clear hp hpb hrr
    obtain ⟨b, t, f⟩ := y
    dsimp only at p0 p1 p2 hyb
    cases f with
    | false =>
      clear hg
      generalize rnd n = z at *
      go_enter Try.func21, Try.ntmps21
      go_wp2_with (first | (go_at_call 28; refine HF.out.mono ?_; rintro e w ⟨rfl, rfl⟩) | (go_at_call 26; refine HS.out.mono ?_; rintro e w ⟨rfl, rfl⟩) | (go_at_call 18; refine HAl.out.mono ?_; rintro e w1 ⟨rfl, hf1, sv1, h1, hw1⟩) | (go_at_call 20; refine (HFr.out _ _ _ h1).mono ?_; rintro e w2 ⟨rfl, hf2, sv2, h2, hw2⟩))
      go_ret3
      exact ⟨rfl, hf1.thenR hf2 hw1, sv2, h2, hw1.trans hw2 hf1.size⟩
    | true =>
      have hzt : s + t < rnd n := by
        simp only [growN] at hg
        split at hg
        · cases hg
        · rename_i hh
          simp at hh
          exact hh
      clear hg
      generalize rnd n = z at *
      go_enter Try.func21, Try.ntmps21
      go_wp2_with (first | (go_at_call 28; refine HF.out.mono ?_; rintro e w ⟨rfl, rfl⟩) | (go_at_call 26; refine HS.out.mono ?_; rintro e w ⟨rfl, rfl⟩) | (go_at_call 18; refine HAl.out.mono ?_; rintro e w1 ⟨rfl, hf1, sv1, h1, hw1⟩) | (go_at_call 20; refine (HFr.out _ _ _ h1).mono ?_; rintro e w2 ⟨rfl, hf2, sv2, h2, hw2⟩))
      go_ret3
      exact ⟨rfl, hf1.thenR hf2 hw1, sv2, h2, hw1.trans hw2 hf1.size⟩

set_option maxHeartbeats 4000000 in
theorem ResizeR_stay (w : World) (h : RInv w rp base sv c d (A ++ ⟨a, s, false⟩ :: R)) (h0 : 0 ≤ n) (h1 : n ≤ 2147483647) (hn : pick (takenAt a) (A ++ ⟨a, s, false⟩ :: R) = some (A, ⟨a, s, false⟩, R)) (hzs : s < rnd n) (hg : growN ⟨a, s, false⟩ (rnd n) R = none) (ha : allocR n (A ++ ⟨a, s, false⟩ :: R) = (0, -59, A ++ ⟨a, s, false⟩ :: R)) :
    Calls Try.prog 21 #[ptr rp, .int .i64 a, .int .i64 n] w fun e' w' => e' = .returned (.tuple #[.int .i64 a, .int .i64 0, .int .i64 (-61)]) ∧ Fr (RIn rp sv) w w' ∧ ∃ sv', RInv w' rp base sv' c d (A ++ ⟨a, s, false⟩ :: R) ∧ RNewer w sv sv' := by
  have hlen := h.len
  have hF := find_any a w h.rep (by omega)
  have e2 : findI a (A ++ ⟨a, s, false⟩ :: R) = A.length := by unfold findI; rw [hn]
  rw [e2] at hF
  have HF := Lib.hid hF
  have HS := Lib.hid (size_ok n w h0 h1)
  have hAl := AllocR_any n w h (by omega)
  rw [ha] at hAl
  have HAl := Lib.hid hAl
  obtain ⟨z1, z2⟩ := rnd_pos n
  have hzb : rnd n ≤ 2147483656 := by unfold rnd; omega
  have c0 := h.rep.obj.cell 0
  obtain ⟨g, cap, rfl, hg1, hg2⟩ := h.rep.row.form (by simp; omega)
  obtain ⟨d0, d1, d2⟩ := h.rep.row.cells (k := A.length) (x := ⟨a, s, false⟩) (by simp)
  have hsb := (cov_le h.inv.cov).2 ⟨a, s, false⟩ (by simp)
  have hcd := h.cd
  dsimp only at hsb
  have hlx : (A ++ (⟨a, s, false⟩ : Bk) :: R).length = A.length + 1 + R.length := by simp; omega
  rw [hlx] at c0 hlen
  have HH := Lib.hid h
  have hp := fun (y : Bk) (R' : List Bk) (e : R = y :: R') => h.rep.row.cells (k := A.length + 1) (x := y) (by rw [e]; simp)
  have hpb := fun (y : Bk) (R' : List Bk) (e : R = y :: R') => (cov_le h.inv.cov).2 y (by rw [e]; simp)
  clear h hn hF e2 h0 h1 hlx hAl ha
  obtain ⟨q, hqq⟩ : ∃ q, A.length = q := ⟨_, rfl⟩
  rw [hqq] at HF d0 d1 d2
  rw [hqq] at c0 hlen
  rw [hqq] at hp
  clear hqq
  rw [show ptr rp = .pointer (some ⟨rp, 0, none⟩) from rfl] at *
  rw [show (#[Value.slice (some ⟨g, 0, none⟩) (q + 1 + R.length) cap] : Array Value)[0]? = some (.slice (some ⟨g, 0, none⟩) (q + 1 + R.length) cap) from rfl] at c0
  cases R with
  | nil =>
    rw [show ([] : List Bk).length = 0 from rfl] at c0 hlen
    rw [Nat.add_zero] at c0 hlen
    have hqr : (q : Int) < (q : Int) + 1 := by omega
    clear hp hpb hg
    generalize rnd n = z at *
    go_enter Try.func21, Try.ntmps21
    go_wp2_with (first | (go_at_call 28; refine HF.out.mono ?_; rintro e w ⟨rfl, rfl⟩) | (go_at_call 26; refine HS.out.mono ?_; rintro e w ⟨rfl, rfl⟩) | (go_at_call 18; refine HAl.out.mono ?_; rintro e w1 ⟨rfl, hf1, sv1, h1, hw1⟩))
    go_ret3
    exact ⟨rfl, hf1, sv1, h1, hw1⟩
  | cons y R =>
    obtain ⟨p0, p1, p2⟩ := hp y R rfl
    have hyb := hpb y R rfl
    rw [show (y :: R : List Bk).length = R.length + 1 from rfl] at c0 hlen
    obtain ⟨r, hrr⟩ : ∃ r, R.length = r := ⟨_, rfl⟩
    rw [hrr] at c0 hlen
    have hqr : (q : Int) < (q : Int) + 1 + ((r : Int) + 1) := by omega
    have hqr2 : (q : Int) + 1 < (q : Int) + 1 + ((r : Int) + 1) := by omega
    clear hp hpb hrr
    obtain ⟨b, t, f⟩ := y
    dsimp only at p0 p1 p2 hyb
    cases f with
    | false =>
      clear hg
      generalize rnd n = z at *
      go_enter Try.func21, Try.ntmps21
      go_wp2_with (first | (go_at_call 28; refine HF.out.mono ?_; rintro e w ⟨rfl, rfl⟩) | (go_at_call 26; refine HS.out.mono ?_; rintro e w ⟨rfl, rfl⟩) | (go_at_call 18; refine HAl.out.mono ?_; rintro e w1 ⟨rfl, hf1, sv1, h1, hw1⟩))
      go_ret3
      exact ⟨rfl, hf1, sv1, h1, hw1⟩
    | true =>
      have hzt : s + t < rnd n := by
        simp only [growN] at hg
        split at hg
        · cases hg
        · rename_i hh
          simp at hh
          exact hh
      clear hg
      generalize rnd n = z at *
      go_enter Try.func21, Try.ntmps21
      go_wp2_with (first | (go_at_call 28; refine HF.out.mono ?_; rintro e w ⟨rfl, rfl⟩) | (go_at_call 26; refine HS.out.mono ?_; rintro e w ⟨rfl, rfl⟩) | (go_at_call 18; refine HAl.out.mono ?_; rintro e w1 ⟨rfl, hf1, sv1, h1, hw1⟩))
      go_ret3
      exact ⟨rfl, hf1, sv1, h1, hw1⟩

theorem ResizeR_any (a n : Int) (w : World) (h : RInv w rp base sv c d L) (hn : -9223372036854775808 ≤ n ∧ n ≤ 9223372036854775807) :
    Calls Try.prog 21 #[ptr rp, .int .i64 a, .int .i64 n] w fun e w' => e = .returned (.tuple #[.int .i64 (resizeR a n L).1.1, .int .i64 (resizeR a n L).1.2.1, .int .i64 (resizeR a n L).1.2.2]) ∧ Fr (RIn rp sv) w w' ∧ ∃ sv', RInv w' rp base sv' c d (resizeR a n L).2 ∧ RNewer w sv sv' := by
  by_cases hb : n < 0 ∨ 2147483647 < n
  · refine (ResizeR_bad a n w h hb).mono ?_
    rintro e w' ⟨rfl, rfl⟩
    unfold resizeR
    rw [if_neg (by omega)]
    exact ⟨rfl, Fr.refl _ _, sv, h, RNewer.same _ _⟩
  have h0 : 0 ≤ n := by omega
  have h1 : n ≤ 2147483647 := by omega
  rw [resizeR_eq h.inv.cov h.cd h0]
  cases hq : pick (takenAt a) L with
  | none =>
    refine (ResizeR_none a n w h h0 h1 hq).mono ?_
    rintro e w' ⟨rfl, rfl⟩
    have e1 : resizeS a (rnd n) L = ((a, 0, -61), L) := by unfold resizeS; rw [hq]
    rw [e1]
    exact ⟨rfl, Fr.refl _ _, sv, h, RNewer.same _ _⟩
  | some t =>
    obtain ⟨A, x, R⟩ := t
    obtain ⟨g1, g2, _⟩ := pick_spec hq
    subst g1
    obtain ⟨xa, xs, xf⟩ := x
    simp [takenAt] at g2
    obtain ⟨rfl, rfl⟩ := g2
    by_cases hs : rnd n ≤ xs
    · have e1 : resizeS xa (rnd n) (A ++ ⟨xa, xs, false⟩ :: R) = ((xa, xs, 0), cutL A ⟨xa, xs, false⟩ xs (rnd n) R) := by
        unfold resizeS; rw [hq]; dsimp only; rw [if_pos hs]
      rw [e1]
      exact ResizeR_cut w h h0 h1 hq hs
    · cases hg : growN ⟨xa, xs, false⟩ (rnd n) R with
      | some t =>
        obtain ⟨m, B'⟩ := t
        have e1 : resizeS xa (rnd n) (A ++ ⟨xa, xs, false⟩ :: R) = ((xa, xs, 0), cutL A ⟨xa, xs, false⟩ m (rnd n) B') := by
          unfold resizeS; rw [hq]; dsimp only; rw [if_neg hs, hg]
        rw [e1]
        cases R with
        | nil => simp [growN] at hg
        | cons y R =>
          obtain ⟨b, t, f⟩ := y
          simp only [growN] at hg
          split at hg
          · rename_i hf
            simp at hg hf
            obtain ⟨rfl, rfl⟩ := hg
            obtain ⟨rfl, hf⟩ := hf
            exact ResizeR_grow w h h0 h1 hq (Int.not_le.1 hs) hf
          · cases hg
      | none =>
        have e2 := allocR_eq (n := n) h.inv.cov h.cd h0
        cases ha : allocS (rnd n) (A ++ ⟨xa, xs, false⟩ :: R) with
        | none =>
          have e1 : resizeS xa (rnd n) (A ++ ⟨xa, xs, false⟩ :: R) = ((xa, 0, -61), A ++ ⟨xa, xs, false⟩ :: R) := by
            unfold resizeS; rw [hq]; dsimp only; rw [if_neg hs, hg]; dsimp only; rw [ha]
          rw [e1]
          rw [ha] at e2
          exact ResizeR_stay w h h0 h1 hq (Int.not_le.1 hs) hg e2
        | some t =>
          obtain ⟨b, L1⟩ := t
          have e1 : resizeS xa (rnd n) (A ++ ⟨xa, xs, false⟩ :: R) = ((b, xs, 0), (freeS xa L1).getD L1) := by
            unfold resizeS; rw [hq]; dsimp only; rw [if_neg hs, hg]; dsimp only; rw [ha]
          rw [e1, ← freeR_snd]
          rw [ha] at e2
          exact ResizeR_move w h h0 h1 hq (Int.not_le.1 hs) hg e2
end
end Go.Proofs.Ytedmdobfnkmccaa
