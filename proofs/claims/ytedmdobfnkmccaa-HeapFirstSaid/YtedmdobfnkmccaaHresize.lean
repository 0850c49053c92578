/- The heap's Resize. -/
import Derived.Test.YtedmdobfnkmccaaHfree
namespace Go.Proofs.Ytedmdobfnkmccaa
open Go Go.RowKit

/-- What Resize answers, and the blocks behind it. -/
def resizeR (a n : Int) (L : List Bk) : (Int × Int × Int) × List Bk :=
  if 0 ≤ n ∧ n ≤ 1048576 then resizeS a (rnd n) L else ((a, 0, -61), L)

section
variable {hp mp B : Nat} {c d : Int} {L : List Nd}

set_option maxHeartbeats 1000000 in
theorem Resize_bad (a n : Int) (w : World) (h : HRep w hp mp c d B L) (hn : n < 0 ∨ 1048576 < n) :
    Calls Try.prog 15 #[ptr hp, .int .i64 a, .int .i64 n] w fun e w' => e = .returned (.tuple #[.int .i64 a, .int .i64 0, .int .i64 (-61)]) ∧ w' = w := by
  have HT := Lib.hid (taken_any a w h)
  have HR := Lib.hid (rounded_err n w hn)
  have hv : takenP a L = nil_ ∨ ∃ i, takenP a L = ptr i := by
    unfold takenP
    split
    · exact .inl rfl
    · exact .inr ⟨_, rfl⟩
  clear h hn
  generalize takenP a L = T at *
  rcases hv with rfl | ⟨i, rfl⟩
  · simp only [ptr, nil_] at *
    go_enter Try.func15, Try.ntmps15
    go_wp2_with (first | (go_at_call 24; refine HT.out.mono ?_; rintro e w ⟨rfl, rfl⟩) | (go_at_call 22; refine HR.out.mono ?_; rintro e w ⟨rfl, rfl⟩))
    go_ret3
    exact ⟨rfl, rfl⟩
  · simp only [ptr] at *
    go_enter Try.func15, Try.ntmps15
    go_wp2_with (first | (go_at_call 24; refine HT.out.mono ?_; rintro e w ⟨rfl, rfl⟩) | (go_at_call 22; refine HR.out.mono ?_; rintro e w ⟨rfl, rfl⟩))
    go_ret3
    exact ⟨rfl, rfl⟩

set_option maxHeartbeats 1000000 in
theorem Resize_none (a n : Int) (w : World) (h : HRep w hp mp c d B L) (h0 : 0 ≤ n) (h1 : n ≤ 1048576) (hn : pick (takenAt a) (bks L) = none) :
    Calls Try.prog 15 #[ptr hp, .int .i64 a, .int .i64 n] w fun e w' => e = .returned (.tuple #[.int .i64 a, .int .i64 0, .int .i64 (-61)]) ∧ w' = w := by
  have hT := taken_any a w h
  have e : takenP a L = nil_ := by unfold takenP; rw [hn]
  rw [e] at hT
  have HT := Lib.hid hT
  have HR := Lib.hid (rounded_ok n w h0 h1)
  clear h h0 h1 e hT
  generalize rnd n = z at *
  simp only [ptr, nil_] at *
  go_enter Try.func15, Try.ntmps15
  go_wp2_with (first | (go_at_call 24; refine HT.out.mono ?_; rintro e w ⟨rfl, rfl⟩) | (go_at_call 22; refine HR.out.mono ?_; rintro e w ⟨rfl, rfl⟩))
  go_ret3
  exact ⟨rfl, rfl⟩

variable {px : Nat} {A R : List Nd} {a s z n : Int}

/-- Behind a split of the taken block x' (of so many bytes) that stands where x stood. -/
theorem HRep.cut {w w' : World} {R' : List Nd} {m : Int} (h : HRep w hp mp c d B (A ++ (px, ⟨a, s, false⟩) :: R)) (hR : bks R = bks R' ∨ ∃ y, y.free = true ∧ bks R = y :: bks R' ∧ m = s + y.size) (ht : tkn R' = tkn R) (hms : bks R = bks R' → m = s)
    (hz0 : 8 ≤ z) (hz8 : z % 8 = 0) (hzm : z ≤ m) (hf : Fr (fun k => k ∈ ids ((px, (⟨a, s, false⟩ : Bk)) :: R)) w w') {i : Nat} (hi : w.heap.size ≤ i) (hs : ∀ k ∈ ids R', k ∈ ids R) (hn' : (ids R').Nodup)
    (hc : Chain w' (lst nil_ A) (splitN i z (px, ⟨a, m, false⟩) R') nil_) : Fr (HIn hp mp (A ++ (px, ⟨a, s, false⟩) :: R)) w w' ∧ ∃ L', HRep w' hp mp c d B L' ∧ Newer w (A ++ (px, ⟨a, s, false⟩) :: R) L' ∧ bks L' = cutL (bks A) ⟨a, s, false⟩ m z (bks R') := by
  have hiv := h.inv
  rw [bks_app, show bks ((px, (⟨a, s, false⟩ : Bk)) :: R) = ⟨a, s, false⟩ :: bks R from rfl] at hiv
  obtain ⟨pA, nA, pR, nR⟩ := norm_keeps (x := ⟨a, s, false⟩) hiv.pos hiv.noff
  have pR' : Pos (bks R') ∧ NoFF (bks R') := by
    rcases hR with e | ⟨y, _, e, _⟩
    · rw [← e]; exact ⟨pR, nR⟩
    · rw [e] at pR nR
      exact ⟨fun u hu => pR u (by simp [hu]), nR.tail⟩
  have hb := bks_splitN A R' (px, ⟨a, s, false⟩) i m z pA nA pR'.1 pR'.2 (by omega)
  have hv : Inv c d (bks (A ++ splitN i z (px, ⟨a, m, false⟩) R')) := by
    rw [hb]
    rcases hR with e | ⟨y, hy, e, em⟩
    · have := hms e
      subst this
      rw [e] at hiv
      exact cutL_inv (x := ⟨a, m, false⟩) hiv.cov hz0 hz8 hzm
    · subst em
      rw [e] at hiv
      exact cutL_inv2 (x := ⟨a, s, false⟩) (z := y) hiv.cov hz0 hz8 hzm
  obtain ⟨f, hm, hk⟩ := h.map
  have hnp := h.hp_ne
  have hnd := h.nd
  simp only [ids, List.map_append] at hnd hnp
  rw [List.nodup_append] at hnd
  have hk3 : MapOk f (tkn (A ++ splitN i z (px, ⟨a, m, false⟩) R')) := by
    rw [tkn_app, tkn_splitN, tkn_taken (by rfl), ht]
    rw [tkn_app, tkn_taken (by rfl)] at hk
    exact hk
  have hpx : px ∉ ids R' := fun e => (List.nodup_cons.1 hnd.2.1).1 (hs _ e)
  have hin : ∀ k ∈ ids ((px, (⟨a, m, false⟩ : Bk)) :: R'), k ∈ ids ((px, (⟨a, s, false⟩ : Bk)) :: R) := fun k hk => by
    simp only [ids, List.map_cons, List.mem_cons] at hk ⊢
    rcases hk with hk | hk
    · exact .inl hk
    · exact .inr (hs _ hk)
  have hni : i ∉ ids ((px, (⟨a, m, false⟩ : Bk)) :: R') := fun e => by
    have := h.ch.lt i (by simp only [ids, List.map_append]; exact List.mem_append_right _ (hin _ e))
    omega
  have hnn := splitN_nodup (i := i) (z := z) (x := (px, ⟨a, m, false⟩)) (R := R') (by simp only [ids, List.map_cons, List.nodup_cons]; exact ⟨hpx, hn'⟩) hni
  obtain ⟨x', R2, e1, e2⟩ := splitN_cons i z (px, ⟨a, m, false⟩) R'
  have hnw : ∀ k ∈ ids (splitN i z (px, ⟨a, m, false⟩) R'), k ∈ ids ((px, (⟨a, s, false⟩ : Bk)) :: R) ∨ w.heap.size ≤ k := fun k hk => by
    rcases splitN_ids _ _ _ _ k hk with e | e
    · exact .inr (by omega)
    · exact .inl (hin _ e)
  have hm3 := hm.fr hf (fun e => hnp.2.1 (List.mem_append_right _ e))
  refine ⟨hf.mono fun k _ e => .inr (.inr (by simp only [ids, List.map_append]; exact List.mem_append_right _ e)), A ++ x' :: R2, ?_, Newer.mid (by rw [← e1]; exact hnw), ?_⟩
  · rw [e1] at hc hnn hnw hk3 hv
    exact h.mid (hf.mono fun k _ e => .inr e) hc e2 hnn hnw hm3 hk3 hv
  · rw [← e1]; exact hb

set_option maxHeartbeats 2000000 in
theorem Resize_cut (w : World) (h : HRep w hp mp c d B (A ++ (px, ⟨a, s, false⟩) :: R)) (h0 : 0 ≤ n) (h1 : n ≤ 1048576) (hn : pick (takenAt a) (bks (A ++ (px, ⟨a, s, false⟩) :: R)) = some (bks A, ⟨a, s, false⟩, bks R)) (hzs : rnd n ≤ s) :
    Calls Try.prog 15 #[ptr hp, .int .i64 a, .int .i64 n] w fun e w' => e = .returned (.tuple #[.int .i64 a, .int .i64 s, .int .i64 0]) ∧ Fr (HIn hp mp (A ++ (px, ⟨a, s, false⟩) :: R)) w w' ∧ ∃ L', HRep w' hp mp c d B L' ∧ Newer w (A ++ (px, ⟨a, s, false⟩) :: R) L' ∧ bks L' = cutL (bks A) ⟨a, s, false⟩ s (rnd n) (bks R) := by
  have hT := taken_any a w h
  rw [takenP_some (x := (px, ⟨a, s, false⟩)) hn] at hT
  have HT := Lib.hid hT
  have HR := Lib.hid (rounded_ok n w h0 h1)
  obtain ⟨z1, z2⟩ := rnd_pos n
  have hch := (Chain.app.1 h.ch).2
  have x1 := hch.1.cell 1
  have x4 := hch.1.cell 4
  have hnd := h.nd
  simp only [ids, List.map_append] at hnd
  rw [List.nodup_append] at hnd
  have hcov := h.inv.cov
  rw [bks_app] at hcov
  obtain ⟨m, hcA, hcR⟩ := cov_app.1 hcov
  have hle := (cov_le hcA).1
  have HS := Lib.hid (split_any (x := (px, ⟨a, s, false⟩)) (R := R) (pv := lst nil_ A) (c := m) (d := d) w hch hnd.2.1 hcR (by have := h.cd; omega) (by have := h.c0; omega) h.d0 z1 z2 hzs)
  have hsb : 0 ≤ s ∧ s ≤ 1048576 := by
    obtain ⟨_, g2, _, g4⟩ := hcR
    have k1 := (cov_le g4).1
    have k2 := h.cd
    dsimp only at g2 k1
    omega
  have HH := Lib.hid h
  have hnd2 := (List.nodup_cons.1 hnd.2.1).2
  have HN := Lib.hid hnd2
  clear h h0 h1 hn hT hch hnd hcov hcA hcR hle hnd2
  generalize rnd n = z at *
  obtain ⟨pr, hpr⟩ : ∃ v, hdp nil_ R = v := ⟨_, rfl⟩
  rw [hpr] at x4 x1
  clear hpr
  simp only [node] at x1 x4
  rw [show ptr hp = .pointer (some ⟨hp, 0, none⟩) from rfl]
  simp only [ptr] at HT HS
  go_enter Try.func15, Try.ntmps15
  go_wp2_with (first | (go_at_call 24; refine HT.out.mono ?_; rintro e w ⟨rfl, rfl⟩) | (go_at_call 22; refine HR.out.mono ?_; rintro e w ⟨rfl, rfl⟩) | (go_at_call 23; refine HS.out.mono ?_; rintro e w2 ⟨rfl, hf2, hc2⟩))
  go_ret3
  exact ⟨rfl, HH.out.cut (z := z) (m := s) (.inl rfl) rfl (fun _ => rfl) z1 z2 hzs hf2 (Nat.le_refl _) (fun _ hk => hk) HN.out hc2⟩

set_option maxHeartbeats 2000000 in
theorem Resize_grow {pq : Nat} {b t : Int} (w : World) (h : HRep w hp mp c d B (A ++ (px, ⟨a, s, false⟩) :: (pq, ⟨b, t, true⟩) :: R)) (h0 : 0 ≤ n) (h1 : n ≤ 1048576) (hn : pick (takenAt a) (bks (A ++ (px, ⟨a, s, false⟩) :: (pq, ⟨b, t, true⟩) :: R)) = some (bks A, ⟨a, s, false⟩, bks ((pq, ⟨b, t, true⟩) :: R))) (hzs : s < rnd n) (hzt : rnd n ≤ s + t) :
    Calls Try.prog 15 #[ptr hp, .int .i64 a, .int .i64 n] w fun e w' => e = .returned (.tuple #[.int .i64 a, .int .i64 s, .int .i64 0]) ∧ Fr (HIn hp mp (A ++ (px, ⟨a, s, false⟩) :: (pq, ⟨b, t, true⟩) :: R)) w w' ∧ ∃ L', HRep w' hp mp c d B L' ∧ Newer w (A ++ (px, ⟨a, s, false⟩) :: (pq, ⟨b, t, true⟩) :: R) L' ∧ bks L' = cutL (bks A) ⟨a, s, false⟩ (s + t) (rnd n) (bks R) := by
  have hT := taken_any a w h
  rw [takenP_some (x := (px, ⟨a, s, false⟩)) hn] at hT
  have HT := Lib.hid hT
  have HR := Lib.hid (rounded_ok n w h0 h1)
  obtain ⟨z1, z2⟩ := rnd_pos n
  have hch := (Chain.app.1 h.ch).2
  have x1 := hch.1.cell 1
  have x4 := hch.1.cell 4
  have q1 := hch.2.1.cell 1
  have q2 := hch.2.1.cell 2
  have hnd := h.nd
  simp only [ids, List.map_append] at hnd
  rw [List.nodup_append] at hnd
  have hcov := h.inv.cov
  rw [bks_app] at hcov
  obtain ⟨m, hcA, hcR⟩ := cov_app.1 hcov
  have hle := (cov_le hcA).1
  have HJ := Lib.hid (join_any (x := (px, ⟨a, s, false⟩)) (R := (pq, ⟨b, t, true⟩) :: R) (pv := lst nil_ A) (c := m) (d := d) w hch hnd.2.1 hcR (by have := h.cd; omega))
  have hcR2 : Cov0 m d (bks ((px, (⟨a, s + t, false⟩ : Bk)) :: R)) := joinB_cov hcR
  have hsb : 0 ≤ s ∧ s ≤ 1048576 ∧ 0 ≤ t ∧ t ≤ 1048576 := by
    obtain ⟨_, g2, _, _, g5, _, g7⟩ := hcR
    have k1 := (cov_le g7).1
    have k2 := h.cd
    dsimp only at g2 g5 k1
    omega
  have hnd2 : (ids ((px, (⟨a, s + t, false⟩ : Bk)) :: R)).Nodup := hnd.2.1.sublist (joinN_ids (px, ⟨a, s, false⟩) ((pq, ⟨b, t, true⟩) :: R))
  have HS := fun (w1 : World) (hc1 : Chain w1 (lst nil_ A) ((px, ⟨a, s + t, false⟩) :: R) nil_) => split_any (x := (px, ⟨a, s + t, false⟩)) (R := R) (pv := lst nil_ A) (c := m) (d := d) w1 hc1 hnd2 hcR2 (by have := h.cd; omega) (by have := h.c0; omega) h.d0 z1 z2 hzt
  have HS := Lib.hid HS
  have HH := Lib.hid h
  have hnd3 := (List.nodup_cons.1 hnd2).2
  have HN := Lib.hid hnd3
  clear h h0 h1 hn hT hch hnd hcov hcA hcR hle hnd2 hcR2 hnd3
  generalize rnd n = z at *
  obtain ⟨pr, hpr⟩ : ∃ v, hdp nil_ R = v := ⟨_, rfl⟩
  rw [show hdp nil_ ((pq, (⟨b, t, true⟩ : Bk)) :: R) = .pointer (some ⟨pq, 0, none⟩) from rfl] at x4
  rw [hpr] at q1 q2
  clear hpr
  simp only [node] at x1 x4 q1 q2
  rw [show ptr hp = .pointer (some ⟨hp, 0, none⟩) from rfl]
  simp only [ptr] at HT HS HJ
  go_enter Try.func15, Try.ntmps15
  go_wp2_with (first | (go_at_call 24; refine HT.out.mono ?_; rintro e w ⟨rfl, rfl⟩) | (go_at_call 22; refine HR.out.mono ?_; rintro e w ⟨rfl, rfl⟩))
  refine HJ.out.mono ?_
  rintro e w1 ⟨rfl, hf1, hz1, hc1⟩
  simp only [joinN, if_true] at hc1
  have y1 := hc1.1.cell 1
  simp only [node] at y1
  have HC1 := Lib.hid hc1
  clear hc1
  go_wp2_with (go_at_call 23; refine (HS.out _ HC1.out).mono ?_; rintro e w2 ⟨rfl, hf2, hc2⟩)
  go_ret3
  refine ⟨rfl, HH.out.cut (z := z) (m := s + t) (.inr ⟨⟨b, t, true⟩, rfl, rfl, rfl⟩) (tkn_free (by rfl) _).symm (fun e => ?_) z1 z2 hzt ?_ (Nat.le_of_eq hz1.symm) (fun k hk => ?_) HN.out hc2⟩
  · have := congrArg List.length e
    simp [bks] at this
  · refine hf1.then hf2 (fun k _ e => ?_)
    simp only [ids, List.map_cons, List.mem_cons] at e ⊢
    rcases e with e | e
    · exact .inl e
    · exact .inr (.inr e)
  · simp only [ids, List.map_cons, List.mem_cons]
    exact .inr hk

theorem growN_none {x : Bk} {R : List Nd} (h : growN x z (bks R) = none) : R = [] ∨ (∃ pq b t R', R = (pq, ⟨b, t, false⟩) :: R') ∨ ∃ pq b t R', R = (pq, ⟨b, t, true⟩) :: R' ∧ x.size + t < z := by
  cases R with
  | nil => exact .inl rfl
  | cons y R =>
    obtain ⟨pq, b, t, f⟩ := y
    cases f with
    | false => exact .inr (.inl ⟨pq, b, t, R, rfl⟩)
    | true =>
      refine .inr (.inr ⟨pq, b, t, R, rfl, ?_⟩)
      simp only [bks, List.map_cons, growN] at h
      split at h
      · cases h
      · rename_i hh
        simp at hh
        exact hh

set_option maxHeartbeats 2000000 in
theorem Resize_move (w : World) (h : HRep w hp mp c d B (A ++ (px, ⟨a, s, false⟩) :: R)) (h0 : 0 ≤ n) (h1 : n ≤ 1048576) (hn : pick (takenAt a) (bks (A ++ (px, ⟨a, s, false⟩) :: R)) = some (bks A, ⟨a, s, false⟩, bks R)) (hzs : s < rnd n) (hg : growN ⟨a, s, false⟩ (rnd n) (bks R) = none) {e : Int} {L1 : List Bk} (ha : allocR n (bks (A ++ (px, ⟨a, s, false⟩) :: R)) = (e, 0, L1)) :
    Calls Try.prog 15 #[ptr hp, .int .i64 a, .int .i64 n] w fun e' w' => e' = .returned (.tuple #[.int .i64 e, .int .i64 s, .int .i64 0]) ∧ Fr (HIn hp mp (A ++ (px, ⟨a, s, false⟩) :: R)) w w' ∧ ∃ L', HRep w' hp mp c d B L' ∧ Newer w (A ++ (px, ⟨a, s, false⟩) :: R) L' ∧ bks L' = (freeR a L1).2 := by
  have hT := taken_any a w h
  rw [takenP_some (x := (px, ⟨a, s, false⟩)) hn] at hT
  have HT := Lib.hid hT
  have HR := Lib.hid (rounded_ok n w h0 h1)
  have hAl := Allocate_any n w h
  rw [ha] at hAl
  have HAl := Lib.hid hAl
  obtain ⟨z1, z2⟩ := rnd_pos n
  have hch := (Chain.app.1 h.ch).2
  have x1 := hch.1.cell 1
  have x4 := hch.1.cell 4
  have hcov := h.inv.cov
  rw [bks_app] at hcov
  obtain ⟨m, hcA, hcR⟩ := cov_app.1 hcov
  have hsb : 0 ≤ s ∧ s ≤ 1048576 := by
    obtain ⟨_, g2, _, g4⟩ := hcR
    have k0 := (cov_le hcA).1
    have k1 := (cov_le g4).1
    have k2 := h.cd
    dsimp only at g2 k1
    omega
  have hzb : rnd n ≤ 1048584 := by unfold rnd; omega
  have hcd := h.cd
  have HH := Lib.hid h
  have hv := growN_none hg
  clear h h0 h1 hn hT ha hAl hg hcov
  generalize rnd n = z at *
  simp only [node] at x1 x4
  rw [show ptr hp = .pointer (some ⟨hp, 0, none⟩) from rfl]
  simp only [ptr] at HT HAl
  have hFr := fun (w1 : World) (L' : List Nd) (h' : HRep w1 hp mp c d B L') => Free_any a w1 h'
  simp only [ptr] at hFr
  have HFr := Lib.hid hFr
  clear hFr
  rcases hv with rfl | ⟨pq, b, t, R', rfl⟩ | ⟨pq, b, t, R', rfl, hzt⟩
  · simp only [hdp, nil_] at x1 x4
    clear hch hcA hcR
    go_enter Try.func15, Try.ntmps15
    go_wp2_with (first | (go_at_call 24; refine HT.out.mono ?_; rintro e w ⟨rfl, rfl⟩) | (go_at_call 22; refine HR.out.mono ?_; rintro e w ⟨rfl, rfl⟩) | (go_at_call 14; refine HAl.out.mono ?_; rintro e w1 ⟨rfl, hf1, L', h1, hw1, e1⟩) | (go_at_call 16; refine (HFr.out _ _ h1).mono ?_; rintro e w2 ⟨rfl, hf2, L2, h2, hw2, e2⟩))
    go_ret3
    exact ⟨rfl, hf1.thenH hf2 hw1, L2, h2, hw1.trans hw2 hf1.size, by rw [e2, e1]⟩
  · have q1 := hch.2.1.cell 1
    have q2 := hch.2.1.cell 2
    simp only [hdp, ptr, node] at x1 x4 q1 q2
    clear hch hcA hcR
    go_enter Try.func15, Try.ntmps15
    go_wp2_with (first | (go_at_call 24; refine HT.out.mono ?_; rintro e w ⟨rfl, rfl⟩) | (go_at_call 22; refine HR.out.mono ?_; rintro e w ⟨rfl, rfl⟩) | (go_at_call 14; refine HAl.out.mono ?_; rintro e w1 ⟨rfl, hf1, L', h1, hw1, e1⟩) | (go_at_call 16; refine (HFr.out _ _ h1).mono ?_; rintro e w2 ⟨rfl, hf2, L2, h2, hw2, e2⟩))
    go_ret3
    exact ⟨rfl, hf1.thenH hf2 hw1, L2, h2, hw1.trans hw2 hf1.size, by rw [e2, e1]⟩
  · have q1 := hch.2.1.cell 1
    have q2 := hch.2.1.cell 2
    have htb : 0 ≤ t ∧ t ≤ 1048576 := by
      obtain ⟨_, g2, _, _, g5, _, g7⟩ := hcR
      have k0 := (cov_le hcA).1
      have k1 := (cov_le g7).1
      dsimp only at g2 g5 k1
      omega
    dsimp only at hzt
    simp only [hdp, ptr, node] at x1 x4 q1 q2
    clear hch hcA hcR
    go_enter Try.func15, Try.ntmps15
    go_wp2_with (first | (go_at_call 24; refine HT.out.mono ?_; rintro e w ⟨rfl, rfl⟩) | (go_at_call 22; refine HR.out.mono ?_; rintro e w ⟨rfl, rfl⟩) | (go_at_call 14; refine HAl.out.mono ?_; rintro e w1 ⟨rfl, hf1, L', h1, hw1, e1⟩) | (go_at_call 16; refine (HFr.out _ _ h1).mono ?_; rintro e w2 ⟨rfl, hf2, L2, h2, hw2, e2⟩))
    go_ret3
    exact ⟨rfl, hf1.thenH hf2 hw1, L2, h2, hw1.trans hw2 hf1.size, by rw [e2, e1]⟩
set_option maxHeartbeats 2000000 in
theorem Resize_stay (w : World) (h : HRep w hp mp c d B (A ++ (px, ⟨a, s, false⟩) :: R)) (h0 : 0 ≤ n) (h1 : n ≤ 1048576) (hn : pick (takenAt a) (bks (A ++ (px, ⟨a, s, false⟩) :: R)) = some (bks A, ⟨a, s, false⟩, bks R)) (hzs : s < rnd n) (hg : growN ⟨a, s, false⟩ (rnd n) (bks R) = none) (ha : allocR n (bks (A ++ (px, ⟨a, s, false⟩) :: R)) = (0, -59, bks (A ++ (px, ⟨a, s, false⟩) :: R))) :
    Calls Try.prog 15 #[ptr hp, .int .i64 a, .int .i64 n] w fun e' w' => e' = .returned (.tuple #[.int .i64 a, .int .i64 0, .int .i64 (-61)]) ∧ Fr (HIn hp mp (A ++ (px, ⟨a, s, false⟩) :: R)) w w' ∧ ∃ L', HRep w' hp mp c d B L' ∧ Newer w (A ++ (px, ⟨a, s, false⟩) :: R) L' ∧ bks L' = bks (A ++ (px, ⟨a, s, false⟩) :: R) := by
  have hT := taken_any a w h
  rw [takenP_some (x := (px, ⟨a, s, false⟩)) hn] at hT
  have HT := Lib.hid hT
  have HR := Lib.hid (rounded_ok n w h0 h1)
  have hAl := Allocate_any n w h
  rw [ha] at hAl
  have HAl := Lib.hid hAl
  obtain ⟨z1, z2⟩ := rnd_pos n
  have hch := (Chain.app.1 h.ch).2
  have x1 := hch.1.cell 1
  have x4 := hch.1.cell 4
  have hcov := h.inv.cov
  rw [bks_app] at hcov
  obtain ⟨m, hcA, hcR⟩ := cov_app.1 hcov
  have hsb : 0 ≤ s ∧ s ≤ 1048576 := by
    obtain ⟨_, g2, _, g4⟩ := hcR
    have k0 := (cov_le hcA).1
    have k1 := (cov_le g4).1
    have k2 := h.cd
    dsimp only at g2 k1
    omega
  have hzb : rnd n ≤ 1048584 := by unfold rnd; omega
  have hcd := h.cd
  have HH := Lib.hid h
  have hv := growN_none hg
  clear h h0 h1 hn hT ha hAl hg hcov
  generalize rnd n = z at *
  simp only [node] at x1 x4
  rw [show ptr hp = .pointer (some ⟨hp, 0, none⟩) from rfl]
  simp only [ptr] at HT HAl
  rcases hv with rfl | ⟨pq, b, t, R', rfl⟩ | ⟨pq, b, t, R', rfl, hzt⟩
  · simp only [hdp, nil_] at x1 x4
    clear hch hcA hcR
    go_enter Try.func15, Try.ntmps15
    go_wp2_with (first | (go_at_call 24; refine HT.out.mono ?_; rintro e w ⟨rfl, rfl⟩) | (go_at_call 22; refine HR.out.mono ?_; rintro e w ⟨rfl, rfl⟩) | (go_at_call 14; refine HAl.out.mono ?_; rintro e w1 ⟨rfl, hf1, L', h1, hw1, e1⟩))
    go_ret3
    exact ⟨rfl, hf1, L', h1, hw1, e1⟩
  · have q1 := hch.2.1.cell 1
    have q2 := hch.2.1.cell 2
    simp only [hdp, ptr, node] at x1 x4 q1 q2
    clear hch hcA hcR
    go_enter Try.func15, Try.ntmps15
    go_wp2_with (first | (go_at_call 24; refine HT.out.mono ?_; rintro e w ⟨rfl, rfl⟩) | (go_at_call 22; refine HR.out.mono ?_; rintro e w ⟨rfl, rfl⟩) | (go_at_call 14; refine HAl.out.mono ?_; rintro e w1 ⟨rfl, hf1, L', h1, hw1, e1⟩))
    go_ret3
    exact ⟨rfl, hf1, L', h1, hw1, e1⟩
  · have q1 := hch.2.1.cell 1
    have q2 := hch.2.1.cell 2
    have htb : 0 ≤ t ∧ t ≤ 1048576 := by
      obtain ⟨_, g2, _, _, g5, _, g7⟩ := hcR
      have k0 := (cov_le hcA).1
      have k1 := (cov_le g7).1
      dsimp only at g2 g5 k1
      omega
    dsimp only at hzt
    simp only [hdp, ptr, node] at x1 x4 q1 q2
    clear hch hcA hcR
    go_enter Try.func15, Try.ntmps15
    go_wp2_with (first | (go_at_call 24; refine HT.out.mono ?_; rintro e w ⟨rfl, rfl⟩) | (go_at_call 22; refine HR.out.mono ?_; rintro e w ⟨rfl, rfl⟩) | (go_at_call 14; refine HAl.out.mono ?_; rintro e w1 ⟨rfl, hf1, L', h1, hw1, e1⟩))
    go_ret3
    exact ⟨rfl, hf1, L', h1, hw1, e1⟩

theorem freeR_snd (a : Int) (L : List Bk) : (freeR a L).2 = (freeS a L).getD L := by
  unfold freeR
  cases freeS a L <;> rfl

theorem Resize_any (a n : Int) (w : World) (h : HRep w hp mp c d B L) :
    Calls Try.prog 15 #[ptr hp, .int .i64 a, .int .i64 n] w fun e w' => e = .returned (.tuple #[.int .i64 (resizeR a n (bks L)).1.1, .int .i64 (resizeR a n (bks L)).1.2.1, .int .i64 (resizeR a n (bks L)).1.2.2]) ∧ Fr (HIn hp mp L) w w' ∧ ∃ L', HRep w' hp mp c d B L' ∧ Newer w L L' ∧ bks L' = (resizeR a n (bks L)).2 := by
  by_cases hb : 0 ≤ n ∧ n ≤ 1048576
  · have e0 : resizeR a n (bks L) = resizeS a (rnd n) (bks L) := by unfold resizeR; rw [if_pos hb]
    rw [e0]
    obtain ⟨h0, h1⟩ := hb
    cases hq : pick (takenAt a) (bks L) with
    | none =>
      refine (Resize_none a n w h h0 h1 hq).mono ?_
      rintro e w' ⟨rfl, rfl⟩
      have e1 : resizeS a (rnd n) (bks L) = ((a, 0, -61), bks L) := by unfold resizeS; rw [hq]
      rw [e1]
      exact ⟨rfl, Fr.refl _ _, L, h, Newer.same _ _, rfl⟩
    | some t =>
      obtain ⟨A, x, R⟩ := t
      obtain ⟨g1, g2, _⟩ := pick_spec hq
      obtain ⟨A', i, R', rfl, rfl, rfl⟩ := bks_split g1
      obtain ⟨xa, xs, xf⟩ := x
      simp [takenAt] at g2
      obtain ⟨rfl, rfl⟩ := g2
      by_cases hs : rnd n ≤ xs
      · have e1 : resizeS xa (rnd n) (bks (A' ++ (i, ⟨xa, xs, false⟩) :: R')) = ((xa, xs, 0), cutL (bks A') ⟨xa, xs, false⟩ xs (rnd n) (bks R')) := by
          unfold resizeS; rw [hq]; dsimp only; rw [if_pos hs]
        rw [e1]
        exact Resize_cut w h h0 h1 hq hs
      · cases hg : growN ⟨xa, xs, false⟩ (rnd n) (bks R') with
        | some t =>
          obtain ⟨m, B'⟩ := t
          have e1 : resizeS xa (rnd n) (bks (A' ++ (i, ⟨xa, xs, false⟩) :: R')) = ((xa, xs, 0), cutL (bks A') ⟨xa, xs, false⟩ m (rnd n) B') := by
            unfold resizeS; rw [hq]; dsimp only; rw [if_neg hs, hg]
          rw [e1]
          cases R' with
          | nil => simp [bks, growN] at hg
          | cons y R' =>
            obtain ⟨pq, b, t, f⟩ := y
            simp only [bks, List.map_cons, growN] at hg
            split at hg
            · rename_i hf
              simp at hg hf
              obtain ⟨rfl, rfl⟩ := hg
              obtain ⟨rfl, hf⟩ := hf
              exact Resize_grow w h h0 h1 hq (Int.not_le.1 hs) hf
            · cases hg
        | none =>
          have e2 : allocR n (bks (A' ++ (i, ⟨xa, xs, false⟩) :: R')) = match allocS (rnd n) (bks (A' ++ (i, ⟨xa, xs, false⟩) :: R')) with
            | none => (0, -59, bks (A' ++ (i, ⟨xa, xs, false⟩) :: R'))
            | some (a, L') => (a, 0, L') := by
            unfold allocR
            rw [if_pos ⟨h0, h1⟩]
            rfl
          cases ha : allocS (rnd n) (bks (A' ++ (i, ⟨xa, xs, false⟩) :: R')) with
          | none =>
            have e1 : resizeS xa (rnd n) (bks (A' ++ (i, ⟨xa, xs, false⟩) :: R')) = ((xa, 0, -61), bks (A' ++ (i, ⟨xa, xs, false⟩) :: R')) := by
              unfold resizeS; rw [hq]; dsimp only; rw [if_neg hs, hg]; dsimp only; rw [ha]
            rw [e1]
            rw [ha] at e2
            exact Resize_stay w h h0 h1 hq (Int.not_le.1 hs) hg e2
          | some t =>
            obtain ⟨b, L1⟩ := t
            have e1 : resizeS xa (rnd n) (bks (A' ++ (i, ⟨xa, xs, false⟩) :: R')) = ((b, xs, 0), (freeS xa L1).getD L1) := by
              unfold resizeS; rw [hq]; dsimp only; rw [if_neg hs, hg]; dsimp only; rw [ha]
            rw [e1, ← freeR_snd]
            rw [ha] at e2
            exact Resize_move w h h0 h1 hq (Int.not_le.1 hs) hg e2
  · refine (Resize_bad a n w h (by omega)).mono ?_
    rintro e w' ⟨rfl, rfl⟩
    unfold resizeR
    rw [if_neg hb]
    exact ⟨rfl, Fr.refl _ _, L, h, Newer.same _ _, rfl⟩
end
end Go.Proofs.Ytedmdobfnkmccaa
