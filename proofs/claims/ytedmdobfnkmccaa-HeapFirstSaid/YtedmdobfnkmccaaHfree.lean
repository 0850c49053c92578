/- The heap's Free. -/
import Derived.Test.YtedmdobfnkmccaaHalloc
namespace Go.Proofs.Ytedmdobfnkmccaa
open Go Go.RowKit

/-- What Free answers, and the blocks behind it. -/
def freeR (a : Int) (L : List Bk) : Int × List Bk :=
  match freeS a L with
  | none => (-60, L)
  | some L' => (0, L')
theorem backB_nil (Y : List Bk) : backB [] Y = Y := rfl
theorem backB_snoc (A : List Bk) (p : Bk) (Y : List Bk) : backB (A ++ [p]) Y = if p.free then A ++ joinB p Y else (A ++ [p]) ++ Y := by
  unfold backB
  rw [List.reverse_append]
  simp only [List.reverse_cons, List.reverse_nil, List.nil_append, List.singleton_append, List.reverse_reverse]
theorem joinB_cov {x : Bk} {R : List Bk} {c d : Int} (h : Cov0 c d (x :: R)) : Cov0 c d (joinB x R) := by
  cases R with
  | nil => exact h
  | cons n R =>
    simp only [joinB]
    split
    · obtain ⟨h1, h2, h3, h4, h5, h6, h7⟩ := h
      refine ⟨h1, by dsimp only; omega, by dsimp only; omega, ?_⟩
      dsimp only
      rw [← Int.add_assoc]
      exact h7
    · exact h
theorem lst_snoc (pv : Value) (A : List Nd) (x : Nd) : lst pv (A ++ [x]) = ptr x.1 := by
  induction A generalizing pv with
  | nil => rfl
  | cons y A ih => exact ih _
theorem joinN_cons (x : Nd) (R : List Nd) : ∃ x' R', joinN x R = x' :: R' ∧ x'.1 = x.1 := by
  cases R with
  | nil => exact ⟨_, _, rfl, rfl⟩
  | cons n R =>
    simp only [joinN]
    split
    · exact ⟨_, _, rfl, rfl⟩
    · exact ⟨_, _, rfl, rfl⟩
theorem freeS_at {a s : Int} {A R : List Bk} {L : List Bk} (h : pick (takenAt a) L = some (A, ⟨a, s, false⟩, R)) : freeS a L = some (norm (A ++ ⟨a, s, true⟩ :: R)) := by
  unfold freeS
  rw [h]

section
variable {hp mp B : Nat} {c d : Int} {L : List Nd}

set_option maxHeartbeats 1000000 in
theorem Free_none (a : Int) (w : World) (h : HRep w hp mp c d B L) (hn : pick (takenAt a) (bks L) = none) :
    Calls Try.prog 16 #[ptr hp, .int .i64 a] w fun e w' => e = .returned (.int .i64 (-60)) ∧ w' = w := by
  have hT := taken_any a w h
  have e : takenP a L = nil_ := by unfold takenP; rw [hn]
  rw [e] at hT
  clear h e
  simp only [ptr, nil_] at *
  have HT := Lib.hid hT
  clear hT
  go_enter Try.func16, Try.ntmps16
  go_wp2_with (go_at_call 24; refine HT.out.mono ?_; rintro e w1 ⟨rfl, rfl⟩)
  go_ret
  exact ⟨rfl, rfl⟩

set_option maxHeartbeats 4000000 in
theorem Free_some (a s : Int) {px : Nat} {A R : List Nd} (w : World) (h : HRep w hp mp c d B (A ++ (px, ⟨a, s, false⟩) :: R)) (hn : pick (takenAt a) (bks (A ++ (px, ⟨a, s, false⟩) :: R)) = some (bks A, ⟨a, s, false⟩, bks R)) :
    Calls Try.prog 16 #[ptr hp, .int .i64 a] w fun e w' => e = .returned (.int .i64 0) ∧ Fr (HIn hp mp (A ++ (px, ⟨a, s, false⟩) :: R)) w w' ∧ ∃ L', HRep w' hp mp c d B L' ∧ Newer w (A ++ (px, ⟨a, s, false⟩) :: R) L' ∧ bks L' = norm (bks A ++ ⟨a, s, true⟩ :: bks R) := by
  have hT := taken_any a w h
  rw [takenP_some (x := (px, ⟨a, s, false⟩)) hn] at hT
  obtain ⟨f, hm, hk⟩ := h.map
  obtain ⟨w1, hde, hf1, hz1, hm1⟩ := run_deleteI (P := Try.prog) (V := 43) 0 3 Try.underlying44 Try.underlying3 hm a
  have c1 := h.obj.cell 1
  have n2 := h.hp_ne.2.1
  have hch := Chain.app.1 h.ch
  simp only [ids, List.map_append] at n2
  have hx1 := hch.2.1.fr hf1 (fun e => n2 (List.mem_append_right _ (by rw [← e]; simp)))
  have y2 := hx1.frozen 2
  have d2 := hx1.cell 2
  have HH := Lib.hid h
  have HK := Lib.hid hk
  have HF1 := Lib.hid hf1
  have HM1 := Lib.hid hm1
  have HX1 := Lib.hid hx1
  have HT := Lib.hid hT
  have HN := Lib.hid hn
  clear h hch hk hm hf1 hm1 hx1 hT n2 hn
  have e0 : ptr hp = .pointer (some ⟨hp, 0, none⟩) := rfl
  rw [e0]
  simp only [ptr, node] at HT d2 c1
  go_enter Try.func16, Try.ntmps16
  go_wp2_with (go_at_call 24; refine HT.out.mono ?_; rintro e w ⟨rfl, rfl⟩)
  have h := HH.out
  obtain ⟨n1, n2, n3⟩ := h.hp_ne
  have hch := Chain.app.1 h.ch
  have hnd := h.nd
  simp only [ids, List.map_append] at hnd n1 n2
  rw [List.nodup_append] at hnd
  have hnR := (List.nodup_cons.1 hnd.2.1)
  have hcov := h.inv.cov
  rw [bks_app] at hcov
  obtain ⟨m, hcA, hcR⟩ := cov_app.1 hcov
  have hcl := cov_le hcA
  have hcR' : Cov0 m d (bks ((px, (⟨a, s, true⟩ : Bk)) :: R)) := hcR
  have hfw : Fr (fun k => k = mp ∨ k = px) w (w1.setCell ⟨px, 2, none⟩ (.bool true)) := (HF1.out.mono fun k _ e => .inl e).setCell (p := ⟨px, 2, none⟩) (.inl (.inr rfl)) _
  refine (join_any (x := (px, ⟨a, s, true⟩)) (R := R) (pv := lst nil_ A) (c := m) (d := d) _ ⟨HX1.out.set_ 2 _, hch.2.2.fr hfw (fun k hk e => by
    rcases e with rfl | rfl
    · exact n2 (List.mem_append_right _ (List.mem_cons_of_mem _ hk))
    · exact hnR.1 hk)⟩ hnd.2.1 hcR' (by have := h.cd; omega)).mono ?_
  rintro e w3 ⟨rfl, hf3, hz3, hc3⟩
  have hfr : Fr (fun k => k = mp ∨ k ∈ ids ((px, (⟨a, s, false⟩ : Bk)) :: R)) w w3 :=
    (hfw.mono fun k _ e => by
      rcases e with e | e
      · exact .inl e
      · exact .inr (by simp [ids, e])).then hf3 (fun k _ e => .inr e)
  have hm3 : MapI w3 mp (fun j => if j = a then none else f j) :=
    (HM1.out.setCell (a := ⟨px, 2, none⟩) (fun e => n2 (List.mem_append_right _ (by rw [e]; simp))) _).fr hf3 (fun e => n2 (List.mem_append_right _ e))
  obtain ⟨x', R', e1, e2⟩ := joinN_cons (px, ⟨a, s, true⟩) R
  have d3 := (show Blk w3 x'.1 _ _ from (by rw [e1] at hc3; exact hc3.1)).cell 3
  rw [e2] at d3
  simp only [node] at d3
  have hsz : s ≠ 0 := h.inv.pos ⟨a, s, false⟩ (by rw [bks_app]; simp [bks])
  have hpos := h.inv.pos
  have hnoff := h.inv.noff
  rw [bks_app] at hpos hnoff
  obtain ⟨pA, nA, pR, nR⟩ := norm_keeps (x := ⟨a, s, false⟩) hpos hnoff
  have hs0 : 0 < s := by
    obtain ⟨_, h2, _⟩ := hcR
    dsimp only at h2
    omega
  have hfe := free_eq (A := bks A) (B := bks R) (x := ⟨a, s, false⟩) pA nA pR nR hsz hs0 (fun y hy => ((cov_le hcR.2.2.2).2 y hy).2.1)
  have hIv : Inv c d (norm (bks A ++ ⟨a, s, true⟩ :: bks R)) := freeS_inv h.inv (freeS_at HN.out)
  have hkd : MapOk (fun j => if j = a then none else f j) (tkn A ++ tkn R) := by
    have hk := HK.out
    have ht : tkn (A ++ (px, ⟨a, s, false⟩) :: R) = tkn A ++ (a, px) :: tkn R := by rw [tkn_app, tkn_taken (by rfl)]
    rw [ht] at hk
    exact hk.delete (by rw [← ht]; exact tkn_nodup h.inv.cov h.inv.pos)
  have hidR : ∀ k ∈ ids (joinN (px, ⟨a, s, true⟩) R), k ∈ ids ((px, (⟨a, s, false⟩ : Bk)) :: R) := fun k hk => (joinN_ids (px, ⟨a, s, true⟩) R).subset hk
  have hndJ : (ids (joinN (px, ⟨a, s, true⟩) R)).Nodup := hnd.2.1.sublist (joinN_ids _ _)
  have hbJ : bks (joinN (px, ⟨a, s, true⟩) R) = joinB ⟨a, s, true⟩ (bks R) := bks_joinN _ _
  have htJ : tkn (joinN (px, ⟨a, s, true⟩) R) = tkn R := by rw [tkn_joinN, tkn_free (by rfl)]
  have hback : ∀ Y, (A = [] ∨ ∃ A0 p, A = A0 ++ [p] ∧ p.2.free = false) → backB (bks A) Y = bks A ++ Y := fun Y hA => by
    rcases hA with rfl | ⟨A0, p, rfl, hp⟩
    · rfl
    · rw [bks_app, show bks [p] = [p.2] from rfl, backB_snoc, if_neg (by rw [hp]; decide)]
  have hend : (A = [] ∨ ∃ A0 p, A = A0 ++ [p] ∧ p.2.free = false) → Fr (HIn hp mp (A ++ (px, ⟨a, s, false⟩) :: R)) w w3 ∧ ∃ L', HRep w3 hp mp c d B L' ∧ Newer w (A ++ (px, ⟨a, s, false⟩) :: R) L' ∧ bks L' = norm (bks A ++ ⟨a, s, true⟩ :: bks R) := fun hA => by
    have hb : bks (A ++ joinN (px, ⟨a, s, true⟩) R) = norm (bks A ++ ⟨a, s, true⟩ :: bks R) := by
      rw [bks_app, hbJ, ← hback _ hA]
      exact hfe.symm
    refine ⟨hfr.mono fun k _ e => ?_, A ++ x' :: R', ?_, Newer.mid (fun k hk => .inl (hidR k (by rw [e1]; exact hk))), ?_⟩
    · rcases e with e | e
      · exact .inr (.inl e)
      · exact .inr (.inr (by simp only [ids, List.map_append]; exact List.mem_append_right _ e))
    · have hv : Inv c d (bks (A ++ joinN (px, ⟨a, s, true⟩) R)) := by rw [hb]; exact hIv
      have hk3 : MapOk (fun j => if j = a then none else f j) (tkn (A ++ joinN (px, ⟨a, s, true⟩) R)) := by rw [tkn_app, htJ]; exact hkd
      rw [e1] at hv hk3 hc3 hndJ hidR
      exact h.mid hfr hc3 e2 hndJ (fun k hk => .inl (hidR k hk)) hm3 hk3 hv
    · rw [← e1]; exact hb
  have hA0 : A = [] ∨ ∃ A0 p, A = A0 ++ [p] := by
    rcases List.eq_nil_or_concat A with h | ⟨A0, p, h⟩
    · exact .inl h
    · exact .inr ⟨A0, p, by rw [← List.concat_eq_append]; exact h⟩
  rcases hA0 with hA | ⟨A0, p, hA⟩
  · have hl : lst nil_ A = .pointer none := by rw [hA]; rfl
    rw [hl] at d3
    have HE := Lib.hid (hend (.inl hA))
    clear hend hback hbJ htJ hndJ hidR hkd hIv hfe hs0 pA nA pR nR hnoff hpos hsz e1 e2 hm3 hfr hc3 hf3 hfw hcR' hcl hcA hcR hcov hnR hnd hch n1 n2 n3 h hl
    go_wp2
    go_ret
    exact ⟨rfl, HE.out⟩
  · have hl : lst nil_ A = .pointer (some ⟨p.1, 0, none⟩) := by rw [hA, lst_snoc]; rfl
    rw [hl] at d3
    have hcp := Chain.app.1 (hA ▸ hch.1)
    have hpw : Blk w p.1 61 (node p.2 (lst nil_ A0) (ptr px)) := hcp.2.1
    have hpA : p.1 ∈ ids A := by rw [hA]; simp [ids]
    have hp3 := hpw.fr hfr (fun e => by
      rcases e with e | e
      · exact n2 (List.mem_append_left _ (by rw [← e]; exact hpA))
      · exact hnd.2.2 p.1 hpA p.1 e rfl)
    have q2 := hp3.cell 2
    simp only [node] at q2
    by_cases hpf : p.2.free = true
    · rw [hpf] at q2
      have HP := Lib.hid hpf
      have hcA2 := hcA
      rw [hA, bks_app] at hcA2
      obtain ⟨m0, hcA0, hcp0⟩ := cov_app.1 hcA2
      have hcY : Cov0 m d (bks (joinN (px, ⟨a, s, true⟩) R)) := by rw [hbJ]; exact joinB_cov hcR'
      have hcP : Cov0 m0 d (bks (p :: joinN (px, ⟨a, s, true⟩) R)) := by
        obtain ⟨g1, g2, g3, g4⟩ := hcp0
        refine ⟨g1, g2, g3, ?_⟩
        simp only [List.map_nil, Cov0] at g4
        rw [g4]
        exact hcY
      have hle0 := (cov_le hcA0).1
      have hle1 := (cov_le hcA).1
      have hnp : (ids (p :: joinN (px, ⟨a, s, true⟩) R)).Nodup := by
        simp only [ids, List.map_cons, List.nodup_cons]
        exact ⟨fun e => hnd.2.2 p.1 hpA p.1 (hidR _ e) rfl, hndJ⟩
      have hcc : Chain w3 (lst nil_ A0) (p :: joinN (px, ⟨a, s, true⟩) R) nil_ := by
        refine ⟨?_, ?_⟩
        · rw [joinN_hd]; exact hp3
        · have e : lst nil_ A = ptr p.1 := by rw [hA, lst_snoc]
          rw [← e]; exact hc3
      have HE := Lib.hid hend
      go_wp2_with fail
      refine (join_any (x := p) (R := joinN (px, ⟨a, s, true⟩) R) (pv := lst nil_ A0) (c := m0) (d := d) _ hcc hnp hcP (by have := h.cd; omega)).mono ?_
      rintro e w4 ⟨rfl, hf4, hz4, hc4⟩
      have hpp : ∀ k ∈ ids (p :: joinN (px, ⟨a, s, true⟩) R), k ∈ ids (p :: (px, (⟨a, s, false⟩ : Bk)) :: R) := fun k hk => by
        simp only [ids, List.map_cons, List.mem_cons] at hk ⊢
        rcases hk with hk | hk
        · exact .inl hk
        · have := hidR k hk
          simp only [ids, List.map_cons, List.mem_cons] at this
          exact .inr this
      have hfr4 : Fr (fun k => k = mp ∨ k ∈ ids (p :: (px, (⟨a, s, false⟩ : Bk)) :: R)) w w4 :=
        (hfr.mono fun k _ e => by
          rcases e with e | e
          · exact .inl e
          · refine .inr ?_
            simp only [ids, List.map_cons, List.mem_cons] at e ⊢
            exact .inr e).then hf4 (fun k _ e => .inr (hpp k e))
      have hpmp : mp ∉ ids (p :: joinN (px, ⟨a, s, true⟩) R) := fun e => by
        have := hpp _ e
        simp only [ids, List.map_cons, List.mem_cons] at this
        rcases this with e | e
        · exact n2 (List.mem_append_left _ (by rw [e]; exact hpA))
        · exact n2 (List.mem_append_right _ (by simpa using e))
      have hm4 := hm3.fr hf4 hpmp
      obtain ⟨y', Y', g1, g2⟩ := joinN_cons p (joinN (px, ⟨a, s, true⟩) R)
      have hb4 : bks (A0 ++ joinN p (joinN (px, ⟨a, s, true⟩) R)) = norm (bks A ++ ⟨a, s, true⟩ :: bks R) := by
        rw [bks_app, bks_joinN, hbJ]
        refine Eq.trans ?_ hfe.symm
        rw [hA, bks_app, show bks [p] = [p.2] from rfl, backB_snoc, if_pos hpf]
      have hv4 : Inv c d (bks (A0 ++ joinN p (joinN (px, ⟨a, s, true⟩) R))) := by rw [hb4]; exact hIv
      have hk4 : MapOk (fun j => if j = a then none else f j) (tkn (A0 ++ joinN p (joinN (px, ⟨a, s, true⟩) R))) := by
        rw [tkn_app, tkn_joinN, tkn_free hpf, htJ]
        rw [hA, tkn_app, tkn_free hpf] at hkd
        simpa [tkn] using hkd
      have hn4 : (ids (joinN p (joinN (px, ⟨a, s, true⟩) R))).Nodup := hnp.sublist (joinN_ids _ _)
      have hi4 : ∀ k ∈ ids (joinN p (joinN (px, ⟨a, s, true⟩) R)), k ∈ ids (p :: (px, (⟨a, s, false⟩ : Bk)) :: R) := fun k hk => hpp k ((joinN_ids _ _).subset hk)
      have hres : Fr (HIn hp mp (A ++ (px, ⟨a, s, false⟩) :: R)) w w4 ∧ ∃ L', HRep w4 hp mp c d B L' ∧ Newer w (A ++ (px, ⟨a, s, false⟩) :: R) L' ∧ bks L' = norm (bks A ++ ⟨a, s, true⟩ :: bks R) := by
        refine ⟨hfr4.mono fun k _ e => ?_, A0 ++ y' :: Y', ?_, ?_, ?_⟩
        · rcases e with e | e
          · exact .inr (.inl e)
          · refine .inr (.inr ?_)
            rw [hA]
            simp only [ids, List.map_append, List.map_cons, List.map_nil, List.mem_append, List.mem_cons] at e ⊢
            rcases e with e | e
            · exact .inl (.inr (.inl e))
            · exact .inr e
        · have h' : HRep w hp mp c d B (A0 ++ p :: (px, ⟨a, s, false⟩) :: R) := by
            have := h
            rw [hA, List.append_assoc] at this
            exact this
          rw [g1] at hc4 hn4 hi4 hv4 hk4
          exact h'.mid hfr4 hc4 g2 hn4 (fun k hk => .inl (hi4 k hk)) hm4 hk4 hv4
        · have hne := Newer.mid (w := w) (A := A0) (x := p) (R := (px, (⟨a, s, false⟩ : Bk)) :: R) (x' := y') (R' := Y') (fun k hk => .inl (hi4 k (by rw [g1]; exact hk)))
          rw [hA, List.append_assoc]
          exact hne
        · rw [← g1]; exact hb4
      have HRS := Lib.hid hres
      clear hres hend hback hbJ htJ hndJ hidR hkd hIv hfe hs0 pA nA pR nR hnoff hpos hsz e1 e2 hm3 hfr hc3 hf3 hfw hcR' hcl hcA hcR hcov hnR hnd hch n1 n2 n3 h hl
      go_wp2
      go_ret
      exact ⟨rfl, HRS.out⟩
    · have hpf' : p.2.free = false := by simpa using hpf
      rw [hpf'] at q2
      have HE := Lib.hid (hend (.inr ⟨A0, p, hA, hpf'⟩))
      clear hend hback hbJ htJ hndJ hidR hkd hIv hfe hs0 pA nA pR nR hnoff hpos hsz e1 e2 hm3 hfr hc3 hf3 hfw hcR' hcl hcA hcR hcov hnR hnd hch n1 n2 n3 h hl
      go_wp2
      go_ret
      exact ⟨rfl, HE.out⟩

theorem Free_any (a : Int) (w : World) (h : HRep w hp mp c d B L) :
    Calls Try.prog 16 #[ptr hp, .int .i64 a] w fun e w' => e = .returned (.int .i64 (freeR a (bks L)).1) ∧ Fr (HIn hp mp L) w w' ∧ ∃ L', HRep w' hp mp c d B L' ∧ Newer w L L' ∧ bks L' = (freeR a (bks L)).2 := by
  cases hq : pick (takenAt a) (bks L) with
  | none =>
    refine (Free_none a w h hq).mono ?_
    rintro e w' ⟨rfl, rfl⟩
    have e1 : freeR a (bks L) = (-60, bks L) := by unfold freeR freeS; rw [hq]
    rw [e1]
    exact ⟨rfl, Fr.refl _ _, L, h, Newer.same _ _, rfl⟩
  | some t =>
    obtain ⟨A, x, R⟩ := t
    obtain ⟨h1, h2, _⟩ := pick_spec hq
    obtain ⟨A', i, R', rfl, rfl, rfl⟩ := bks_split h1
    obtain ⟨xa, xs, xf⟩ := x
    simp [takenAt] at h2
    obtain ⟨rfl, rfl⟩ := h2
    have e1 : freeR xa (bks (A' ++ (i, ⟨xa, xs, false⟩) :: R')) = (0, norm (bks A' ++ ⟨xa, xs, true⟩ :: bks R')) := by
      unfold freeR
      rw [freeS_at hq]
    rw [e1]
    exact Free_some xa xs w h hq
end
end Go.Proofs.Ytedmdobfnkmccaa
