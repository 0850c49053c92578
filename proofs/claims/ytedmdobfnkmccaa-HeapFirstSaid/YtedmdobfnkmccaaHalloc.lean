/- The heap's Allocate. -/
import Derived.Test.YtedmdobfnkmccaaHops
namespace Go.Proofs.Ytedmdobfnkmccaa
open Go Go.RowKit

/-- What Allocate answers, and the blocks behind it. -/
def allocR (n : Int) (L : List Bk) : Int × Int × List Bk :=
  if 0 ≤ n ∧ n ≤ 1048576 then
    match allocS (rnd n) L with
    | none => (0, -59, L)
    | some (a, L') => (a, 0, L')
  else (0, -59, L)

open Classical in
/-- How many nodes stand from one on. -/
noncomputable def sfx (v : Value) : List Nd → Nat
  | [] => 0
  | x :: L => if v = ptr x.1 then L.length + 1 else sfx v L
theorem ptr_inj {i j : Nat} (h : ptr i = ptr j) : i = j := by
  unfold ptr at h
  injection h with h
  injection h with h
  injection h
theorem sfx_at (A : List Nd) (x : Nd) (R : List Nd) (h : (ids (A ++ x :: R)).Nodup) : sfx (ptr x.1) (A ++ x :: R) = R.length + 1 := by
  induction A with
  | nil => simp [sfx]
  | cons y A ih =>
    simp only [List.cons_append, ids, List.map_cons, List.nodup_cons, List.map_append, List.mem_append, List.mem_cons, not_or] at h
    simp only [List.cons_append, sfx]
    rw [if_neg (fun e => h.1.2.1 (ptr_inj e).symm)]
    exact ih (by simpa [ids] using h.2)
theorem sfx_nil (L : List Nd) : sfx nil_ L = 0 := by
  induction L with
  | nil => rfl
  | cons x L ih => simp [sfx, nil_, ptr]; exact ih
theorem sfx_hd (A R : List Nd) (h : (ids (A ++ R)).Nodup) : sfx (hdp nil_ R) (A ++ R) = R.length := by
  cases R with
  | nil => simp [hdp, sfx_nil]
  | cons x R => simpa [hdp] using sfx_at A x R h

section
variable {hp mp B : Nat} {c d : Int} {L : List Nd}

set_option maxHeartbeats 1000000 in
theorem Allocate_bad (n : Int) (w : World) (h : n < 0 ∨ 1048576 < n) (v : Value) (hv : v = nil_ ∨ v = ptr hp) :
    Calls Try.prog 14 #[v, .int .i64 n] w fun e w' => e = .returned (.tuple #[.int .i64 0, .int .i64 (-59)]) ∧ w' = w := by
  have hR := rounded_err n w h
  rcases hv with rfl | rfl
  · simp only [nil_]
    go_enter Try.func14, Try.ntmps14
    go_wp2_with (go_at_call 22; refine hR.mono ?_; rintro e w1 ⟨rfl, rfl⟩)
    go_ret2
    exact ⟨rfl, rfl⟩
  · simp only [ptr]
    go_enter Try.func14, Try.ntmps14
    go_wp2_with (go_at_call 22; refine hR.mono ?_; rintro e w1 ⟨rfl, rfl⟩)
    go_ret2
    exact ⟨rfl, rfl⟩

theorem splitN_cons (i : Nat) (z : Int) (x : Nd) (R : List Nd) : ∃ x' R', splitN i z x R = x' :: R' ∧ x'.1 = x.1 := by
  unfold splitN
  split
  · exact ⟨_, _, rfl, rfl⟩
  · exact ⟨_, _, rfl, rfl⟩
theorem norm_keeps {A R : List Bk} {x : Bk} (h : Pos (A ++ x :: R)) (k : NoFF (A ++ x :: R)) : Pos A ∧ NoFF A ∧ Pos R ∧ NoFF R :=
  ⟨fun y hy => h y (by simp [hy]), k.left, fun y hy => h y (by simp [hy]), (NoFF.right (A := A) k).tail⟩

theorem bks_splitN (A R : List Nd) (x : Nd) (i : Nat) (n z : Int) (pA : Pos (bks A)) (nA : NoFF (bks A)) (pR : Pos (bks R)) (nR : NoFF (bks R)) (hz : z ≠ 0) :
    bks (A ++ splitN i z (x.1, ⟨x.2.at_, n, false⟩) R) = cutL (bks A) x.2 n z (bks R) := by
  rw [cut_eq pA nA pR nR hz, bks_app]
  congr 1
  unfold splitN
  dsimp only
  split
  · rename_i e
    subst e
    rfl
  · simp only [bks, List.map_cons]
    congr 1
    exact bks_joinN _ _

set_option maxHeartbeats 4000000 in
theorem Allocate_ok (n : Int) (w : World) (h : HRep w hp mp c d B L) (h0 : 0 ≤ n) (h1 : n ≤ 1048576) :
    Calls Try.prog 14 #[ptr hp, .int .i64 n] w fun e w' => e = .returned (.tuple #[.int .i64 (allocR n (bks L)).1, .int .i64 (allocR n (bks L)).2.1]) ∧ Fr (HIn hp mp L) w w' ∧ ∃ L', HRep w' hp mp c d B L' ∧ Newer w L L' ∧ bks L' = (allocR n (bks L)).2.2 := by
  have hR := rounded_ok n w h0 h1
  obtain ⟨r, hr⟩ : ∃ r, allocR n (bks L) = r := ⟨_, rfl⟩
  rw [hr]
  unfold allocR at hr
  rw [if_pos ⟨h0, h1⟩] at hr
  obtain ⟨z1, z2⟩ := rnd_pos n
  have c0 := h.obj.cell 0
  clear h0 h1
  generalize rnd n = z at *
  have HH := Lib.hid h
  have HR := Lib.hid hr
  clear h hr
  have e0 : ptr hp = .pointer (some ⟨hp, 0, none⟩) := rfl
  rw [e0]
  obtain ⟨hd0, hhd⟩ : ∃ v, hdp nil_ L = v := ⟨_, rfl⟩
  rw [hhd] at c0
  go_enter Try.func14, Try.ntmps14
  go_wp2_with (go_at_call 22; refine hR.mono ?_; rintro e w1 ⟨rfl, rfl⟩)
  go_loopw [8] (fun b wr => ∃ A R, L = A ++ R ∧ b = hdp nil_ R ∧ wr = w ∧ ∀ y ∈ bks A, fit z y = false) (fun b _ => sfx b L)
  case atStart => exact ⟨[], L, rfl, hhd.symm, rfl, fun y hy => by simp [bks] at hy⟩
  case round =>
    obtain ⟨A, R, hL, rfl, rfl, hA⟩ := hrel
    cases R with
    | nil =>
      have hnone : allocS z (bks L) = none := by
        unfold allocS
        rw [pick_none (by rw [hL, bks_app]; simpa [bks] using hA)]
      simp only [hdp, nil_]
      go_wp2
      go_ret2
      have hr := HR.out
      rw [hnone] at hr
      rw [← hr]
      exact ⟨rfl, Fr.refl _ _, L, HH.out, Newer.same _ _, rfl⟩
    | cons x R =>
      subst hL
      have hch := Chain.app.1 HH.out.ch
      have hx := hch.2.1
      have d2 := hx.cell 2
      have d1 := hx.cell 1
      have d0 := hx.cell 0
      have d4 := hx.cell 4
      have y2 := hx.frozen 2
      have hcovA := (cov_app (A := bks A) (C := bks (x :: R))).1 (by rw [← bks_app]; exact HH.out.inv.cov)
      have hsx := Lib.hid (sfx_at A x R HH.out.nd)
      have hsx2 := Lib.hid (sfx_hd (A ++ [x]) R (by rw [List.append_assoc]; exact HH.out.nd))
      obtain ⟨px, a, s, f⟩ := x
      have HA := Lib.hid hA
      have HCH := Lib.hid hch
      have HCV := Lib.hid hcovA
      have HX := Lib.hid hx
      simp only [node] at d0 d1 d2 d4
      clear hA hch hcovA hx
      rw [show hdp nil_ ((px, (⟨a, s, f⟩ : Bk)) :: R) = .pointer (some ⟨px, 0, none⟩) from rfl]
      obtain ⟨pr, hpr⟩ : ∃ v, hdp nil_ R = v := ⟨_, rfl⟩
      rw [hpr] at d4 hsx2
      have HP := Lib.hid hpr
      clear hpr
      cases f with
      | false =>
        go_wp2
        go_roundw
        case rel =>
          refine ⟨A ++ [(px, ⟨a, s, false⟩)], R, by simp, HP.out.symm, trivial, fun y hy => ?_⟩
          rw [bks_app, List.mem_append] at hy
          rcases hy with hy | hy
          · exact HA.out y hy
          · simp [bks] at hy; subst hy; rfl
        case measure =>
          have e1 := hsx.out
          have e2 := hsx2.out
          simp only [ptr, List.append_assoc, List.cons_append, List.nil_append] at e1 e2
          omega
      | true =>
        by_cases hz : s < z
        · go_wp2
          go_roundw
          case rel =>
            refine ⟨A ++ [(px, ⟨a, s, true⟩)], R, by simp, HP.out.symm, trivial, fun y hy => ?_⟩
            rw [bks_app, List.mem_append] at hy
            rcases hy with hy | hy
            · exact HA.out y hy
            · simp [bks] at hy; subst hy; simp [fit]; omega
          case measure =>
            have e1 := hsx.out
            have e2 := hsx2.out
            simp only [ptr, List.append_assoc, List.cons_append, List.nil_append] at e1 e2
            omega
        · go_wp2_with fail
          have h := HH.out
          obtain ⟨n1, n2, n3⟩ := h.hp_ne
          obtain ⟨m, hcA, hcR⟩ := HCV.out
          have hnd := h.nd
          simp only [ids, List.map_append] at hnd n1 n2
          rw [List.nodup_append] at hnd
          have hnR := (List.nodup_cons.1 hnd.2.1)
          have hcl := cov_le hcA
          refine (split_any (x := (px, ⟨a, s, false⟩)) (R := R) (pv := lst nil_ A) (c := m) (d := d) _ ⟨HX.out.set_ 2 _, HCH.out.2.2.fr (S := fun k => k = px) ((Fr.refl (fun k => k = px) _).setCell (p := ⟨px, 2, none⟩) (.inl rfl) _) (fun k hk e => hnR.1 (by rw [← e]; exact hk))⟩ hnd.2.1 hcR (by have := h.cd; omega) (by have := h.c0; omega) h.d0 z1 z2 (by dsimp only; omega)).mono ?_
          rintro e w2 ⟨rfl, hf2, hc2⟩
          have hfr : Fr (fun k => k ∈ ids ((px, (⟨a, s, true⟩ : Bk)) :: R)) wr w2 := Fr.trans ((Fr.refl _ wr).setCell (p := ⟨px, 2, none⟩) (.inl (by simp [ids])) _) hf2
          have hzz : (wr.setCell ⟨px, 2, none⟩ (.bool false)).heap.size = wr.heap.size := by simp [World.setCell]
          rw [hzz] at hc2
          have hob := (h.obj.fr hfr (fun e => n1 (List.mem_append_right _ e))).cell 1
          have hpx : w2.cell? ⟨px, 0, none⟩ = some (.int .i64 a) := by
            unfold splitN at hc2
            split at hc2
            · exact hc2.1.cell 0
            · exact hc2.1.cell 0
          obtain ⟨f, hm, hk⟩ := h.map
          have hm1 := hm.fr hfr (fun e => n2 (List.mem_append_right _ e))
          have hm2 : MapI w2.drew mp f := hm1
          obtain ⟨w3, hup, hf3, hz3, hm3⟩ := run_updateI (P := Try.prog) (V := 43) Try.underlying44 Try.underlying3 hm2 a (ptr px)
          simp only [ptr] at hup
          have hpm : px ≠ mp := fun e => n2 (List.mem_append_right _ (by simp [e]))
          have hpl : px < w2.heap.size := by
            unfold World.cell? at hpx
            rcases Nat.lt_or_ge px w2.heap.size with h5 | h5
            · exact h5
            · rw [Array.getElem?_eq_none (by exact h5)] at hpx; cases hpx
          have hpx3 : w3.cell? ⟨px, 0, none⟩ = some (.int .i64 a) := (hf3.cell (p := ⟨px, 0, none⟩) hpl hpm).trans hpx
          have HF2 := Lib.hid hfr
          have HC2 := Lib.hid hc2
          have HK := Lib.hid hk
          have HM3 := Lib.hid hm3
          have HF3 := Lib.hid hf3
          have HZ3 := Lib.hid hz3
          have HM1 := Lib.hid hm1
          clear hm hk hm1 hm2 hm3 hf3 hz3 hc2 hfr hf2 n1 n2 n3 hcA hcR hcl hnR hnd hzz h
          go_wp2
          go_still_tail 10, (by kernel_rfl)
          go_wp2
          go_ret2
          have h := HH.out
          have hA : ∀ y ∈ bks A, fit z y = false := HA.out
          have hS : allocS z (bks (A ++ (px, ⟨a, s, true⟩) :: R)) = some (a, cutL (bks A) ⟨a, s, true⟩ s z (bks R)) := by
            unfold allocS
            rw [bks_app, show bks ((px, (⟨a, s, true⟩ : Bk)) :: R) = ⟨a, s, true⟩ :: bks R from rfl, pick_app hA (by simp [fit]; omega)]
          have hr := HR.out
          rw [hS] at hr
          rw [← hr]
          have hiv := h.inv
          rw [bks_app] at hiv
          obtain ⟨pA, nA, pR, nR⟩ := norm_keeps (x := ⟨a, s, true⟩) hiv.pos hiv.noff
          have hb := bks_splitN A R (px, ⟨a, s, true⟩) wr.heap.size s z pA nA pR nR (by omega)
          have hv : Inv c d (bks (A ++ splitN wr.heap.size z (px, ⟨a, s, false⟩) R)) := by
            rw [hb]
            exact cutL_inv (x := ⟨a, s, true⟩) hiv.cov z1 z2 (by dsimp only; omega)
          have ht : tkn (A ++ splitN wr.heap.size z (px, ⟨a, s, false⟩) R) = tkn A ++ (a, px) :: tkn R := by
            rw [tkn_app, tkn_splitN, tkn_taken (by rfl)]
          have hk : MapOk f (tkn A ++ tkn R) := by
            have := HK.out
            rw [tkn_app, tkn_free (by rfl)] at this
            exact this
          have hk3 := hk.insert (a := a) (i := px) (by rw [← ht]; exact tkn_nodup hv.cov hv.pos)
          rw [← ht] at hk3
          have hnd := h.nd
          simp only [ids, List.map_append] at hnd
          rw [List.nodup_append] at hnd
          have hfr : Fr (fun k => k = mp ∨ k ∈ ids ((px, (⟨a, s, true⟩ : Bk)) :: R)) wr w3 :=
            ((HF2.out.mono fun k _ e => .inr e).drew).then HF3.out (fun k _ e => .inl e)
          have hsp := HC2.out
          have hnw : ∀ k ∈ ids (splitN wr.heap.size z (px, ⟨a, s, false⟩) R), k ∈ ids ((px, (⟨a, s, true⟩ : Bk)) :: R) ∨ wr.heap.size ≤ k := fun k hk => by
            rcases splitN_ids _ _ _ _ k hk with e | e
            · exact .inr (by omega)
            · exact .inl e
          have hni : wr.heap.size ∉ ids ((px, (⟨a, s, false⟩ : Bk)) :: R) := fun e => by
            have := h.ch.lt wr.heap.size (by simp only [ids, List.map_append]; exact List.mem_append_right _ e)
            omega
          have hc3 : Chain w3 (lst nil_ A) (splitN wr.heap.size z (px, ⟨a, s, false⟩) R) nil_ := by
            refine Chain.fr (w := w2.drew) (S := fun k => k = mp) ?_ HF3.out ?_
            · exact Chain.fr (S := fun _ => False) hsp (Fr.refl _ _).drew (fun _ _ x => x)
            · intro k hk e
              subst e
              exact hsp.neM HM1.out hk
          obtain ⟨x', R', e1, e2⟩ := splitN_cons wr.heap.size z (px, ⟨a, s, false⟩) R
          have hnn := splitN_nodup (i := wr.heap.size) (z := z) (x := (px, ⟨a, s, false⟩)) (R := R) hnd.2.1 hni
          refine ⟨rfl, hfr.mono (fun k _ e => ?_), A ++ x' :: R', ?_, Newer.mid (by rw [← e1]; exact hnw), ?_⟩
          · rcases e with e | e
            · exact .inr (.inl e)
            · exact .inr (.inr (by simp only [ids, List.map_append]; exact List.mem_append_right _ e))
          · rw [e1] at hc3 hnn hnw hk3 hv
            exact h.mid (x := (px, ⟨a, s, true⟩)) hfr hc3 e2 hnn hnw HM3.out hk3 hv
          · rw [← e1]
            exact hb

theorem Allocate_any (n : Int) (w : World) (h : HRep w hp mp c d B L) :
    Calls Try.prog 14 #[ptr hp, .int .i64 n] w fun e w' => e = .returned (.tuple #[.int .i64 (allocR n (bks L)).1, .int .i64 (allocR n (bks L)).2.1]) ∧ Fr (HIn hp mp L) w w' ∧ ∃ L', HRep w' hp mp c d B L' ∧ Newer w L L' ∧ bks L' = (allocR n (bks L)).2.2 := by
  by_cases hn : 0 ≤ n ∧ n ≤ 1048576
  · exact Allocate_ok n w h hn.1 hn.2
  · refine (Allocate_bad (hp := hp) n w (by omega) _ (.inr rfl)).mono ?_
    rintro e w' ⟨rfl, rfl⟩
    unfold allocR
    rw [if_neg hn]
    exact ⟨rfl, Fr.refl _ _, L, h, Newer.same _ _, rfl⟩
end
end Go.Proofs.Ytedmdobfnkmccaa
