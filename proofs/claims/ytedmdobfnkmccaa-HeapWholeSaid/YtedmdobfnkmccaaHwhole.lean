/- The walk of HeapWhole. -/
import Derived.Test.YtedmdobfnkmccaaHrun
import Derived.Test.YtedmdobfnkmccaaHpure2
namespace Go.Proofs.Ytedmdobfnkmccaa
open Go Go.RowKit

/-- Where HeapWhole stands: all ahead of a is free. -/
structure WholeAt (w W : World) (B : Nat) (v : Value) (size : Int) (M : List Bk) (R : List Bk) (a : Int) (Lk : List Nd) : Prop where
  a0 : 64 ≤ a
  cov : Cov0 a (64 + size) R
  pos : Pos R
  noff : NoFF R
  rep : HRep W (w.heap.size + 1) w.heap.size 64 (64 + size) w.heap.size Lk
  eq : bks Lk = norm (freed 64 a ++ R)
  own : OwnB W B 57 v M
  fr : Fr (fun k => w.heap.size ≤ k) w W

theorem WholeAt.skip {w W W' : World} {B : Nat} {v : Value} {size a xs : Int} {M R : List Bk} {xa : Int} {Lk : List Nd} (h : WholeAt w W B v size M (⟨xa, xs, true⟩ :: R) a Lk) (hf : Fr0 W W') : WholeAt w W' B v size M R (a + xs) Lk := by
  have h0 := h.pos ⟨xa, xs, true⟩ (by simp)
  have hc := h.cov
  refine ⟨?_, h.cov.2.2.2, fun y hy => h.pos y (by simp [hy]), h.noff.tail, h.rep.fr0 hf, ?_, h.own.fr0 hf, h.fr.trans hf.of0⟩
  · have := h.a0; have := h.cov.2.1; dsimp only at this; omega
  · rw [h.eq]
    exact freed_skip h.cov h.pos h.noff rfl h.a0
theorem WholeAt.take {w W W' : World} {B : Nat} {v : Value} {size a xs : Int} {M R : List Bk} {xa : Int} {Lk L' : List Nd} (h : WholeAt w W B v size M (⟨xa, xs, false⟩ :: R) a Lk)
    (hf : Fr (HIn (w.heap.size + 1) w.heap.size Lk) W W') (hr : HRep W' (w.heap.size + 1) w.heap.size 64 (64 + size) w.heap.size L') (he : bks L' = (freeR xa (bks Lk)).2) : WholeAt w W' B v size M R (a + xs) L' := by
  refine ⟨?_, h.cov.2.2.2, fun y hy => h.pos y (by simp [hy]), h.noff.tail, hr, ?_, h.own.fr hf (fun k hk => ?_), h.fr.trans (hf.mono fun k _ e => h.rep.inB e)⟩
  · have := h.a0; have := h.cov.2.1; dsimp only at this; omega
  · rw [he, h.eq]
    have := freed_take h.cov h.pos h.noff rfl h.a0
    dsimp only at this
    rw [this]
  · obtain ⟨_, cs, hb⟩ := own_blk h.own hk
    exact h.rep.not_in hb (by decide) (by decide)
theorem WholeAt.zero {w W : World} {B : Nat} {v : Value} {size a xs : Int} {M R : List Bk} {xa : Int} {Lk : List Nd} (h : WholeAt w W B v size M (⟨xa, xs, false⟩ :: R) a Lk) : (freeR xa (bks Lk)).1 = 0 := by
  have := freed_take h.cov h.pos h.noff rfl h.a0
  dsimp only at this
  rw [h.eq, this]
theorem WholeAt.end_ {w W : World} {B : Nat} {v : Value} {size a : Int} {M : List Bk} {Lk : List Nd} (h : WholeAt w W B v size M [] a Lk) (h8 : 8 ≤ size) : bks Lk = [⟨64, size, true⟩] := by
  have := h.cov
  simp only [Cov0] at this
  rw [h.eq, this, freed_end (by omega)]
  simp
  omega

set_option maxHeartbeats 4000000 in
theorem whole_walk (size : Int) (v : Value) (zs : List Stp) (w : World) (_hs : i64b size) (hv : RowS w w.heap.size v zs) :
    Calls Try.prog 6 #[.int .i64 size, v] w fun e w' => e = .returned (.bool true) ∧ Fr0 w w' := by
  have HAW := Lib.hid (fun W => awake11 W)
  by_cases hg : zs.length ≤ 200 ∧ 8 ≤ size ∧ size ≤ 4096 ∧ size % 8 = 0
  · obtain ⟨hN, h0, h1, h8⟩ := hg
    have HR := Lib.hid (run_any size v zs w (by omega) h1 h8 hv hN)
    obtain ⟨A0, cap, rfl, hcap, hmax, hz, hcell⟩ := hv
    have e8 : (size % 8 != 0) = false := by simp [h8]
    obtain ⟨N, hN'⟩ : ∃ N, zs.length = N := ⟨_, rfl⟩
    rw [hN'] at HR hN hcap ⊢
    clear hz hcell h8 hN'
    simp only [ptr] at HR
    go_enter Try.func6, Try.ntmps6
    go_wp2_with (first | (go_at_call 17; refine HR.out.mono ?_; rintro e w1 ⟨rp, sv, L, lv, l, rfl, hst, hf1⟩; have HB := Lib.hid (Blocks_any w1 hst.h); have HST := Lib.hid hst.h; have HF1 := Lib.hid hf1; clear hst hf1; simp only [ptr] at HB) | (go_at_call 13; refine HB.out.mono ?_; rintro e w2 ⟨vb, rfl, hob, hf2⟩; have hF := HF1.out.trans hf2; have HS2 := Lib.hid (HST.out.fr0 hf2); have HOB := Lib.hid hob; have HF := Lib.hid hF; clear hF hf2; obtain ⟨A5, cap5, rfl, hc5⟩ := hob.len_; clear hob))
    obtain ⟨M, hM⟩ : ∃ M, bks L = M := ⟨_, rfl⟩
    have hiv : Inv 64 (64 + size) M := hM ▸ HST.out.inv
    rw [hM] at HOB hc5 ⊢
    have HM := Lib.hid hM
    have hM5 : M.length ≤ 1000000 := by have := cov_len hiv.cov hiv.pos; omega
    have HIV := Lib.hid hiv
    clear hM hiv HST
    go_loopw [9] (fun i wr => ∃ (A R : List Bk) (a : Int) (Lk : List Nd), M = A ++ R ∧ i = .int .i64 A.length ∧ WholeAt w wr w1.heap.size (.slice A5 M.length cap5) size M R a Lk) (fun i _ => M.length - (intOf i).toNat)
    case atStart => exact ⟨[], M, 64, L, rfl, rfl, by omega, HIV.out.cov, HIV.out.pos, HIV.out.noff, HS2.out, by rw [HM.out]; exact (norm_self HIV.out.pos HIV.out.noff).symm, HOB.out, HF.out.of0⟩
    case round =>
      obtain ⟨A, R, a, Lk, hAR, rfl, hw⟩ := hrel
      cases R with
      | nil =>
        have hAl : A.length = M.length := by rw [hAR]; simp
        have hlt : ¬ ((A.length : Int) < (M.length : Int)) := by omega
        have HB2 := Lib.hid (Blocks_any wr hw.rep)
        rw [hw.end_ h0] at HB2
        simp only [ptr] at HB2
        have HFR := Lib.hid hw.fr
        clear hw hAR hAl
        go_wp2_with (go_at_call 13; refine HB2.out.mono ?_; rintro e w3 ⟨vb, rfl, hob, hf2⟩; obtain ⟨g3, c3, rfl, hg3, hg3'⟩ := hob.form (by simp); obtain ⟨d0, d1, d2⟩ := hob.cells (k := 0) (x := ⟨64, size, true⟩) rfl; simp only [Nat.zero_mul, Nat.zero_add] at d0 d1 d2; have hF3 := HFR.out.trans (hf2.of0 (S := fun k => w.heap.size ≤ k)); have HF3 := Lib.hid hF3; clear hF3 hf2 hob)
        refine (HAW.out _).mono ?_
        rintro e w4 ⟨rfl, hf4⟩
        go_wp2
        go_ret
        exact ⟨rfl, (HF3.out.mono (S' := fun _ => False) fun k hk e => by omega).trans hf4⟩
      | cons x R =>
        have hx : M[A.length]? = some x := by rw [hAR]; simp
        have hlt : A.length < M.length := (List.getElem?_eq_some_iff.1 hx).1
        have hltI : (A.length : Int) < (M.length : Int) := by omega
        obtain ⟨g, c1, e, hg1, hg2⟩ := hw.own.form (by omega)
        injection e with e1 e2 e3
        subst e1 e3
        obtain ⟨d0, d1, d2⟩ := hw.own.cells hx
        have HAR := Lib.hid hAR
        obtain ⟨xa, xs, xf⟩ := x
        dsimp only at d0 d1 d2
        obtain ⟨q, hq⟩ : ∃ q, A.length = q := ⟨_, rfl⟩
        have HQ := Lib.hid hq
        rw [hq] at d0 d1 d2 hlt hltI ⊢
        have HF := Lib.hid (fun W (hW : HRep W (w.heap.size + 1) w.heap.size 64 (64 + size) w.heap.size Lk) => Free_any xa W hW)
        simp only [ptr] at HF
        have HW := Lib.hid hw
        clear hx hAR hw e2 hq
        cases xf
        · rw [HW.out.zero] at HF
          go_wp2_with (go_at_call 16; refine (HF.out _ HW.out.rep).mono ?_; rintro e w3 ⟨rfl, hf3, L3, h3, hn3, e3⟩)
          exact ⟨⟨A ++ [⟨xa, xs, false⟩], R, a + xs, L3, by rw [HAR.out]; simp, by rw [List.length_append, HQ.out]; rfl, HW.out.take hf3 h3 e3⟩, by simp [intOf]; omega⟩
        · go_wp2
          exact ⟨⟨A ++ [⟨xa, xs, true⟩], R, a + xs, Lk, by rw [HAR.out]; simp, by rw [List.length_append, HQ.out]; rfl, HW.out.skip (by first | exact Fr.refl _ _ | exact (Fr.refl _ _).drewN _)⟩, by simp [intOf]; omega⟩
  · have hc : 200 < zs.length ∨ (zs.length ≤ 200 ∧ size < 8) ∨ (zs.length ≤ 200 ∧ 8 ≤ size ∧ 4096 < size) ∨ (zs.length ≤ 200 ∧ 8 ≤ size ∧ size ≤ 4096 ∧ (size % 8 != 0) = true) := by
      have h8 : (size % 8 != 0) = true ↔ ¬ size % 8 = 0 := by simp
      rw [h8]
      omega
    obtain ⟨A0, cap, rfl, hcap, hmax, hz, hcell⟩ := hv
    obtain ⟨N, hN'⟩ : ∃ N, zs.length = N := ⟨_, rfl⟩
    rw [hN'] at hc hcap ⊢
    clear hz hcell hN' hg
    rcases hc with h | ⟨h, h2⟩ | ⟨h, h2, h3⟩ | ⟨h, h2, h3, h4⟩
    all_goals
      go_enter Try.func6, Try.ntmps6
      go_wp2_with (go_at_call 8; refine (HAW.out _).mono ?_; rintro e w1 ⟨rfl, hf1⟩)
      go_ret
      exact ⟨rfl, hf1⟩
end Go.Proofs.Ytedmdobfnkmccaa
