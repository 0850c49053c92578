/- The walk of HeapCovers. -/
import Derived.Test.YtedmdobfnkmccaaHrun
import Derived.Test.YtedmdobfnkmccaaHpure2
namespace Go.Proofs.Ytedmdobfnkmccaa
open Go Go.RowKit

set_option maxHeartbeats 4000000 in
theorem covers_walk (size : Int) (v : Value) (zs : List Stp) (w : World) (_hs : i64b size) (hv : RowS w w.heap.size v zs) :
    Calls Try.prog 5 #[.int .i64 size, v] w fun e w' => e = .returned (.bool true) ∧ Fr0 w w' := by
  have HAW := Lib.hid (fun W => awake11 W)
  by_cases hg : zs.length ≤ 200 ∧ 0 ≤ size ∧ size ≤ 4096 ∧ size % 8 = 0
  · obtain ⟨hN, h0, h1, h8⟩ := hg
    have HR := Lib.hid (run_any size v zs w h0 h1 h8 hv hN)
    obtain ⟨A0, cap, rfl, hcap, hmax, hz, hcell⟩ := hv
    have e8 : (size % 8 != 0) = false := by simp [h8]
    obtain ⟨N, hN'⟩ : ∃ N, zs.length = N := ⟨_, rfl⟩
    rw [hN'] at HR hN hcap ⊢
    clear hz hcell h8 hN'
    simp only [ptr] at HR
    go_enter Try.func5, Try.ntmps5
    go_wp2_with (first | (go_at_call 17; refine HR.out.mono ?_; rintro e w1 ⟨rp, sv, L, lv, l, rfl, hst, hf1⟩; have HB := Lib.hid (Blocks_any w1 hst.h); have HIV := Lib.hid hst.h.inv; have HF1 := Lib.hid hf1; clear hst hf1; simp only [ptr] at HB) | (go_at_call 13; refine HB.out.mono ?_; rintro e w2 ⟨vb, rfl, hob, hf2⟩; have hF := HF1.out.trans hf2; have HOB := Lib.hid hob; have HF := Lib.hid hF; clear hF hf2; obtain ⟨A5, cap5, rfl, hc5⟩ := hob.len_; clear hob))
    obtain ⟨M, hM⟩ : ∃ M, bks L = M := ⟨_, rfl⟩
    rw [hM] at HIV HOB hc5 ⊢
    have hM5 : M.length ≤ 1000000 := by have := cov_len HIV.out.cov HIV.out.pos; omega
    clear hM
    go_loopw [8, 9, 11] (fun at_ f i wr => ∃ (A R : List Bk) (a : Int) (fr : Bool), M = A ++ R ∧ at_ = .int .i64 a ∧ f = .bool fr ∧ i = .int .i64 A.length ∧ 64 ≤ a ∧ a ≤ 64 + size ∧ CoverOk a (64 + size) fr R ∧ Fr0 w2 wr) (fun _ _ i _ => M.length - (intOf i).toNat)
    case atStart => exact ⟨[], M, 64, false, rfl, rfl, rfl, rfl, by omega, by omega, cover_start HIV.out, Fr.refl _ _⟩
    case round =>
      obtain ⟨A, R, a, fr, hAR, rfl, rfl, rfl, ha0, ha1, hcv, hfr⟩ := hrel
      cases R with
      | nil =>
        have he := cover_end hcv
        have hAl : A.length = M.length := by rw [hAR]; simp
        have HFR := Lib.hid (HF.out.trans hfr)
        clear hcv hfr hAR
        subst he
        have hlt : ¬ ((A.length : Int) < (M.length : Int)) := by omega
        clear hAl
        go_wp2_with (go_at_call 8; refine (HAW.out _).mono ?_; rintro e w1 ⟨rfl, hf1⟩)
        go_ret
        exact ⟨rfl, HFR.out.trans hf1⟩
      | cons x R =>
        obtain ⟨k1, k2, k3, k4, k5, k6⟩ := cover_step hcv
        have hx : M[A.length]? = some x := by rw [hAR]; simp
        have hlt : A.length < M.length := (List.getElem?_eq_some_iff.1 hx).1
        have hltI : (A.length : Int) < (M.length : Int) := by omega
        obtain ⟨g, c1, e, hg1, hg2⟩ := HOB.out.form (by omega)
        injection e with e1 e2 e3
        subst e1 e3
        obtain ⟨d0, d1, d2⟩ := (HOB.out.fr0 hfr).cells hx
        have HFR := Lib.hid hfr
        have HAR := Lib.hid hAR
        have HCV := Lib.hid k6
        clear hx hfr hAR hcv k6 e2
        obtain ⟨xa, xs, xf⟩ := x
        dsimp only at k1 k2 k3 k4 k5 d0 d1 d2 HCV
        subst k1
        have k3' : (xs % 8 != 0) = false := by simp [k3]
        obtain ⟨q, hq⟩ : ∃ q, A.length = q := ⟨_, rfl⟩
        have HQ := Lib.hid hq
        rw [hq] at d0 d1 d2 hlt hltI ⊢
        clear k3 hq
        cases fr
        · go_wp2
          exact ⟨⟨A ++ [⟨xa, xs, xf⟩], R, xa + xs, xf, by rw [HAR.out]; simp, rfl, rfl, by rw [List.length_append, HQ.out]; rfl, by omega, by omega, HCV.out, HFR.out⟩, by simp [intOf]; omega⟩
        · have k5' : xf = false := k5 rfl
          subst k5'
          go_wp2
          exact ⟨⟨A ++ [⟨xa, xs, false⟩], R, xa + xs, false, by rw [HAR.out]; simp, rfl, rfl, by rw [List.length_append, HQ.out]; rfl, by omega, by omega, HCV.out, HFR.out⟩, by simp [intOf]; omega⟩
  · have hc : 200 < zs.length ∨ (zs.length ≤ 200 ∧ size < 0) ∨ (zs.length ≤ 200 ∧ 0 ≤ size ∧ 4096 < size) ∨ (zs.length ≤ 200 ∧ 0 ≤ size ∧ size ≤ 4096 ∧ (size % 8 != 0) = true) := by
      have h8 : (size % 8 != 0) = true ↔ ¬ size % 8 = 0 := by simp
      rw [h8]
      omega
    obtain ⟨A0, cap, rfl, hcap, hmax, hz, hcell⟩ := hv
    obtain ⟨N, hN'⟩ : ∃ N, zs.length = N := ⟨_, rfl⟩
    rw [hN'] at hc hcap ⊢
    clear hz hcell hN' hg
    rcases hc with h | ⟨h, h2⟩ | ⟨h, h2, h3⟩ | ⟨h, h2, h3, h4⟩
    all_goals
      go_enter Try.func5, Try.ntmps5
      go_wp2_with (go_at_call 8; refine (HAW.out _).mono ?_; rintro e w1 ⟨rfl, hf1⟩)
      go_ret
      exact ⟨rfl, hf1⟩
end Go.Proofs.Ytedmdobfnkmccaa
