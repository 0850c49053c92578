/- The walk of HeapFirst. -/
import Derived.Test.YtedmdobfnkmccaaHrun
import Derived.Test.YtedmdobfnkmccaaHpure2
namespace Go.Proofs.Ytedmdobfnkmccaa
open Go Go.RowKit

set_option maxHeartbeats 4000000 in
theorem first_zero (size : Int) (v : Value) (zs : List Stp) (n : Int) (w : World) (hv : RowS w w.heap.size v zs) (hN : zs.length ≤ 200) (h0 : 0 ≤ size) (h1 : size ≤ 4096) (h8 : size % 8 = 0) (n0 : 0 ≤ n) (n1 : n ≤ 0) :
    Calls Try.prog 7 #[.int .i64 size, v, .int .i64 n] w fun e w' => e = .returned (.bool true) ∧ Fr0 w w' := by
  have HAW := Lib.hid (fun W => awake11 W)
  have HR := Lib.hid (run_any size v zs w h0 h1 h8 hv hN)
  obtain ⟨A0, cap, rfl, hcap, hmax, hz, hcell⟩ := hv
  have e8 : (size % 8 != 0) = false := by simp [h8]
  obtain ⟨N, hN'⟩ : ∃ N, zs.length = N := ⟨_, rfl⟩
  rw [hN'] at HR hN hcap ⊢
  clear hz hcell h8 hN'
  have HS := Lib.hid (show rnd n = 8 by unfold rnd; omega)
  simp only [ptr] at HR
  go_enter Try.func7, Try.ntmps7
  go_wp2_with (first | (go_at_call 17; refine HR.out.mono ?_; rintro e w1 ⟨rp, sv, L, lv, l, rfl, hst, hf1⟩; have HB := Lib.hid (Blocks_any w1 hst.h); have HST := Lib.hid hst.h; have HF1 := Lib.hid hf1; clear hst hf1; simp only [ptr] at HB) | (go_at_call 13; refine HB.out.mono ?_; rintro e w2 ⟨vb, rfl, hob, hf2⟩; have hF := HF1.out.trans hf2; have HAL := Lib.hid (Allocate_any n w2 (HST.out.fr0 hf2)); simp only [ptr] at HAL; have HOB := Lib.hid hob; have HF := Lib.hid hF; have HS2 := Lib.hid (HST.out.fr0 hf2); clear hF hf2; obtain ⟨A5, cap5, rfl, hc5⟩ := hob.len_; clear hob) | (go_at_call 14; refine HAL.out.mono ?_; rintro e w3 ⟨rfl, hf3, L3, h3, hn3, e3⟩))
  obtain ⟨M, hM⟩ : ∃ M, bks L = M := ⟨_, rfl⟩
  have hiv : Inv 64 (64 + size) M := hM ▸ HST.out.inv
  have hM5 : M.length ≤ 1000000 := by have := cov_len hiv.cov hiv.pos; omega
  have hO3 : OwnB w3 w1.heap.size 57 (.slice A5 (bks L).length cap5) (bks L) := HOB.out.fr hf3 (fun k hk => by
    obtain ⟨_, cs, hb⟩ := own_blk HOB.out hk
    exact HS2.out.not_in hb (by decide) (by decide))
  have hF3 : Fr0 w w3 := (HF.out.of0 (S := fun k => w.heap.size ≤ k)).trans (hf3.mono fun k _ e => HS2.out.inB e) |>.mono (fun k hk e => by omega)
  rw [hM] at hO3 hc5 ⊢
  have HO3 := Lib.hid hO3
  have HF3 := Lib.hid hF3
  obtain ⟨ra, hra⟩ : ∃ ra, (allocR n M).1 = ra := ⟨_, rfl⟩
  obtain ⟨re, hre⟩ : ∃ re, (allocR n M).2.1 = re := ⟨_, rfl⟩
  rw [hra, hre]
  have HRA := Lib.hid hra
  have HRE := Lib.hid hre
  clear hM hiv HST HS2 hf3 h3 hn3 e3 hO3 hF3 hra hre HOB HF
  go_loopw [14] (fun i wr => ∃ (A R : List Bk), M = A ++ R ∧ i = .int .i64 A.length ∧ (∀ y ∈ A, fit (8) y = false) ∧ Fr0 w3 wr) (fun i _ => M.length - (intOf i).toNat)
  case atStart => exact ⟨[], M, rfl, rfl, (fun y hy => by cases hy), Fr.refl _ _⟩
  case round =>
    obtain ⟨A, R, hAR, rfl, hA, hfr⟩ := hrel
    cases R with
    | nil =>
      have hAl : A.length = M.length := by rw [hAR]; simp
      have hlt : ¬ ((A.length : Int) < (M.length : Int)) := by omega
      have hMA : M = A := by rw [hAR]; simp
      have hno := first_none (n := n) (L := M) (by rw [HS.out, hMA]; exact hA)
      obtain ⟨r1, r2⟩ := hno
      rw [HRA.out] at r1
      rw [HRE.out] at r2
      have HFR := Lib.hid (HF3.out.trans hfr)
      clear hA hAR hAl hMA hfr
      subst r1 r2
      go_wp2_with (go_at_call 8; refine (HAW.out _).mono ?_; rintro e w4 ⟨rfl, hf4⟩)
      go_ret
      exact ⟨rfl, HFR.out.trans hf4⟩
    | cons x R =>
      have hx : M[A.length]? = some x := by rw [hAR]; simp
      have hlt : A.length < M.length := (List.getElem?_eq_some_iff.1 hx).1
      have hltI : (A.length : Int) < (M.length : Int) := by omega
      obtain ⟨g, c1, e, hg1, hg2⟩ := HO3.out.form (by omega)
      injection e with e1 e2 e3
      subst e1 e3
      obtain ⟨d0, d1, d2⟩ := (HO3.out.fr0 hfr).cells hx
      have HFR := Lib.hid hfr
      have HAR := Lib.hid hAR
      have HA := Lib.hid hA
      have hyes : fit (8) x = true → ra = x.at_ ∧ re = 0 := fun hx => by
        have := first_at (n := n) (A := A) (x := x) (R := R) (by omega) (by rw [HS.out]; exact hA) (by rw [HS.out]; exact hx)
        rw [← hAR, HRA.out, HRE.out] at this
        exact this
      obtain ⟨q, hq⟩ : ∃ q, A.length = q := ⟨_, rfl⟩
      have HQ := Lib.hid hq
      rw [hq] at d0 d1 d2 hlt hltI ⊢
      clear hx hfr hAR hA hq e2
      obtain ⟨xa, xs, xf⟩ := x
      dsimp only at d0 d1 d2 hyes
      by_cases hfx : xf = true ∧ 8 ≤ xs
      · obtain ⟨rfl, hle⟩ := hfx
        obtain ⟨r1, r2⟩ := hyes (by simp [fit]; omega)
        subst r1 r2
        clear hyes
        go_wp2_with (go_at_call 8; refine (HAW.out _).mono ?_; rintro e w4 ⟨rfl, hf4⟩)
        go_ret
        exact ⟨rfl, ((HF3.out.trans HFR.out).trans (by first | exact hf4 | exact ((Fr.refl _ _).drewN _).trans hf4))⟩
      · have hno : fit (8) ⟨xa, xs, xf⟩ = false := by
          cases xf
          · rfl
          · simp [fit] at hfx ⊢; omega
        have HNO := Lib.hid hno
        clear hyes hno
        cases xf
        · clear hfx
          go_wp2
          exact ⟨⟨A ++ [⟨xa, xs, false⟩], R, by rw [HAR.out]; simp, by rw [List.length_append, HQ.out]; rfl, (fun y hy => by rcases List.mem_append.1 hy with hy | hy; exact HA.out y hy; simp at hy; subst hy; exact HNO.out), by first | exact HFR.out | exact HFR.out.drewN _⟩, by simp [intOf]; omega⟩
        · have hlt2 : xs < 8 := by simp at hfx; omega
          clear hfx
          go_wp2
          exact ⟨⟨A ++ [⟨xa, xs, true⟩], R, by rw [HAR.out]; simp, by rw [List.length_append, HQ.out]; rfl, (fun y hy => by rcases List.mem_append.1 hy with hy | hy; exact HA.out y hy; simp at hy; subst hy; exact HNO.out), by first | exact HFR.out | exact HFR.out.drewN _⟩, by simp [intOf]; omega⟩

set_option maxHeartbeats 4000000 in
theorem first_pos (size : Int) (v : Value) (zs : List Stp) (n : Int) (w : World) (hv : RowS w w.heap.size v zs) (hN : zs.length ≤ 200) (h0 : 0 ≤ size) (h1 : size ≤ 4096) (h8 : size % 8 = 0) (n0 : 1 ≤ n) (n1 : n ≤ 5000) :
    Calls Try.prog 7 #[.int .i64 size, v, .int .i64 n] w fun e w' => e = .returned (.bool true) ∧ Fr0 w w' := by
  have HAW := Lib.hid (fun W => awake11 W)
  have HR := Lib.hid (run_any size v zs w h0 h1 h8 hv hN)
  obtain ⟨A0, cap, rfl, hcap, hmax, hz, hcell⟩ := hv
  have e8 : (size % 8 != 0) = false := by simp [h8]
  obtain ⟨N, hN'⟩ : ∃ N, zs.length = N := ⟨_, rfl⟩
  rw [hN'] at HR hN hcap ⊢
  clear hz hcell h8 hN'
  have HS := Lib.hid (show rnd n = (n + 7) / 8 * 8 by unfold rnd; omega)
  simp only [ptr] at HR
  go_enter Try.func7, Try.ntmps7
  go_wp2_with (first | (go_at_call 17; refine HR.out.mono ?_; rintro e w1 ⟨rp, sv, L, lv, l, rfl, hst, hf1⟩; have HB := Lib.hid (Blocks_any w1 hst.h); have HST := Lib.hid hst.h; have HF1 := Lib.hid hf1; clear hst hf1; simp only [ptr] at HB) | (go_at_call 13; refine HB.out.mono ?_; rintro e w2 ⟨vb, rfl, hob, hf2⟩; have hF := HF1.out.trans hf2; have HAL := Lib.hid (Allocate_any n w2 (HST.out.fr0 hf2)); simp only [ptr] at HAL; have HOB := Lib.hid hob; have HF := Lib.hid hF; have HS2 := Lib.hid (HST.out.fr0 hf2); clear hF hf2; obtain ⟨A5, cap5, rfl, hc5⟩ := hob.len_; clear hob) | (go_at_call 14; refine HAL.out.mono ?_; rintro e w3 ⟨rfl, hf3, L3, h3, hn3, e3⟩))
  obtain ⟨M, hM⟩ : ∃ M, bks L = M := ⟨_, rfl⟩
  have hiv : Inv 64 (64 + size) M := hM ▸ HST.out.inv
  have hM5 : M.length ≤ 1000000 := by have := cov_len hiv.cov hiv.pos; omega
  have hO3 : OwnB w3 w1.heap.size 57 (.slice A5 (bks L).length cap5) (bks L) := HOB.out.fr hf3 (fun k hk => by
    obtain ⟨_, cs, hb⟩ := own_blk HOB.out hk
    exact HS2.out.not_in hb (by decide) (by decide))
  have hF3 : Fr0 w w3 := (HF.out.of0 (S := fun k => w.heap.size ≤ k)).trans (hf3.mono fun k _ e => HS2.out.inB e) |>.mono (fun k hk e => by omega)
  rw [hM] at hO3 hc5 ⊢
  have HO3 := Lib.hid hO3
  have HF3 := Lib.hid hF3
  obtain ⟨ra, hra⟩ : ∃ ra, (allocR n M).1 = ra := ⟨_, rfl⟩
  obtain ⟨re, hre⟩ : ∃ re, (allocR n M).2.1 = re := ⟨_, rfl⟩
  rw [hra, hre]
  have HRA := Lib.hid hra
  have HRE := Lib.hid hre
  clear hM hiv HST HS2 hf3 h3 hn3 e3 hO3 hF3 hra hre HOB HF
  go_loopw [14] (fun i wr => ∃ (A R : List Bk), M = A ++ R ∧ i = .int .i64 A.length ∧ (∀ y ∈ A, fit ((n + 7) / 8 * 8) y = false) ∧ Fr0 w3 wr) (fun i _ => M.length - (intOf i).toNat)
  case atStart => exact ⟨[], M, rfl, rfl, (fun y hy => by cases hy), Fr.refl _ _⟩
  case round =>
    obtain ⟨A, R, hAR, rfl, hA, hfr⟩ := hrel
    cases R with
    | nil =>
      have hAl : A.length = M.length := by rw [hAR]; simp
      have hlt : ¬ ((A.length : Int) < (M.length : Int)) := by omega
      have hMA : M = A := by rw [hAR]; simp
      have hno := first_none (n := n) (L := M) (by rw [HS.out, hMA]; exact hA)
      obtain ⟨r1, r2⟩ := hno
      rw [HRA.out] at r1
      rw [HRE.out] at r2
      have HFR := Lib.hid (HF3.out.trans hfr)
      clear hA hAR hAl hMA hfr
      subst r1 r2
      go_wp2_with (go_at_call 8; refine (HAW.out _).mono ?_; rintro e w4 ⟨rfl, hf4⟩)
      go_ret
      exact ⟨rfl, HFR.out.trans hf4⟩
    | cons x R =>
      have hx : M[A.length]? = some x := by rw [hAR]; simp
      have hlt : A.length < M.length := (List.getElem?_eq_some_iff.1 hx).1
      have hltI : (A.length : Int) < (M.length : Int) := by omega
      obtain ⟨g, c1, e, hg1, hg2⟩ := HO3.out.form (by omega)
      injection e with e1 e2 e3
      subst e1 e3
      obtain ⟨d0, d1, d2⟩ := (HO3.out.fr0 hfr).cells hx
      have HFR := Lib.hid hfr
      have HAR := Lib.hid hAR
      have HA := Lib.hid hA
      have hyes : fit ((n + 7) / 8 * 8) x = true → ra = x.at_ ∧ re = 0 := fun hx => by
        have := first_at (n := n) (A := A) (x := x) (R := R) (by omega) (by rw [HS.out]; exact hA) (by rw [HS.out]; exact hx)
        rw [← hAR, HRA.out, HRE.out] at this
        exact this
      obtain ⟨q, hq⟩ : ∃ q, A.length = q := ⟨_, rfl⟩
      have HQ := Lib.hid hq
      rw [hq] at d0 d1 d2 hlt hltI ⊢
      clear hx hfr hAR hA hq e2
      obtain ⟨xa, xs, xf⟩ := x
      dsimp only at d0 d1 d2 hyes
      by_cases hfx : xf = true ∧ (n + 7) / 8 * 8 ≤ xs
      · obtain ⟨rfl, hle⟩ := hfx
        obtain ⟨r1, r2⟩ := hyes (by simp [fit]; omega)
        subst r1 r2
        clear hyes
        go_wp2_with (go_at_call 8; refine (HAW.out _).mono ?_; rintro e w4 ⟨rfl, hf4⟩)
        go_ret
        exact ⟨rfl, ((HF3.out.trans HFR.out).trans (by first | exact hf4 | exact ((Fr.refl _ _).drewN _).trans hf4))⟩
      · have hno : fit ((n + 7) / 8 * 8) ⟨xa, xs, xf⟩ = false := by
          cases xf
          · rfl
          · simp [fit] at hfx ⊢; omega
        have HNO := Lib.hid hno
        clear hyes hno
        cases xf
        · clear hfx
          go_wp2
          exact ⟨⟨A ++ [⟨xa, xs, false⟩], R, by rw [HAR.out]; simp, by rw [List.length_append, HQ.out]; rfl, (fun y hy => by rcases List.mem_append.1 hy with hy | hy; exact HA.out y hy; simp at hy; subst hy; exact HNO.out), by first | exact HFR.out | exact HFR.out.drewN _⟩, by simp [intOf]; omega⟩
        · have hlt2 : xs < (n + 7) / 8 * 8 := by simp at hfx; omega
          clear hfx
          go_wp2
          exact ⟨⟨A ++ [⟨xa, xs, true⟩], R, by rw [HAR.out]; simp, by rw [List.length_append, HQ.out]; rfl, (fun y hy => by rcases List.mem_append.1 hy with hy | hy; exact HA.out y hy; simp at hy; subst hy; exact HNO.out), by first | exact HFR.out | exact HFR.out.drewN _⟩, by simp [intOf]; omega⟩

set_option maxHeartbeats 4000000 in
theorem first_walk (size : Int) (v : Value) (zs : List Stp) (n : Int) (w : World) (_hs : i64b size) (hv : RowS w w.heap.size v zs) (_hn : i64b n) :
    Calls Try.prog 7 #[.int .i64 size, v, .int .i64 n] w fun e w' => e = .returned (.bool true) ∧ Fr0 w w' := by
  have HAW := Lib.hid (fun W => awake11 W)
  by_cases hg : zs.length ≤ 200 ∧ 0 ≤ size ∧ size ≤ 4096 ∧ size % 8 = 0 ∧ 0 ≤ n ∧ n ≤ 5000
  · obtain ⟨hN, h0, h1, h8, n0, n1⟩ := hg
    by_cases hn1 : 1 ≤ n
    · exact first_pos size v zs n w hv hN h0 h1 h8 hn1 n1
    · exact first_zero size v zs n w hv hN h0 h1 h8 n0 (by omega)
  · have hc : 200 < zs.length ∨ (zs.length ≤ 200 ∧ size < 0) ∨ (zs.length ≤ 200 ∧ 0 ≤ size ∧ 4096 < size) ∨ (zs.length ≤ 200 ∧ 0 ≤ size ∧ size ≤ 4096 ∧ (size % 8 != 0) = true) ∨ (zs.length ≤ 200 ∧ 0 ≤ size ∧ size ≤ 4096 ∧ (size % 8 != 0) = false ∧ n < 0) ∨ (zs.length ≤ 200 ∧ 0 ≤ size ∧ size ≤ 4096 ∧ (size % 8 != 0) = false ∧ 0 ≤ n ∧ 5000 < n) := by
      have h8 : (size % 8 != 0) = true ↔ ¬ size % 8 = 0 := by simp
      have h9 : (size % 8 != 0) = false ↔ size % 8 = 0 := by simp
      rw [h8, h9]
      omega
    obtain ⟨A0, cap, rfl, hcap, hmax, hz, hcell⟩ := hv
    obtain ⟨N, hN'⟩ : ∃ N, zs.length = N := ⟨_, rfl⟩
    rw [hN'] at hc hcap ⊢
    clear hz hcell hN' hg
    rcases hc with h | ⟨h, h2⟩ | ⟨h, h2, h3⟩ | ⟨h, h2, h3, h4⟩ | ⟨h, h2, h3, h4, h5⟩ | ⟨h, h2, h3, h4, h5, h6⟩
    all_goals
      go_enter Try.func7, Try.ntmps7
      go_wp2_with (go_at_call 8; refine (HAW.out _).mono ?_; rintro e w1 ⟨rfl, hf1⟩)
      go_ret
      exact ⟨rfl, hf1⟩
end Go.Proofs.Ytedmdobfnkmccaa
