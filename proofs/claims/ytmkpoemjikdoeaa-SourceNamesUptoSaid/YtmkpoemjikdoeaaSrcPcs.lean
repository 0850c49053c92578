/- The walk of SourcePieces. -/
import Derived.Test.YtmkpoemjikdoeaaSrcLaw
import Derived.Test.YtmkpoemjikdoeaaArgs
namespace Go.Proofs.Ytmkpoemjikdoeaa
open Go Go.RowKit
set_option linter.unusedVariables false

theorem findP_at {P : Int → Bool} {L : List Int} {i : Nat} : (∀ k, i ≤ k → k < findP P L i → ∃ x, L[k]? = some x ∧ P x = false) ∧ (findP P L i < L.length → ∃ x, L[findP P L i]? = some x ∧ P x = true) := by
  unfold findP
  have hle := List.findIdx_le_length (p := P) (xs := L.drop i)
  refine ⟨fun k h1 h2 => ?_, fun h => ?_⟩
  · have hk : k - i < (L.drop i).findIdx P := by omega
    have := List.not_of_lt_findIdx hk
    have hl : k < L.length := by simp at hle; omega
    refine ⟨L[k], List.getElem?_eq_getElem hl, ?_⟩
    rw [List.getElem_drop] at this
    simp only [show i + (k - i) = k by omega] at this
    exact this
  · have hk : (L.drop i).findIdx P < (L.drop i).length := by simp; omega
    have := List.findIdx_getElem (w := hk)
    rw [List.getElem_drop] at this
    exact ⟨_, List.getElem?_eq_getElem h, this⟩
section
variable {P : Program} {md : Region.Mode} {ops : Array Oper} {Q : Exit → Act → World → Prop}
/-- S may be turned for more on the way. -/
theorem wpAnyH_weaken {S S' : World → Prop} (h : ∀ w, S' w → S w) : ∀ (fuel : Nat) {listed : Array Bool} {a : Act} {w : World}, wpAnyH P md ops Q S' fuel listed a w → wpAnyH P md ops Q S fuel listed a w
  | 0, _, _, _, k => k
  | n + 1, _, _, _, k => ⟨k.1, fun i hi => wpOp_mono (fun _ _ k' => ⟨h _ k'.1, wpAnyH_weaken h n k'.2⟩) (k.2 i hi)⟩
end
theorem add_none (b o r : Nat) : (⟨b, o, none⟩ : Addr).add r = ⟨b, o + r, none⟩ := by
  unfold Addr.add
  by_cases h : r = 0
  · rw [if_pos h, h]; rfl
  · rw [if_neg h]
theorem isD_no {d x : Int} (h : isD d x = false) : x ≠ d ∧ (d = 32 → ¬ x < 32) := by
  unfold isD at h
  simp at h
  exact ⟨h.1, fun e => by have := h.2 e; omega⟩
theorem isD_yes {d x : Int} (h : isD d x = true) : x = d ∨ (x ≠ d ∧ d = 32 ∧ x < 32) := by
  unfold isD at h
  simp at h
  rcases h with h | h
  · exact .inl h
  · rcases Classical.em (x = d) with e | e
    · exact .inl e
    · exact .inr ⟨e, h⟩
theorem Row8.at_ {w : World} {B : Nat} {A : Option Addr} {n cap k : Nat} {zs : List Int} {x : Int} (h : Row8 w B (.slice A n cap) zs) (hx : zs[k]? = some x) : ∃ b off, A = some ⟨b, off, none⟩ ∧ w.cell? ⟨b, off + k, none⟩ = some (.int .u8 x) ∧ 0 ≤ x ∧ x ≤ 255 := by
  obtain ⟨A', cap', e, h1, h2, h3, h4⟩ := h
  injection e with e1 e2 e3
  subst e1
  have hk : k < zs.length := (List.getElem?_eq_some_iff.1 hx).1
  obtain ⟨b, off, e, hb, hc⟩ := h4 (by omega)
  refine ⟨b, off, e, hc k x hx, ?_⟩
  have := h3 x (List.mem_of_getElem? hx)
  exact this
/-- What stands behind the first k bytes of a row. -/
theorem Row8.tail {w : World} {B : Nat} {A : Option Addr} {n cap k : Nat} {zs : List Int} (h : Row8 w B (.slice A n cap) zs) (hk : k ≤ n) : Row8 w B (.slice (if cap = k then A else A.map (·.add (k * 1))) (n - k) (cap - k)) (zs.drop k) := by
  obtain ⟨A', cap', e, h1, h2, h3, h4⟩ := h
  injection e with e1 e2 e3
  subst e1 e2 e3
  refine ⟨_, _, by rw [List.length_drop], by rw [List.length_drop]; omega, ⟨by omega, by rw [List.length_drop]; omega⟩, h3.drop _, fun hp => ?_⟩
  rw [List.length_drop] at hp
  obtain ⟨b, off, rfl, hb, hc⟩ := h4 (by omega)
  refine ⟨b, off + k, ?_, hb, fun j x hx => ?_⟩
  · rw [if_neg (by omega), Nat.mul_one]
    simp only [Option.map_some, Addr.add]
    by_cases hk0 : k = 0
    · rw [if_pos hk0, hk0]; rfl
    · rw [if_neg hk0]
  · rw [List.getElem?_drop] at hx
    rw [Nat.add_assoc]
    exact hc _ x hx

theorem slice_tail {w : World} {B : Nat} {A : Option Addr} {n cap k : Nat} {zs : List Int} (h : Row8 w B (.slice A n cap) zs) (hk : k ≤ n) : ∃ sv, (∀ W : World, (Instr.slice 25 (.slice A n cap) (some (.int .i64 k)) none none).run Try.prog W = .ok sv W) ∧ Row8 w B sv (zs.drop k) := by
  refine ⟨_, fun W => ?_, h.tail hk⟩
  have hk2 : (k : Int) ≤ (n : Int) := by omega
  simp [go_sem, hk2, Try.underlying25]

set_option maxRecDepth 100000 in
set_option maxHeartbeats 4000000 in
theorem pieces_walk (sv : Value) (zs : List Int) (dv : Value) (ds : List Int) (w : World) (hs : Row8 w w.heap.size sv zs) (hd : RowI w w.heap.size dv ds) :
    Calls Try.prog 5 #[sv, dv] w fun e w' => e = .returned (.bool true) ∧ Fr0 w w' := by
  have HAW := Lib.hid (fun W => awake17 W)
  by_cases hg : zs.length ≤ 1024 ∧ ds.length ≤ 150
  · obtain ⟨hz, hm⟩ := hg
    have HB := Lib.hid (begun_any w)
    have HSV := Lib.hid hs
    have HDV := Lib.hid hd
    obtain ⟨A, cap, rfl, hcap, hcm, _⟩ := hs
    obtain ⟨A2, cap2, rfl, _⟩ := hd
    obtain ⟨len, hlen⟩ : ∃ len, zs.length = len := ⟨_, rfl⟩
    have HLEN := Lib.hid hlen
    obtain ⟨m, hml⟩ : ∃ m, ds.length = m := ⟨_, rfl⟩
    have HML := Lib.hid hml
    rw [hlen] at HSV hz hcap hcm ⊢
    rw [hml] at HDV hm ⊢
    clear hlen hml
    go_enter Try.func5, Try.ntmps5
    go_wp2_with (first | (go_at_call 8; refine HB.out.mono ?_; rintro e w1 ⟨x, p, c, g, q, v, bs, rfl, hf1, hx1, hs1, l1, l2, l3, l4⟩; obtain ⟨t0, t1, t2, t3⟩ := two_cells hx1; have HX1 := Lib.hid hx1; have HS1 := Lib.hid hs1; have HF1 := Lib.hid hf1; have HLAY := Lib.hid (Lay_any _ zs w1 hs1 w.heap.size (HSV.out.fr hf1 (Nat.le_refl _) (fun _ _ x => x)) hf1.size (by rw [HLEN.out]; exact hz)); clear hx1 hs1 hf1) | (go_at_call 9; refine HLAY.out.mono ?_; rintro e w2 ⟨rfl, hf2, bs2, hs2⟩; have hl17 : L17 w.heap.size w2 x c p g q v bs2 zs 0 0 := ⟨HX1.out.fr hf2 (fun e => e.elim (HX1.out.ne_ HS1.out.obj (by decide)) (HX1.out.ne_ HS1.out.sp.row (by decide))), hs2, l1, l3, l2, l4⟩; have HL17 := Lib.hid hl17; have HF2 := Lib.hid (HF1.out.then hf2 (fun k hk e => by omega)); clear hl17 hs2 hf2))
    go_loopw [6, 7] (fun a i wr => ∃ (k inn : Nat) (bs : List Int), k ≤ m ∧ i = .int .i64 k ∧ a = .int .i64 inn ∧ L17 w.heap.size wr x c p g q v bs zs inn 0 ∧ Fr0 w wr) (fun _ i _ => m - (intOf i).toNat)
    case atStart => exact ⟨0, 0, bs2, by omega, rfl, rfl, HL17.out, HF2.out⟩
    case round =>
      obtain ⟨k, inn, bsk, hk, rfl, rfl, hl, hfr⟩ := hrel
      by_cases hkm : k < m
      · have hkI : (k : Int) < (m : Int) := by omega
        obtain ⟨q0, q1⟩ := hl.cells
        have hinn := hl.src.le
        have hdr : RowI wr w.heap.size (.slice A2 m cap2) ds := HDV.out.below hfr.below0
        obtain ⟨db, doff, dd, rfl, hdb, hdk, hdd, hdc⟩ := hdr.at_ (k := k) (by rw [HML.out]; exact hkm)
        have hsr : Row8 wr w.heap.size (.slice A len cap) zs := HSV.out.fr hfr (Nat.le_refl _) (fun _ _ x => x)
        have hPS := fun W (hW : Fr0 wr W) => Parse_src dd W (hl.src.fr0 hW)
        obtain ⟨f1, f2⟩ := findP_le (isD (dd % 256)) zs inn hl.src.le
        obtain ⟨f3, f4⟩ := findP_at (P := isD (dd % 256)) (L := zs) (i := inn)
        obtain ⟨t, ht⟩ : ∃ t, findP (isD (dd % 256)) zs inn = t := ⟨_, rfl⟩
        obtain ⟨n, hn⟩ : ∃ n, inn + n = t := ⟨t - inn, by omega⟩
        rw [ht] at hPS f1 f2 f3 f4
        rw [HLEN.out] at hPS f2 f4 hinn
        rw [show (t : Int) - (inn : Int) = (n : Int) by omega] at hPS
        have hd0 : 0 ≤ dd % 256 ∧ dd % 256 ≤ 255 := by omega
        have hw8 := wrap8 dd
        obtain ⟨d, hdq⟩ : ∃ d, dd % 256 = d := ⟨_, rfl⟩
        rw [hdq] at f3 f4 hd0 hw8
        obtain ⟨d0, d1⟩ := hd0
        have x1 : IntKind.i64.wrap (65792 + (inn : Int)) = 65792 + (inn : Int) := IntWalk.i64_in _ (by omega)
        have x2 : IntKind.i64.wrap ((inn : Int) + (n : Int)) = (t : Int) := by rw [IntWalk.i64_in _ (by omega)]; omega
        have f2I : (t : Int) ≤ (len : Int) := by omega
        have HPS := Lib.hid hPS
        have HL := Lib.hid hl
        have HFR := Lib.hid hfr
        have HF3 := Lib.hid f3
        have HF4 := Lib.hid f4
        have HN := Lib.hid hn
        clear hPS hl hfr f3 f4 hsr hdr ht hdq hn
        go_wp2_with fail
        go_region_held3 (fun V => V.cell? ⟨x, 1, none⟩ = some (.pointer (some ⟨c, 0, none⟩)) ∧ V.cell? ⟨db, doff + k, none⟩ = some (.int .i64 dd)) (first | exact ⟨q1, hdc⟩ | exact ⟨e1, e2⟩) ((go_at_call 13; (with_reducible refine (HPS.out _ (Fr.refl _ _).drew).mono ?_); rintro e w5 ⟨rfl, hf5', bs5, hs5⟩; have hf5 := ((Fr.refl (fun k => k = g) wr).drew).trans hf5'; have HL5 := Lib.hid (HL.out.step hf5 hs5).1; have HF5 := Lib.hid (HFR.out.then (HL.out.step hf5 hs5).2 (fun j hj e => by omega)); have e1 := HL5.out.cells.2; have e2 := (hf5.cell (p := ⟨db, doff + k, none⟩) (by have := HFR.out.size; dsimp only; omega) (fun e => by have := HL.out.lo.2.2.2; dsimp only at e; omega)).trans hdc; clear hf5 hf5' hs5))
        have HSR5 := Lib.hid (HSV.out.fr HF5.out (Nat.le_refl _) (fun _ _ x => x))
        go_wp2_with fail
        go_loopw [11] (fun u wr' => ∃ k2 : Nat, inn ≤ k2 ∧ k2 ≤ t ∧ u = .int .i64 k2 ∧ w5 = wr') (fun u _ => t - (intOf u).toNat)
        case atStart => exact ⟨inn, Nat.le_refl _, f1, rfl, rfl⟩
        case round =>
          obtain ⟨k2, hk2, hkt, rfl, rfl⟩ := hrel
          by_cases hk2t : k2 < t
          · have hk2I : (k2 : Int) < (t : Int) := by omega
            have hk2L : (k2 : Int) < (len : Int) := by omega
            obtain ⟨xx, hxx, hxd⟩ := HF3.out k2 hk2 hk2t
            obtain ⟨hn1, hn2⟩ := isD_no hxd
            obtain ⟨bb, bo, rfl, hbc, hb0, hb1⟩ := HSR5.out.at_ hxx
            by_cases hd32 : d = 32
            · have hn3 : (32 : Int) ≤ xx := by have := hn2 hd32; omega
              subst hd32
              have hq1 : (xx == 32) = false := by simp; omega
              clear hn2 hxx hxd
              go_wp2_with fail
              exact ⟨⟨k2 + 1, by omega, by omega, by push_cast; rfl, trivial⟩, by simp [intOf]; omega⟩
            · have hq1 : (xx == d) = false := by simp; omega
              have hq2 : (d == 32) = false := by simp; omega
              clear hn2 hxx hxd
              go_wp2_with fail
              exact ⟨⟨k2 + 1, by omega, by omega, by push_cast; rfl, trivial⟩, by simp [intOf]; omega⟩
          · obtain rfl : k2 = t := by omega
            obtain ⟨r, hr⟩ : ∃ r, nextP len k2 = r := ⟨_, rfl⟩
            have hl6 := HL5.out
            rw [hr] at hl6
            have hrl := hl6.src.le
            rw [HLEN.out] at hrl
            obtain ⟨sv', hsl, hrow⟩ := slice_tail HSR5.out hrl
            have hnw := fun V (hV : Fr0 w5 V) => Now_src V (hl6.src.fr0 hV)
            rw [HLEN.out] at hnw
            unfold nowV at hnw
            have HNW := Lib.hid hnw
            have HLF := Lib.hid (fun V (hV : Fr0 w5 V) => Left_src V (hl6.src.fr0 hV))
            have HL6 := Lib.hid hl6
            have hcv := (hrow.fr ((Fr.refl (fun _ => False) w5).drew) (by have := HF5.out.size; omega) (fun _ _ x => x)).conv
            have HRR := Lib.hid hrow
            have hfd : ∀ W : World, (Instr.field 45 (.agg #[.int .i64 0, .int .i64 65792, .int .i64 len, .int .i64 r, .int .i64 0]) 3).run Try.prog W = .ok (.int .i64 r) W := fun W => rfl
            have HRL := Lib.hid hrl
            have HHR := Lib.hid hr
            clear hnw hl6 hrow hrl hr
            have hcase : (∃ xx bb bo, A = some ⟨bb, bo, none⟩ ∧ w5.cell? ⟨bb, bo + k2, none⟩ = some (.int .u8 xx) ∧ (k2 : Int) < (len : Int) ∧ IntKind.i64.wrap ((k2 : Int) + 1) = (r : Int) ∧ (xx = d ∨ (d = 32 ∧ xx < 32 ∧ (xx == 32) = false))) ∨ (k2 = len ∧ r = k2) := by
              by_cases htl : k2 < len
              · obtain ⟨xx, hxx, hxd⟩ := HF4.out htl
                obtain ⟨bb, bo, hA, hbc, hb0, hb1⟩ := HSR5.out.at_ hxx
                have := HHR.out
                unfold nextP at this
                rw [if_pos htl] at this
                refine .inl ⟨xx, bb, bo, hA, hbc, by omega, by rw [IntWalk.i64_in _ (by omega)]; omega, ?_⟩
                rcases isD_yes hxd with h | ⟨h1, h2, h3⟩
                · exact .inl h
                · exact .inr ⟨h2, h3, by simp; omega⟩
              · have := HHR.out
                unfold nextP at this
                rw [if_neg htl] at this
                exact .inr ⟨by omega, this.symm⟩
            rcases hcase with ⟨xx, bb, bo, rfl, hbc, htI, x3, rfl | ⟨rfl, hx3, hq1⟩⟩ | ⟨rfl, rfl⟩
            all_goals go_wp2_with fail
            all_goals
              refine wp_region_noPanic ?_
              refine wp_region_held_drew (S := fun V => V.cell? ⟨x, 1, none⟩ = some (.pointer (some ⟨c, 0, none⟩)) ∧ (convert 25 9 sv').run Try.prog V = .ok (.string (strOfNums (zs.drop r))) V) (by kernel_rfl) (by exact ⟨e1, hcv⟩) (fun hHeld => ?_)
              refine wpAnyH_take (i := 0) (v := ?_) rfl (by kernel_rfl) (by kernel_rfl) (by kernel_rfl) (fun _ _ _ h => h) (Or.inl ⟨by rfl, ?_⟩) (by assumption) ?_
              rotate_left
              · (intro w hSw; (try dsimp only at hSw); go_simp <;> with_reducible rfl)
              try simp only [Act.put, List.setIfInBounds_toArray, List.set_cons_zero, List.set_cons_succ, List.getElem_toArray, List.getElem_cons_zero]
              refine wpAnyH_take (i := 1) (v := ?_) rfl (by kernel_rfl) (by kernel_rfl) (by kernel_rfl) (fun _ _ _ h => h) (Or.inl ⟨by rfl, ?_⟩) (by assumption) ?_
              rotate_left
              · (intro w hSw; (try dsimp only at hSw); go_simp <;> with_reducible rfl)
              try simp only [Act.put, List.setIfInBounds_toArray, List.set_cons_zero, List.set_cons_succ, List.getElem_toArray, List.getElem_cons_zero, List.getElem_cons_succ]
              refine wpAnyH_take (i := 2) (v := ?_) rfl (by kernel_rfl) (by kernel_rfl) (by kernel_rfl) (fun _ _ _ h => h) (Or.inl ⟨by rfl, ?_⟩) (by assumption) ?_
              rotate_left
              · (intro w hSw; (try dsimp only at hSw); go_simp <;> with_reducible rfl)
              try simp only [Act.put, List.setIfInBounds_toArray, List.set_cons_zero, List.set_cons_succ, List.getElem_toArray, List.getElem_cons_zero, List.getElem_cons_succ]
              refine wpAnyH_take (i := 3) (v := ?_) rfl (by kernel_rfl) (by kernel_rfl) (by kernel_rfl) (fun _ _ _ h => h) (Or.inl ⟨by rfl, ?_⟩) (by assumption) ?_
              rotate_left
              · (intro w hSw; (try dsimp only at hSw); go_simp <;> with_reducible rfl)
              try simp only [Act.put, List.setIfInBounds_toArray, List.set_cons_zero, List.set_cons_succ, List.getElem_toArray, List.getElem_cons_zero, List.getElem_cons_succ]
              refine wpAnyH_take (i := 6) (v := ?_) rfl (by kernel_rfl) (by kernel_rfl) (by kernel_rfl) (fun _ _ _ h => h) (Or.inl ⟨by rfl, ?_⟩) (by assumption) ?_
              rotate_left
              · (intro w hSw; (try dsimp only at hSw); go_simp <;> with_reducible rfl)
              try simp only [Act.put, List.setIfInBounds_toArray, List.set_cons_zero, List.set_cons_succ, List.getElem_toArray, List.getElem_cons_zero, List.getElem_cons_succ]
              refine wpAnyH_ready (rs := [4]) (by kernel_rfl) (by simp) ?_
              refine AllReadyH.cons rfl (fun K hK => ?_) AllReadyH.nil
              go_simp
              go_at_call 15
              (with_reducible refine (HNW.out _ (Fr.refl _ _).drew).mono ?_)
              rintro e w9 ⟨rfl, hf9'⟩
              have hf9 : Fr0 w5 w9 := ((Fr.refl (fun _ => False) w5).drew).trans hf9'
              have i1 := (HL6.out.fr0 hf9).cells.2
              have i2 := (HRR.out.fr hf9 (by have := HF5.out.size; omega) (fun _ _ x => x)).conv
              have HF9 := Lib.hid hf9
              clear hf9 hf9'
              go_wp2_with fail
              refine hK.out _ _ (by exact ⟨i1, i2⟩) (fun hHeld => ?_)
              clear hK K
              try simp only [Act.put, List.setIfInBounds_toArray, List.set_cons_zero, List.set_cons_succ, List.getElem_toArray, List.getElem_cons_zero, List.getElem_cons_succ]
              refine wpAnyH_take (i := 5) (v := ?_) rfl (by kernel_rfl) (by kernel_rfl) (by kernel_rfl) (fun _ _ _ h => h) (Or.inl ⟨by rfl, ?_⟩) (by assumption) ?_
              rotate_left
              · (intro w hSw; (try dsimp only at hSw); go_simp <;> with_reducible rfl)
              try simp only [Act.put, List.setIfInBounds_toArray, List.set_cons_zero, List.set_cons_succ, List.getElem_toArray, List.getElem_cons_zero, List.getElem_cons_succ]
              refine wpAnyH_take (i := 7) (v := ?_) rfl (by kernel_rfl) (by kernel_rfl) (by kernel_rfl) (fun _ _ _ h => h) (Or.inl ⟨by rfl, ?_⟩) (by assumption) ?_
              rotate_left
              · (intro w hSw; (try dsimp only at hSw); go_simp <;> with_reducible rfl)
              try simp only [Act.put, List.setIfInBounds_toArray, List.set_cons_zero, List.set_cons_succ, List.getElem_toArray, List.getElem_cons_zero, List.getElem_cons_succ]
              refine wpAnyH_take (i := 8) (v := ?_) rfl (by kernel_rfl) (by kernel_rfl) (by kernel_rfl) (fun _ _ _ h => h) (Or.inl ⟨by rfl, ?_⟩) (by assumption) ?_
              rotate_left
              · (intro w hSw; (try dsimp only at hSw); go_simp <;> with_reducible rfl)
              try simp only [Act.put, List.setIfInBounds_toArray, List.set_cons_zero, List.set_cons_succ, List.getElem_toArray, List.getElem_cons_zero, List.getElem_cons_succ]
              refine wpAnyH_take (i := 9) (v := ?_) rfl (by kernel_rfl) (by kernel_rfl) (by kernel_rfl) (fun _ _ _ h => h) (Or.inl ⟨by rfl, ?_⟩) (by assumption) ?_
              rotate_left
              · (intro w hSw; (try dsimp only at hSw); go_simp <;> with_reducible rfl)
              try simp only [Act.put, List.setIfInBounds_toArray, List.set_cons_zero, List.set_cons_succ, List.getElem_toArray, List.getElem_cons_zero, List.getElem_cons_succ]
              refine wpAnyH_take (i := 10) (v := ?_) rfl (by kernel_rfl) (by kernel_rfl) (by kernel_rfl) (fun _ _ _ h => h) (Or.inl ⟨by rfl, ?_⟩) (by assumption) ?_
              rotate_left
              · (intro w hSw; (try dsimp only at hSw); go_simp <;> with_reducible rfl)
              try simp only [Act.put, List.setIfInBounds_toArray, List.set_cons_zero, List.set_cons_succ, List.getElem_toArray, List.getElem_cons_zero, List.getElem_cons_succ]
              refine wpAnyH_take (i := 11) (v := ?_) rfl (by kernel_rfl) (by kernel_rfl) (by kernel_rfl) (fun _ _ _ h => h) (Or.inl ⟨by rfl, ?_⟩) (by assumption) ?_
              rotate_left
              · (intro w hSw; (try dsimp only at hSw); go_simp <;> with_reducible rfl)
              try simp only [Act.put, List.setIfInBounds_toArray, List.set_cons_zero, List.set_cons_succ, List.getElem_toArray, List.getElem_cons_zero, List.getElem_cons_succ]
              refine wpAnyH_take (i := 12) (v := ?_) rfl (by kernel_rfl) (by kernel_rfl) (by kernel_rfl) (fun _ _ _ h => h) (Or.inl ⟨by rfl, ?_⟩) (by assumption) ?_
              rotate_left
              · (intro w hSw; (try dsimp only at hSw); go_simp <;> with_reducible rfl)
              try simp only [Act.put, List.setIfInBounds_toArray, List.set_cons_zero, List.set_cons_succ, List.getElem_toArray, List.getElem_cons_zero, List.getElem_cons_succ]
              refine wpAnyH_take (i := 15) (v := ?_) rfl (by kernel_rfl) (by kernel_rfl) (by kernel_rfl) (fun _ _ _ h => h) (Or.inl ⟨by rfl, ?_⟩) (by assumption) ?_
              rotate_left
              · (intro w hSw; (try dsimp only at hSw); go_simp <;> with_reducible rfl)
              try simp only [Act.put, List.setIfInBounds_toArray, List.set_cons_zero, List.set_cons_succ, List.getElem_toArray, List.getElem_cons_zero, List.getElem_cons_succ]
              refine wpAnyH_take (i := 16) (v := ?_) rfl (by kernel_rfl) (by kernel_rfl) (by kernel_rfl) (fun _ _ _ h => h) (Or.inl ⟨by rfl, ?_⟩) (by assumption) ?_
              rotate_left
              · (intro w hSw; (try dsimp only at hSw); go_simp <;> with_reducible rfl)
              try simp only [Act.put, List.setIfInBounds_toArray, List.set_cons_zero, List.set_cons_succ, List.getElem_toArray, List.getElem_cons_zero, List.getElem_cons_succ]
              refine wpAnyH_take (i := 17) (v := ?_) rfl (by kernel_rfl) (by kernel_rfl) (by kernel_rfl) (fun _ _ _ h => h) (Or.inl ⟨by rfl, ?_⟩) (by assumption) ?_
              rotate_left
              · (intro w hSw; (try dsimp only at hSw); go_simp <;> with_reducible rfl)
              try simp only [Act.put, List.setIfInBounds_toArray, List.set_cons_zero, List.set_cons_succ, List.getElem_toArray, List.getElem_cons_zero, List.getElem_cons_succ]
              refine wpAnyH_take (i := 18) (v := ?_) rfl (by kernel_rfl) (by kernel_rfl) (by kernel_rfl) (fun _ _ _ h => h) (Or.inl ⟨by rfl, ?_⟩) (by assumption) ?_
              rotate_left
              · (intro w hSw; (try dsimp only at hSw); go_simp <;> with_reducible rfl)
              try simp only [Act.put, List.setIfInBounds_toArray, List.set_cons_zero, List.set_cons_succ, List.getElem_toArray, List.getElem_cons_zero, List.getElem_cons_succ]
              refine wpAnyH_ready (rs := [13]) (by kernel_rfl) (by simp) ?_
              refine AllReadyH.cons rfl (fun K hK => ?_) AllReadyH.nil
              go_simp
              go_at_call 14
              (with_reducible refine (HLF.out _ HF9.out).mono ?_)
              rintro e w10 ⟨u, rfl, hru, hf10⟩
              have hcu := hru.conv
              have j1 := (HL6.out.fr0 (HF9.out.trans hf10)).cells.2
              have j2 := (HRR.out.fr (HF9.out.trans hf10) (by have := HF5.out.size; omega) (fun _ _ x => x)).conv
              have HF10 := Lib.hid (HF9.out.trans hf10)
              clear hru hf10
              go_wp2_with fail
              refine hK.out _ _ (by exact ⟨j1, j2⟩) (fun hHeld => ?_)
              clear hK K
              try simp only [Act.put, List.setIfInBounds_toArray, List.set_cons_zero, List.set_cons_succ, List.getElem_toArray, List.getElem_cons_zero, List.getElem_cons_succ]
              refine wpAnyH_weaken (S' := fun V => (V.cell? ⟨x, 1, none⟩ = some (.pointer (some ⟨c, 0, none⟩)) ∧ (convert 25 9 sv').run Try.prog V = .ok (.string (strOfNums (zs.drop r))) V) ∧ (convert 25 9 u).run Try.prog V = .ok (.string (strOfNums (zs.drop r))) V) (fun _ h => h.1) _ ?_
              have hHeld2 := And.intro hHeld hcu
              clear hHeld
              refine wpAnyH_take (i := 14) (v := ?_) rfl (by kernel_rfl) (by kernel_rfl) (by kernel_rfl) (fun _ _ _ h => h) (Or.inl ⟨by rfl, ?_⟩) (by assumption) ?_
              rotate_left
              · (intro w hSw; (try dsimp only at hSw); go_simp <;> with_reducible rfl)
              try simp only [Act.put, List.setIfInBounds_toArray, List.set_cons_zero, List.set_cons_succ, List.getElem_toArray, List.getElem_cons_zero, List.getElem_cons_succ]
              refine wpAnyH_take (i := 19) (v := ?_) rfl (by kernel_rfl) (by kernel_rfl) (by kernel_rfl) (fun _ _ _ h => h) (Or.inl ⟨by rfl, ?_⟩) (by assumption) ?_
              rotate_left
              · (intro w hSw; (try dsimp only at hSw); go_simp <;> with_reducible rfl)
              try simp only [Act.put, List.setIfInBounds_toArray, List.set_cons_zero, List.set_cons_succ, List.getElem_toArray, List.getElem_cons_zero, List.getElem_cons_succ]
              refine wpAnyH_take (i := 20) (v := ?_) rfl (by kernel_rfl) (by kernel_rfl) (by kernel_rfl) (fun _ _ _ h => h) (Or.inl ⟨by rfl, ?_⟩) (by assumption) ?_
              rotate_left
              · (intro w hSw; (try dsimp only at hSw); go_simp <;> with_reducible rfl)
              try simp only [Act.put, List.setIfInBounds_toArray, List.set_cons_zero, List.set_cons_succ, List.getElem_toArray, List.getElem_cons_zero, List.getElem_cons_succ]
              refine wpAnyH_done (by kernel_rfl) ?_ _
              refine NoPanic.normal ?_
              go_wp2_with fail
              exact ⟨⟨k + 1, r, bs5, by omega, by push_cast; rfl, rfl, HL6.out.fr0 HF10.out, HF5.out.trans HF10.out⟩, by simp [intOf]; omega⟩
      · have HFR := Lib.hid hfr
        obtain rfl : k = m := by omega
        clear hl hfr
        go_wp2_with (go_at_call 7; refine (HAW.out _).mono ?_; rintro e wz ⟨rfl, hfz⟩)
        go_ret
        exact ⟨rfl, HFR.out.trans hfz⟩
  · have hc : 1024 < zs.length ∨ (zs.length ≤ 1024 ∧ 150 < ds.length) := by omega
    obtain ⟨A, cap, rfl, _⟩ := hs
    obtain ⟨A2, cap2, rfl, _⟩ := hd
    generalize zs.length = len at *
    generalize ds.length = len2 at *
    clear hg
    rcases hc with h | ⟨h, h2⟩
    all_goals
      go_enter Try.func5, Try.ntmps5
      go_wp2_with (go_at_call 7; refine (HAW.out _).mono ?_; rintro e w1 ⟨rfl, hf1⟩)
      go_ret
      exact ⟨rfl, hf1⟩
end Go.Proofs.Ytmkpoemjikdoeaa
