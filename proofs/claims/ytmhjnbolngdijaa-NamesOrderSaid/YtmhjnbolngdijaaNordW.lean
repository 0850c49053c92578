/- The walk of NamesOrder. -/
import Derived.Test.YtmhjnbolngdijaaNawake
import Derived.Test.YtmhjnbolngdijaaNlist
import Derived.Test.YtmhjnbolngdijaaNown
import Derived.Test.YtmhjnbolngdijaaNargs
namespace Go.Proofs.Ytmhjnbolngdijaa
open Go Go.RowKit
set_option linter.unusedVariables false
attribute [local go_sem] Oper.semAt_some

/-- The key of the name x in a list. -/
def xKey (l : Int) : Int × ByteArray := (l, strOfNums (lowL [88]))
def xWd (l : Int) : Wd := ⟨[120], 0, l, false, false⟩
theorem xWd_key (l : Int) : (xWd l).key = xKey l := by
  unfold Wd.key xWd xKey
  rw [show lowL [88] = lowL [120] by decide]
theorem xKey_inj {a b : Int} : xKey a = xKey b ↔ a = b := by
  unfold xKey
  constructor
  · intro h; injection h
  · intro h; rw [h]
theorem lastOf_snoc' (ws : List Wd) (x : Wd) (k : Int × ByteArray) : lastOf (ws ++ [x]) k = if x.key = k then (ws.length : Int) + 1 else lastOf ws k := by
  unfold lastOf
  rw [toksOf_snoc]
  by_cases h : x.key = k
  · simp [h]
  · simp [h]
theorem lastOf_ge (ws : List Wd) (k : Int × ByteArray) : 0 ≤ lastOf ws k ∧ lastOf ws k ≤ ws.length := by
  by_cases h : toksOf ws k = []
  · rw [lastOf_none h]; omega
  · obtain ⟨t, h0, h1, h2⟩ := lastOf_some h
    have := toksOf_mem (List.mem_of_getElem? h0)
    omega
theorem srchOf_snoc (ws : List Wd) (nm : List Int) (l : Int) : ∀ os : List Int, srchOf ws nm (os ++ [l]) = if srchOf ws nm os = 0 then lastOf ws (l, strOfNums (lowL nm)) else srchOf ws nm os
  | [] => by
    simp only [List.nil_append, srchOf]
    by_cases h : lastOf ws (l, strOfNums (lowL nm)) = 0
    · simp [h]
    · simp [h]
  | a :: os => by
    simp only [List.cons_append, srchOf]
    rw [srchOf_snoc ws nm l os]
    by_cases h : lastOf ws (a, strOfNums (lowL nm)) = 0
    · simp only [if_pos h]
    · simp only [if_neg h]
theorem srchOf_ge (ws : List Wd) (nm : List Int) : ∀ os : List Int, 0 ≤ srchOf ws nm os
  | [] => by simp [srchOf]
  | a :: os => by
    simp only [srchOf]
    have h1 := lastOf_ge ws (a, strOfNums (lowL nm))
    have h2 := srchOf_ge ws nm os
    split <;> omega

/-- The row 'has': of each list the last word. -/
def HasRow (w : World) (hv : Value) (L : Nat) (ws : List Wd) (g : Nat) : Prop := ∃ cap cs, hv = .slice (some ⟨g, 0, none⟩) (L + 1) cap ∧ Blk w g 3 cs ∧ ∀ l : Nat, l ≤ L → cs[l]? = some (.int .i64 (lastOf ws (xKey l)))

set_option maxRecDepth 100000 in
set_option maxHeartbeats 8000000 in
theorem order_walk (lists : Int) (v1 : Value) (xs : List Int) (v2 : Value) (os : List Int) (w : World) (hl : -9223372036854775808 ≤ lists ∧ lists ≤ 9223372036854775807) (h1 : RowI w w.heap.size v1 xs) (h2 : RowI w w.heap.size v2 os) :
    Calls Try.prog 5 #[.int .i64 lists, v1, v2] w fun e w' => e = .returned (.bool true) ∧ Fr0 w w' := by
  have HAW := Lib.hid (fun W => awake14 W)
  obtain ⟨hl1, hl2⟩ := hl
  by_cases hg : 1 ≤ lists ∧ lists ≤ 12 ∧ xs.length ≤ 60 ∧ os.length ≤ 16
  · obtain ⟨g1, g2, g3, g4⟩ := hg
    obtain ⟨L, rfl⟩ : ∃ L : Nat, lists = L := ⟨lists.toNat, by omega⟩
    have HV1 := Lib.hid h1
    have HV2 := Lib.hid h2
    have HNW := Lib.hid (New_nm w)
    obtain ⟨A1, cap1, rfl, _⟩ := h1
    obtain ⟨A2, cap2, rfl, _⟩ := h2
    obtain ⟨N1, hN1⟩ : ∃ N, xs.length = N := ⟨_, rfl⟩
    obtain ⟨N2, hN2⟩ : ∃ N, os.length = N := ⟨_, rfl⟩
    have HN1 := Lib.hid hN1
    have HN2 := Lib.hid hN2
    rw [hN1] at HV1 g3 ⊢
    rw [hN2] at HV2 g4 ⊢
    clear hN1 hN2
    go_enter Try.func5, Try.ntmps5
    go_wp2_with (go_at_call 10; refine HNW.out.mono ?_; rintro e w1 ⟨c, m, ov, tv0, rfl, hN0, hf⟩; have HN0 := Lib.hid hN0; have HF := Lib.hid hf; clear hN0 hf)
    go_loopw [8] (fun i wr => ∃ k : Nat, 1 ≤ k ∧ k ≤ L ∧ i = .int .i64 k ∧ Nm wr w.heap.size c m (.slice none 0 0) ov k 1 [1] [] 0 tv0 ∧ Fr0 w wr) (fun i _ => L - (intOf i).toNat)
    case atStart => exact ⟨1, by omega, by omega, rfl, HN0.out, HF.out⟩
    case round =>
      obtain ⟨k, hk1, hk2, rfl, hNk, hfk⟩ := hrel
      have HNK := Lib.hid hNk
      have HFK := Lib.hid hfk
      clear hNk hfk
      by_cases hkL : k < L
      · have HLI := Lib.hid (List_nm wr HNK.out (by omega) (by omega))
        go_wp2_with (go_at_call 19; refine HLI.out.mono ?_; rintro e w2 ⟨rfl, hN2, hf2⟩; have HN2 := Lib.hid hN2; have HF2 := Lib.hid (HFK.out.then hf2 (fun j hj e => by have := HNK.out.lo.1; omega)); clear hN2 hf2)
        exact ⟨⟨k + 1, by omega, by omega, by push_cast; rfl, by push_cast; exact HN2.out, HF2.out⟩, by simp [intOf]; omega⟩
      · obtain rfl : k = L := by omega
        have hN2 := HNK.out
        have hsz := hN2.obj.lt
        obtain ⟨i0, hi, hz0, hz1, hz2⟩ := info_parts infoI
        have HI := Lib.hid hi
        have HZ := Lib.hid (And.intro hz0 (And.intro hz1 hz2))
        clear hi hz0 hz1 hz2 hN2 hsz
        generalize wr = wq at *
        go_wp2_with fail
        go_loopw [9, 10] (fun u9 i wr => ∃ j : Nat, j ≤ k + 1 ∧ i = .int .i64 j ∧ OwnI wr wq.heap.size u9 (List.replicate j 0) ∧ Fr0 wq wr) (fun _ i _ => k + 1 - (intOf i).toNat)
        case atStart => exact ⟨0, by omega, rfl, OwnI.nil _ _, Fr.refl _ _⟩
        case round =>
          obtain ⟨j, hj, rfl, hO, hfj⟩ := hrel
          have HO := Lib.hid hO
          have HFJ := Lib.hid hfj
          obtain ⟨A, cap, rfl⟩ := hO.rd.form
          rw [List.length_replicate] at HO ⊢
          clear hO hfj
          by_cases hjk : j ≤ k
          · have hjI : (j : Int) ≤ (k : Int) := by omega
            have HOA := Lib.hid (HO.out.fr ((Fr.refl (fun _ => False) wr).alloc (.cells #[.int .i64 0] 3)) (fun _ _ x => x))
            go_wp2_with (at_builtin; refine wpList_append_src (m := 1) (news := [.int .i64 0]) rfl (.tmp 50) (.tmp 51) rfl Try.underlying41 HI.out HZ.out.1 HZ.out.2.1 HZ.out.2.2 rfl (by decide) rfl rfl HOA.out (Rd.new wr #[.int .i64 0] rfl 1) (fun u hu => by simp at hu; subst hu; rfl) (by unfold maxLen; simp; omega) (by simp; omega) (by have := HFJ.out.size; simp; omega) ?_; intro v6 w6 ho6 hg6 hk6; have HO6 := Lib.hid ho6; have HF6 := Lib.hid ((HFJ.out.alloc (.cells #[.int .i64 0] 3)).grown hg6 (fun q hq => .inr (own_lo HOA.out q hq).1)); clear ho6 hg6 hk6)
            have ho := HO6.out
            refine ⟨⟨j + 1, by omega, by push_cast; rfl, ?_, HF6.out⟩, by simp [intOf]; omega⟩
            rw [List.replicate_succ']
            unfold OwnI
            rw [List.length_append, List.map_append]
            exact ho
          · obtain rfl : j = k + 1 := by omega
            have hHas : ∃ g, HasRow wr (.slice A (k + 1) cap) k [] g ∧ wq.heap.size ≤ g := by
              rcases HO.out.2 with ⟨e, e0⟩ | ⟨g, cap', cur, e, hb, hc, hle, hm, hsz, htk⟩
              · simp at e0
              · injection e with e1 e2 e3
                subst e1 e3
                refine ⟨g, ⟨cap, cur, rfl, hc, fun l hl => ?_⟩, hb⟩
                have e4 : ((List.replicate (k + 1) (0 : Int)).map (Value.int .i64))[l]? = some (.int .i64 0) := by
                  rw [List.getElem?_map, List.getElem?_replicate, if_pos (by omega)]; rfl
                rw [← htk, List.getElem?_take, if_pos (by simp; omega), Array.getElem?_toList] at e4
                rw [e4, lastOf_none (toksOf_nil _)]
            obtain ⟨g, ⟨cap', cs0, eA, hB0, hC0⟩, hgq⟩ := hHas
            injection eA with eA1 eA2 eA3
            subst eA1 eA3
            have HB0 := Lib.hid hB0
            have HC0 := Lib.hid hC0
            have HNQ := Lib.hid (HNK.out.fr0 HFJ.out)
            have HFQ := Lib.hid (HFK.out.trans HFJ.out)
            have HGQ := Lib.hid (show ∀ q, NmIn c m (.slice none 0 0) ov [] 0 tv0 q → q ≠ g from fun q hq e => by have := (HNK.out.in_lo hq).2; omega)
            have HGL := Lib.hid (show w.heap.size ≤ g from Nat.le_trans HFK.out.size hgq)
            clear hB0 hC0 hgq HO HFJ HNK HFK HN0 HF
            generalize wr = wp at *
            go_wp2_with fail
            go_loopw [11] (fun i wr => ∃ (j : Nat) (ws : List Wd) (wv : Value) (tv : Int × ByteArray → Value), j ≤ N1 ∧ i = .int .i64 j ∧ ws.length = j ∧ Nm wr w.heap.size c m wv ov k 1 [1] ws ws.length tv ∧ HasRow wr (.slice (some ⟨g, 0, none⟩) (k + 1) cap) k ws g ∧ (∀ q, NmIn c m wv ov ws ws.length tv q → q ≠ g) ∧ Fr0 w wr) (fun i _ => N1 - (intOf i).toNat)
            case atStart => exact ⟨0, [], _, _, by omega, rfl, rfl, HNQ.out, ⟨cap, cs0, rfl, HB0.out, HC0.out⟩, HGQ.out, HFQ.out⟩
            case round =>
              obtain ⟨j, ws, wv, tv, hj, rfl, hwl, hNm, hHas, hng, hfr⟩ := hrel
              have HWL := Lib.hid hwl
              have HNM := Lib.hid hNm
              have HHS := Lib.hid hHas
              have HNG := Lib.hid hng
              have HFR := Lib.hid hfr
              clear hwl hNm hHas hng hfr HNQ HFQ HGQ HB0 HC0
              by_cases hjN : j < N1
              · have hjI : (j : Int) < (N1 : Int) := by omega
                obtain ⟨b, off, x, rfl, hb, hx, hx64, hc⟩ := (HV1.out.fr0 HFR.out).at_ (k := j) (by rw [HN1.out]; exact hjN)
                obtain ⟨hx1, hx2⟩ := hx64
                by_cases hxr : 1 ≤ x ∧ x ≤ (k : Int)
                · obtain ⟨hxl, hxh⟩ := hxr
                  obtain ⟨y, rfl⟩ : ∃ y : Nat, x = y := ⟨x.toNat, by omega⟩
                  have hA := Add_own (xWd y) ⟨by simp [xWd], by simp [xWd]⟩ wr HNM.out (by unfold wrongV xWd; simp; omega) (by have := HWL.out; omega)
                  rw [show (xWd y).val = .agg #[.string ⟨#[120]⟩, .int .i64 0, .int .i64 y, .bool false, .bool false] from rfl] at hA
                  have HA := Lib.hid hA
                  obtain ⟨cap2', cs, eB, hB, hC⟩ := HHS.out
                  injection eB with eB1 eB2 eB3
                  subst eB3
                  have HB := Lib.hid hB
                  have HC := Lib.hid hC
                  have hyI : (y : Int) < (k : Int) + 1 := by omega
                  have hylt : y < cs.size := (Array.getElem?_eq_some_iff.1 (hC y (by omega))).1
                  obtain ⟨uy, huy⟩ : ∃ uy, cs[y]? = some uy := ⟨_, Array.getElem?_eq_getElem hylt⟩
                  have HUY := Lib.hid huy
                  clear hA hx hB hC huy
                  go_wp2_with (go_at_call 11; refine HA.out.mono ?_; rintro e w2 ⟨rfl, wv', tv', hN2, hf2, hng2⟩; have hc2 := (hf2.cell (p := ⟨b, off + j, none⟩) (Nat.lt_of_lt_of_le hb HFR.out.size) (fun e => by have := (HNM.out.in_lo e).1; dsimp only at this; omega)).trans hc; have hB2 := HB.out.fr hf2 (fun e => HNG.out _ e rfl); have k0 := hB2.cell y; rw [HUY.out] at k0; have k1 := hB2.frozen y; have HB2 := Lib.hid hB2; have HN2 := Lib.hid hN2; have HF2 := Lib.hid (HFR.out.then hf2 (fun q hq e => by have := (HNM.out.in_lo e).1; omega)); have HNG2 := Lib.hid hng2; clear hN2 hf2 hng2 hB2)
                  have hlen : (ws ++ [xWd y]).length = ws.length + 1 := by simp
                  have hng : ∀ q, NmIn c m wv' ov (ws ++ [xWd y]) (ws.length + 1) tv' q → q ≠ g := fun q hq e => by
                    rcases HNG2.out q hq with h | h
                    · exact HNG.out q h e
                    · have := HB.out.lt; omega
                  have hff := (Fr.refl (fun q => q = g) w2).setCell (p := ⟨g, y, none⟩) (.inl rfl) (.int .i64 ((ws.length : Int) + 1))
                  have hN3 := HN2.out.fr hff hng
                  have hB3 := HB2.out.set_ y (.int .i64 ((ws.length : Int) + 1))
                  have hF3 := HF2.out.setCell (p := ⟨g, y, none⟩) (.inr HGL.out) (.int .i64 ((ws.length : Int) + 1))
                  rw [← hlen] at hN3 hng
                  refine ⟨⟨j + 1, ws ++ [xWd y], wv', tv', by omega, by push_cast; rfl, by rw [hlen, HWL.out], hN3, ⟨cap, _, rfl, hB3, fun l hl => ?_⟩, hng, hF3⟩, by simp [intOf]; omega⟩
                  rw [Array.getElem?_setIfInBounds, lastOf_snoc', xWd_key]
                  by_cases hly : y = l
                  · subst hly
                    rw [if_pos rfl, if_pos hylt, if_pos rfl]
                  · rw [if_neg hly, if_neg (fun e => hly (by have := xKey_inj.1 e; omega))]
                    exact HC.out l hl
                · have hxc : x < 1 ∨ (1 ≤ x ∧ (k : Int) < x) := by omega
                  clear hx hxr
                  rcases hxc with h | ⟨h, h2⟩
                  all_goals
                    go_wp2_with (go_at_call 9; refine (HAW.out _).mono ?_; rintro e wz ⟨rfl, hfz⟩)
                    go_ret
                    exact ⟨rfl, HFR.out.trans hfz⟩
              · obtain rfl : j = N1 := by omega
                obtain ⟨cap2', cs, eB, hB, hC⟩ := HHS.out
                injection eB with eB1 eB2 eB3
                subst eB3
                have HB := Lib.hid hB
                have HC := Lib.hid hC
                clear hB hC HHS
                generalize wr = ws0 at *
                go_wp2_with fail
                go_loopw [14, 15] (fun u14 i wr => ∃ j : Nat, j ≤ N2 ∧ i = .int .i64 j ∧ u14 = .int .i64 (srchOf ws [88] (os.take j)) ∧ (∀ l ∈ os.take j, 1 ≤ l ∧ l ≤ (k : Int)) ∧ Fr0 ws0 wr) (fun _ i _ => N2 - (intOf i).toNat)
                case atStart => exact ⟨0, by omega, rfl, rfl, (fun l hl => by simp at hl), Fr.refl _ _⟩
                case round =>
                  obtain ⟨j, hj, rfl, rfl, hin, hfr⟩ := hrel
                  obtain ⟨want, hwant⟩ : ∃ want, srchOf ws [88] (os.take j) = want := ⟨_, rfl⟩
                  have HWANT := Lib.hid hwant
                  have HIN := Lib.hid hin
                  have HFJ := Lib.hid hfr
                  rw [hwant]
                  clear hwant hin hfr
                  by_cases hjN : j < N2
                  · have hjI : (j : Int) < (N2 : Int) := by omega
                    obtain ⟨b, off, x, rfl, hb, hx, hx64, hc⟩ := (HV2.out.fr0 (HFR.out.trans HFJ.out)).at_ (k := j) (by rw [HN2.out]; exact hjN)
                    obtain ⟨hx1, hx2⟩ := hx64
                    have htk : os.take (j + 1) = os.take j ++ [x] := by
                      have hjl : j < os.length := by rw [HN2.out]; exact hjN
                      rw [List.take_succ_eq_append_getElem hjl]
                      rw [List.getElem?_eq_getElem hjl] at hx
                      injection hx with hx
                      rw [hx]
                    have HTK := Lib.hid htk
                    clear hx htk
                    by_cases hxr : 1 ≤ x ∧ x ≤ (k : Int)
                    · obtain ⟨hxl, hxh⟩ := hxr
                      obtain ⟨y, rfl⟩ : ∃ y : Nat, x = y := ⟨x.toNat, by omega⟩
                      have hyI : (y : Int) < (k : Int) + 1 := by omega
                      have k0 := (HB.out.fr0 HFJ.out).cell y
                      rw [HC.out y (by omega)] at k0
                      by_cases hw0 : want = 0
                      · subst hw0
                        go_wp2_with fail
                        have hs1 := srchOf_snoc ws [88] (y : Int) (os.take j)
                        rw [HWANT.out, if_pos rfl, ← HTK.out] at hs1
                        refine ⟨⟨j + 1, by omega, by push_cast; rfl, by rw [hs1]; rfl, fun l hl => ?_, HFJ.out⟩, by simp [intOf]; omega⟩
                        rw [HTK.out, List.mem_append] at hl
                        rcases hl with h | h
                        · exact HIN.out l h
                        · obtain rfl := List.mem_singleton.1 h
                          exact ⟨hxl, hxh⟩
                      · have hq : (want == 0) = false := by simp; exact hw0
                        go_wp2_with fail
                        have hs1 := srchOf_snoc ws [88] (y : Int) (os.take j)
                        rw [HWANT.out, if_neg hw0, ← HTK.out] at hs1
                        refine ⟨⟨j + 1, by omega, by push_cast; rfl, by rw [hs1], fun l hl => ?_, HFJ.out⟩, by simp [intOf]; omega⟩
                        rw [HTK.out, List.mem_append] at hl
                        rcases hl with h | h
                        · exact HIN.out l h
                        · obtain rfl := List.mem_singleton.1 h
                          exact ⟨hxl, hxh⟩
                    · have hxc : x < 1 ∨ (1 ≤ x ∧ (k : Int) < x) := by omega
                      clear hxr
                      rcases hxc with h | ⟨h, h2⟩
                      all_goals
                        go_wp2_with (go_at_call 9; refine (HAW.out _).mono ?_; rintro e wz ⟨rfl, hfz⟩)
                        go_ret
                        exact ⟨rfl, (HFR.out.trans HFJ.out).trans hfz⟩
                  · obtain rfl : j = N2 := by omega
                    have hall : os.take j = os := by rw [← HN2.out, List.take_length]
                    have hin := HIN.out
                    rw [hall] at hin
                    have hov : ordV (k : Int) os = 0 := by
                      unfold ordV
                      rw [if_neg (by rw [HN2.out]; omega), if_neg]
                      rw [List.any_eq_true]
                      rintro ⟨l, hl, hl2⟩
                      have := hin l hl
                      simp [this] at hl2
                    have hwt := HWANT.out
                    rw [hall] at hwt
                    have hge := srchOf_ge ws [88] os
                    rw [hwt] at hge
                    have hso := SetOrder_nm (.slice A2 j cap2) os wr (HNM.out.fr0 HFJ.out) (HV2.out.fr0 (HFR.out.trans HFJ.out)).rd (by rw [HN2.out]; omega)
                    rw [hov] at hso
                    simp only [if_true] at hso
                    have HSO := Lib.hid hso
                    have HWT := Lib.hid hwt
                    have HOL := Lib.hid (show os.length ≤ 1000 by rw [HN2.out]; omega)
                    clear hso hwt hov hin hall
                    have hw0 : want = 0 ∨ (decide (want ≠ 0) = true ∧ 0 < want) := by
                      by_cases h : want = 0
                      · exact .inl h
                      · exact .inr ⟨decide_eq_true h, by omega⟩
                    rcases hw0 with rfl | ⟨hd, hp⟩
                    · go_wp2_with (first | (go_at_call 20; refine HSO.out.mono ?_; rintro e w2 ⟨rfl, hf2, ov', hN2⟩; have hsr := Search_nm [88] ⟨by decide, by decide⟩ w2 hN2 HOL.out; rw [HWT.out, show strOfNums [88] = ⟨#[88]⟩ from rfl, show decide ((0 : Int) ≠ 0) = false by decide] at hsr; have HSR := Lib.hid hsr; have HF2 := Lib.hid ((HFR.out.trans HFJ.out).then hf2 (fun q hq e => by have := HNM.out.lo.1; omega)); clear hf2 hN2 hsr) | (go_at_call 14; refine HSR.out.mono ?_; rintro e w3 ⟨rfl, hf3⟩; have HF3 := Lib.hid (HF2.out.trans hf3); clear hf3) | (go_at_call 9; refine (HAW.out _).mono ?_; rintro e wz ⟨rfl, hfz⟩))
                      go_ret
                      exact ⟨rfl, HF3.out.trans hfz⟩
                    · have HD := Lib.hid hd
                      clear hd
                      go_wp2_with (first | (go_at_call 20; refine HSO.out.mono ?_; rintro e w2 ⟨rfl, hf2, ov', hN2⟩; have hsr := Search_nm [88] ⟨by decide, by decide⟩ w2 hN2 HOL.out; rw [HWT.out, show strOfNums [88] = ⟨#[88]⟩ from rfl, HD.out] at hsr; have HSR := Lib.hid hsr; have HF2 := Lib.hid ((HFR.out.trans HFJ.out).then hf2 (fun q hq e => by have := HNM.out.lo.1; omega)); clear hf2 hN2 hsr) | (go_at_call 14; refine HSR.out.mono ?_; rintro e w3 ⟨rfl, hf3⟩; have HF3 := Lib.hid (HF2.out.trans hf3); clear hf3) | (go_at_call 9; refine (HAW.out _).mono ?_; rintro e wz ⟨rfl, hfz⟩))
                      go_ret
                      exact ⟨rfl, HF3.out.trans hfz⟩
  · have hc : lists < 1 ∨ (1 ≤ lists ∧ 12 < lists) ∨ (1 ≤ lists ∧ lists ≤ 12 ∧ 60 < xs.length) ∨ (1 ≤ lists ∧ lists ≤ 12 ∧ xs.length ≤ 60 ∧ 16 < os.length) := by omega
    obtain ⟨A1, cap1, rfl, _⟩ := h1
    obtain ⟨A2, cap2, rfl, _⟩ := h2
    generalize xs.length = len1 at *
    generalize os.length = len2 at *
    clear hg
    rcases hc with h | ⟨h, h2⟩ | ⟨h, h2, h3⟩ | ⟨h, h2, h3, h4⟩
    all_goals
      go_enter Try.func5, Try.ntmps5
      go_wp2_with (go_at_call 9; refine (HAW.out _).mono ?_; rintro e w1 ⟨rfl, hf1⟩)
      go_ret
      exact ⟨rfl, hf1⟩
end Go.Proofs.Ytmhjnbolngdijaa
