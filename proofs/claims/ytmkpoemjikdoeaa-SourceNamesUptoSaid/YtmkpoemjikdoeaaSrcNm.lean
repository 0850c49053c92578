/- The walk of SourceNames. -/
import Derived.Test.YtmkpoemjikdoeaaNmP
import Derived.Test.YtmkpoemjikdoeaaArgs
import Derived.Lib.AppendStr
namespace Go.Proofs.Ytmkpoemjikdoeaa
open Go Go.RowKit
set_option linter.unusedVariables false

/-- A slice of strings that came in: their bytes. -/
def RowT (w : World) (B : Nat) (sv : Value) (ns : List (List Int)) : Prop :=
  ∃ A cap, sv = .slice A ns.length cap ∧ (∀ nm ∈ ns, ∀ x ∈ nm, 0 ≤ x ∧ x ≤ 255) ∧ (0 < ns.length → ∃ b off, A = some ⟨b, off, none⟩ ∧ b < B ∧ ∀ j nm, ns[j]? = some nm → w.cell? ⟨b, off + j, none⟩ = some (.string (strOfNums nm)))
section
variable {w w' : World} {B : Nat} {sv : Value} {ns : List (List Int)}
theorem RowT.below (h : RowT w B sv ns) (hb : Below B w w') : RowT w' B sv ns := by
  obtain ⟨A, cap, e, h1, h2⟩ := h
  refine ⟨A, cap, e, h1, fun hn => ?_⟩
  obtain ⟨b, off, e, hb', hc⟩ := h2 hn
  exact ⟨b, off, e, hb', fun j nm hx => (hb.cell (p := ⟨b, off + j, none⟩) hb').trans (hc j nm hx)⟩
theorem RowT.at_ {A : Option Addr} {n cap : Nat} (h : RowT w B (.slice A n cap) ns) {k : Nat} (hk : k < ns.length) : ∃ b off nm, A = some ⟨b, off, none⟩ ∧ b < B ∧ ns[k]? = some nm ∧ (∀ x ∈ nm, 0 ≤ x ∧ x ≤ 255) ∧ w.cell? ⟨b, off + k, none⟩ = some (.string (strOfNums nm)) := by
  obtain ⟨A', cap', e, h1, h2⟩ := h
  injection e with e1 e2 e3
  subst e1
  obtain ⟨b, off, e, hb, hc⟩ := h2 (by omega)
  exact ⟨b, off, ns[k], e, hb, List.getElem?_eq_getElem hk, h1 _ (List.getElem_mem hk), hc k _ (List.getElem?_eq_getElem hk)⟩
end
theorem strCells_nums {l : List Int} (h : ∀ x ∈ l, 0 ≤ x ∧ x ≤ 255) : Lib.strCells (strOfNums l) = l.map (Value.int .u8) := by
  unfold Lib.strCells
  rw [strOfNums_data, List.map_map]
  refine List.map_congr_left fun x hx => ?_
  have := h x hx
  simp
  omega
theorem lineN_bytes {ns : List (List Int)} (bl : List Int) (h : ∀ nm ∈ ns, ∀ x ∈ nm, 0 ≤ x ∧ x ≤ 255) : ∀ i, Bytes (lineN ns bl i)
  | 0 => fun x hx => by cases hx
  | i + 1 => by
    refine (lineN_bytes bl h i).append fun x hx => ?_
    rcases List.mem_cons.1 hx with rfl | hx
    · omega
    · rcases List.mem_append.1 hx with hx | hx
      · have := blankL_le hx
        omega
      · rw [List.getD_eq_getElem?_getD] at hx
        cases hn : ns[i]? with
        | none => rw [hn] at hx; cases hx
        | some nm =>
          rw [hn] at hx
          exact h nm (List.mem_of_getElem? hn) x hx
theorem lineN_len {ns : List (List Int)} (bl : List Int) (h : ∀ nm ∈ ns, nm.length ≤ 1048576) : ∀ i, (lineN ns bl i).length ≤ i * 1048600
  | 0 => Nat.le_refl _
  | i + 1 => by
    have := lineN_len bl h i
    have h2 := cntB_le bl i
    have h3 : (ns.getD i []).length ≤ 1048576 := by
      rw [List.getD_eq_getElem?_getD]
      cases hn : ns[i]? with
      | none => simp
      | some nm => exact h nm (List.mem_of_getElem? hn)
    rw [lineN, List.length_append, segN_len]
    omega
theorem findP_end (P : Int → Bool) (L : List Int) : findP P L L.length = L.length := findP_miss (Nat.le_refl _) fun j y h => by
  rw [List.getElem?_eq_none (by omega)] at h
  cases h
theorem inn_end (ns : List (List Int)) (bl : List Int) : innN ns bl ns.length ns.length = (lineN ns bl ns.length).length := by
  cases h : ns.length with
  | zero => rfl
  | succ n =>
    rw [innN]
    unfold nextP
    rw [if_neg (by omega)]
theorem info8p : (Try.prog.info? 5).map (fun i => (i.zero, i.size, i.bytes)) = some (some (.int .u8 0), 1, 1) := by kernel_rfl
theorem strIdx {l : List Int} {q : Nat} {x : Int} (hx : l[q]? = some x) (h0 : 0 ≤ x ∧ x ≤ 255) (h : q < (strOfNums l).size) : ((strOfNums l)[q]'h).toNat = x.toNat := by
  have hq : q < l.length := (List.getElem?_eq_some_iff.1 hx).1
  have e : l[q] = x := by
    rw [List.getElem?_eq_getElem hq] at hx
    injection hx
  have h2 : q < ((l.map fun n => UInt8.ofNat n.toNat).toArray).size := by simpa using hq
  show (((l.map fun n => UInt8.ofNat n.toNat).toArray)[q]'h2).toNat = _
  rw [List.getElem_toArray, List.getElem_map, e]
  simp
  omega
/-- What lies between two places of the line. -/
theorem line_sub (bs L : List Int) (hl : bs.length = 16384) (hL : (bs.drop 256).take L.length = L) (hn : L.length ≤ 1024) (s n : Nat) (hs : s + n ≤ L.length) :
    bytesV bs (65792 + (s : Int)) (n : Int) = (L.drop s).take n ∧ reachT bs.length (65792 + (s : Int)) (n : Int) 0 = 0 := by
  have hr : reachT bs.length (65792 + (s : Int)) (n : Int) 0 = 0 := by
    unfold reachT
    rw [if_neg (by omega)]
    split
    · rfl
    · rw [if_pos ⟨by omega, by omega⟩]
  refine ⟨?_, hr⟩
  unfold bytesV
  rw [if_pos hr, show (65792 + (s : Int) - 65536).toNat = 256 + s by omega, Int.toNat_natCast]
  have h2 : (List.drop s ((bs.drop 256).take L.length)).take n = (List.drop s L).take n := by rw [hL]
  rw [← h2, List.drop_take, List.drop_drop, List.take_take, Nat.min_eq_left (by omega)]

set_option maxRecDepth 100000 in
set_option maxHeartbeats 8000000 in
theorem names_walk (sv : Value) (ns : List (List Int)) (dv : Value) (bl : List Int) (w : World) (hs : RowT w w.heap.size sv ns) (hsz : ∀ nm ∈ ns, nm.length ≤ 1048576) (hd : RowI w w.heap.size dv bl) :
    Calls Try.prog 3 #[sv, dv] w fun e w' => e = .returned (.bool true) ∧ Fr0 w w' := by
  have HAW := Lib.hid (fun W => awake17 W)
  by_cases hg : ns.length ≤ 100 ∧ bl.length ≤ 100
  · obtain ⟨hz, hm⟩ := hg
    have HSV := Lib.hid hs
    have HDV := Lib.hid hd
    have HSZ := Lib.hid hsz
    have HBY := Lib.hid (show ∀ nm ∈ ns, ∀ x ∈ nm, 0 ≤ x ∧ x ≤ 255 by obtain ⟨_, _, _, h, _⟩ := hs; exact h)
    obtain ⟨A, cap, rfl, _⟩ := hs
    obtain ⟨A2, cap2, rfl, _⟩ := hd
    obtain ⟨N, hN⟩ : ∃ N, ns.length = N := ⟨_, rfl⟩
    have HN := Lib.hid hN
    obtain ⟨M, hM⟩ : ∃ M, bl.length = M := ⟨_, rfl⟩
    have HM := Lib.hid hM
    rw [hN] at HSV hz ⊢
    rw [hM] at HDV hm ⊢
    obtain ⟨i0, hi, hz0, hz1, hz2⟩ := info_parts info8p
    have HI := Lib.hid hi
    have HZ := Lib.hid (And.intro hz0 (And.intro hz1 hz2))
    clear hN hM hsz hi hz0 hz1 hz2
    go_enter Try.func3, Try.ntmps3
    go_wp2_with fail
    go_loopw [5, 6] (fun v i wr => ∃ k : Nat, k ≤ N ∧ i = .int .i64 k ∧ Own8 wr w.heap.size v (lineN ns bl k) ∧ Fr0 w wr ∧ (∀ j nm, j < k → ns[j]? = some nm → nm ≠ [] ∧ ∀ x ∈ nm, 32 < x)) (fun _ i _ => N - (intOf i).toNat)
    case atStart => exact ⟨0, by omega, rfl, World.ownsRow_nil _ _ _ _, Fr.refl _ _, fun j nm h => by omega⟩
    case round =>
      obtain ⟨k, hk, rfl, ho, hfr, hgd⟩ := hrel
      by_cases hkN : k < N
      · have hkI : (k : Int) < (N : Int) := by omega
        obtain ⟨b, off, nm, rfl, hb, hnm, hnb, hc⟩ := (HSV.out.below hfr.below0).at_ (k := k) (by rw [HN.out]; exact hkN)
        have hsize : (strOfNums nm).size = nm.length := strOfNums_size nm
        have hnl := HSZ.out nm (List.mem_of_getElem? hnm)
        obtain ⟨nl, hnle⟩ : ∃ nl, nm.length = nl := ⟨_, rfl⟩
        rw [hnle] at hsize hnl
        have HO := Lib.hid ho
        have HFR := Lib.hid hfr
        have HGD := Lib.hid hgd
        have HNM := Lib.hid hnm
        have HNB := Lib.hid hnb
        have HNL := Lib.hid hnle
        clear ho hfr hgd hnm hnb hnle
        by_cases hn0 : nl = 0
        · subst hn0
          go_wp2_with (go_at_call 7; refine (HAW.out _).mono ?_; rintro e wz ⟨rfl, hfz⟩)
          go_ret
          exact ⟨rfl, HFR.out.trans hfz⟩
        · have hn0I : ¬ ((nl : Int) = 0) := by omega
          go_wp2_with fail
          go_loopw [7] (fun u wr' => ∃ q : Nat, q ≤ nl ∧ u = .int .i64 q ∧ wr = wr' ∧ ∀ j x, j < q → nm[j]? = some x → 32 < x) (fun u _ => nl - (intOf u).toNat)
          case atStart => exact ⟨0, by omega, rfl, rfl, fun j x h => by omega⟩
          case round =>
            obtain ⟨q, hq, rfl, rfl, hgq⟩ := hrel
            by_cases hqn : q < nl
            · have hqI : (q : Int) < (nl : Int) := by omega
              obtain ⟨x, hx⟩ : ∃ x, nm[q]? = some x := ⟨_, List.getElem?_eq_getElem (by rw [HNL.out]; exact hqn)⟩
              have hx0 := HNB.out x (List.mem_of_getElem? hx)
              obtain ⟨xn, rfl⟩ : ∃ xn : Nat, x = (xn : Int) := ⟨x.toNat, by omega⟩
              have hgx := strIdx hx hx0 (by rw [hsize]; exact hqn)
              rw [Int.toNat_natCast] at hgx
              have HX := Lib.hid hx
              have HGQ := Lib.hid hgq
              clear hgq hx
              by_cases hxl : (xn : Int) ≤ 32
              · go_wp2_with (go_at_call 7; refine (HAW.out _).mono ?_; rintro e wz ⟨rfl, hfz⟩)
                go_ret
                exact ⟨rfl, HFR.out.trans hfz⟩
              · have hxl' : (32 : Int) < (xn : Int) := by omega
                go_wp2_with fail
                exact ⟨⟨q + 1, by omega, by push_cast; rfl, trivial, fun j y hj hy => by
                  rcases Nat.lt_or_ge j q with h | h
                  · exact HGQ.out j y h hy
                  · obtain rfl : j = q := by omega
                    rw [HX.out] at hy
                    injection hy with hy
                    omega⟩, by simp [intOf]; omega⟩
            · obtain rfl : q = nl := by omega
              have HG2 := Lib.hid (show nm ≠ [] ∧ ∀ x ∈ nm, 32 < x from ⟨fun e => hn0 (by rw [← HNL.out, e]; rfl), fun x hx => by
                obtain ⟨j, hj⟩ := List.getElem?_of_mem hx
                exact hgq j x (by rw [← HNL.out]; exact (List.getElem?_eq_some_iff.1 hj).1) hj⟩)
              have HLL := Lib.hid (lineN_len bl HSZ.out k)
              clear hgq
              go_wp2_with (at_builtin; refine wpList_append8 rfl (.tmp 56) (.tmp 57) rfl rfl rfl rfl (HO.out.fr ((Fr.refl (fun _ => False) _).alloc _) (fun _ _ x => x)) (Row8.new _ _ [32] (by intro x hx; simp at hx; omega) (by simp)) (by have := HFR.out.size; simp; omega) (by have := HLL.out; simp; omega) ?_; intro v6 w6 ho6 hg6 hk6; have HO6 := Lib.hid ho6; have HF6 := Lib.hid (((HFR.out.alloc _).grown hg6 (fun j hj => .inr (own_lo HO.out j hj).1))); clear ho6 hg6 hk6)
              obtain ⟨cnt, hcnt⟩ : ∃ cnt, cntB bl k = cnt := ⟨_, rfl⟩
              have hcl : cnt ≤ 5 := by rw [← hcnt]; exact cntB_le bl k
              have HCNT := Lib.hid hcnt
              go_loopw [5, 8] (fun v u wr' => ∃ q8 : Nat, q8 ≤ cnt ∧ u = .int .i64 q8 ∧ Own8 wr' w.heap.size v (lineN ns bl k ++ 32 :: blankL q8) ∧ Fr0 w wr') (fun _ u _ => cnt - (intOf u).toNat)
              case atStart => exact ⟨0, by omega, rfl, HO6.out, HF6.out⟩
              case round =>
                obtain ⟨q8, hq8, rfl, ho8, hfr8⟩ := hrel
                have hcase : (q8 < cnt ∧ q8 < 5 ∧ ∃ bb db doff, A2 = some ⟨db, doff, none⟩ ∧ wr.cell? ⟨db, doff + k, none⟩ = some (.int .i64 bb) ∧ (k : Int) < (M : Int) ∧ (q8 : Int) < bb) ∨ (q8 = cnt ∧ ((M : Int) ≤ (k : Int) ∨ (∃ bb db doff, A2 = some ⟨db, doff, none⟩ ∧ wr.cell? ⟨db, doff + k, none⟩ = some (.int .i64 bb) ∧ (k : Int) < (M : Int) ∧ (bb ≤ (q8 : Int) ∨ ((q8 : Int) < bb ∧ (5 : Int) ≤ (q8 : Int)))))) := by
                  have hc := HCNT.out
                  unfold cntB at hc
                  rcases Nat.lt_or_ge k M with h | h
                  · obtain ⟨db, doff, bb, hA, hdb, hbb, _, hcell⟩ := (HDV.out.below hfr8.below0).at_ (k := k) (by rw [HM.out]; exact h)
                    rw [hbb] at hc
                    dsimp only at hc
                    by_cases h5 : bb < 5
                    · rw [if_pos h5] at hc
                      rcases Nat.lt_or_ge q8 cnt with h1 | h1
                      · exact .inl ⟨h1, by omega, bb, db, doff, hA, hcell, by omega, by omega⟩
                      · exact .inr ⟨by omega, .inr ⟨bb, db, doff, hA, hcell, by omega, .inl (by omega)⟩⟩
                    · rw [if_neg h5] at hc
                      rcases Nat.lt_or_ge q8 cnt with h1 | h1
                      · exact .inl ⟨h1, by omega, bb, db, doff, hA, hcell, by omega, by omega⟩
                      · rcases (show bb ≤ (q8 : Int) ∨ (q8 : Int) < bb by omega) with h2 | h2
                        · exact .inr ⟨by omega, .inr ⟨bb, db, doff, hA, hcell, by omega, .inl h2⟩⟩
                        · exact .inr ⟨by omega, .inr ⟨bb, db, doff, hA, hcell, by omega, .inr ⟨h2, by omega⟩⟩⟩
                  · rw [List.getElem?_eq_none (by rw [HM.out]; exact h)] at hc
                    exact .inr ⟨by dsimp only at hc; omega, .inl (by omega)⟩
                have HO8 := Lib.hid ho8
                have HFR8 := Lib.hid hfr8
                clear ho8 hfr8
                rcases hcase with ⟨hqc, hq5, bb, db, doff, rfl, hcell, hkM, hqb⟩ | ⟨hqc, hcase⟩
                · rcases (show q8 = 0 ∨ q8 = 1 ∨ q8 = 2 ∨ q8 = 3 ∨ q8 = 4 by omega) with rfl | rfl | rfl | rfl | rfl
                  all_goals
                    go_wp2_with (at_builtin; (first | refine wpList_append8 (zs := [32]) rfl (.tmp 77) (.tmp 87) rfl rfl rfl rfl (HO8.out.fr ((Fr.refl (fun _ => False) _).alloc _) (fun _ _ x => x)) (Row8.new _ _ [32] (by intro x hx; simp at hx; omega) (by simp)) (by have := HFR8.out.size; simp; omega) (by have := HLL.out; simp [blankL]; omega) ?_ | refine wpList_append8 (zs := [9]) rfl (.tmp 77) (.tmp 87) rfl rfl rfl rfl (HO8.out.fr ((Fr.refl (fun _ => False) _).alloc _) (fun _ _ x => x)) (Row8.new _ _ [9] (by intro x hx; simp at hx; omega) (by simp)) (by have := HFR8.out.size; simp; omega) (by have := HLL.out; simp [blankL]; omega) ?_); intro v9 w9 ho9 hg9 hk9; have HO9 := Lib.hid ho9; have HF9 := Lib.hid (((HFR8.out.alloc _).grown hg9 (fun j hj => .inr (own_lo HO8.out j hj).1))); clear ho9 hg9 hk9)
                    have ho9 := HO9.out
                    rw [List.append_assoc] at ho9
                    exact ⟨⟨_, hqc, rfl, ho9, HF9.out⟩, by simp [intOf]; omega⟩
                · have hcn := (HFR8.out.cell (p := ⟨b, off + k, none⟩) hb (fun x => x)).trans ((HFR.out.cell (p := ⟨b, off + k, none⟩) hb (fun x => x)).symm.trans hc)
                  rcases hcase with h | ⟨bb, db, doff, rfl, hcell, hkM, h | ⟨h, h5⟩⟩
                  all_goals
                    have s1 : (lineN ns bl k ++ 32 :: blankL q8).length + (strOfNums nm).size ≤ 140737488355328 := by
                      have h1 := HLL.out
                      rw [List.length_append, List.length_cons, blankL_len, hsize]
                      omega
                    have s2 : (lineN ns bl k ++ 32 :: blankL q8).length + (strOfNums nm).size ≤ maxLen := Nat.le_trans s1 (by unfold maxLen; omega)
                    have s3 := HFR8.out.size
                    have S1 := Lib.hid s1
                    have S2 := Lib.hid s2
                    have S3 := Lib.hid s3
                    clear s1 s2 s3
                    go_wp2_with (at_builtin; refine Lib.wpList_append_own_string _ rfl (.tmp 89) (.tmp 93) 25 9 rfl w.heap.size 5 i0 Try.underlying25 Try.underlying9 HI.out HZ.out.1 HZ.out.2.1 HZ.out.2.2 _ _ _ rfl HO8.out (strOfNums nm) rfl S2.out S1.out S3.out ?_; intro v9 w9 ho9 hg9 hk9; have HO9 := Lib.hid ho9; have HF9 := Lib.hid (HFR8.out.grown hg9 (fun j hj => .inr (own_lo HO8.out j hj).1)); clear ho9 hg9 hk9)
                    have e : lineN ns bl (k + 1) = (lineN ns bl k ++ 32 :: blankL q8) ++ nm := by
                      rw [lineN, List.getD_eq_getElem?_getD, HNM.out, Option.getD_some, segN, HCNT.out, ← hqc, List.append_assoc, List.cons_append]
                    have ho : Own8 w9 w.heap.size v9 (lineN ns bl (k + 1)) := by
                      have := HO9.out
                      rw [hsize, ← HNL.out, strCells_nums HNB.out] at this
                      rw [e]
                      unfold Own8
                      rw [List.length_append (bs := nm), List.map_append (l₂ := nm)]
                      exact this
                    exact ⟨⟨k + 1, by omega, by push_cast; rfl, ho, HF9.out, fun j nm' hj hx => by
                      rcases Nat.lt_or_ge j k with h' | h'
                      · exact HGD.out j nm' h' hx
                      · obtain rfl : j = k := by omega
                        rw [HNM.out] at hx
                        injection hx with hx
                        rw [← hx]
                        exact HG2.out⟩, by simp [intOf]; omega⟩
      · obtain rfl : k = N := by omega
        have HG := Lib.hid (show ∀ nm ∈ ns, nm ≠ [] ∧ ∀ x ∈ nm, 32 < x from fun nm hx => by
          obtain ⟨j, hj⟩ := List.getElem?_of_mem hx
          exact hgd j nm (by rw [← HN.out]; exact (List.getElem?_eq_some_iff.1 hj).1) hj)
        have HLB := Lib.hid (lineN_bytes bl HBY.out k)
        have hll := lineN_len bl HSZ.out k
        obtain ⟨A5, cp5, rfl⟩ := own8_form ho
        have hrow := ho.row HLB.out (by omega)
        obtain ⟨L, hL⟩ : ∃ L, lineN ns bl k = L := ⟨_, rfl⟩
        have HLL := Lib.hid hL
        rw [hL] at hll hrow ⊢
        obtain ⟨len, hlen⟩ : ∃ len, L.length = len := ⟨_, rfl⟩
        have HLEN := Lib.hid hlen
        rw [hlen] at hll hrow ⊢
        have HRW := Lib.hid hrow
        have HFR := Lib.hid hfr
        have HB := Lib.hid (begun_any wr)
        clear ho hrow hfr hgd hL hlen
        by_cases hl1 : len ≤ 1024
        · go_wp2_with (first | (go_at_call 8; refine HB.out.mono ?_; rintro e w1 ⟨x, p, c, g, q, v, bs, rfl, hf1, hx1, hs1, l1, l2, l3, l4⟩; obtain ⟨t0, t1, t2, t3⟩ := two_cells hx1; have HX1 := Lib.hid hx1; have HS1 := Lib.hid hs1; have HF1 := Lib.hid hf1; have HLAY := Lib.hid (Lay_any _ L w1 hs1 wr.heap.size (HRW.out.fr hf1 (Nat.le_refl _) (fun _ _ x => x)) hf1.size (by rw [HLEN.out]; exact hl1)); clear hx1 hs1 hf1) | (go_at_call 9; refine HLAY.out.mono ?_; rintro e w2 ⟨rfl, hf2, bs2, hs2⟩; have hl17 : L17 wr.heap.size w2 x c p g q v bs2 L 0 0 := ⟨HX1.out.fr hf2 (fun e => e.elim (HX1.out.ne_ HS1.out.obj (by decide)) (HX1.out.ne_ HS1.out.sp.row (by decide))), hs2, l1, l3, l2, l4⟩; have HL17 := Lib.hid hl17; have HF2 := Lib.hid (HFR.out.trans (HF1.out.then hf2 (fun k hk e => by omega))); clear hl17 hs2 hf2))
          go_loopw [10] (fun i wr2 => ∃ (t : Nat) (bs : List Int), t ≤ k ∧ i = .int .i64 t ∧ L17 wr.heap.size wr2 x c p g q v bs L (innN ns bl k t) 0 ∧ Fr0 w wr2) (fun i _ => k - (intOf i).toNat)
          case atStart => exact ⟨0, bs2, by omega, rfl, HL17.out, HF2.out⟩
          case round =>
            obtain ⟨t, bst, ht, rfl, hl, hfr⟩ := hrel
            by_cases htk : t < k
            · have htI : (t : Int) < (k : Int) := by omega
              obtain ⟨nb, noff, nm, rfl, hnb, hnm, hnby, hcn⟩ := (HSV.out.below hfr.below0).at_ (k := t) (by rw [HN.out]; exact htk)
              obtain ⟨s, hs1', hs2', hs3', hs4', hs5'⟩ := line_name ns bl HG.out hnm
              rw [HN.out] at hs1' hs2' hs3' hs5'
              rw [HLL.out] at hs1' hs2' hs3' hs5'
              rw [HLEN.out] at hs5'
              have hNM := Name_src wr hl.src
              rw [hs1', hs2'] at hNM
              rw [show ((s + nm.length : Nat) : Int) - (s : Int) = (nm.length : Int) by omega] at hNM
              have hin : nextP L.length (s + nm.length) = innN ns bl k (t + 1) := by rw [innN, HLL.out, hs4']
              rw [hin] at hNM
              obtain ⟨q0, q1⟩ := hl.cells
              have hlb := fun bs' (hb : (bs'.drop 256).take L.length = L) (hlen' : bs'.length = 16384) => line_sub bs' L hlen' hb hl.src.nle s nm.length (by rw [HLEN.out]; exact hs5')
              rw [hs3'] at hlb
              obtain ⟨nl, hnle⟩ : ∃ nl, nm.length = nl := ⟨_, rfl⟩
              rw [hnle] at hNM hlb hs5'
              have HBY2 := Lib.hid (fun W bs' (hW : Src W c p g bs' L (innN ns bl k (t + 1)) 0) => Bytes_any (65792 + (s : Int)) (nl : Int) W hW.sp ⟨by omega, by omega⟩ ⟨by omega, by omega⟩)
              have HLB2 := Lib.hid hlb
              have HNM := Lib.hid hNM
              have HL := Lib.hid hl
              have HFR2 := Lib.hid hfr
              have HNL := Lib.hid hnle
              have HNBY := Lib.hid hnby
              clear hNM hl hfr hlb hs1' hs2' hs3' hs4' hin hnm hnle hnby
              go_wp2_with (first | (go_at_call 10; refine HNM.out.mono ?_; rintro e w5 ⟨rfl, hf5, bs', hs5⟩; have HL5 := Lib.hid (HL.out.step hf5 hs5).1; have HF5 := Lib.hid (HFR2.out.then (HL.out.step hf5 hs5).2 (fun j hj e => by have := HFR.out.size; omega)); obtain ⟨p0, p1⟩ := HL5.out.cells; clear hf5 hs5) | (go_at_call 11; refine (HBY2.out _ _ HL5.out.src).mono ?_; rintro e w6 ⟨_, rfl, u, rfl, hou, hf6⟩; rw [(HLB2.out _ HL5.out.src.line HL5.out.src.len).1] at hou; rw [(HLB2.out _ HL5.out.src.line HL5.out.src.len).2]; have hru := hou.row HNBY.out (by rw [HNL.out]; omega); have HRU := Lib.hid hru; have HL6 := Lib.hid (HL5.out.fr0 hf6); have HF6 := Lib.hid (HF5.out.trans hf6); clear hf6 hou hru))
              have hcu := (HRU.out.fr ((Fr.refl (fun _ => False) w6).drew) (Nat.le_refl _) (fun _ _ x => x)).conv
              have hcn6 : w6.cell? ⟨nb, noff + t, none⟩ = some (.string (strOfNums nm)) := (HF6.out.cell (p := ⟨nb, noff + t, none⟩) hnb (fun x => x)).trans ((HFR2.out.cell (p := ⟨nb, noff + t, none⟩) hnb (fun x => x)).symm.trans hcn)
              go_region_held3 (fun V => (convert 25 9 u).run Try.prog V = .ok (.string (strOfNums nm)) V ∧ V.cell? ⟨nb, noff + t, none⟩ = some (.string (strOfNums nm))) (exact ⟨hcu, hcn6⟩) (fail)
              go_wp2_with fail
              exact ⟨⟨t + 1, bs', by omega, by push_cast; rfl, HL6.out.fr0 ((Fr.refl _ w6).drew), HF6.out.drew⟩, by simp [intOf]; omega⟩
            · obtain rfl : t = k := by omega
              have hie := inn_end ns bl
              rw [HN.out, HLL.out] at hie
              rw [hie] at hl
              have hNM := Name_src wr hl.src
              rw [show skipP 32 L L.length = L.length from findP_end _ L, show wordP 32 L L.length = L.length by unfold wordP; rw [show skipP 32 L L.length = L.length from findP_end _ L]; exact findP_end _ L, Int.sub_self] at hNM
              have HNM := Lib.hid hNM
              obtain ⟨q0, q1⟩ := hl.cells
              have HL := Lib.hid hl
              have HFR2 := Lib.hid hfr
              clear hNM hl hfr hie
              go_wp2_with (first | (go_at_call 10; refine HNM.out.mono ?_; rintro e w5 ⟨rfl, hf5, bs', hs5⟩; have HF5 := Lib.hid (HFR2.out.then (HL.out.step hf5 hs5).2 (fun j hj e => by have := HFR.out.size; omega)); clear hf5 hs5) | (go_at_call 7; refine (HAW.out _).mono ?_; rintro e wz ⟨rfl, hfz⟩))
              go_ret
              exact ⟨rfl, HF5.out.trans hfz⟩
        · have hl2 : (1024 : Int) < (len : Int) := by omega
          go_wp2_with (go_at_call 7; refine (HAW.out _).mono ?_; rintro e wz ⟨rfl, hfz⟩)
          go_ret
          exact ⟨rfl, HFR.out.trans hfz⟩
  · have hc : 100 < ns.length ∨ (ns.length ≤ 100 ∧ 100 < bl.length) := by omega
    obtain ⟨A, cap, rfl, _⟩ := hs
    obtain ⟨A2, cap2, rfl, _⟩ := hd
    generalize ns.length = len at *
    generalize bl.length = len2 at *
    clear hg hsz
    rcases hc with h | ⟨h, h2⟩
    all_goals
      go_enter Try.func3, Try.ntmps3
      go_wp2_with (go_at_call 7; refine (HAW.out _).mono ?_; rintro e w1 ⟨rfl, hf1⟩)
      go_ret
      exact ⟨rfl, hf1⟩
end Go.Proofs.Ytmkpoemjikdoeaa
