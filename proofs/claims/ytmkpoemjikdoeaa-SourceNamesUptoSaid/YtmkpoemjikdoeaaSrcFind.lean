/- The program's source: delimiters, find. -/
import Derived.Test.YtmkpoemjikdoeaaSrc
import Derived.IntWalk
namespace Go.Proofs.Ytmkpoemjikdoeaa
open Go Go.RowKit
set_option linter.unusedVariables false

set_option maxHeartbeats 400000 in
theorem delimits_any (d : Int) (w : World) :
    Calls Try.prog 33 #[.int .i64 d] w fun e w' => e = .returned (.func (.func 42) #[] #[.pointer (some ⟨w.heap.size, 0, none⟩)]) ∧ w.alloc (.cells #[.int .u8 (IntKind.u8.wrap d)] 5) = w' := by
  go_enter Try.func33, Try.ntmps33
  go_wp2
  go_ret
  exact ⟨rfl, rfl⟩

set_option maxHeartbeats 1000000 in
theorem delimits1_any (d b : Int) (x : Nat) (w : World) (hx : Blk w x 5 #[.int .u8 d]) :
    Calls Try.prog 42 #[.int .u8 b, .pointer (some ⟨x, 0, none⟩)] w fun e w' => e = .returned (.bool (isD d b)) ∧ w = w' := by
  have h0 := hx.cell 0
  simp at h0
  clear hx
  have HI := Lib.hid (show isD d b = (b == d || (d == 32 && decide (b < 32))) from rfl)
  rw [HI.out]
  cases e1 : (b == d)
  · cases e2 : (d == 32)
    · go_enter Try.func42, Try.ntmps42
      go_wp2
      go_ret
      exact ⟨rfl, rfl⟩
    · go_enter Try.func42, Try.ntmps42
      go_wp2
      go_ret
      exact ⟨by simp, rfl⟩
  · go_enter Try.func42, Try.ntmps42
    go_wp2
    go_ret
    exact ⟨rfl, rfl⟩

set_option maxHeartbeats 1000000 in
theorem Skip1_any (d b : Int) (x y : Nat) (w : World) (hx : Blk w x 5 #[.int .u8 d]) (hy : Blk w y 77 #[.func (.func 42) #[] #[.pointer (some ⟨x, 0, none⟩)]]) :
    Calls Try.prog 35 #[.int .u8 b, .pointer (some ⟨y, 0, none⟩)] w fun e w' => e = .returned (.bool (!isD d b)) ∧ w = w' := by
  have h0 := hy.cell 0
  simp at h0
  have HD := Lib.hid (delimits1_any d b x w hx)
  clear hx hy
  generalize isD d b = r at *
  go_enter Try.func35, Try.ntmps35
  go_wp2_with (go_at_call 42; refine HD.out.mono ?_; rintro e w' ⟨rfl, rfl⟩)
  go_ret
  exact ⟨rfl, rfl⟩

theorem own8_form {w : World} {base : Nat} {v : Value} {zs : List Int} (h : Own8 w base v zs) : ∃ A cap, v = .slice A zs.length cap := by
  rcases h.2 with ⟨rfl, hn⟩ | ⟨g, cap, cur, rfl, _⟩
  · exact ⟨none, 0, by rw [hn]⟩
  · exact ⟨_, cap, rfl⟩

section
variable {w w' : World} {c p g : Nat} {bs L : List Int} {inn : Nat} {vi : Int}

set_option maxRecDepth 100000 in
set_option maxHeartbeats 4000000 in
theorem find_del (P : Int → Bool) (i y : Nat) (w : World) (h : Src w c p g bs L inn vi) (hi : i ≤ L.length)
    (hIs : ∀ W, Fr0 w W → ∀ b, Calls Try.prog 42 #[.int .u8 b, .pointer (some ⟨y, 0, none⟩)] W fun e w' => e = .returned (.bool (P b)) ∧ W = w') :
    Calls Try.prog 34 #[.pointer (some ⟨c, 0, none⟩), .int .i64 i, .func (.func 42) #[] #[.pointer (some ⟨y, 0, none⟩)]] w fun e w' => e = .returned (.int .i64 (findP P L i)) ∧ Fr0 w w' := by
  obtain ⟨h0, h1, h2, h3, _⟩ := h.cells
  have HIN := Lib.hid (inside_src w h)
  obtain ⟨lb1, lb2⟩ := line_bytes bs L h.len h.line h.nle i hi
  have hB := fun W (hW : Fr0 w W) => Bytes_any (65792 + (i : Int)) ((L.length : Int) - i) W (h.sp.fr0 hW) ⟨by omega, by have := h.nle; omega⟩ ⟨by omega, by have := h.nle; omega⟩
  rw [lb1, lb2] at hB
  have HB := Lib.hid hB
  have HIS := Lib.hid hIs
  have hcl := h.obj.lt
  have hn := h.nle
  have hLb := h.byt
  have HLB := Lib.hid hLb
  have hmiss := fun hk => findP_miss (P := P) (L := L) (i := i) hi hk
  have hhit := fun k x hk hx hP => findP_hit (P := P) (L := L) (i := i) (k := k) (x := x) hk hx hP
  have HMISS := Lib.hid hmiss
  have HHIT := Lib.hid hhit
  clear hB hIs hLb lb1 lb2 hmiss hhit h
  obtain ⟨n, hnn⟩ : ∃ n, L.length = n := ⟨_, rfl⟩
  have HNN := Lib.hid hnn
  rw [hnn] at HIN HB hn hi h3
  clear hnn
  by_cases hlt : i < n
  · have hltI : (i : Int) < (n : Int) := by omega
    have x1 : IntKind.i64.wrap (65792 + (i : Int)) = 65792 + (i : Int) := IntWalk.i64_in _ (by omega)
    have x2 : IntKind.i64.wrap ((n : Int) - (i : Int)) = (n : Int) - (i : Int) := IntWalk.i64_in _ (by omega)
    obtain ⟨M, hM⟩ : ∃ M, L.drop i = M := ⟨_, rfl⟩
    have hMl : M.length + i = n := by rw [← hM, ← HNN.out]; simp; have := HNN.out; omega
    have hMk : ∀ k, L[i + k]? = M[k]? := fun k => by rw [← hM, List.getElem?_drop]
    have hMb : Bytes M := by rw [← hM]; exact HLB.out.drop _
    rw [hM] at HB
    have HMK := Lib.hid hMk
    have HMB := Lib.hid hMb
    clear hM hMk hMb
    obtain ⟨m, hm⟩ : ∃ m, M.length = m := ⟨_, rfl⟩
    have HML := Lib.hid hm
    rw [hm] at hMl
    have HIM := Lib.hid hMl
    have hml : m ≤ 1024 := by omega
    clear hm hMl
    go_enter Try.func34, Try.ntmps34
    go_wp2_with (go_at_call 29; refine HIN.out.mono ?_; rintro e w1 ⟨rfl, q, rfl⟩)
    go_region_held3 (fun W => W.cell? ⟨c, 0, none⟩ = some (.pointer (some ⟨p, 0, none⟩)) ∧ W.cell? ⟨c, 2, none⟩ = some (.int .i64 65792)) (first | exact ⟨h0, h2⟩ | exact ⟨e0, e2⟩) ((go_at_call 11; refine (HB.out _ ((Fr.refl _ w).drewN _).drew).mono ?_; rintro e w2 ⟨_, rfl, u, rfl, hou, hf2'⟩; have HOU := Lib.hid hou; obtain ⟨A5, cp5, rfl⟩ := own8_form hou; clear hou; have hf2 : Fr0 w w2 := (((Fr.refl _ w).drewN _).drew).trans hf2'; have e0 := (hf2.cell (p := ⟨c, 0, none⟩) hcl (fun x => x)).trans h0; have e2 := (hf2.cell (p := ⟨c, 2, none⟩) hcl (fun x => x)).trans h2))
    rw [HML.out]
    have HF2 := Lib.hid hf2
    clear x1 x2 hf2 hf2'
    go_wp2
    go_loopw [54] (fun k' wr => ∃ k : Nat, k ≤ m ∧ k' = .int .i64 k ∧ w2 = wr ∧ ∀ j y, j < k → M[j]? = some y → P y = false) (fun k' _ => m - (intOf k').toNat)
    case atStart => exact ⟨0, by omega, rfl, rfl, fun j y hj => absurd hj (by omega)⟩
    case round =>
      obtain ⟨k, hk, rfl, rfl, hall⟩ := hrel
      by_cases hkm : k < m
      · have hkM : k < M.length := by rw [HML.out]; exact hkm
        obtain ⟨x, hx⟩ : ∃ x, M[k]? = some x := ⟨M[k], List.getElem?_eq_getElem hkM⟩
        obtain ⟨gg, cc, e, hg1, hg2, _⟩ := HOU.out.form (by omega)
        injection e with ee1 ee2 ee3
        subst ee1 ee3
        have hcx := HOU.out.cell rfl hkM
        rw [List.getElem?_eq_getElem hkM] at hx
        rw [Option.some.inj hx] at hcx
        have hx2 : M[k]? = some x := by rw [List.getElem?_eq_getElem hkM, Option.some.inj hx]
        have hxb := HMB.out x (List.mem_of_getElem? hx2)
        have HX := Lib.hid hx2
        have HALL := Lib.hid hall
        have hC := HIS.out w2 HF2.out x
        have hkI : (k : Int) < (m : Int) := by omega
        cases hP : P x
        · rw [hP] at hC
          have HC := Lib.hid hC
          have HP := Lib.hid hP
          clear hC hP hx hx2 hall hkM
          go_wp2_with (go_at_call 42; refine HC.out.mono ?_; rintro e w3 ⟨rfl, rfl⟩)
          refine ⟨⟨k + 1, by omega, by push_cast; rfl, trivial, fun j y hj hy => ?_⟩, by simp [intOf]; omega⟩
          by_cases hjk : j < k
          · exact HALL.out j y hjk hy
          · obtain rfl : j = k := by omega
            rw [HX.out] at hy
            rw [← Option.some.inj hy]; exact HP.out
        · rw [hP] at hC
          have HC := Lib.hid hC
          have hres := HHIT.out k x (fun j y hj hy => HALL.out j y hj (by rw [← HMK.out]; exact hy)) (by rw [HMK.out]; exact HX.out) hP
          have HRES := Lib.hid hres
          clear hC hP hx hx2 hall hkM hres
          go_wp2_with (go_at_call 42; refine HC.out.mono ?_; rintro e w3 ⟨rfl, rfl⟩)
          go_ret
          exact ⟨by rw [HRES.out]; push_cast; rfl, HF2.out⟩
      · obtain rfl : k = m := by omega
        have hres := HMISS.out (fun j y hy => by
          rw [HMK.out] at hy
          exact hall j y (by have := (List.getElem?_eq_some_iff.1 hy).1; rw [HML.out] at this; exact this) hy)
        rw [HNN.out] at hres
        have HRES := Lib.hid hres
        clear hres hall
        go_wp2
        go_ret
        exact ⟨by rw [HRES.out]; rfl, HF2.out⟩
  · have hni : i = n := by omega
    have hge : (n : Int) ≤ (i : Int) := by omega
    have hm := HMISS.out (fun j y hy => by have := (List.getElem?_eq_some_iff.1 hy).1; have := HNN.out; omega)
    rw [HNN.out] at hm
    rw [hm]
    clear hm hlt
    go_enter Try.func34, Try.ntmps34
    go_wp2_with (go_at_call 29; refine HIN.out.mono ?_; rintro e w1 ⟨rfl, q, rfl⟩)
    go_ret
    exact ⟨rfl, (Fr.refl _ _).drewN _⟩

set_option maxRecDepth 100000 in
set_option maxHeartbeats 4000000 in
theorem find_skip (P : Int → Bool) (i y : Nat) (w : World) (h : Src w c p g bs L inn vi) (hi : i ≤ L.length)
    (hIs : ∀ W, Fr0 w W → ∀ b, Calls Try.prog 35 #[.int .u8 b, .pointer (some ⟨y, 0, none⟩)] W fun e w' => e = .returned (.bool (P b)) ∧ W = w') :
    Calls Try.prog 34 #[.pointer (some ⟨c, 0, none⟩), .int .i64 i, .func (.func 35) #[] #[.pointer (some ⟨y, 0, none⟩)]] w fun e w' => e = .returned (.int .i64 (findP P L i)) ∧ Fr0 w w' := by
  obtain ⟨h0, h1, h2, h3, _⟩ := h.cells
  have HIN := Lib.hid (inside_src w h)
  obtain ⟨lb1, lb2⟩ := line_bytes bs L h.len h.line h.nle i hi
  have hB := fun W (hW : Fr0 w W) => Bytes_any (65792 + (i : Int)) ((L.length : Int) - i) W (h.sp.fr0 hW) ⟨by omega, by have := h.nle; omega⟩ ⟨by omega, by have := h.nle; omega⟩
  rw [lb1, lb2] at hB
  have HB := Lib.hid hB
  have HIS := Lib.hid hIs
  have hcl := h.obj.lt
  have hn := h.nle
  have hLb := h.byt
  have HLB := Lib.hid hLb
  have hmiss := fun hk => findP_miss (P := P) (L := L) (i := i) hi hk
  have hhit := fun k x hk hx hP => findP_hit (P := P) (L := L) (i := i) (k := k) (x := x) hk hx hP
  have HMISS := Lib.hid hmiss
  have HHIT := Lib.hid hhit
  clear hB hIs hLb lb1 lb2 hmiss hhit h
  obtain ⟨n, hnn⟩ : ∃ n, L.length = n := ⟨_, rfl⟩
  have HNN := Lib.hid hnn
  rw [hnn] at HIN HB hn hi h3
  clear hnn
  by_cases hlt : i < n
  · have hltI : (i : Int) < (n : Int) := by omega
    have x1 : IntKind.i64.wrap (65792 + (i : Int)) = 65792 + (i : Int) := IntWalk.i64_in _ (by omega)
    have x2 : IntKind.i64.wrap ((n : Int) - (i : Int)) = (n : Int) - (i : Int) := IntWalk.i64_in _ (by omega)
    obtain ⟨M, hM⟩ : ∃ M, L.drop i = M := ⟨_, rfl⟩
    have hMl : M.length + i = n := by rw [← hM, ← HNN.out]; simp; have := HNN.out; omega
    have hMk : ∀ k, L[i + k]? = M[k]? := fun k => by rw [← hM, List.getElem?_drop]
    have hMb : Bytes M := by rw [← hM]; exact HLB.out.drop _
    rw [hM] at HB
    have HMK := Lib.hid hMk
    have HMB := Lib.hid hMb
    clear hM hMk hMb
    obtain ⟨m, hm⟩ : ∃ m, M.length = m := ⟨_, rfl⟩
    have HML := Lib.hid hm
    rw [hm] at hMl
    have HIM := Lib.hid hMl
    have hml : m ≤ 1024 := by omega
    clear hm hMl
    go_enter Try.func34, Try.ntmps34
    go_wp2_with (go_at_call 29; refine HIN.out.mono ?_; rintro e w1 ⟨rfl, q, rfl⟩)
    go_region_held3 (fun W => W.cell? ⟨c, 0, none⟩ = some (.pointer (some ⟨p, 0, none⟩)) ∧ W.cell? ⟨c, 2, none⟩ = some (.int .i64 65792)) (first | exact ⟨h0, h2⟩ | exact ⟨e0, e2⟩) ((go_at_call 11; refine (HB.out _ ((Fr.refl _ w).drewN _).drew).mono ?_; rintro e w2 ⟨_, rfl, u, rfl, hou, hf2'⟩; have HOU := Lib.hid hou; obtain ⟨A5, cp5, rfl⟩ := own8_form hou; clear hou; have hf2 : Fr0 w w2 := (((Fr.refl _ w).drewN _).drew).trans hf2'; have e0 := (hf2.cell (p := ⟨c, 0, none⟩) hcl (fun x => x)).trans h0; have e2 := (hf2.cell (p := ⟨c, 2, none⟩) hcl (fun x => x)).trans h2))
    rw [HML.out]
    have HF2 := Lib.hid hf2
    clear x1 x2 hf2 hf2'
    go_wp2
    go_loopw [54] (fun k' wr => ∃ k : Nat, k ≤ m ∧ k' = .int .i64 k ∧ w2 = wr ∧ ∀ j y, j < k → M[j]? = some y → P y = false) (fun k' _ => m - (intOf k').toNat)
    case atStart => exact ⟨0, by omega, rfl, rfl, fun j y hj => absurd hj (by omega)⟩
    case round =>
      obtain ⟨k, hk, rfl, rfl, hall⟩ := hrel
      by_cases hkm : k < m
      · have hkM : k < M.length := by rw [HML.out]; exact hkm
        obtain ⟨x, hx⟩ : ∃ x, M[k]? = some x := ⟨M[k], List.getElem?_eq_getElem hkM⟩
        obtain ⟨gg, cc, e, hg1, hg2, _⟩ := HOU.out.form (by omega)
        injection e with ee1 ee2 ee3
        subst ee1 ee3
        have hcx := HOU.out.cell rfl hkM
        rw [List.getElem?_eq_getElem hkM] at hx
        rw [Option.some.inj hx] at hcx
        have hx2 : M[k]? = some x := by rw [List.getElem?_eq_getElem hkM, Option.some.inj hx]
        have hxb := HMB.out x (List.mem_of_getElem? hx2)
        have HX := Lib.hid hx2
        have HALL := Lib.hid hall
        have hC := HIS.out w2 HF2.out x
        have hkI : (k : Int) < (m : Int) := by omega
        cases hP : P x
        · rw [hP] at hC
          have HC := Lib.hid hC
          have HP := Lib.hid hP
          clear hC hP hx hx2 hall hkM
          go_wp2_with (go_at_call 35; refine HC.out.mono ?_; rintro e w3 ⟨rfl, rfl⟩)
          refine ⟨⟨k + 1, by omega, by push_cast; rfl, trivial, fun j y hj hy => ?_⟩, by simp [intOf]; omega⟩
          by_cases hjk : j < k
          · exact HALL.out j y hjk hy
          · obtain rfl : j = k := by omega
            rw [HX.out] at hy
            rw [← Option.some.inj hy]; exact HP.out
        · rw [hP] at hC
          have HC := Lib.hid hC
          have hres := HHIT.out k x (fun j y hj hy => HALL.out j y hj (by rw [← HMK.out]; exact hy)) (by rw [HMK.out]; exact HX.out) hP
          have HRES := Lib.hid hres
          clear hC hP hx hx2 hall hkM hres
          go_wp2_with (go_at_call 35; refine HC.out.mono ?_; rintro e w3 ⟨rfl, rfl⟩)
          go_ret
          exact ⟨by rw [HRES.out]; push_cast; rfl, HF2.out⟩
      · obtain rfl : k = m := by omega
        have hres := HMISS.out (fun j y hy => by
          rw [HMK.out] at hy
          exact hall j y (by have := (List.getElem?_eq_some_iff.1 hy).1; rw [HML.out] at this; exact this) hy)
        rw [HNN.out] at hres
        have HRES := Lib.hid hres
        clear hres hall
        go_wp2
        go_ret
        exact ⟨by rw [HRES.out]; rfl, HF2.out⟩
  · have hni : i = n := by omega
    have hge : (n : Int) ≤ (i : Int) := by omega
    have hm := HMISS.out (fun j y hy => by have := (List.getElem?_eq_some_iff.1 hy).1; have := HNN.out; omega)
    rw [HNN.out] at hm
    rw [hm]
    clear hm hlt
    go_enter Try.func34, Try.ntmps34
    go_wp2_with (go_at_call 29; refine HIN.out.mono ?_; rintro e w1 ⟨rfl, q, rfl⟩)
    go_ret
    exact ⟨rfl, (Fr.refl _ _).drewN _⟩
end
end Go.Proofs.Ytmkpoemjikdoeaa
