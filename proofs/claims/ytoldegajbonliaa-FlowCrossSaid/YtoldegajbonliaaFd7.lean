/- Flow: what words do: Loop, PlusLoop. -/
import Derived.Test.YtoldegajbonliaaFd6
namespace Go.Proofs.Ytoldegajbonliaa
open Go Go.RowKit
set_option linter.unusedVariables false
attribute [local go_sem] Oper.semAt_some

/-- A loop's jumps: a leave leads behind the loop's end at a, the others here. -/
def leadsT (a : Int) (ts : List Tk) (js : List Int) : List Tk := js.foldl (fun t j => if (atT t j).op = 12 then patchT t j a else patchT t j t.length) ts
theorem leadsT_snoc (a : Int) (ts : List Tk) (js : List Int) (j : Int) : leadsT a ts (js ++ [j]) = if (atT (leadsT a ts js) j).op = 12 then patchT (leadsT a ts js) j a else patchT (leadsT a ts js) j (leadsT a ts js).length := by
  unfold leadsT
  rw [List.foldl_append]
  rfl
theorem keep3 {V : World} {b i g : Nat} {v u0 u1 u2 : Value} (h : V.cell? ⟨b, i, none⟩ = some v) (hne : b ≠ g) : (((V.setCell ⟨g, 0, none⟩ u0).setCell ⟨g, 1, none⟩ u1).setCell ⟨g, 2, none⟩ u2).cell? ⟨b, i, none⟩ = some v :=
  ((fr3 u0 u1 u2).cell (World.block_lt_of_cell? _ _ h) hne).trans h
section
variable {w w' : World} {B f p g scap q cap : Nat} {tv tv' lv : Value} {ts ts' : List Tk} {st l : List Th} {T : Nat → Prop}
set_option maxRecDepth 100000 in
set_option maxHeartbeats 8000000 in
theorem close_f (op : Int) (x : Th) (w : World) (h : Fl w B f p st g scap ts q cap tv) (hxs : x ∈ st) (hl : ts.length < 50000) (hxj : x.jumps.length ≤ 1000000) : Calls Try.prog 82 #[.pointer (some ⟨f, 0, none⟩), .int .i64 op, x.val] w fun e w' => ∃ nv, e = .returned (.tuple #[nv, .int .i64 0]) ∧ Out w w' B st nv [] ∧ ∃ tv', Fl w' B f p st g scap (leadsT ts.length (ts ++ [⟨op, x.place, 0⟩]) x.jumps) q cap tv' ∧ Turn (FlIn f p q tv g st) (FlIn f p q tv' g st) w w' := by
  have hjx := h.js x hxs
  have HXS := Lib.hid hxs
  obtain ⟨xk, xp, xs, xj⟩ := x
  obtain ⟨_, AJ, cj, hjv, _⟩ := id hjx.1
  dsimp only at hjv hxj
  subst hjv
  have hfa := (Fr.refl (fun _ => False) w).alloc (.cells #[.int .i64 xk, .int .i64 xp, .slice AJ xs.length cj] 64)
  have hbx := Blk.new w 64 #[.int .i64 xk, .int .i64 xp, .slice AJ xs.length cj]
  have HIN := Lib.hid (show ∀ k, FlIn f p q tv g st k → k < w.heap.size from fun k hk => (h.in_lo hk).2)
  have HLA := Lib.hid (lay_f op xp _ (h.fr0 hfa) hl)
  have HBX := Lib.hid hbx
  have HFA := Lib.hid hfa
  have b1 := hbx.cell 1
  unfold Th.val
  obtain ⟨n, hn⟩ : ∃ n, ts.length = n := ⟨_, rfl⟩
  obtain ⟨m, hm⟩ : ∃ m, xs.length = m := ⟨_, rfl⟩
  have HM := Lib.hid hm
  dsimp only
  rw [hn] at HLA ⊢
  rw [hm] at HLA HBX HFA b1 hxj ⊢
  clear h hjx hfa hbx hn hm hxs
  go_enter Try.func82, Try.ntmps82
  go_wp2_with (go_at_call 35; refine HLA.out.mono ?_; rintro e w2 ⟨rfl, tv2, h2, t2⟩; have H2 := Lib.hid h2; have T2 := Lib.hid t2; have hb := HBX.out.fr t2.1 (fun e => Nat.lt_irrefl _ (HIN.out _ e)); have b2 := hb.cell 2; clear h2 t2 hb b1)
  go_loopw [28] (fun i wr => ∃ k : Nat, k ≤ m ∧ i = .int .i64 k ∧ Fl wr B f p st g scap (leadsT n (ts ++ [⟨op, xp, 0⟩]) (xs.take k)) q cap tv2 ∧ Turn (FlIn f p q tv2 g st) (FlIn f p q tv2 g st) w2 wr) (fun i _ => m - (intOf i).toNat)
  case atStart => exact ⟨0, by omega, rfl, H2.out, Turn.refl _ _⟩
  case round =>
    obtain ⟨k, hk, rfl, hfl, htu⟩ := hrel
    by_cases hkm : k < m
    · have hkI : (k : Int) < (m : Int) := by omega
      obtain ⟨j, hj⟩ : ∃ j, xs[k]? = some j := ⟨_, List.getElem?_eq_getElem (by rw [HM.out]; exact hkm)⟩
      have hjr := hfl.js _ HXS.out
      dsimp only at hjr
      rw [HM.out] at hjr
      obtain ⟨jb, joff, rfl, hc⟩ := hjr.at_ hj
      have HFL := Lib.hid hfl
      have HTU := Lib.hid htu
      have HJ := Lib.hid hj
      obtain ⟨tsk, htsk⟩ : ∃ tsk, leadsT n (ts ++ [⟨op, xp, 0⟩]) (xs.take k) = tsk := ⟨_, rfl⟩
      rw [htsk] at HFL
      have HTS := Lib.hid htsk
      clear hfl htu hjr hj htsk
      go_upto_region 7 with (fail)
      go_cut [12, 13] from 32 to 44 (fun s12 s13 wx => ∃ b, s12 = .pointer (some ⟨b, 0, none⟩) ∧ Blk wx b 39 #[.int .i64 (atT tsk j).op, .int .i64 (atT tsk j).a, .int .i64 (atT tsk j).b] ∧ Fr0 wr wx)
      case first =>
        obtain ⟨o, ta, tb, hT⟩ : ∃ o ta tb, atT tsk j = ⟨o, ta, tb⟩ := ⟨_, _, _, rfl⟩
        have HAT := Lib.hid (fun V (hV : Fr0 wr V) => At_p j V (HFL.out.fr0 hV).pl)
        rw [hT] at HAT
        have HT := Lib.hid hT
        unfold Tk.val at HAT
        have HK := Lib.hid (show ∀ V, Fr0 wr V → V.cell? ⟨f, 0, none⟩ = some (.pointer (some ⟨p, 0, none⟩)) ∧ V.cell? ⟨f, 1, none⟩ = some (.int .i64 1) from fun V hV => ⟨(HFL.out.fr0 hV).cells.1, (HFL.out.fr0 hV).cells.2.1⟩)
        have hfw : f ≠ wr.heap.size := Nat.ne_of_lt HFL.out.fo.lt
        have k1 := HK.out _ ((Fr.refl (fun _ => False) _).drew)
        have k1a := HK.out _ (((Fr.refl (fun _ => False) _).alloc (.cells #[.int .i64 0, .int .i64 0, .int .i64 0] 39)).drew)
        clear hT
        go_region_held3 (fun V => V.cell? ⟨f, 0, none⟩ = some (.pointer (some ⟨p, 0, none⟩)) ∧ V.cell? ⟨f, 1, none⟩ = some (.int .i64 1)) (first | (with_reducible exact k1) | (with_reducible exact k1a) | (with_reducible exact k2) | (with_reducible exact ⟨keep3 k2.1 hfw, keep3 k2.2 hfw⟩) | go_keep) (first | (go_at_call 18; refine (HAT.out _ ((Fr.refl (fun _ => False) _).drew)).mono ?_; rintro e w5 ⟨rfl, f5⟩; have hf5 := ((Fr.refl (fun _ => False) _).drew : Fr (fun _ => False) wr _).trans f5; have k2 := HK.out _ hf5; clear f5) | (go_at_call 18; refine (HAT.out _ (((Fr.refl (fun _ => False) _).alloc (.cells #[.int .i64 0, .int .i64 0, .int .i64 0] 39)).drew)).mono ?_; rintro e w5 ⟨rfl, f5⟩; have hf5 := (((Fr.refl (fun _ => False) _).alloc (.cells #[.int .i64 0, .int .i64 0, .int .i64 0] 39)).drew : Fr (fun _ => False) wr _).trans f5; have k2 := HK.out _ hf5; have hbox := (show Blk w5 wr.heap.size 39 #[.int .i64 0, .int .i64 0, .int .i64 0] from (Blk.new wr _ _).drew.fr0 f5); have z0 := hbox.cell 0; have z1 := hbox.cell 1; have z2 := hbox.cell 2; have y0 := hbox.frozen 0; have y1 := hbox.frozen 1; have y2 := hbox.frozen 2; clear f5))
        · go_wp2_with fail
          go_meet
          exact ⟨_, rfl, by rw [HT.out]; exact Blk.new w5 _ _, hf5.alloc _⟩
        · go_wp2_with fail
          go_meet
          have hb := ((hbox.set_ 0 (.int .i64 o)).set_ 1 (.int .i64 ta)).set_ 2 (.int .i64 tb)
          simp only [List.setIfInBounds_toArray, List.set_cons_zero, List.set_cons_succ] at hb
          exact ⟨_, rfl, by rw [HT.out]; exact hb, hf5.then (fr3 _ _ _) (fun i hi he => by omega)⟩
      case rest =>
        obtain ⟨b, rfl, hbt, hfx⟩ := hcut
        have hfl := HFL.out.fr0 hfx
        have HX := Lib.hid hfx
        have e1 : xs.take (k + 1) = xs.take k ++ [j] := by rw [List.take_add_one, HJ.out]; rfl
        have HE := Lib.hid e1
        obtain ⟨o, ho⟩ : ∃ o, (atT tsk j).op = o := ⟨_, rfl⟩
        rw [ho] at hbt
        have HO := Lib.hid ho
        clear e1 ho
        by_cases h12 : o = 12
        · have b0 : wc.cell? ⟨b, 0, none⟩ = some (.int .i64 12) := h12 ▸ hbt.cell 0
          go_wp2_with fail
          have hfl := hfl.fr0 (Fr.refl (fun _ => False) _).drew
          go_region_held3 (fun V => V.cell? ⟨f, 0, none⟩ = some (.pointer (some ⟨p, 0, none⟩)) ∧ V.cell? ⟨f, 1, none⟩ = some (.int .i64 1)) (first | exact ⟨hfl.cells.1, hfl.cells.2.1⟩ | exact ⟨hx.1.cells.1, hx.1.cells.2.1⟩) (first | (go_at_call 86; refine (Patch_p _ _ _ hfl.pl).mono ?_; rintro e w5 ⟨rfl, h5, f5⟩; have hx := hfl.pool h5 ⟨f5, fun k hk => .inl hk⟩))
          have HXX := Lib.hid hx
          clear hx h5 f5 hfl b0 hbt
          go_wp2_with fail
          refine ⟨⟨k + 1, by omega, by push_cast; rfl, ?_, (HTU.out.trans (Turn.of0 (HX.out.trans (Fr.refl (fun _ => False) wc).drew))).trans HXX.out.2⟩, by simp [intOf]; omega⟩
          rw [HE.out, leadsT_snoc, HTS.out, if_pos (HO.out.trans h12)]
          exact HXX.out.1
        · have b0 : wc.cell? ⟨b, 0, none⟩ = some (.int .i64 o) := hbt.cell 0
          have h12b : (o == 12) = false := by simpa using h12
          go_wp2_with (go_at_call 79; refine (join_f _ _ hfl).mono ?_; rintro e w5 ⟨⟨v, rfl⟩, h5, t5⟩; have H5 := Lib.hid h5; have T5 := Lib.hid t5; clear h5 t5)
          refine ⟨⟨k + 1, by omega, by push_cast; rfl, ?_, (HTU.out.trans (Turn.of0 HX.out)).trans T5.out⟩, by simp [intOf]; omega⟩
          rw [HE.out, leadsT_snoc, HTS.out, if_neg (fun e => h12 (HO.out.symm.trans e))]
          exact H5.out
    · obtain rfl : k = m := by omega
      have hall : xs.take k = xs := by rw [← HM.out, List.take_length]
      rw [hall] at hfl
      have HFL := Lib.hid hfl
      have HTU := Lib.hid htu
      clear hfl htu hall
      go_wp2_with fail
      go_ret2
      exact ⟨_, rfl, Out.nil _ _ _ _, _, HFL.out, ((Turn.of0 HFA.out).trans T2.out).trans HTU.out⟩
set_option maxRecDepth 100000 in
set_option maxHeartbeats 2000000 in
theorem again1_f (x : Th) (w : World) (h : Fl w B f p st g scap ts q cap tv) (hi : In_ w g st lv [x]) (hl : ts.length < 50000) (hxj : x.jumps.length ≤ 1000000) : Calls Try.prog 64 #[.pointer (some ⟨f, 0, none⟩), lv] w fun e w' => ∃ nv, e = .returned (.tuple #[nv, .int .i64 0]) ∧ Out w w' B st nv [] ∧ ∃ tv', Fl w' B f p st g scap (leadsT ts.length (ts ++ [⟨10, x.place, 0⟩]) x.jumps) q cap tv' ∧ Turn (FlIn f p q tv g st) (FlIn f p q tv' g st) w w' := by
  have hxs := hi.sub x (List.mem_singleton.2 rfl)
  have HCO := Lib.hid (close_f 10 x w h hxs hl hxj)
  obtain ⟨off, c, rfl, d0, d1, d2⟩ := hi.at0 h
  have hjx := h.js x hxs
  obtain ⟨_, AJ, cj, hjv, _⟩ := id hjx.1
  rw [hjv] at d2
  unfold Th.val at HCO
  rw [hjv] at HCO
  clear h hi hjx hxs
  go_enter Try.func64, Try.ntmps64
  go_wp2_with (go_at_call 82; refine HCO.out.mono ?_; rintro e w2 ⟨nv, rfl, ho, tv2, h2, t2⟩; have HO := Lib.hid ho; have H2 := Lib.hid h2; have T2 := Lib.hid t2; clear h2 t2 ho)
  go_ret2
  exact ⟨_, rfl, HO.out, _, H2.out, T2.out⟩
set_option maxRecDepth 100000 in
set_option maxHeartbeats 2000000 in
theorem againBy_f (x : Th) (w : World) (h : Fl w B f p st g scap ts q cap tv) (hi : In_ w g st lv [x]) (hl : ts.length < 50000) (hxj : x.jumps.length ≤ 1000000) : Calls Try.prog 65 #[.pointer (some ⟨f, 0, none⟩), lv] w fun e w' => ∃ nv, e = .returned (.tuple #[nv, .int .i64 0]) ∧ Out w w' B st nv [] ∧ ∃ tv', Fl w' B f p st g scap (leadsT ts.length (ts ++ [⟨11, x.place, 0⟩]) x.jumps) q cap tv' ∧ Turn (FlIn f p q tv g st) (FlIn f p q tv' g st) w w' := by
  have hxs := hi.sub x (List.mem_singleton.2 rfl)
  have HCO := Lib.hid (close_f 11 x w h hxs hl hxj)
  obtain ⟨off, c, rfl, d0, d1, d2⟩ := hi.at0 h
  have hjx := h.js x hxs
  obtain ⟨_, AJ, cj, hjv, _⟩ := id hjx.1
  rw [hjv] at d2
  unfold Th.val at HCO
  rw [hjv] at HCO
  clear h hi hjx hxs
  go_enter Try.func65, Try.ntmps65
  go_wp2_with (go_at_call 82; refine HCO.out.mono ?_; rintro e w2 ⟨nv, rfl, ho, tv2, h2, t2⟩; have HO := Lib.hid ho; have H2 := Lib.hid h2; have T2 := Lib.hid t2; clear h2 t2 ho)
  go_ret2
  exact ⟨_, rfl, HO.out, _, H2.out, T2.out⟩
end
end Go.Proofs.Ytoldegajbonliaa
