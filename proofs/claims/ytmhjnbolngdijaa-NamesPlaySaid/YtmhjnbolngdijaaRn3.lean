/- The document's names: SetOrder, Find, Search, Walk. -/
import Derived.Test.YtmhjnbolngdijaaRn2
import Derived.Test.YtmhjnbolngdijaaNsame
namespace Go.Proofs.Ytmhjnbolngdijaa
open Go Go.RowKit
set_option linter.unusedVariables false
attribute [local go_sem] Oper.semAt_some

section
variable {w w' : World} {B c : Nat} {s : St} {S T : Nat → Prop}
set_option maxRecDepth 100000 in
set_option maxHeartbeats 4000000 in
theorem SetOrder_rn (v : Value) (xs : List Int) (w : World) (h : RnS w B c s S) (hv : RowI w B v xs) (hl : xs.length ≤ 1000000) : Calls Try.prog 54 #[.pointer (some ⟨c, 0, none⟩), v] w fun e w' => e = .returned (.int .i64 (ordV s.lists xs)) ∧ ∃ S', RnS w' B c (ordSt s xs) S' ∧ Turn S S' w w' := by
  have HH := Lib.hid h
  obtain ⟨lv, ov, h1, h2, h3, h4, h5, h6, hS⟩ := h
  obtain ⟨c0, c1, c2, c3⟩ := h1.cells
  have HV := Lib.hid hv
  obtain ⟨A, cap, rfl, _⟩ := id hv
  obtain ⟨n, hn⟩ : ∃ n, xs.length = n := ⟨_, rfl⟩
  have HN := Lib.hid hn
  have H1 := Lib.hid h1
  have H2 := Lib.hid h2
  have H3 := Lib.hid h3
  have H6 := Lib.hid h6
  have HS := Lib.hid hS
  have hov : ∀ any, xs.any (fun l => !decide (1 ≤ l ∧ l ≤ s.lists)) = any → ordV s.lists xs = if 16 < n then 2 else if any = true then 4 else 0 := fun any ha => by unfold ordV; rw [hn, ha]
  have HOV := Lib.hid hov
  rw [hn] at HV hl ⊢
  unfold ordSt
  clear h1 h2 h3 h6 hS hv hn hov
  by_cases h16 : 16 < n
  · rw [HOV.out _ rfl, if_pos h16, if_neg (by decide)]
    go_enter Try.func54, Try.ntmps54
    go_wp2_with fail
    go_ret
    exact ⟨rfl, S, HH.out, Turn.refl _ _⟩
  · have h16I : (n : Int) ≤ 16 := by omega
    obtain ⟨r, hr⟩ : ∃ r, ordV s.lists xs = r := ⟨_, rfl⟩
    have HR := Lib.hid hr
    rw [hr]
    clear hr
    go_enter Try.func54, Try.ntmps54
    go_wp2_with fail
    go_loopw [5] (fun i wr => ∃ j : Nat, j ≤ n ∧ i = .int .i64 j ∧ (∃ d, wr = w.drewN d) ∧ ∀ l ∈ xs.take j, 1 ≤ l ∧ l ≤ s.lists) (fun i _ => n - (intOf i).toNat)
    case atStart => exact ⟨0, by omega, rfl, ⟨0, rfl⟩, fun l hl => by simp at hl⟩
    case round =>
      obtain ⟨j, hj, rfl, ⟨d, rfl⟩, hin⟩ := hrel
      have HIN := Lib.hid hin
      clear hin
      by_cases hjn : j < n
      · have hjI : (j : Int) < (n : Int) := by omega
        obtain ⟨b, off, x, rfl, hb, hx, hx64, hc⟩ := HV.out.at_ (k := j) (by rw [HN.out]; exact hjn)
        obtain ⟨hx1, hx2⟩ := hx64
        have htk : xs.take (j + 1) = xs.take j ++ [x] := by
          have hjl : j < xs.length := by rw [HN.out]; exact hjn
          rw [List.take_succ_eq_append_getElem hjl]
          rw [List.getElem?_eq_getElem hjl] at hx
          injection hx with hx
          rw [hx]
        have HTK := Lib.hid htk
        have HX := Lib.hid hx
        clear hx htk
        by_cases hxr : 1 ≤ x ∧ x ≤ s.lists
        · obtain ⟨hxl, hxh⟩ := hxr
          have hd1 : decide (x < 1) = false := decide_eq_false (by omega)
          have hd2 : decide (s.lists < x) = false := decide_eq_false (by omega)
          go_wp2_with fail
          go_quiet (fail)
          go_wp2_with fail
          refine ⟨⟨j + 1, by omega, by push_cast; rfl, ⟨_, rfl⟩, fun l hl => ?_⟩, by simp [intOf]; omega⟩
          rw [HTK.out, List.mem_append] at hl
          rcases hl with h | h
          · exact HIN.out l h
          · obtain rfl := List.mem_singleton.1 h
            exact ⟨hxl, hxh⟩
        · have hr4 : r = 4 := by
            have ha : xs.any (fun l => !decide (1 ≤ l ∧ l ≤ s.lists)) = true := List.any_eq_true.2 ⟨x, List.mem_of_getElem? HX.out, by simp; omega⟩
            rw [← HR.out, HOV.out _ ha, if_neg (by omega), if_pos rfl]
          subst hr4
          have hxc : decide (x < 1) = true ∨ (decide (x < 1) = false ∧ decide (s.lists < x) = true) := by
            by_cases h : x < 1
            · exact .inl (decide_eq_true h)
            · exact .inr ⟨decide_eq_false h, decide_eq_true (by omega)⟩
          clear hxr
          rcases hxc with hd1 | ⟨hd1, hd2⟩
          · go_wp2_with fail
            go_quiet (fail)
            go_wp2_with fail
            go_ret
            exact ⟨rfl, S, HH.out.fr0 ((Fr.refl _ _).drewN _), Turn.of0 ((Fr.refl _ _).drewN _)⟩
          · go_wp2_with fail
            go_quiet (fail)
            go_wp2_with fail
            go_ret
            exact ⟨rfl, S, HH.out.fr0 ((Fr.refl _ _).drewN _), Turn.of0 ((Fr.refl _ _).drewN _)⟩
      · obtain rfl : j = n := by omega
        have hr0 : r = 0 := by
          have ha : xs.any (fun l => !decide (1 ≤ l ∧ l ≤ s.lists)) = false := by
            rw [List.any_eq_false]
            intro l hl
            have hin := HIN.out
            rw [← HN.out, List.take_length] at hin
            have := hin l hl
            simp [this]
          rw [← HR.out, HOV.out _ ha, if_neg h16, if_neg (by decide)]
        subst hr0
        have hfd : Fr0 w (w.drewN d) := (Fr.refl _ _).drewN _
        obtain ⟨w1, hw1⟩ : ∃ w1, w.drewN d = w1 := ⟨_, rfl⟩
        rw [hw1] at hfd ⊢
        clear hw1
        obtain ⟨i0, hi, hz0, hz1, hz2⟩ := info_parts infoI
        have HI := Lib.hid hi
        have HZ := Lib.hid (And.intro hz0 (And.intro hz1 hz2))
        have HO1 := Lib.hid (Blk.fr0 H1.out hfd)
        have HF1 := Lib.hid hfd
        have HRD := Lib.hid (HV.out.fr0 hfd).rd
        have HOW := Lib.hid (show w1.ownsRow w1.heap.size 3 1 (.slice none 0 0) 0 [] from World.ownsRow_nil _ _ _ _)
        clear hi hz0 hz1 hz2 hfd c0 c1 c2 c3
        go_wp2_with (at_builtin; refine wpList_append_src (m := xs.length) (news := xs.map (Value.int .i64)) rfl (.tmp 33) (.tmp 34) rfl Try.underlying41 HI.out HZ.out.1 HZ.out.2.1 HZ.out.2.2 rfl (by decide) rfl rfl HOW.out (by rw [HN.out]; have := HRD.out; unfold RdI at this; rw [HN.out] at this; exact this) (fun u hu => by obtain ⟨y, _, rfl⟩ := List.mem_map.1 hu; rfl) (by unfold maxLen; rw [HN.out]; omega) (by rw [HN.out]; omega) (Nat.le_refl _) ?_; intro v6 w6 ho6 hg6 hk6; simp only [Nat.zero_add, List.nil_append] at ho6; have HO6 := Lib.hid ho6; have hf6 := (Fr.refl (fun _ => False) w1).grown hg6 (fun j hj => by cases hj); have HF6 := Lib.hid hf6; obtain ⟨_, A6, cap6, rfl, _⟩ := own_src ho6; have hob := Blk.fr0 HO1.out hf6; have y0 := hob.frozen 2; have y1 := hob.cell 2; have HOB := Lib.hid hob; clear ho6 hg6 hk6 hf6 hob)
        go_ret
        have hb := HOB.out.set_ 2 (.slice A6 xs.length cap6)
        simp only [List.setIfInBounds_toArray, List.set_cons_succ, List.set_cons_zero] at hb
        have hf7 := (Fr.refl (fun k => k = c) w6).setCell (p := ⟨c, 2, none⟩) (.inl rfl) (.slice A6 xs.length cap6)
        have hz := HF1.out.size
        have hul : ∀ k, (Value.slice A6 xs.length cap6).ownBlock = some k → w1.heap.size ≤ k := fun k hk => (own_lo HO6.out k hk).1
        have hcl := (RObj.blk H1.out).lt
        have h2' := own_fr (own_fr (own_fr H2.out HF1.out (fun _ _ x => x)) HF6.out (fun _ _ x => x)) hf7 (fun k hk e => rword_own H2.out (RObj.blk H1.out) (by decide) (e ▸ hk))
        refine ⟨rfl, _, ⟨lv, .slice A6 xs.length cap6, hb, h2', ?_, h4, ?_, H6.out, rfl⟩, (HF1.out.trans HF6.out).of0.trans (hf7.mono (fun k _ e => by rw [HS.out]; exact .inl e)), fun k hk => ?_⟩
        · have := own_fr HO6.out hf7 (fun k hk e => by have := hul k hk; omega)
          exact own_mono this (by omega)
        · have := HF6.out.size
          have := hf7.size
          omega
        · rw [HS.out]
          rcases hk with h | h | h
          · exact .inl (.inl h)
          · exact .inl (.inr (.inl h))
          · exact .inr (by have := hul k h; omega)
end
end Go.Proofs.Ytmhjnbolngdijaa
