/- The law of chapter 14: a walk through both, word for word: the closure. -/
import Derived.Test.YtmhjnbolngdijaaNlaw1
import Derived.Test.YtmhjnbolngdijaaNmark
import Derived.Deep.RegionHeld3
import Derived.StillTailTactics
import Derived.Test.YtmhjnbolngdijaaNownW
import Derived.Test.YtmhjnbolngdijaaNset2
import Derived.Test.YtmhjnbolngdijaaNbk
namespace Go.Proofs.Ytmhjnbolngdijaa
open Go Go.RowKit
set_option linter.unusedVariables false
attribute [local go_sem] Oper.semAt_some

theorem setCell_same {w : World} {p : Addr} {v : Value} (h : w.cell? p = some v) (q : Addr) (u : Value) (hq : w.cell? q = some u) : (w.setCell p v).cell? q = some u := by
  by_cases e : p = q
  · subst e
    rw [hq] at h
    injection h with h
    subst h
    exact World.cell?_setCell_same _ _ _ hq
  · rw [World.cell?_setCell_other _ _ _ _ (fun e' => e (by first | exact e' | exact e'.symm)), hq]

section
variable {B B2 c d : Nat} {s : St} {R : Nat → Prop}
set_option maxRecDepth 100000 in
set_option maxHeartbeats 8000000 in
theorem goes1_good (kb ob nb lb xb sb x : Nat) (lv mv kv : Value) (L : List Int) (stop : Int) (n i : Nat) (wd : Wd) (w : World)
    (hk : Blk w kb 4 #[.bool true]) (ho : Blk w ob 4 #[.bool false]) (hn : Blk w nb 3 #[.int .i64 n]) (hl : Blk w lb 41 #[lv]) (hxb : Blk w xb 50 #[.pointer (some ⟨x, 0, none⟩)]) (hs : Blk w sb 3 #[.int .i64 stop])
    (hko : kb ≠ ob) (hns : nb ≠ sb) (hL : OwnI w B lv L) (hnL : lv.ownBlock ≠ some nb) (hT : TwoO w x c d mv kv) (hR : RnS w B2 d s R)
    (hlen : L.length ≤ 5000) (hg : L[n]? = some ((i : Int) + 1)) (hi : s.ws[i]? = some wd) :
    Calls Try.prog 67 #[.int .i64 ((i : Int) + 1), wd.val, .pointer (some ⟨kb, 0, none⟩), .pointer (some ⟨ob, 0, none⟩), .pointer (some ⟨nb, 0, none⟩), .pointer (some ⟨lb, 0, none⟩), .pointer (some ⟨xb, 0, none⟩), .pointer (some ⟨sb, 0, none⟩)] w fun e w' => e = .returned (.bool (decide ((n : Int) + 1 ≠ stop))) ∧ Blk w' kb 4 #[.bool true] ∧ Blk w' ob 4 #[.bool (decide ((n : Int) + 1 = stop))] ∧ Blk w' nb 3 #[.int .i64 ((n : Int) + 1)] ∧ Fr (fun k => k = kb ∨ k = ob ∨ k = nb) w w' := by
  have hnl : n < L.length := (List.getElem?_eq_some_iff.1 hg).1
  have hf0 := (Fr.refl (fun _ => False) w).alloc (.cells #[.string (strOfNums wd.name), .int .i64 wd.xt, .int .i64 wd.list, .bool wd.imm, .bool wd.only] 30)
  have hz := Blk.new w 30 #[.string (strOfNums wd.name), .int .i64 wd.xt, .int .i64 wd.list, .bool wd.imm, .bool wd.only]
  obtain ⟨W0, hW0⟩ : ∃ W0, w.alloc (.cells #[.string (strOfNums wd.name), .int .i64 wd.xt, .int .i64 wd.list, .bool wd.imm, .bool wd.only] 30) = W0 := ⟨_, rfl⟩
  have hbyt : ∀ y ∈ wd.name, 0 ≤ y ∧ y ≤ 255 := by
    obtain ⟨_, _, _, _, _, _, _, h6, _⟩ := hR
    exact (h6.2 _ (List.mem_of_getElem? hi)).1
  have hws : s.ws.length ≤ 5000 := by
    obtain ⟨_, _, _, _, _, _, _, h6, _⟩ := hR
    exact h6.1
  have hil : i < s.ws.length := (List.getElem?_eq_some_iff.1 hi).1
  obtain ⟨b, off, cap, rfl, hc⟩ : ∃ b off cap, lv = .slice (some ⟨b, off, none⟩) L.length cap ∧ w.cell? ⟨b, off + n, none⟩ = some (.int .i64 ((i : Int) + 1)) := by
    obtain ⟨_, A, cap, e, h2⟩ := hL.rd
    obtain ⟨b, off, e2, h3⟩ := h2 (by omega)
    subst e2
    exact ⟨b, off, cap, e, h3 n _ (by rw [List.getElem?_map, hg]; rfl)⟩
  rw [hW0] at hf0 hz
  have hlt : ∀ {q : Addr} {u : Value}, w.cell? q = some u → W0.cell? q = some u := fun {q u} h => (hf0.cell (World.block_lt_of_cell? _ _ h) (fun x => x)).trans h
  obtain ⟨lv2, ov2, h1, h2, _⟩ := hR.fr0 hf0
  obtain ⟨b2, cap2, hA2, _, g0, g1, g2, g3, g4⟩ := words_cells h2 hi
  have d0 := h1.cell 0
  obtain ⟨z, hzw⟩ : ∃ z, w.heap.size = z := ⟨_, rfl⟩
  rw [hzw] at hz
  have z0 := hz.cell 0
  have z1 := hz.cell 1
  have z2 := hz.cell 2
  have z3 := hz.cell 3
  have z4 := hz.cell 4
  have p0 := hlt (hk.cell 0)
  have p1 := hlt (ho.cell 0)
  have p2 := hlt (hn.cell 0)
  have p3 := hlt (hl.cell 0)
  have p4 := hlt hc
  have p5 := hlt (hxb.cell 0)
  have p6 := hlt (Blk.cell hT 1)
  have p7 := hlt (hs.cell 0)
  obtain ⟨nx, xt, xl, xi, xo⟩ := wd
  dsimp only [Wd.val] at *
  have HWD := Lib.hid (fun W => word_any ⟨nx, xt, xl, xi, xo⟩ ⟨nx, xt, xl, xi, xo⟩ hbyt hbyt W)
  have heq : eqWd ⟨nx, xt, xl, xi, xo⟩ ⟨nx, xt, xl, xi, xo⟩ = true := by unfold eqWd; simp
  rw [heq] at HWD
  obtain ⟨nL, hnL'⟩ : ∃ nL, L.length = nL := ⟨_, rfl⟩
  obtain ⟨nW, hnW'⟩ : ∃ nW, s.ws.length = nW := ⟨_, rfl⟩
  rw [hnL'] at hnl hlen p3
  rw [hnW'] at hil hws hA2
  subst hA2
  have hkz := hk.fr0 hf0
  have hK : ∀ V, Fr0 W0 V → V.cell? ⟨kb, 0, none⟩ = some (.bool true) ∧ V.cell? ⟨ob, 0, none⟩ = some (.bool false) ∧ V.cell? ⟨nb, 0, none⟩ = some (.int .i64 (n : Int)) ∧ V.cell? ⟨lb, 0, none⟩ = some (.slice (some ⟨b, off, none⟩) nL cap) ∧ V.cell? ⟨b, off + n, none⟩ = some (.int .i64 ((i : Int) + 1)) ∧ V.cell? ⟨xb, 0, none⟩ = some (.pointer (some ⟨x, 0, none⟩)) ∧ V.cell? ⟨x, 1, none⟩ = some (.pointer (some ⟨d, 0, none⟩)) ∧ V.cell? ⟨d, 0, none⟩ = some (.slice (some ⟨b2, 0, none⟩) nW cap2) ∧ V.cell? ⟨b2, i * 5, none⟩ = some (.string (strOfNums nx)) ∧ V.cell? ⟨b2, i * 5 + 1, none⟩ = some (.int .i64 xt) ∧ V.cell? ⟨b2, i * 5 + 2, none⟩ = some (.int .i64 xl) ∧ V.cell? ⟨b2, i * 5 + 3, none⟩ = some (.bool xi) ∧ V.cell? ⟨b2, i * 5 + 4, none⟩ = some (.bool xo) ∧ V.cell? ⟨z, 0, none⟩ = some (.string (strOfNums nx)) ∧ V.cell? ⟨z, 1, none⟩ = some (.int .i64 xt) ∧ V.cell? ⟨z, 2, none⟩ = some (.int .i64 xl) ∧ V.cell? ⟨z, 3, none⟩ = some (.bool xi) ∧ V.cell? ⟨z, 4, none⟩ = some (.bool xo) ∧ V.frozen? ⟨kb, 0, none⟩ = false := fun V hV => by
    have hlt : ∀ {q : Addr} {u : Value}, W0.cell? q = some u → V.cell? q = some u := fun {q u} h => (hV.cell (World.block_lt_of_cell? _ _ h) (fun x => x)).trans h
    exact ⟨hlt p0, hlt p1, hlt p2, hlt p3, hlt p4, hlt p5, hlt p6, hlt d0, hlt g0, hlt g1, hlt g2, hlt g3, hlt g4, hlt z0, hlt z1, hlt z2, hlt z3, hlt z4, (hkz.fr0 hV).frozen 0⟩
  have HK := Lib.hid hK
  have HKO := Lib.hid hko
  have HKN := Lib.hid (show ¬ kb = nb from hk.ne_ hn (by decide))
  have HKS := Lib.hid (show ¬ kb = sb from hk.ne_ hs (by decide))
  have HON := Lib.hid (show ¬ ob = nb from ho.ne_ hn (by decide))
  have HB := Lib.hid (And.intro (hk.fr0 hf0) (And.intro (ho.fr0 hf0) (And.intro (hn.fr0 hf0) (hs.fr0 hf0))))
  have HF0 := Lib.hid hf0
  have HW0 := Lib.hid hW0
  have HZW := Lib.hid hzw
  clear hzw
  have hnlI : (n : Int) < (nL : Int) := by omega
  have hilI : (i : Int) < (nW : Int) := by omega
  have x1 : IntKind.i64.wrap ((i : Int) + 1 - 1) = (i : Int) := by rw [IntWalk.i64_in _ (by omega)]; omega
  have x2 : IntKind.i64.wrap (i : Int) = (i : Int) := IntWalk.i64_in _ (by omega)
  have x3 : (0 : Int) ≤ (i : Int) := by omega
  have x4 : (0 : Int) ≤ (n : Int) := by omega
  have n5 : (n : Int) ≤ 5000 := by omega
  clear hko hk ho hn hl hxb hs hL hT hR hg hi hc h1 h2 g0 g1 g2 g3 g4 d0 z0 z1 z2 z3 z4 p0 p1 p2 p3 p4 p5 p6 p7 hlt hK hW0 hf0 hz heq hnL hnL' hnW' hbyt hkz
  by_cases hst : (n : Int) + 1 = stop
  · subst hst
    rw [decide_eq_true rfl, decide_eq_false (by simp)]
    go_enter Try.func67, Try.ntmps67
    go_wp2_with fail
    rw [HW0.out, HZW.out]
    go_region_held3 (fun V => V.cell? ⟨kb, 0, none⟩ = some (.bool true) ∧ V.cell? ⟨ob, 0, none⟩ = some (.bool false) ∧ V.cell? ⟨nb, 0, none⟩ = some (.int .i64 (n : Int)) ∧ V.cell? ⟨lb, 0, none⟩ = some (.slice (some ⟨b, off, none⟩) nL cap) ∧ V.cell? ⟨b, off + n, none⟩ = some (.int .i64 ((i : Int) + 1)) ∧ V.cell? ⟨xb, 0, none⟩ = some (.pointer (some ⟨x, 0, none⟩)) ∧ V.cell? ⟨x, 1, none⟩ = some (.pointer (some ⟨d, 0, none⟩)) ∧ V.cell? ⟨d, 0, none⟩ = some (.slice (some ⟨b2, 0, none⟩) nW cap2) ∧ V.cell? ⟨b2, i * 5, none⟩ = some (.string (strOfNums nx)) ∧ V.cell? ⟨b2, i * 5 + 1, none⟩ = some (.int .i64 xt) ∧ V.cell? ⟨b2, i * 5 + 2, none⟩ = some (.int .i64 xl) ∧ V.cell? ⟨b2, i * 5 + 3, none⟩ = some (.bool xi) ∧ V.cell? ⟨b2, i * 5 + 4, none⟩ = some (.bool xo) ∧ V.cell? ⟨z, 0, none⟩ = some (.string (strOfNums nx)) ∧ V.cell? ⟨z, 1, none⟩ = some (.int .i64 xt) ∧ V.cell? ⟨z, 2, none⟩ = some (.int .i64 xl) ∧ V.cell? ⟨z, 3, none⟩ = some (.bool xi) ∧ V.cell? ⟨z, 4, none⟩ = some (.bool xo) ∧ V.frozen? ⟨kb, 0, none⟩ = false) (first | exact HK.out _ (Fr.refl _ _).drew | exact HK.out _ hfw | (obtain ⟨k0, k1, k2, k3, k4, k5, k6, k7, k8, k9, k10, k11, k12, k13, k14, k15, k16, k17, k18⟩ := HK.out _ hfw; exact ⟨setCell_same k0 _ _ k0, setCell_same k0 _ _ k1, setCell_same k0 _ _ k2, setCell_same k0 _ _ k3, setCell_same k0 _ _ k4, setCell_same k0 _ _ k5, setCell_same k0 _ _ k6, setCell_same k0 _ _ k7, setCell_same k0 _ _ k8, setCell_same k0 _ _ k9, setCell_same k0 _ _ k10, setCell_same k0 _ _ k11, setCell_same k0 _ _ k12, setCell_same k0 _ _ k13, setCell_same k0 _ _ k14, setCell_same k0 _ _ k15, setCell_same k0 _ _ k16, setCell_same k0 _ _ k17, ((HB.out.1.fr0 hfw).set_ 0 (.bool true)).frozen 0⟩)) (first | (go_at_call 31; refine (HWD.out _).mono ?_; rintro e w2 ⟨rfl, hfw'⟩; have hfw := (Fr.refl (fun _ => False) W0).drew.trans hfw'))
    obtain ⟨h1, h2, h3, h4⟩ := HB.out
    have hf3 : Fr (fun k => k = kb) w (w2.setCell ⟨kb, 0, none⟩ (.bool true)) := (HF0.out.trans hfw).of0.setCell (S := fun k => k = kb) (p := ⟨kb, 0, none⟩) (.inl rfl) (.bool true)
    have k1 := (h1.fr0 hfw).set_ 0 (.bool true)
    have k2 := (h2.fr0 hfw).far (p := ⟨kb, 0, none⟩) (fun e => HKO.out e.symm) (.bool true)
    have k3 := (h3.fr0 hfw).far (p := ⟨kb, 0, none⟩) (fun e => HKN.out e.symm) (.bool true)
    have k4 := (h4.fr0 hfw).far (p := ⟨kb, 0, none⟩) (fun e => HKS.out e.symm) (.bool true)
    simp only [List.setIfInBounds_toArray, List.set_cons_zero] at k1
    clear h1 h2 h3 h4
    generalize w2.setCell ⟨kb, 0, none⟩ (.bool true) = w3 at *
    have q1 := k1.cell 0
    have q2 := k2.cell 0
    have q3 := k3.cell 0
    have q4 := k4.cell 0
    have q5 := k2.frozen 0
    have q6 := k3.frozen 0
    have K1 := Lib.hid k1
    have K2 := Lib.hid k2
    have K3 := Lib.hid k3
    have HF3 := Lib.hid hf3
    have hkn := HKN.out
    have hko : ¬ kb = ob := HKO.out
    have hon := HON.out
    have hnn : ¬ nb = sb := hns
    have hko' := fun e => HKO.out (Eq.symm e)
    have hon' := fun e => HON.out (Eq.symm e)
    have hkn' := fun e => HKN.out (Eq.symm e)
    have hnn' : ¬ sb = nb := fun e => hns e.symm
    clear k1 k2 k3 k4 hf3 hfw hfw'
    go_wp2_with fail
    go_ret
    have j1 := (K1.out.far (p := ⟨nb, 0, none⟩) hkn (.int .i64 ((n : Int) + 1))).far (p := ⟨ob, 0, none⟩) hko (.bool true)
    have j2 := (K2.out.far (p := ⟨nb, 0, none⟩) hon (.int .i64 ((n : Int) + 1))).set_ 0 (.bool true)
    have j3 := (K3.out.set_ 0 (.int .i64 ((n : Int) + 1))).far (p := ⟨ob, 0, none⟩) (fun e => hon e.symm) (.bool true)
    simp only [List.setIfInBounds_toArray, List.set_cons_zero] at j2 j3
    exact ⟨rfl, j1, j2, j3, ((HF3.out.mono (S' := fun k => k = kb ∨ k = ob ∨ k = nb) (fun k _ h => .inl h)).setCell (p := ⟨nb, 0, none⟩) (.inl (.inr (.inr rfl))) (.int .i64 ((n : Int) + 1))).setCell (p := ⟨ob, 0, none⟩) (.inl (.inr (.inl rfl))) (.bool true)⟩
  · rw [decide_eq_false hst, decide_eq_true hst]
    have hsq : ((n : Int) + 1 == stop) = false := by simp; exact hst
    go_enter Try.func67, Try.ntmps67
    go_wp2_with fail
    rw [HW0.out, HZW.out]
    go_region_held3 (fun V => V.cell? ⟨kb, 0, none⟩ = some (.bool true) ∧ V.cell? ⟨ob, 0, none⟩ = some (.bool false) ∧ V.cell? ⟨nb, 0, none⟩ = some (.int .i64 (n : Int)) ∧ V.cell? ⟨lb, 0, none⟩ = some (.slice (some ⟨b, off, none⟩) nL cap) ∧ V.cell? ⟨b, off + n, none⟩ = some (.int .i64 ((i : Int) + 1)) ∧ V.cell? ⟨xb, 0, none⟩ = some (.pointer (some ⟨x, 0, none⟩)) ∧ V.cell? ⟨x, 1, none⟩ = some (.pointer (some ⟨d, 0, none⟩)) ∧ V.cell? ⟨d, 0, none⟩ = some (.slice (some ⟨b2, 0, none⟩) nW cap2) ∧ V.cell? ⟨b2, i * 5, none⟩ = some (.string (strOfNums nx)) ∧ V.cell? ⟨b2, i * 5 + 1, none⟩ = some (.int .i64 xt) ∧ V.cell? ⟨b2, i * 5 + 2, none⟩ = some (.int .i64 xl) ∧ V.cell? ⟨b2, i * 5 + 3, none⟩ = some (.bool xi) ∧ V.cell? ⟨b2, i * 5 + 4, none⟩ = some (.bool xo) ∧ V.cell? ⟨z, 0, none⟩ = some (.string (strOfNums nx)) ∧ V.cell? ⟨z, 1, none⟩ = some (.int .i64 xt) ∧ V.cell? ⟨z, 2, none⟩ = some (.int .i64 xl) ∧ V.cell? ⟨z, 3, none⟩ = some (.bool xi) ∧ V.cell? ⟨z, 4, none⟩ = some (.bool xo) ∧ V.frozen? ⟨kb, 0, none⟩ = false) (first | exact HK.out _ (Fr.refl _ _).drew | exact HK.out _ hfw | (obtain ⟨k0, k1, k2, k3, k4, k5, k6, k7, k8, k9, k10, k11, k12, k13, k14, k15, k16, k17, k18⟩ := HK.out _ hfw; exact ⟨setCell_same k0 _ _ k0, setCell_same k0 _ _ k1, setCell_same k0 _ _ k2, setCell_same k0 _ _ k3, setCell_same k0 _ _ k4, setCell_same k0 _ _ k5, setCell_same k0 _ _ k6, setCell_same k0 _ _ k7, setCell_same k0 _ _ k8, setCell_same k0 _ _ k9, setCell_same k0 _ _ k10, setCell_same k0 _ _ k11, setCell_same k0 _ _ k12, setCell_same k0 _ _ k13, setCell_same k0 _ _ k14, setCell_same k0 _ _ k15, setCell_same k0 _ _ k16, setCell_same k0 _ _ k17, ((HB.out.1.fr0 hfw).set_ 0 (.bool true)).frozen 0⟩)) (first | (go_at_call 31; refine (HWD.out _).mono ?_; rintro e w2 ⟨rfl, hfw'⟩; have hfw := (Fr.refl (fun _ => False) W0).drew.trans hfw'))
    obtain ⟨h1, h2, h3, h4⟩ := HB.out
    have hf3 : Fr (fun k => k = kb) w (w2.setCell ⟨kb, 0, none⟩ (.bool true)) := (HF0.out.trans hfw).of0.setCell (S := fun k => k = kb) (p := ⟨kb, 0, none⟩) (.inl rfl) (.bool true)
    have k1 := (h1.fr0 hfw).set_ 0 (.bool true)
    have k2 := (h2.fr0 hfw).far (p := ⟨kb, 0, none⟩) (fun e => HKO.out e.symm) (.bool true)
    have k3 := (h3.fr0 hfw).far (p := ⟨kb, 0, none⟩) (fun e => HKN.out e.symm) (.bool true)
    have k4 := (h4.fr0 hfw).far (p := ⟨kb, 0, none⟩) (fun e => HKS.out e.symm) (.bool true)
    simp only [List.setIfInBounds_toArray, List.set_cons_zero] at k1
    clear h1 h2 h3 h4
    generalize w2.setCell ⟨kb, 0, none⟩ (.bool true) = w3 at *
    have q1 := k1.cell 0
    have q2 := k2.cell 0
    have q3 := k3.cell 0
    have q4 := k4.cell 0
    have q5 := k2.frozen 0
    have q6 := k3.frozen 0
    have K1 := Lib.hid k1
    have K2 := Lib.hid k2
    have K3 := Lib.hid k3
    have HF3 := Lib.hid hf3
    have hkn := HKN.out
    have hko : ¬ kb = ob := HKO.out
    have hon := HON.out
    have hnn : ¬ nb = sb := hns
    have hko' := fun e => HKO.out (Eq.symm e)
    have hon' := fun e => HON.out (Eq.symm e)
    have hkn' := fun e => HKN.out (Eq.symm e)
    have hnn' : ¬ sb = nb := fun e => hns e.symm
    clear k1 k2 k3 k4 hf3 hfw hfw'
    go_wp2_with fail
    go_ret
    have j1 := (K1.out.far (p := ⟨nb, 0, none⟩) hkn (.int .i64 ((n : Int) + 1))).far (p := ⟨ob, 0, none⟩) hko (.bool false)
    have j2 := (K2.out.far (p := ⟨nb, 0, none⟩) hon (.int .i64 ((n : Int) + 1))).set_ 0 (.bool false)
    have j3 := (K3.out.set_ 0 (.int .i64 ((n : Int) + 1))).far (p := ⟨ob, 0, none⟩) (fun e => hon e.symm) (.bool false)
    simp only [List.setIfInBounds_toArray, List.set_cons_zero] at j2 j3
    exact ⟨rfl, j1, j2, j3, ((HF3.out.mono (S' := fun k => k = kb ∨ k = ob ∨ k = nb) (fun k _ h => .inl h)).setCell (p := ⟨nb, 0, none⟩) (.inl (.inr (.inr rfl))) (.int .i64 ((n : Int) + 1))).setCell (p := ⟨ob, 0, none⟩) (.inl (.inr (.inl rfl))) (.bool false)⟩
set_option maxRecDepth 100000 in
set_option maxHeartbeats 8000000 in
theorem goes1_bad (kb ob nb lb xb sb x : Nat) (lv mv kv : Value) (L : List Int) (stop : Int) (n i : Nat) (wd : Wd) (w : World)
    (hk : Blk w kb 4 #[.bool true]) (ho : Blk w ob 4 #[.bool false]) (hn : Blk w nb 3 #[.int .i64 n]) (hl : Blk w lb 41 #[lv]) (hxb : Blk w xb 50 #[.pointer (some ⟨x, 0, none⟩)]) (hs : Blk w sb 3 #[.int .i64 stop])
    (hko : kb ≠ ob) (hL : OwnI w B lv L) (hT : TwoO w x c d mv kv) (hR : RnS w B2 d s R) (hn5 : n ≤ 5000)
    (hlen : L.length ≤ 5000) (hLr : ∀ y ∈ L, 1 ≤ y ∧ y ≤ (s.ws.length : Int)) (hi6 : i < 1000000) (hwb : ∀ y ∈ wd.name, 0 ≤ y ∧ y ≤ 255) (hbad : ¬ (L[n]? = some ((i : Int) + 1) ∧ s.ws[i]? = some wd)) :
    Calls Try.prog 67 #[.int .i64 ((i : Int) + 1), wd.val, .pointer (some ⟨kb, 0, none⟩), .pointer (some ⟨ob, 0, none⟩), .pointer (some ⟨nb, 0, none⟩), .pointer (some ⟨lb, 0, none⟩), .pointer (some ⟨xb, 0, none⟩), .pointer (some ⟨sb, 0, none⟩)] w fun e w' => e = .returned (.bool false) ∧ Blk w' kb 4 #[.bool false] ∧ Blk w' ob 4 #[.bool true] ∧ Blk w' nb 3 #[.int .i64 ((n : Int) + 1)] ∧ Fr (fun k => k = kb ∨ k = ob ∨ k = nb) w w' := by
  have hf0 := (Fr.refl (fun _ => False) w).alloc (.cells #[.string (strOfNums wd.name), .int .i64 wd.xt, .int .i64 wd.list, .bool wd.imm, .bool wd.only] 30)
  have hz := Blk.new w 30 #[.string (strOfNums wd.name), .int .i64 wd.xt, .int .i64 wd.list, .bool wd.imm, .bool wd.only]
  obtain ⟨W0, hW0⟩ : ∃ W0, w.alloc (.cells #[.string (strOfNums wd.name), .int .i64 wd.xt, .int .i64 wd.list, .bool wd.imm, .bool wd.only] 30) = W0 := ⟨_, rfl⟩
  have hws : s.ws.length ≤ 5000 := by
    obtain ⟨_, _, _, _, _, _, _, h6, _⟩ := hR
    exact h6.1
  obtain ⟨_, A, cap, rfl, hLc⟩ := hL.rd
  rw [hW0] at hf0 hz
  have hlt : ∀ {q : Addr} {u : Value}, w.cell? q = some u → W0.cell? q = some u := fun {q u} h => (hf0.cell (World.block_lt_of_cell? _ _ h) (fun x => x)).trans h
  obtain ⟨z, hzw⟩ : ∃ z, w.heap.size = z := ⟨_, rfl⟩
  rw [hzw] at hz
  obtain ⟨nL, hnL'⟩ : ∃ nL, L.length = nL := ⟨_, rfl⟩
  have hcN : n < nL → ∃ b off y, A = some ⟨b, off, none⟩ ∧ L[n]? = some y ∧ W0.cell? ⟨b, off + n, none⟩ = some (.int .i64 y) := fun h => by
    obtain ⟨b, off, e2, h3⟩ := hLc (by omega)
    obtain ⟨y, hy⟩ : ∃ y, L[n]? = some y := ⟨_, List.getElem?_eq_getElem (by omega)⟩
    exact ⟨b, off, y, e2, hy, hlt (h3 n _ (by rw [List.getElem?_map, hy]; rfl))⟩
  rw [hnL'] at hlen hl
  have HKO := Lib.hid (show ¬ kb = ob from hko)
  have HKN := Lib.hid (show ¬ kb = nb from hk.ne_ hn (by decide))
  have HON := Lib.hid (show ¬ ob = nb from ho.ne_ hn (by decide))
  have hk0 := hk.fr0 hf0
  have ho0 := ho.fr0 hf0
  have hn0 := hn.fr0 hf0
  have p0 := hk0.cell 0
  have f0 := hk0.frozen 0
  have p1 := ho0.cell 0
  have f1 := ho0.frozen 0
  have p2 := hn0.cell 0
  have f2 := hn0.frozen 0
  have p3 := hlt (hl.cell 0)
  have K1 := Lib.hid hk0
  have K2 := Lib.hid ho0
  have K3 := Lib.hid hn0
  have HF0 := Lib.hid hf0
  have HW0 := Lib.hid hW0
  have HZW := Lib.hid hzw
  have n5 : (n : Int) ≤ 5000 := by omega
  have x4 : (0 : Int) ≤ (n : Int) := by omega
  have hko' : ¬ kb = ob := HKO.out
  have hkn := HKN.out
  have hon := HON.out
  have hkoS := fun e => HKO.out (Eq.symm e)
  have honS := fun e => HON.out (Eq.symm e)
  have hknS := fun e => HKN.out (Eq.symm e)
  clear hk ho hn hk0 ho0 hn0 hW0 hzw hko
  by_cases hnl : n < nL
  · obtain ⟨b, off, y, rfl, hy, p4⟩ := hcN hnl
    have hnlI : (n : Int) < (nL : Int) := by omega
    have hyr := hLr y (List.mem_of_getElem? hy)
    by_cases hyi : y = (i : Int) + 1
    · subst hyi
      obtain ⟨u, hu⟩ : ∃ u, s.ws[i]? = some u := ⟨_, List.getElem?_eq_getElem (by omega)⟩
      have hub : ∀ y ∈ u.name, 0 ≤ y ∧ y ≤ 255 := by
        obtain ⟨_, _, _, _, _, _, _, h6, _⟩ := hR
        exact (h6.2 _ (List.mem_of_getElem? hu)).1
      have heq : eqWd wd u = false := by
        cases he : eqWd wd u
        · rfl
        · exact absurd ⟨hy, by rw [hu, eqWd_true he]⟩ hbad
      obtain ⟨lv2, ov2, h1, h2, _⟩ := hR.fr0 hf0
      obtain ⟨b2, cap2, hA2, _, g0, g1, g2, g3, g4⟩ := words_cells h2 hu
      have d0 := h1.cell 0
      obtain ⟨nW, hnW'⟩ : ∃ nW, s.ws.length = nW := ⟨_, rfl⟩
      rw [hnW'] at hws hA2 hyr
      subst hA2
      have z0 := hz.cell 0
      have z1 := hz.cell 1
      have z2 := hz.cell 2
      have z3 := hz.cell 3
      have z4 := hz.cell 4
      have p5 := hlt (hxb.cell 0)
      have p6 := hlt (Blk.cell hT 1)
      have HWD := Lib.hid (fun W => word_any wd u hwb hub W)
      rw [heq] at HWD
      obtain ⟨nx, xt, xl, xi, xo⟩ := wd
      obtain ⟨ux, ut, ul, ui, uo⟩ := u
      dsimp only [Wd.val] at *
      have hilI : (i : Int) < (nW : Int) := by omega
      have x1 : IntKind.i64.wrap ((i : Int) + 1 - 1) = (i : Int) := by rw [IntWalk.i64_in _ (by omega)]; omega
      have x2 : IntKind.i64.wrap (i : Int) = (i : Int) := IntWalk.i64_in _ (by omega)
      have x3 : (0 : Int) ≤ (i : Int) := by omega
      clear hyr hy hbad hLr hcN hlt hz hL hLc hR hT hxb hs hl hf0 h1 h2 hu hub heq hwb hnW'
      go_enter Try.func67, Try.ntmps67
      go_wp2_with fail
      rw [HW0.out, HZW.out]
      go_still_tail 32, (by kernel_rfl)
      change wpList _ _ _ _ _ W0.drew
      go_wp2_with (first | (go_at_call 31; (with_reducible refine (HWD.out _).mono ?_); rintro e w2 ⟨rfl, hfw'⟩; have hfw := (Fr.refl (fun _ => False) W0).drew.trans hfw'; have f0 := (K1.out.fr0 hfw).frozen 0; have f1 := (K2.out.fr0 hfw).frozen 0; have f2 := (K3.out.fr0 hfw).frozen 0; have p2 := (K3.out.fr0 hfw).cell 0; have p0 := (K1.out.fr0 hfw).cell 0; have p1 := (K2.out.fr0 hfw).cell 0))
      have L1 := K1.out.fr0 hfw
      have L2 := K2.out.fr0 hfw
      have L3 := K3.out.fr0 hfw
      have HF2 := HF0.out.trans hfw
      go_ret
      have j1 := ((L1.set_ 0 (.bool false)).far (p := ⟨nb, 0, none⟩) hkn (.int .i64 ((n : Int) + 1))).far (p := ⟨ob, 0, none⟩) hko' (.bool true)
      have j2 := ((L2.far (p := ⟨kb, 0, none⟩) hkoS (.bool false)).far (p := ⟨nb, 0, none⟩) hon (.int .i64 ((n : Int) + 1))).set_ 0 (.bool true)
      have j3 := ((L3.far (p := ⟨kb, 0, none⟩) hknS (.bool false)).set_ 0 (.int .i64 ((n : Int) + 1))).far (p := ⟨ob, 0, none⟩) honS (.bool true)
      simp only [List.setIfInBounds_toArray, List.set_cons_zero] at j1 j2 j3
      exact ⟨rfl, j1, j2, j3, ((HF2.of0.setCell (S := fun k => k = kb ∨ k = ob ∨ k = nb) (p := ⟨kb, 0, none⟩) (.inl (.inl rfl)) (.bool false)).setCell (p := ⟨nb, 0, none⟩) (.inl (.inr (.inr rfl))) (.int .i64 ((n : Int) + 1))).setCell (p := ⟨ob, 0, none⟩) (.inl (.inr (.inl rfl))) (.bool true)⟩
    · have hyb : ((i : Int) + 1 == y) = false := by simp; exact fun e => hyi e.symm
      clear hyr hy hbad hLr hcN hlt hz hL hLc hR hT hxb hs hl hf0
      unfold Wd.val
      go_enter Try.func67, Try.ntmps67
      go_wp2_with fail
      rw [HW0.out, HZW.out]
      go_region
      all_goals
        go_wp2_with fail
        go_ret
        have j1 := (((K1.out.set_ 0 (.bool false)).far (p := ⟨nb, 0, none⟩) hkn (.int .i64 ((n : Int) + 1))).far (p := ⟨ob, 0, none⟩) hko' (.bool true)).drew
        have j2 := (((K2.out.far (p := ⟨kb, 0, none⟩) hkoS (.bool false)).far (p := ⟨nb, 0, none⟩) hon (.int .i64 ((n : Int) + 1))).set_ 0 (.bool true)).drew
        have j3 := (((K3.out.far (p := ⟨kb, 0, none⟩) hknS (.bool false)).set_ 0 (.int .i64 ((n : Int) + 1))).far (p := ⟨ob, 0, none⟩) honS (.bool true)).drew
        simp only [List.setIfInBounds_toArray, List.set_cons_zero] at j1 j2 j3
        exact ⟨rfl, j1, j2, j3, ((((HF0.out.of0.setCell (S := fun k => k = kb ∨ k = ob ∨ k = nb) (p := ⟨kb, 0, none⟩) (.inl (.inl rfl)) (.bool false)).setCell (p := ⟨nb, 0, none⟩) (.inl (.inr (.inr rfl))) (.int .i64 ((n : Int) + 1))).setCell (p := ⟨ob, 0, none⟩) (.inl (.inr (.inl rfl))) (.bool true))).drew⟩
  · have hnlI : ¬ (n : Int) < (nL : Int) := by omega
    clear hbad hLr hcN hlt hz hL hLc hR hT hxb hs hl hf0
    unfold Wd.val
    go_enter Try.func67, Try.ntmps67
    go_wp2_with fail
    rw [HW0.out, HZW.out]
    go_region
    all_goals
      go_wp2_with fail
      go_ret
      have j1 := (((K1.out.set_ 0 (.bool false)).far (p := ⟨nb, 0, none⟩) hkn (.int .i64 ((n : Int) + 1))).far (p := ⟨ob, 0, none⟩) hko' (.bool true)).drew
      have j2 := (((K2.out.far (p := ⟨kb, 0, none⟩) hkoS (.bool false)).far (p := ⟨nb, 0, none⟩) hon (.int .i64 ((n : Int) + 1))).set_ 0 (.bool true)).drew
      have j3 := (((K3.out.far (p := ⟨kb, 0, none⟩) hknS (.bool false)).set_ 0 (.int .i64 ((n : Int) + 1))).far (p := ⟨ob, 0, none⟩) honS (.bool true)).drew
      simp only [List.setIfInBounds_toArray, List.set_cons_zero] at j1 j2 j3
      exact ⟨rfl, j1, j2, j3, ((((HF0.out.of0.setCell (S := fun k => k = kb ∨ k = ob ∨ k = nb) (p := ⟨kb, 0, none⟩) (.inl (.inl rfl)) (.bool false)).setCell (p := ⟨nb, 0, none⟩) (.inl (.inr (.inr rfl))) (.int .i64 ((n : Int) + 1))).setCell (p := ⟨ob, 0, none⟩) (.inl (.inr (.inl rfl))) (.bool true))).drew⟩
end
end Go.Proofs.Ytmhjnbolngdijaa

namespace Go.Proofs.Ytmhjnbolngdijaa
open Go Go.RowKit
set_option linter.unusedVariables false
attribute [local go_sem] Oper.semAt_some

theorem upto_split {α : Type} (f : Nat → α) {k n : Nat} (h : k ≤ n) : ∃ r, upto f n = upto f k ++ r := by
  obtain ⟨m, rfl⟩ : ∃ m, n = k + m := ⟨n - k, by omega⟩
  refine ⟨(List.range m).map fun i => f (k + i), ?_⟩
  unfold upto
  rw [List.range_add, List.map_append, List.map_map]
  rfl
/-- What a walk has yielded so far is what the document tells. -/
theorem sel_said {l : Int} {ws : List Wd} (hlen : ws.length ≤ 5000) (hby : ∀ x ∈ ws, ∀ y ∈ x.name, 0 ≤ y ∧ y ≤ 255) {k : Nat} (hk : k ≤ ws.length) {p : List WA} {x : WA} (h : sel l (upto (bwW ws) k) = p ++ [x]) :
    (wlk l ws ws.length)[p.length]? = some ((x.1.1 : Int) + 1) ∧ ws[x.1.1]? = some x.1.2 := by
  obtain ⟨r, hr⟩ := upto_split (bwW ws) hk
  constructor
  · unfold wlk
    rw [hr]
    unfold sel at h ⊢
    rw [List.filter_append, h, List.getElem?_map]
    simp
  · have hx : x ∈ upto (bwW ws) k := by
      have : x ∈ sel l (upto (bwW ws) k) := by rw [h]; simp
      unfold sel at this
      exact (List.mem_filter.1 this).1
    unfold upto at hx
    obtain ⟨j, hj, rfl⟩ := List.mem_map.1 hx
    have hjk := List.mem_range.1 hj
    have hi : ws.length - 1 - j < ws.length := by omega
    have hw : wdAt ws (ws.length - 1 - j) = ws[ws.length - 1 - j] := wdAt_eq (List.getElem?_eq_getElem hi)
    have hh : ws.length - 1 - j < 1000000 ∧ ∀ y ∈ (wdAt ws (ws.length - 1 - j)).name, 0 ≤ y ∧ y ≤ 255 := ⟨by omega, by rw [hw]; exact hby _ (List.getElem_mem hi)⟩
    unfold bwW
    rw [dif_pos hh]
    dsimp only
    rw [hw]
    exact List.getElem?_eq_getElem hi

theorem wlk_in {l : Int} {ws : List Wd} (hlen : ws.length ≤ 5000) (hby : ∀ x ∈ ws, ∀ y ∈ x.name, 0 ≤ y ∧ y ≤ 255) : ∀ y ∈ wlk l ws ws.length, 1 ≤ y ∧ y ≤ (ws.length : Int) := fun y hy => by
  unfold wlk sel upto at hy
  obtain ⟨x, hx, rfl⟩ := List.mem_map.1 hy
  obtain ⟨j, hj, rfl⟩ := List.mem_map.1 (List.mem_filter.1 hx).1
  have hjk := List.mem_range.1 hj
  have hi : ws.length - 1 - j < ws.length := by omega
  have hh : ws.length - 1 - j < 1000000 ∧ ∀ y ∈ (wdAt ws (ws.length - 1 - j)).name, 0 ≤ y ∧ y ≤ 255 := ⟨by omega, by rw [wdAt_eq (List.getElem?_eq_getElem hi)]; exact hby _ (List.getElem_mem hi)⟩
  unfold bwW
  rw [dif_pos hh]
  dsimp only
  omega

section
variable {B B2 x c d : Nat} {s : St} {S R : Nat → Prop} {mv kv : Value}
set_option maxRecDepth 100000 in
set_option maxHeartbeats 8000000 in
theorem goes_any (l stop : Int) (w : World) (hT : TwoO w x c d mv kv) (h : NgS w B c s S) (hR : RnS w B2 d s R) (hSR : ∀ k, S k → ¬ R k ∧ k ≠ x) :
    Calls Try.prog 56 #[.pointer (some ⟨x, 0, none⟩), .int .i64 l, .int .i64 stop] w fun e w' => e = .returned (.bool true) ∧ ∃ S', NgI w' B c s S' ∧ Turn S S' w w' := by
  have hws : s.ws.length ≤ 5000 ∧ ∀ x ∈ s.ws, ∀ y ∈ x.name, 0 ≤ y ∧ y ≤ 255 := by
    obtain ⟨_, _, _, _, _, _, _, h6, _⟩ := hR
    exact ⟨h6.1, fun x hx => (h6.2 x hx).1⟩
  obtain ⟨W1, hW1⟩ : ∃ W1, (w.alloc (.cells #[.pointer (some ⟨x, 0, none⟩)] 50)).alloc (.cells #[.int .i64 stop] 3) = W1 := ⟨_, rfl⟩
  have hF1 : Fr0 w W1 := by
    rw [← hW1]
    exact ((Fr.refl _ w).alloc _).alloc _
  have hsz1 : W1.heap.size = w.heap.size + 2 := by rw [← hW1]; simp
  have hxb : Blk W1 w.heap.size 50 #[.pointer (some ⟨x, 0, none⟩)] := by
    rw [← hW1]
    exact (Blk.new w _ _).alloc _
  have hsb : Blk W1 (w.heap.size + 1) 3 #[.int .i64 stop] := by
    rw [← hW1]
    have := Blk.new (w.alloc (.cells #[.pointer (some ⟨x, 0, none⟩)] 50)) 3 #[.int .i64 stop]
    simpa using this
  have HW := Lib.hid (Walk_ng l W1 (h.fr0 hF1))
  have p0 : W1.cell? ⟨x, 0, none⟩ = some (.pointer (some ⟨c, 0, none⟩)) := (Blk.fr0 hT hF1).cell 0
  have p2 : W1.cell? ⟨x, 1, none⟩ = some (.pointer (some ⟨d, 0, none⟩)) := (Blk.fr0 hT hF1).cell 1
  have p3 : W1.cell? ⟨w.heap.size, 0, none⟩ = some (.pointer (some ⟨x, 0, none⟩)) := hxb.cell 0
  have HXB := Lib.hid hxb
  have HSB := Lib.hid hsb
  have HF1 := Lib.hid hF1
  have HT := Lib.hid (Blk.fr0 hT hF1)
  have HR := Lib.hid (hR.fr0 hF1)
  have HLO := Lib.hid (fun k hk => h.lo (k := k) hk)
  have HSR := Lib.hid hSR
  have HW1 := Lib.hid hW1
  have HWS := Lib.hid hws
  have HXL := Lib.hid (Blk.lt hT)
  have HRL := Lib.hid (fun k hk => hR.lo (k := k) hk)
  have hfn := fun W caps => funcEq W 39 #[] caps
  clear hxb hsb hF1 hT hR h hSR hW1 hws
  go_enter Try.func56, Try.ntmps56
  go_upto_region 1 with (fail)
  rw [HW1.out]
  have HSX := Lib.hid (show ∀ k, S k → k ≠ x from fun k hk => (HSR.out k hk).2)
  go_wp2_with (first | (go_at_call 15; refine HW.out.mono ?_; rintro e w2 ⟨lb, tb, u, S2, rfl, hlb, htb, hu, hN2, ht2, hlo2, hn1, hn2, hn3⟩; have xb2 := HXB.out.fr ht2.1 (fun e => Nat.lt_irrefl _ (HLO.out _ e).2); have T2 := Blk.fr HT.out ht2.1 (fun e => HSX.out _ e rfl); have R2 := HR.out.fr ht2.1 (fun k hk hs => (HSR.out k hs).1 hk); have k1 := xb2.cell 0; have k2 := T2.cell 0; have k3 := T2.cell 1; have HWR := Lib.hid (Walk_rn l w2 R2); have XB2 := Lib.hid xb2; have HT2 := Lib.hid T2; have HR2 := Lib.hid R2; have HLB := Lib.hid hlb; have HTB := Lib.hid htb; have HU := Lib.hid hu; have HN2 := Lib.hid hN2; have HTU := Lib.hid ht2; have HLO2 := Lib.hid hlo2; clear hlb htb hu hN2 ht2 hlo2 xb2 T2 R2) | (go_at_call 66; refine HWR.out.mono ?_; rintro e w3 ⟨lv, rfl, hL, hf3⟩; obtain ⟨_, A, cap, hA, _⟩ := id hL.rd; subst hA; have HL := Lib.hid hL; have HF3 := Lib.hid hf3; clear hL hf3))
  obtain ⟨W4, hW4⟩ : ∃ W4, ((((w3.alloc (.cells #[.slice A (wlk l s.ws s.ws.length).length cap] 41)).alloc (.cells #[.int .i64 0] 3)).alloc (.cells #[.bool true] 4)).alloc (.cells #[.bool false] 4)) = W4 := ⟨_, rfl⟩
  rw [hW4]
  have hF4 : Fr0 w3 W4 := by
    rw [← hW4]
    exact ((((Fr.refl _ w3).alloc _).alloc _).alloc _).alloc _
  have hs4 : W4.heap.size = w3.heap.size + 4 := by rw [← hW4]; simp
  have bL : Blk W4 w3.heap.size 41 #[.slice A (wlk l s.ws s.ws.length).length cap] := by
    rw [← hW4]
    exact (((Blk.new w3 _ _).alloc _).alloc _).alloc _
  have bN : Blk W4 (w3.heap.size + 1) 3 #[.int .i64 0] := by
    rw [← hW4]
    have := ((Blk.new (w3.alloc (.cells #[.slice A (wlk l s.ws s.ws.length).length cap] 41)) 3 #[.int .i64 0]).alloc (.cells #[.bool true] 4)).alloc (.cells #[.bool false] 4)
    simpa using this
  have bK : Blk W4 (w3.heap.size + 1 + 1) 4 #[.bool true] := by
    rw [← hW4]
    have := (Blk.new ((w3.alloc (.cells #[.slice A (wlk l s.ws s.ws.length).length cap] 41)).alloc (.cells #[.int .i64 0] 3)) 4 #[.bool true]).alloc (.cells #[.bool false] 4)
    simpa using this
  have bO : Blk W4 (w3.heap.size + 1 + 1 + 1) 4 #[.bool false] := by
    rw [← hW4]
    have := Blk.new (((w3.alloc (.cells #[.slice A (wlk l s.ws s.ws.length).length cap] 41)).alloc (.cells #[.int .i64 0] 3)).alloc (.cells #[.bool true] 4)) 4 #[.bool false]
    simpa using this
  clear hW4
  have hz3 := HF3.out.size
  have hz2 := HTU.out.1.size
  obtain ⟨hlo, hto⟩ := HLO2.out
  have hSlt : ∀ k, S2 k → k < w2.heap.size := fun k hk => (HN2.out.lo hk).2
  have hF34 := HF3.out.trans hF4
  have hxb4 := XB2.out.fr0 hF34
  have hsb4 := (HSB.out.fr HTU.out.1 (fun e => by have := (HLO.out _ e).2; omega)).fr0 hF34
  have hT4 := Blk.fr0 HT2.out hF34
  have hR4 := HR2.out.fr0 hF34
  have hL4 := HL.out.fr hF4 (fun _ _ x => x)
  have hu4 := own_fr HU.out hF34 (fun _ _ x => x)
  have hul := fun q hq => (own_lo HU.out q hq).2
  have hlb4 := (HLB.out.fr0 hF34).cell 0
  have htb4 := (HTB.out.fr0 hF34).cell 0
  have htl := HTB.out.lt
  have hws := HWS.out
  have hwl := wlk_len l s.ws s.ws.length
  have hwi := wlk_in (l := l) hws.1 hws.2
  have hAl := fun q hq => (own_lo HL.out q hq).2
  have hxl := HXL.out
  have hrl : ∀ k, R k → k < w.heap.size := fun k hk => (HRL.out k hk).2
  have hdl : d < w.heap.size := hrl d HR2.out.self
  have hrow : WdSl (fun b => b = w3.heap.size + 1 + 1 ∨ b = w3.heap.size + 1 + 1 + 1 ∨ b = w3.heap.size + 1) W4.heap.size W4 u s.ws := wdRow_of_own hu4 (fun q hq => by have := hul q hq; exact ⟨by omega, by omega⟩)
  refine (walk1_any 67 #[.pointer (some ⟨w3.heap.size + 1 + 1, 0, none⟩), .pointer (some ⟨w3.heap.size + 1 + 1 + 1, 0, none⟩), .pointer (some ⟨w3.heap.size + 1, 0, none⟩), .pointer (some ⟨w3.heap.size, 0, none⟩), .pointer (some ⟨w.heap.size, 0, none⟩), .pointer (some ⟨w.heap.size + 1, 0, none⟩)] (fun b => b = w3.heap.size + 1 + 1 ∨ b = w3.heap.size + 1 + 1 + 1 ∨ b = w3.heap.size + 1)
    (fun pre W => Blk W (w3.heap.size + 1 + 1) 4 #[.bool true] ∧ Blk W (w3.heap.size + 1 + 1 + 1) 4 #[.bool false] ∧ Blk W (w3.heap.size + 1) 3 #[.int .i64 (pre.length : Nat)] ∧ Blk W w3.heap.size 41 #[.slice A (wlk l s.ws s.ws.length).length cap] ∧ Blk W w.heap.size 50 #[.pointer (some ⟨x, 0, none⟩)] ∧ Blk W (w.heap.size + 1) 3 #[.int .i64 stop] ∧ OwnI W w2.heap.size (.slice A (wlk l s.ws s.ws.length).length cap) (wlk l s.ws s.ws.length) ∧ TwoO W x c d mv kv ∧ RnS W B2 d s R)
    (fun pre W => ∃ p y, pre = p ++ [y] ∧ Blk W (w3.heap.size + 1) 3 #[.int .i64 (pre.length : Nat)] ∧ ((Blk W (w3.heap.size + 1 + 1) 4 #[.bool true] ∧ (pre.length : Int) = stop) ∨ ¬ ((wlk l s.ws s.ws.length)[p.length]? = some ((y.1.1 : Int) + 1) ∧ s.ws[y.1.1]? = some y.1.2)))
    lb tb u l s.ws W4 (fun _ _ => rfl) (by omega) hws.2 hlb4 htb4 (by omega) hrow (by omega)
    ⟨bK, bO, bN, bL, hxb4, hsb4, hL4, hT4, hR4⟩
    (fun pre W W' ⟨h1, h2, h3, h4, h5, h6, h7, h8, h9⟩ hsz hfr => ⟨h1.fr hfr (by omega), h2.fr hfr (by omega), h3.fr hfr (by omega), h4.fr hfr (by omega), h5.fr hfr (by omega), h6.fr hfr (by omega), h7.fr hfr (fun q hq => by have := hAl q hq; omega), Blk.fr h8 hfr (by omega), h9.fr hfr (fun k hk => by have := hrl k hk; omega)⟩)
    (fun pre W W' ⟨p, y, e, h1, h2⟩ hsz hfr => ⟨p, y, e, h1.fr hfr (by omega), h2.imp (fun h => ⟨h.1.fr hfr (by omega), h.2⟩) id⟩)
    (fun pre y W hpl hyl ⟨h1, h2, h3, h4, h5, h6, h7, h8, h9⟩ hfr => ?_)).mono ?_
  · by_cases hg : (wlk l s.ws s.ws.length)[pre.length]? = some ((y.1.1 : Int) + 1) ∧ s.ws[y.1.1]? = some y.1.2
    · refine (goes1_good _ _ _ _ _ _ x _ mv kv _ stop pre.length y.1.1 y.1.2 W h1 h2 h3 h4 h5 h6 (by omega) (by omega) h7 (fun hq => by have := hAl _ hq; omega) h8 h9 (by omega) hg.1 hg.2).mono ?_
      rintro e W' ⟨rfl, k1, k2, k3, kf⟩
      refine ⟨?_, kf⟩
      have hll : (((pre ++ [y]).length : Nat) : Int) = (pre.length : Int) + 1 := by simp
      rw [hll]
      by_cases hst : (pre.length : Int) + 1 = stop
      · exact .inr ⟨by simp [hst], pre, y, rfl, k3, .inl ⟨k1, hst⟩⟩
      · rw [decide_eq_false hst] at k2
        exact .inl ⟨by simp [hst], k1, k2, k3, h4.fr kf (by omega), h5.fr kf (by omega), h6.fr kf (by omega), h7.fr kf (fun q hq => by have := hAl q hq; omega), Blk.fr h8 kf (by omega), h9.fr kf (fun k hk => by have := hrl k hk; omega)⟩
    · refine (goes1_bad _ _ _ _ _ _ x _ mv kv _ stop pre.length y.1.1 y.1.2 W h1 h2 h3 h4 h5 h6 (by omega) h7 h8 h9 (by omega) (by omega) hwi y.2.1 y.2.2 hg).mono ?_
      rintro e W' ⟨rfl, k1, k2, k3, kf⟩
      have hll : (((pre ++ [y]).length : Nat) : Int) = (pre.length : Int) + 1 := by simp
      rw [hll]
      exact ⟨.inr ⟨rfl, pre, y, rfl, k3, .inr hg⟩, kf⟩
  · rintro e w5 ⟨rfl, hres, hf5⟩
    obtain ⟨N, hK5, hN5, hend⟩ : ∃ N : Nat, Blk w5 (w3.heap.size + 1 + 1) 4 #[.bool true] ∧ Blk w5 (w3.heap.size + 1) 3 #[.int .i64 N] ∧ (N = (wlk l s.ws s.ws.length).length ∨ (N : Int) = stop ∧ 0 < stop) := by
      rcases hres with ⟨h1, _, h3, _⟩ | ⟨k, hk, p, y, e, h3, h4⟩
      · exact ⟨_, h1, h3, .inl (by unfold wlk; rw [List.length_map])⟩
      · rcases h4 with ⟨h4, h5⟩ | h4
        · rw [e] at h3 h5
          exact ⟨_, h4, h3, .inr ⟨h5, by simp at h5; omega⟩⟩
        · exact absurd (sel_said hws.1 hws.2 hk e) h4
    have hbL := bL.fr hf5 (by omega)
    have hbS := hsb4.fr hf5 (by omega)
    have q1 := hK5.cell 0
    have q2 := hN5.cell 0
    have q3 := hbL.cell 0
    have q4 := hbS.cell 0
    have hFN : Fr0 w2 w5 := hF34.then hf5 (fun k hk e => by omega)
    have hpost : ∃ S', NgI w5 B c s S' ∧ Turn S S' w w5 := ⟨S2, HN2.out.fr0 hFN, ((Turn.of0 HF1.out).trans HTU.out).trans (Turn.of0 hFN)⟩
    have HPOST := Lib.hid hpost
    obtain ⟨nL, hnL⟩ : ∃ nL, (wlk l s.ws s.ws.length).length = nL := ⟨_, rfl⟩
    rw [hnL] at hend q3 hwl
    clear hpost hFN hbL hbS hK5 hN5 hf5 hres hrow hu4 hL4 hR4 hT4 hsb4 hxb4 hF34 hSlt bL bN bK bO hlb4 htb4 hul hAl hF4 hrl hwi p0 p2 p3
    have hcase : ((N : Int) = stop ∧ 0 < stop) ∨ ((N : Int) = stop ∧ ¬ 0 < stop ∧ N = nL) ∨ (((N : Int) == stop) = false ∧ N = nL) := by
      by_cases h : (N : Int) = stop
      · by_cases h2 : 0 < stop
        · exact .inl ⟨h, h2⟩
        · exact .inr (.inl ⟨h, h2, by omega⟩)
      · exact .inr (.inr ⟨by simp; exact h, by omega⟩)
    rcases hcase with ⟨rfl, h2⟩ | ⟨rfl, h2, rfl⟩ | ⟨h1, rfl⟩
    all_goals
      go_wp2_with fail
      go_ret
      exact ⟨rfl, HPOST.out⟩
end
end Go.Proofs.Ytmhjnbolngdijaa

namespace Go.Proofs.Ytmhjnbolngdijaa
open Go Go.RowKit
set_option linter.unusedVariables false

/-- The pair x: names c hold s1 in blocks S, the document's d hold s2 in blocks R. -/
structure Both (w : World) (B x c d : Nat) (s1 : St) (S : Nat → Prop) (s2 : St) (R : Nat → Prop) (mv kv : Value) : Prop where
  two : TwoO w x c d mv kv
  ng : NgS w B c s1 S
  rn : RnS w B d s2 R
  apart : ∀ k, S k → ¬ R k ∧ k ≠ x
  apartR : ∀ k, R k → k ≠ x
  lo : B ≤ x
section
variable {w w' : World} {B x c d : Nat} {s1 s2 s' : St} {S R S' R' T : Nat → Prop} {mv kv : Value}
theorem Both.fr0 (h : Both w B x c d s1 S s2 R mv kv) (hf : Fr0 w w') : Both w' B x c d s1 S s2 R mv kv :=
  ⟨Blk.fr0 h.two hf, h.ng.fr0 hf, h.rn.fr0 hf, h.apart, h.apartR, h.lo⟩
theorem Both.fr (h : Both w B x c d s1 S s2 R mv kv) (hf : Fr T w w') (hS : ∀ k, S k → ¬ T k) (hR : ∀ k, R k → ¬ T k) (hx : ¬ T x) : Both w' B x c d s1 S s2 R mv kv :=
  ⟨Blk.fr h.two hf hx, h.ng.fr hf hS, h.rn.fr hf hR, h.apart, h.apartR, h.lo⟩
theorem Both.xlt (h : Both w B x c d s1 S s2 R mv kv) : x < w.heap.size := Blk.lt h.two
theorem Both.atNg (h : Both w B x c d s1 S s2 R mv kv) (hn : NgI w' B c s' S') (ht : Turn S S' w w') : Both w' B x c d s' S' s2 R mv kv ∧ Turn (fun k => S k ∨ R k) (fun k => S' k ∨ R k) w w' := by
  refine ⟨⟨Blk.fr h.two ht.1 (fun e => (h.apart _ e).2 rfl), .inl hn, h.rn.fr ht.1 (fun k hk hs => (h.apart k hs).1 hk), fun k hk => ?_, h.apartR, h.lo⟩, ht.1.mono (fun k _ hk => .inl hk), fun k hk => ?_⟩
  · rcases ht.2 k hk with h1 | h1
    · exact h.apart k h1
    · exact ⟨fun h2 => by have := (h.rn.lo h2).2; omega, by have := h.xlt; omega⟩
  · rcases hk with h1 | h1
    · rcases ht.2 k h1 with h2 | h2
      · exact .inl (.inl h2)
      · exact .inr h2
    · exact .inl (.inr h1)
theorem Both.atRn (h : Both w B x c d s1 S s2 R mv kv) (hn : RnS w' B d s' R') (ht : Turn R R' w w') : Both w' B x c d s1 S s' R' mv kv ∧ Turn (fun k => S k ∨ R k) (fun k => S k ∨ R' k) w w' := by
  refine ⟨⟨Blk.fr h.two ht.1 (fun e => h.apartR _ e rfl), h.ng.fr ht.1 (fun k hk => (h.apart k hk).1), hn, fun k hk => ⟨fun h1 => ?_, (h.apart k hk).2⟩, fun k hk => ?_, h.lo⟩, ht.1.mono (fun k _ hk => .inr hk), fun k hk => ?_⟩
  · rcases ht.2 k h1 with h2 | h2
    · exact (h.apart k hk).1 h2
    · have := (h.ng.lo hk).2
      omega
  · rcases ht.2 k hk with h1 | h1
    · exact h.apartR k h1
    · have := h.xlt
      omega
  · rcases hk with h1 | h1
    · exact .inl (.inl h1)
    · rcases ht.2 k h1 with h2 | h2
      · exact .inl (.inr h2)
      · exact .inr h2
end
/-- What a step makes of what names hold. -/
def stepSt (s : St) (t : Stp) : St :=
  if t.kind = 1 then addSt s ⟨t.name, t.xt, t.list, t.imm, t.only⟩
  else if t.kind = 3 then setSt s t.n ⟨t.name, t.xt, t.list, t.imm, t.only⟩
  else if t.kind = 6 then listSt s
  else if t.kind = 7 then ordSt s t.ls
  else if t.kind = 8 then curSt s t.list
  else s
end Go.Proofs.Ytmhjnbolngdijaa
