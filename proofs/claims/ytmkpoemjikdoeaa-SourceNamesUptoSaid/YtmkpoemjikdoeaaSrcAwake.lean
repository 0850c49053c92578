/- What the document fixes of chapter 17 (the law's awake). -/
import Derived.Test.YtmkpoemjikdoeaaSrcLeft
import Derived.Lib.SlBytesConst
namespace Go.Proofs.Ytmkpoemjikdoeaa
open Go Go.RowKit
set_option linter.unusedVariables false

theorem two_cells {W : World} {x : Nat} {a b c d : Value} (h : Blk W x 33 #[a, b, c, d]) : W.cell? ⟨x, 0, none⟩ = some a ∧ W.cell? ⟨x, 1, none⟩ = some b ∧ W.cell? ⟨x, 2, none⟩ = some c ∧ W.cell? ⟨x, 3, none⟩ = some d :=
  ⟨h.cell 0, h.cell 1, h.cell 2, h.cell 3⟩
def abc : List Int := [32, 32, 97, 98, 32, 99]

theorem row_const (W : World) (t : TypeId) (zs : List Int) (fz : Nat × Nat) (n : Nat) (hn : zs.length = n) (hz : Bytes zs) (hl : n ≤ 9223372036854775807) : Row8 (W.alloc (.cells (cells8 zs) t fz)) (W.heap.size + 1) (.slice (some ⟨W.heap.size, 0, none⟩) n n) zs := by
  subst hn
  exact ⟨_, _, rfl, Nat.le_refl _, ⟨hl, hl⟩, hz, fun _ => ⟨_, 0, rfl, Nat.lt_succ_self _, fun j x hx => by
    rw [cell_of_row _ _ _ _ _ _ (heap_alloc_new W _), cells8_at, Nat.zero_add, hx]; rfl⟩⟩

set_option maxRecDepth 100000 in
set_option maxHeartbeats 4000000 in
theorem awake17 (w : World) : Calls Try.prog 7 #[] w fun e w' => e = .returned (.bool true) ∧ Fr0 w w' := by
  have HB := Lib.hid (begun_any w)
  have hab : Bytes abc := by intro x hx; simp [abc] at hx; omega
  have HAB := Lib.hid hab
  have kc := fun (w : World) (C : Array Value) (n c : Nat) => Lib.run_convert_bytes_const (P := Try.prog) w 25 5 C n c Try.underlying25 Try.underlying5
  go_enter Try.func7, Try.ntmps7
  go_wp2_with (go_at_call 8; refine HB.out.mono ?_; rintro e w1 ⟨x, p, c, g, q, v, bs, rfl, hf1, hx1, hs1, l1, l2, l3, l4⟩; obtain ⟨t0, t1, t2, t3⟩ := two_cells hx1; have HX1 := Lib.hid hx1; have HS1 := Lib.hid hs1; have HF1 := Lib.hid hf1; clear hx1 hs1 hf1)
  have hfa : Fr0 w1 (w1.alloc (.cells (cells8 abc) 5 (6, 7))) := (Fr.refl _ w1).alloc _
  have hrw := row_const w1 5 abc (6, 7) 6 rfl HAB.out (by omega)
  have hs2 := HS1.out.fr hfa (fun x => x) (fun x => x) (fun x => x)
  have hLay := Lay_any _ abc _ hs2 _ hrw (by simp) (by decide)
  refine hLay.mono ?_
  rintro e w2 ⟨rfl, hf2, bs2, hs3⟩
  have hFa : Fr (fun k => k = c ∨ k = g) w1 w2 := hfa.of0.trans hf2
  have hx2 := HX1.out.fr hFa (fun e => e.elim (HX1.out.ne_ HS1.out.obj (by decide)) (HX1.out.ne_ HS1.out.sp.row (by decide)))
  obtain ⟨u0, u1, u2, u3⟩ := two_cells hx2
  have HX2 := Lib.hid hx2
  have HFa := Lib.hid hFa
  have hNm := Name_src w2 hs3
  rw [show skipP 32 abc 0 = 2 by decide, show wordP 32 abc 0 = 4 by decide, show nextP abc.length 4 = 5 by decide] at hNm
  have HNM := Lib.hid hNm
  have HS3 := Lib.hid hs3
  clear hrw hs2 hLay hf2 hs3 hFa hx2 hNm hfa hab kc t0 t1 t2 t3
  go_wp2_with (first | (go_at_call 10; refine HNM.out.mono ?_; rintro e w3 ⟨rfl, hf3, bs3, hs4⟩; have hx3 := HX2.out.fr hf3 (HX2.out.ne_ HS3.out.sp.row (by decide)); obtain ⟨v0, v1, v2, v3⟩ := two_cells hx3; have HL := Lib.hid (Left_src w3 hs4); have HF3 := Lib.hid hf3; clear hx3 hs4 hf3) | (go_at_call 14; refine HL.out.mono ?_; rintro e w4 ⟨u, rfl, hru, hf4⟩; have hcu := hru.conv; have HRU := Lib.hid hru; clear hru))
  have hst : ((strOfNums (abc.drop 5)).toList == [99]) = true := by
    rw [ByteArray.toList_eq, strOfNums_data]
    rfl
  go_ret
  refine ⟨congrArg (fun b => Ending.returned (.bool b)) hst, ?_⟩
  exact ((HF1.out.then HFa.out (fun k hk e => by omega)).then HF3.out (fun k hk e => by omega)).trans hf4
end Go.Proofs.Ytmkpoemjikdoeaa
