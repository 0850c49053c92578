/- Flow: what words do: EndOf. -/
import Derived.Test.YtoldegajbonliaaFcl
namespace Go.Proofs.Ytoldegajbonliaa
open Go Go.RowKit
set_option linter.unusedVariables false
attribute [local go_sem] Oper.semAt_some

section
variable {w w' : World} {B f p g scap q cap : Nat} {tv tv' lv : Value} {ts ts' : List Tk} {st l : List Th} {T : Nat → Prop}
theorem OwnI.jr {b : Nat} {v : Value} {xs : List Int} (h : OwnI w b v xs) (hb : B ≤ b) : JR w B v xs := by
  refine ⟨own_src h, fun k hk => ⟨Nat.le_trans hb (own_lo h k hk).1, ?_⟩⟩
  rcases h.2 with ⟨e, _⟩ | ⟨g', cap', cs', e, _, hg, _⟩
  · rw [e] at hk; cases hk
  · rw [e] at hk
    injection hk with hk
    subst hk
    exact ⟨cs', hg⟩
set_option maxRecDepth 100000 in
set_option maxHeartbeats 4000000 in
theorem endOf_f (x y : Th) (w : World) (h : Fl w B f p st g scap ts q cap tv) (hi : In_ w g st lv [x, y]) (hl : ts.length < 50000) (hxl : x.jumps.length ≤ 900000) : Calls Try.prog 69 #[.pointer (some ⟨f, 0, none⟩), lv] w fun e w' => ∃ nv jv, e = .returned (.tuple #[nv, .int .i64 0]) ∧ Out w w' B st nv [⟨4, 0, x.jumps ++ [(ts.length : Int)], jv⟩] ∧ ∃ tv', Fl w' B f p st g scap (patchT (ts ++ [⟨6, 0, 0⟩]) y.place (ts ++ [(⟨6, 0, 0⟩ : Tk)]).length) q cap tv' ∧ Turn (FlIn f p q tv g st) (FlIn f p q tv' g st) w w' := by
  have HLA := Lib.hid (lay_f 6 0 w h hl)
  have hxs := hi.sub x (List.mem_cons_self)
  have hBw := h.pl.lo.2.2
  have hlv : ∃ off c, lv = .slice (some ⟨g, off, none⟩) 2 c := by
    obtain ⟨off, c, e, _⟩ := hi.at1 h
    exact ⟨off, c, e⟩
  obtain ⟨off, c, rfl⟩ := hlv
  have HI := Lib.hid hi
  obtain ⟨k, hk⟩ : ∃ k, ts.length = k := ⟨_, rfl⟩
  rw [hk] at HLA ⊢
  obtain ⟨i0, hi0⟩ := info_parts3 infoI
  have HI0 := Lib.hid hi0
  clear h hi hk hi0
  go_enter Try.func69, Try.ntmps69
  go_wp2_with (first | (go_at_call 35; refine HLA.out.mono ?_; rintro e w2 ⟨rfl, tv2, h2, t2⟩; have H2 := Lib.hid h2; have T2 := Lib.hid t2; obtain ⟨off', c', e', d0, d1, d2, d3, d4, d5⟩ := HI.out.at1 h2; injection e' with e'; injection e' with e'; injection e' with _ e'; subst e'; clear h2 t2) | (go_at_call 79; refine (join_f _ _ H2.out).mono ?_; rintro e w3 ⟨⟨v, rfl⟩, h3, t3⟩; have H3 := Lib.hid h3; have T3 := Lib.hid t3; clear d0 d1 d2 d3 d4 d5; obtain ⟨off', c', e', d0, d1, d2, d3, d4, d5⟩ := HI.out.at1 h3; injection e' with e'; injection e' with e'; injection e' with _ e'; subst e'; have HCL := Lib.hid (Clone_ints x.jv x.jumps w3 (h3.js x hxs).1 (by omega)); clear h3 t3) | (go_at_call 84; refine HCL.out.mono ?_; rintro e w4 ⟨u, rfl, hu, hf4⟩; have HU := Lib.hid hu; have HF4 := Lib.hid hf4; obtain ⟨A4, c4, rfl⟩ := (show RdI w4 u x.jumps from own_src hu).form; clear hu hf4) | (at_builtin; refine wpList_append_src (P := Try.prog) (t := 22) (e := 3) (size := 1) (n := x.jumps.length) (m := 1) (base := w3.heap.size) (i := i0) (bytes := 8) (v := .slice A4 x.jumps.length c4) (xs := x.jumps.map (Value.int .i64)) (news := [.int .i64 k]) rfl (.tmp 26) (.tmp 28) rfl Try.underlying22 HI0.out.1 HI0.out.2.1 HI0.out.2.2.1 HI0.out.2.2.2 rfl (by decide) rfl rfl (own_fr HU.out ((Fr.refl (fun _ => False) w4).alloc _) (fun _ _ x => x)) (Rd.new w4 #[.int .i64 k] rfl 1) (fun u hu => by simp at hu; subst hu; rfl) (by unfold maxLen; omega) (by omega) (Nat.le_trans HF4.out.size ((Fr.refl (fun _ => False) w4).alloc _).size) ?_; intro v6 w6 ho6 hg6 hk6; have HO6 := Lib.hid ho6; have HF6 := Lib.hid ((HF4.out.alloc (.cells #[.int .i64 k] 3)).grown hg6 (fun j hj => .inr (own_lo HU.out j hj).1)); obtain ⟨_, A6, c6, rfl, _⟩ := own_src ho6; clear ho6 hg6 hk6))
  go_ret2
  have hO : OwnI w6 w3.heap.size (.slice A6 (x.jumps.length + 1) c6) (x.jumps ++ [(k : Int)]) := by
    have := HO6.out
    unfold OwnI
    rw [List.length_append, List.map_append]
    exact this
  have hz := Nat.le_trans T2.out.1.size T3.out.1.size
  have hf := (Fr.refl (fun _ => False) w6).alloc (.cells #[.int .i64 4, .int .i64 0, .slice A6 (x.jumps.length + 1) c6] 64)
  have hr := Rd.new w6 (e := 64) (size := 3) (m := 1) #[.int .i64 4, .int .i64 0, .slice A6 (x.jumps.length + 1) c6] rfl 1
  refine ⟨_, .slice A6 (x.jumps.length + 1) c6, rfl, ⟨hr, (fun A m c e => by injection e with e; injection e with e; rw [← e]), (fun e => by cases e), fun z hz' => ?_⟩, _, (H3.out.fr0 HF6.out).fr0 hf, ((T2.out.trans T3.out).trans (Turn.of0 HF6.out)).trans (Turn.of0 hf)⟩
  obtain rfl : z = ⟨4, 0, x.jumps ++ [(k : Int)], .slice A6 (x.jumps.length + 1) c6⟩ := by simpa using hz'
  exact ⟨JR.fr (hO.jr (Nat.le_trans hBw hz)) hf (fun _ _ e => e), fun i hi => .inr (Nat.le_trans hz (own_lo hO i hi).1)⟩
end
end Go.Proofs.Ytoldegajbonliaa
