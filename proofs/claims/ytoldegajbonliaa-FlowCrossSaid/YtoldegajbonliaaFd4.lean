/- Flow: what words do: QDo. -/
import Derived.Test.YtoldegajbonliaaFd3
namespace Go.Proofs.Ytoldegajbonliaa
open Go Go.RowKit
set_option linter.unusedVariables false
attribute [local go_sem] Oper.semAt_some

section
variable {w w' : World} {B f p g scap q cap : Nat} {tv tv' lv : Value} {ts ts' : List Tk} {st l : List Th} {T : Nat → Prop}
set_option maxRecDepth 100000 in
set_option maxHeartbeats 2000000 in
theorem maybe_f (w : World) (h : Fl w B f p st g scap ts q cap tv) (hl : ts.length < 50000) : Calls Try.prog 63 #[.pointer (some ⟨f, 0, none⟩), lv] w fun e w' => ∃ nv jv, e = .returned (.tuple #[nv, .int .i64 0]) ∧ Out w w' B st nv [⟨3, (ts ++ [(⟨9, 0, 0⟩ : Tk)]).length, [(ts.length : Int)], jv⟩] ∧ ∃ tv', Fl w' B f p st g scap (ts ++ [⟨9, 0, 0⟩]) q cap tv' ∧ Turn (FlIn f p q tv g st) (FlIn f p q tv' g st) w w' := by
  have HLA := Lib.hid (lay_f 9 0 w h hl)
  have hBw := h.pl.lo.2.2
  clear h
  obtain ⟨n, hn⟩ : ∃ n, (ts ++ [(⟨9, 0, 0⟩ : Tk)]).length = n := ⟨_, rfl⟩
  rw [hn]
  have HN := Lib.hid hn
  obtain ⟨k, hk⟩ : ∃ k, ts.length = k := ⟨_, rfl⟩
  rw [hk] at HLA ⊢
  clear hn hk
  go_enter Try.func63, Try.ntmps63
  go_wp2_with (first | (go_at_call 35; refine HLA.out.mono ?_; rintro e w2 ⟨rfl, tv2, h2, t2⟩; have H2 := Lib.hid h2; have T2 := Lib.hid t2; have HHE := here_f w2 h2; rw [HN.out] at HHE; have HHE := Lib.hid HHE; clear h2 t2) | (go_at_call 81; refine HHE.out.mono ?_; rintro e w3 ⟨rfl, f3⟩))
  go_ret2
  have ha := (Fr.refl (fun _ => False) w3).alloc (.cells #[.int .i64 k] 3)
  have hs : (w3.alloc (.cells #[.int .i64 k] 3)).heap.size = w3.heap.size + 1 := by simp
  have hbn := Blk.new w3 3 #[.int .i64 k]
  have hrd := Rd.new w3 (e := 3) (size := 1) (m := 1) #[.int .i64 k] rfl 1
  have hf := (Fr.refl (fun _ => False) (w3.alloc (.cells #[.int .i64 k] 3))).alloc (.cells #[.int .i64 3, .int .i64 n, .slice (some ⟨w3.heap.size, 0, none⟩) 1 1] 64)
  have hr := Rd.new (w3.alloc (.cells #[.int .i64 k] 3)) (e := 64) (size := 3) (m := 1) #[.int .i64 3, .int .i64 n, .slice (some ⟨w3.heap.size, 0, none⟩) 1 1] rfl 1
  rw [hs] at hr
  have hsz := Nat.le_trans T2.out.1.size f3.size
  have hj : JR (w3.alloc (.cells #[.int .i64 k] 3)) B (.slice (some ⟨w3.heap.size, 0, none⟩) 1 1) [(k : Int)] := ⟨hrd, fun i hi => by
    injection hi with hi
    subst hi
    exact ⟨Nat.le_trans hBw hsz, _, hbn⟩⟩
  refine ⟨_, .slice (some ⟨w3.heap.size, 0, none⟩) 1 1, rfl, ⟨hr, (fun A m c e => by injection e with e; injection e with e; rw [← e]), (fun e => by cases e), fun y hy => ?_⟩, _, (H2.out.fr0 (f3.trans ha)).fr0 hf, (T2.out.trans (Turn.of0 (f3.trans ha))).trans (Turn.of0 hf)⟩
  obtain rfl : y = ⟨3, n, [(k : Int)], .slice (some ⟨w3.heap.size, 0, none⟩) 1 1⟩ := by simpa using hy
  refine ⟨JR.fr hj hf (fun _ _ e => e), fun i hi => .inr ?_⟩
  injection hi with hi
  subst hi
  exact hsz
end
end Go.Proofs.Ytoldegajbonliaa
