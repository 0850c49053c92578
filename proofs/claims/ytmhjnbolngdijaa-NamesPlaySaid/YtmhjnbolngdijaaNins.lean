/- slices.Insert behind the last element of a row of its own. -/
import Derived.Test.YtmhjnbolngdijaaNbin
namespace Go.Proofs.Ytmhjnbolngdijaa
open Go Go.RowKit
set_option linter.unusedVariables false

def OwnI (w : World) (base : Nat) (v : Value) (zs : List Int) : Prop := w.ownsRow base 3 1 v zs.length (zs.map (Value.int .i64))
theorem infoI : (Try.prog.info? 3).map (fun i => (i.zero, i.size, i.bytes)) = some (some (.int .i64 0), 1, 8) := by kernel_rfl
theorem OwnI.rd {w : World} {B : Nat} {v : Value} {ts : List Int} (h : OwnI w B v ts) : RdI w v ts := own_src h
theorem OwnI.fr {S : Nat → Prop} {w w' : World} {B : Nat} {v : Value} {ts : List Int} (h : OwnI w B v ts) (hf : Fr S w w') (hS : ∀ k, v.ownBlock = some k → ¬ S k) : OwnI w' B v ts := own_fr h hf hS
theorem OwnI.nil (w : World) (B : Nat) : OwnI w B (.slice none 0 0) [] := World.ownsRow_nil _ _ _ _

set_option maxRecDepth 100000 in
set_option maxHeartbeats 4000000 in
theorem Insert_end (v : Value) (ts : List Int) (x : Int) (g B : Nat) (w : World) (h : OwnI w B v ts) (hc : w.cell? ⟨g, 0, none⟩ = some (.int .i64 x)) (hB : B ≤ w.heap.size) (hl : ts.length ≤ 1000000) :
    Calls Try.prog 61 #[v, .int .i64 ts.length, .slice (some ⟨g, 0, none⟩) 1 1] w fun e w' => ∃ v', e = .returned v' ∧ OwnI w' B v' (ts ++ [x]) ∧ w.grownBy w' v.ownBlock ∧ (v'.ownBlock = v.ownBlock ∨ v'.ownBlock = some w.heap.size) := by
  obtain ⟨i0, hi, hz0, hz1, hz2⟩ := info_parts infoI
  have HI := Lib.hid hi
  have HZ := Lib.hid (And.intro hz0 (And.intro hz1 hz2))
  obtain ⟨A, cap, rfl⟩ := h.rd.form
  have HO := Lib.hid h
  have HRD : Rd w (.slice (some ⟨g, 0, none⟩) 1 1) 1 1 [.int .i64 x] := ⟨rfl, _, _, rfl, fun _ => ⟨g, 0, rfl, fun j u hu => by
    cases j with
    | zero => simp at hu; subst hu; exact hc
    | succ j => simp at hu⟩⟩
  have HR := Lib.hid HRD
  obtain ⟨n, hn⟩ : ∃ n, ts.length = n := ⟨_, rfl⟩
  have HN := Lib.hid hn
  rw [hn] at hl ⊢
  rw [hn] at HO
  have hnn : (n : Int) ≤ (n : Int) := Int.le_refl _
  clear h hi hz0 hz1 hz2 HRD hn hc
  have hcase : cap = n ∨ (cap = n) = False := by
    by_cases h : cap = n
    · exact .inl h
    · exact .inr (eq_false h)
  rcases hcase with rfl | hcn
  all_goals
    go_enter Try.func61, Try.ntmps61
    go_wp2_with (at_builtin; refine wpList_append_src (m := 1) (news := [.int .i64 x]) rfl (.tmp 23) (.tmp 24) rfl Try.underlying41 HI.out HZ.out.1 HZ.out.2.1 HZ.out.2.2 rfl (by decide) rfl rfl HO.out HR.out (fun u hu => by simp at hu; subst hu; rfl) (by unfold maxLen; have := HN.out; omega) (by have := HN.out; omega) hB ?_; intro v6 w6 ho6 hg6 hk6; have HO6 := Lib.hid ho6; have HG6 := Lib.hid hg6; have HK6 := Lib.hid hk6; clear ho6 hg6 hk6)
    go_ret
    refine ⟨v6, rfl, ?_, HG6.out, HK6.out⟩
    have := HO6.out
    unfold OwnI
    rw [List.length_append, List.map_append]
    rw [HN.out] at this ⊢
    exact this
end Go.Proofs.Ytmhjnbolngdijaa
