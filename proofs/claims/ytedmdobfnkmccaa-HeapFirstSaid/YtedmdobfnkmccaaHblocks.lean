/- The heap's Blocks. -/
import Derived.Test.YtedmdobfnkmccaaHresize
import Derived.Test.YtedmdobfnkmccaaGrow
namespace Go.Proofs.Ytedmdobfnkmccaa
open Go Go.RowKit

def bkv (b : Bk) : List Value := [.int .i64 b.at_, .int .i64 b.size, .bool b.free]
def rowB (L : List Bk) : List Value := L.flatMap bkv
/-- The slice value v is a row of blocks of its own. -/
def OwnB (w : World) (base : Nat) (t : TypeId) (v : Value) (L : List Bk) : Prop := w.ownsRow base t 3 v L.length (rowB L)
theorem rowB_length (L : List Bk) : (rowB L).length = L.length * 3 := by
  induction L with
  | nil => rfl
  | cons x L ih =>
    have : rowB (x :: L) = bkv x ++ rowB L := rfl
    rw [this, List.length_append, ih, List.length_cons]
    simp [bkv]
    omega
theorem rowB_app (A C : List Bk) : rowB (A ++ C) = rowB A ++ rowB C := by simp [rowB]
theorem OwnB.app {w : World} {base : Nat} {t : TypeId} {v : Value} {A C : List Bk} (h : w.ownsRow base t 3 v (A.length + C.length) (rowB A ++ rowB C)) : OwnB w base t v (A ++ C) := by
  unfold OwnB
  rw [List.length_append, rowB_app]
  exact h
theorem rowB_one {L : List Bk} : ∀ u ∈ rowB L, u.oneCell' = true := by
  intro u hu
  simp only [rowB, List.mem_flatMap, bkv, List.mem_cons, List.not_mem_nil, or_false] at hu
  obtain ⟨b, _, rfl | rfl | rfl⟩ := hu <;> rfl
theorem cov_len {L : List Bk} {c d : Int} (h : Cov0 c d L) (hp : Pos L) : 8 * (L.length : Int) ≤ d - c := by
  induction L generalizing c with
  | nil => simp only [Cov0] at h; simp; omega
  | cons x L ih =>
    obtain ⟨h1, h2, h3, h4⟩ := h
    have := ih h4 fun y hy => hp y (by simp [hy])
    have := hp x (by simp)
    rw [List.length_cons]
    push_cast
    omega
theorem infoB : (Try.prog.info? 57).map (fun i => (i.zero, i.size, i.bytes)) = some (some (.agg #[.int .i64 0, .int .i64 0, .bool false]), 3, 24) := by kernel_rfl

section
variable {hp mp B : Nat} {c d : Int} {L : List Nd}

set_option maxHeartbeats 4000000 in
theorem Blocks_any (w : World) (h : HRep w hp mp c d B L) :
    Calls Try.prog 13 #[ptr hp] w fun e w' => ∃ v, e = .returned v ∧ OwnB w' w.heap.size 57 v (bks L) ∧ Fr0 w w' := by
  obtain ⟨i0, hi, hz0, hz1, hz2⟩ := info_parts infoB
  have c0 := h.obj.cell 0
  have hlen := cov_len h.inv.cov h.inv.pos
  have hcd := h.cd
  have hbl : (bks L).length = L.length := by simp [bks]
  rw [hbl] at hlen
  have HH := Lib.hid h
  clear h hbl
  obtain ⟨hd0, hhd⟩ : ∃ v, hdp nil_ L = v := ⟨_, rfl⟩
  rw [hhd] at c0
  rw [show ptr hp = .pointer (some ⟨hp, 0, none⟩) from rfl]
  go_enter Try.func13, Try.ntmps13
  go_wp2
  go_loopw [3, 4] (fun o b wr => ∃ A R, L = A ++ R ∧ b = hdp nil_ R ∧ OwnB wr w.heap.size 57 o (bks A) ∧ Fr0 w wr) (fun _ b _ => sfx b L)
  case atStart => exact ⟨[], L, rfl, hhd.symm, World.ownsRow_nil _ _ _ _, Fr.refl _ _⟩
  case round =>
    obtain ⟨A, R, hL, rfl, hown, hfr⟩ := hrel
    cases R with
    | nil =>
      simp only [hdp, nil_]
      go_wp2
      go_ret
      rw [List.append_nil] at hL
      subst hL
      exact ⟨_, rfl, hown, hfr⟩
    | cons x R =>
      have hcL : Chain w nil_ (A ++ x :: R) nil_ := hL ▸ HH.out.ch
      have hndL : (ids (A ++ x :: R)).Nodup := hL ▸ HH.out.nd
      have hx := (Chain.app.1 hcL).2.1
      have hxl := hx.lt
      have hx1 := hx.fr0 hfr
      have d0 := hx1.cell 0
      have d1 := hx1.cell 1
      have d2 := hx1.cell 2
      have hsx := Lib.hid (sfx_at A x R hndL)
      have hsx2 := Lib.hid (sfx_hd (A ++ [x]) R (by rw [List.append_assoc]; exact hndL))
      have hAl : A.length + 1 ≤ L.length := by rw [hL]; simp
      obtain ⟨px, a, s, f⟩ := x
      rw [show hdp nil_ ((px, (⟨a, s, f⟩ : Bk)) :: R) = .pointer (some ⟨px, 0, none⟩) from rfl]
      obtain ⟨pr, hpr⟩ : ∃ v, hdp nil_ R = v := ⟨_, rfl⟩
      rw [hpr] at hx hsx2 hx1
      have HP := Lib.hid hpr
      have HL := Lib.hid hL
      have HX := Lib.hid hx
      have HF := Lib.hid hfr
      simp only [node] at d0 d1 d2
      clear hx hx1 hpr hL hfr
      have hbl : (bks A).length = A.length := by simp [bks]
      have hlo := own_lo hown
      have hz := HF.out.size
      have hown1 : ∀ cs, OwnB (wr.alloc (.cells cs 57)) w.heap.size 57 u3 (bks A) := fun cs => own_fr hown ((Fr.refl (fun _ => False) _).alloc _) (fun _ _ x => x)
      go_wp2_with (at_builtin; refine wpList_append_src (m := 1) (news := bkv ⟨a, s, f⟩) rfl (.tmp 17) (.tmp 22) rfl Try.underlying37 hi hz0 hz1 hz2 rfl (by decide) rfl rfl (hown1 _) (Src.new _ _ rfl _) (fun u hu => rowB_one (L := [⟨a, s, f⟩]) u (by simpa [rowB] using hu)) (by unfold maxLen; omega) (by omega) (by simp; omega) ?_; intro v2 w2 ho2 hg2 hk2; have hf2 : Fr0 w w2 := (HF.out.alloc _).grown hg2 (fun k hk => .inr (hlo k hk).1); have d4 : w2.cell? ⟨px, 4, none⟩ = some pr := (HX.out.fr0 hf2).cell 4)
      go_roundw
      case rel =>
        refine ⟨A ++ [(px, ⟨a, s, f⟩)], R, by rw [HL.out]; simp, HP.out.symm, ?_, hf2⟩
        rw [bks_app]
        exact OwnB.app (C := [⟨a, s, f⟩]) (by simpa [rowB] using ho2)
      case measure =>
        have e1 := hsx.out
        have e2 := hsx2.out
        have e3 := HL.out
        simp only [ptr, List.append_assoc, List.cons_append, List.nil_append] at e1 e2
        rw [← e3] at e1 e2
        omega
end
end Go.Proofs.Ytedmdobfnkmccaa
