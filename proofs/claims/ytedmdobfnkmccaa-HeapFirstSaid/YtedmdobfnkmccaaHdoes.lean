/- The laws' own small functions of chapter 11: does: a call on both heaps is answered alike. -/
import Derived.Test.YtedmdobfnkmccaaHlaw2
namespace Go.Proofs.Ytedmdobfnkmccaa
open Go Go.RowKit

theorem own_blk {w : World} {base : Nat} {e : TypeId} {size n : Nat} {v : Value} {xs : List Value} (h : w.ownsRow base e size v n xs) {k : Nat} (hk : v.ownBlock = some k) : base ≤ k ∧ ∃ cs, Blk w k e cs := by
  rcases h.2 with ⟨rfl, _⟩ | ⟨g, cap, cur, rfl, hb, hg, _⟩
  · cases hk
  · simp only [Value.ownBlock, Option.some.injEq] at hk
    subst hk
    exact ⟨hb, _, hg⟩

/-- The two heaps and the addresses that came. -/
structure St (w : World) (B hp mp rp : Nat) (sv : Value) (c d : Int) (L : List Nd) (lv : Value) (l : List Int) : Prop where
  h : HRep w hp mp c d B L
  r : RInv w rp B sv c d (bks L)
  row : OwnI w B lv l
  len : l.length ≤ 1000

section
variable {w w' : World} {B hp mp rp : Nat} {sv lv : Value} {c d : Int} {L : List Nd} {l : List Int}
theorem HRep.not_in (h : HRep w hp mp c d B L) {k : Nat} {t : TypeId} {cs : Array Value} (hb : Blk w k t cs) (h1 : t ≠ 46) (h2 : t ≠ 61) : ¬ HIn hp mp L k := fun e => by
  obtain ⟨f, hm, _⟩ := h.map
  rcases e with rfl | rfl | e
  · exact hb.ne_ h.obj h1 rfl
  · exact hm.ne_ hb rfl
  · exact h.ch.ne_ hb h2 e
theorem RInv.blk {M : List Bk} (h : RInv w rp B sv c d M) {k : Nat} (hk : RIn rp sv k) : B ≤ k ∧ ∃ t cs, Blk w k t cs ∧ (t = 41 ∨ t = 62) := by
  rcases hk with rfl | hk
  · exact ⟨h.rep.lo, _, _, h.rep.obj, .inl rfl⟩
  · obtain ⟨k1, cs, k2⟩ := own_blk h.rep.row hk
    exact ⟨k1, _, _, k2, .inr rfl⟩
theorem St.sepR (s : St w B hp mp rp sv c d L lv l) : ∀ k, RIn rp sv k → ¬ HIn hp mp L k := fun k hk => by
  obtain ⟨_, t, cs, hb, ht⟩ := s.r.blk hk
  rcases ht with rfl | rfl
  · exact s.h.not_in hb (by decide) (by decide)
  · exact s.h.not_in hb (by decide) (by decide)
theorem St.sepL (s : St w B hp mp rp sv c d L lv l) : ∀ k, lv.ownBlock = some k → ¬ HIn hp mp L k ∧ ¬ RIn rp sv k := fun k hk => by
  obtain ⟨_, cs, hb⟩ := own_blk s.row hk
  refine ⟨s.h.not_in hb (by decide) (by decide), fun e => ?_⟩
  obtain ⟨_, t, cs', hb', ht⟩ := s.r.blk e
  rcases ht with rfl | rfl
  · exact hb.ne_ hb' (by decide) rfl
  · exact hb.ne_ hb' (by decide) rfl
theorem HRep.inB (h : HRep w hp mp c d B L) {k : Nat} (e : HIn hp mp L k) : B ≤ k := by
  rcases e with rfl | rfl | e
  · exact h.lo.1
  · exact h.lo.2.1
  · exact h.lo.2.2 k e
theorem St.fr0 (s : St w B hp mp rp sv c d L lv l) (hf : Fr0 w w') : St w' B hp mp rp sv c d L lv l :=
  ⟨s.h.fr0 hf, s.r.fr hf (fun _ _ x => x), own_fr s.row hf (fun _ _ x => x), s.len⟩
/-- A call on the program's heap, then one on the document's. -/
theorem St.step {w1 w2 : World} {L' : List Nd} {sv' : Value} (s : St w B hp mp rp sv c d L lv l) (hf1 : Fr (HIn hp mp L) w w1) (h1 : HRep w1 hp mp c d B L') (_hn1 : Newer w L L') (hf2 : Fr (RIn rp sv) w1 w2) (h2 : RInv w2 rp B sv' c d (bks L')) (_hn2 : RNewer w1 sv sv') :
    St w2 B hp mp rp sv' c d L' lv l ∧ Fr (fun k => B ≤ k) w w2 := by
  have r1 : RInv w1 rp B sv c d (bks L) := s.r.fr hf1 s.sepR
  have l1 : OwnI w1 B lv l := own_fr s.row hf1 (fun k hk => (s.sepL k hk).1)
  have hsep : ∀ k, HIn hp mp L' k → ¬ RIn rp sv k := fun k hk e => by
    obtain ⟨_, t, cs, hb, ht⟩ := r1.blk e
    rcases ht with rfl | rfl
    · exact h1.not_in hb (by decide) (by decide) hk
    · exact h1.not_in hb (by decide) (by decide) hk
  refine ⟨⟨h1.fr hf2 hsep, h2, own_fr l1 hf2 (fun k hk => (s.sepL k hk).2), s.len⟩, ?_⟩
  exact (hf1.mono fun k _ e => s.h.inB e).then hf2 (fun k _ e => (r1.blk e).1)
/-- Behind an append of an address. -/
theorem St.grown {o : Obj} {v3 : Value} {x : Int} (s : St w B hp mp rp sv c d L lv l) (hl : l.length ≤ 500) (ho : w'.ownsRow B 3 1 v3 (l.length + 1) (l.map (Value.int .i64) ++ [.int .i64 x])) (hg : (w.alloc o).grownBy w' lv.ownBlock) (_hB : B ≤ w.heap.size) :
    St w' B hp mp rp sv c d L v3 (l ++ [x]) ∧ Fr (fun k => B ≤ k) w w' := by
  have hf : Fr (fun k => lv.ownBlock = some k) w w' := ((Fr.refl (fun k => lv.ownBlock = some k) w).alloc o).grown hg (fun k hk => .inl hk)
  refine ⟨⟨s.h.fr hf (fun k hk e => (s.sepL k e).1 hk), s.r.fr hf (fun k hk e => (s.sepL k e).2 hk), ?_, by simp; omega⟩, hf.mono fun k _ e => (own_blk s.row e).1⟩
  unfold OwnI
  rw [List.length_append, List.map_append]
  exact ho
end

theorem infoI : (Try.prog.info? 3).map (fun i => (i.zero, i.size, i.bytes)) = some (some (.int .i64 0), 1, 8) := by kernel_rfl

section
variable {B hp mp rp : Nat} {sv lv : Value} {c d : Int} {L : List Nd} {l : List Int}

def i64b (x : Int) : Prop := -9223372036854775808 ≤ x ∧ x ≤ 9223372036854775807

/-- What does leaves. -/
def After (B hp mp rp : Nat) (c d : Int) (l : List Int) (w : World) (e : Ending) (w' : World) : Prop :=
  ∃ sv' L' lv' l', e = .returned (.tuple #[lv', .bool true]) ∧ St w' B hp mp rp sv' c d L' lv' l' ∧ l'.length ≤ l.length + 1 ∧ Fr (fun k => B ≤ k) w w'

set_option maxHeartbeats 4000000 in
theorem does_one (w : World) (s : St w B hp mp rp sv c d L lv l) (n k at_ : Int) (hn : i64b n) (hl : l.length ≤ 500) (hB : B ≤ w.heap.size) :
    Calls Try.prog 11 #[ptr hp, ptr rp, .agg #[.int .i64 1, .int .i64 n, .int .i64 k, .int .i64 at_], lv] w (After B hp mp rp c d l w) := by
  obtain ⟨i0, hi, hz0, hz1, hz2⟩ := info_parts infoI
  obtain ⟨w0, hw0⟩ : ∃ w0, w.alloc (.cells #[.int .i64 1, .int .i64 n, .int .i64 k, .int .i64 at_] 35) = w0 := ⟨_, rfl⟩
  have hf0 : Fr0 w w0 := by rw [← hw0]; exact (Fr.refl _ w).alloc _
  have hb0 : Blk w0 w.heap.size 35 #[.int .i64 1, .int .i64 n, .int .i64 k, .int .i64 at_] := by rw [← hw0]; exact Blk.new w _ _
  have s0 := s.fr0 hf0
  have hA := Allocate_any n w0 s0.h
  have hA' := fun (w1 : World) (sv1 : Value) (h1 : RInv w1 rp B sv1 c d (bks L)) => AllocR_any n w1 h1 hn
  obtain ⟨rr, hrr⟩ : ∃ rr, allocR n (bks L) = rr := ⟨_, rfl⟩
  rw [hrr] at hA hA'
  have hni := s0.h.not_in hb0 (by decide) (by decide)
  rw [← hw0] at hA
  have HA := Lib.hid hA
  have HA' := Lib.hid hA'
  have HW := Lib.hid hw0
  obtain ⟨A1, cap1, rfl⟩ := own_form s.row
  have HS := Lib.hid s0
  have HB := Lib.hid hb0
  have HF := Lib.hid hf0
  clear s s0 hA hA' hrr hb0 hw0 hf0
  obtain ⟨ra, ri, rL⟩ := rr
  rw [show ptr hp = .pointer (some ⟨hp, 0, none⟩) from rfl, show ptr rp = .pointer (some ⟨rp, 0, none⟩) from rfl] at *
  by_cases hri : ri = 0
  · subst hri
    go_enter Try.func11, Try.ntmps11
    go_wp2_with (first | (go_at_call 14; refine HA.out.mono ?_; rintro e w1 ⟨rfl, hf1, L1, h1, hn1, e1⟩; rw [HW.out] at hf1 hn1; have hb1 := HB.out.fr hf1 hni; have b0 := hb1.cell 0; have b1 := hb1.cell 1; have b2 := hb1.cell 2; have b3 := hb1.cell 3) | (go_at_call 18; refine (HA'.out _ _ (HS.out.r.fr hf1 HS.out.sepR)).mono ?_; rintro e w2 ⟨rfl, hf2, sv2, h2, hn2⟩; have hst := HS.out.step hf1 h1 hn1 hf2 (by rw [e1]; exact h2) hn2; have HST := Lib.hid hst; clear hst) | (at_builtin; refine wpList_append_src (m := 1) (news := [.int .i64 ra]) rfl (.tmp 42) (.tmp 44) rfl Try.underlying31 hi hz0 hz1 hz2 rfl (by decide) rfl rfl (own_fr HST.out.1.row ((Fr.refl (fun _ => False) _).alloc _) (fun _ _ x => x)) (Src.new' rfl _ rfl _) (fun u hu => by simp at hu; subst hu; rfl) (by unfold maxLen; omega) (by omega) (by have := HF.out.size; have := HST.out.2.size; simp; omega) ?_; intro v3 w3 ho3 hg3 hk3))
    go_ret2
    have hB2 : B ≤ w2.heap.size := by have := HF.out.size; have := HST.out.2.size; omega
    obtain ⟨s3, hf3⟩ := HST.out.1.grown hl ho3 hg3 hB2
    exact ⟨sv2, L1, v3, l ++ [ra], rfl, s3, by simp, ((HF.out.of0 (S := fun k => B ≤ k)).trans (HST.out.2.mono fun _ _ e => e)).trans hf3⟩
  · have hri' : (ri == 0) = false := by simp [hri]
    go_enter Try.func11, Try.ntmps11
    go_wp2_with (first | (go_at_call 14; refine HA.out.mono ?_; rintro e w1 ⟨rfl, hf1, L1, h1, hn1, e1⟩; rw [HW.out] at hf1 hn1; have hb1 := HB.out.fr hf1 hni; have b0 := hb1.cell 0; have b1 := hb1.cell 1; have b2 := hb1.cell 2; have b3 := hb1.cell 3) | (go_at_call 18; refine (HA'.out _ _ (HS.out.r.fr hf1 HS.out.sepR)).mono ?_; rintro e w2 ⟨rfl, hf2, sv2, h2, hn2⟩; have hst := HS.out.step hf1 h1 hn1 hf2 (by rw [e1]; exact h2) hn2; have HST := Lib.hid hst; clear hst))
    go_ret2
    exact ⟨sv2, L1, _, l, rfl, HST.out.1, by omega, (HF.out.of0 (S := fun k => B ≤ k)).trans HST.out.2⟩

set_option maxHeartbeats 4000000 in
theorem does_two (w : World) (s : St w B hp mp rp sv c d L lv l) (n k at_ : Int)  (hk : i64b k) (hl : l.length ≤ 500)  :
    Calls Try.prog 11 #[ptr hp, ptr rp, .agg #[.int .i64 2, .int .i64 n, .int .i64 k, .int .i64 at_], lv] w (After B hp mp rp c d l w) := by
  obtain ⟨w0, hw0⟩ : ∃ w0, w.alloc (.cells #[.int .i64 2, .int .i64 n, .int .i64 k, .int .i64 at_] 35) = w0 := ⟨_, rfl⟩
  have hf0 : Fr0 w w0 := by rw [← hw0]; exact (Fr.refl _ w).alloc _
  have hb0 : Blk w0 w.heap.size 35 #[.int .i64 2, .int .i64 n, .int .i64 k, .int .i64 at_] := by rw [← hw0]; exact Blk.new w _ _
  have s0 := s.fr0 hf0
  have hW := where_any w0 2 n k at_ s0.row (by omega) hk
  rw [← hw0] at hW
  have HWH := Lib.hid hW
  have HW := Lib.hid hw0
  obtain ⟨A1, cap1, rfl⟩ := own_form s.row
  have HS := Lib.hid s0
  have HB := Lib.hid hb0
  have HF := Lib.hid hf0
  clear s s0 hW hb0 hw0 hf0
  have hFr := fun (a : Int) (w1 : World) (L' : List Nd) (h' : HRep w1 hp mp c d B L') => Free_any a w1 h'
  have hFr' := fun (a : Int) (w1 : World) (sv1 : Value) (L' : List Bk) (h' : RInv w1 rp B sv1 c d L') => FreeR_any a w1 h'
  have HFr := Lib.hid hFr
  have HFr' := Lib.hid hFr'
  clear hFr hFr'
  rw [show ptr hp = .pointer (some ⟨hp, 0, none⟩) from rfl, show ptr rp = .pointer (some ⟨rp, 0, none⟩) from rfl] at *
  go_enter Try.func11, Try.ntmps11
  go_wp2_with (first | (go_at_call 19; refine HWH.out.mono ?_; rintro e wa ⟨at', rfl, hfa⟩; rw [HW.out] at hfa; have hsa := HS.out.fr0 hfa; have hba := HB.out.fr0 hfa; have hni := hsa.h.not_in hba (by decide) (by decide); have b1 := hba.cell 1; have HSA := Lib.hid hsa; have HBA := Lib.hid hba; have HNI := Lib.hid hni; clear hsa hba hni) | (go_at_call 16; refine (HFr.out _ _ _ HSA.out.h).mono ?_; rintro e w1 ⟨rfl, hf1, L1, h1, hn1, e1⟩) | (go_at_call 20; refine (HFr'.out _ _ _ _ (HSA.out.r.fr hf1 HSA.out.sepR)).mono ?_; rintro e w2 ⟨rfl, hf2, sv2, h2, hn2⟩; have hst := HSA.out.step hf1 h1 hn1 hf2 (by rw [e1]; exact h2) hn2; have HST := Lib.hid hst; clear hst))
  go_ret2
  refine ⟨sv2, L1, _, l, ?_, HST.out.1, by omega, ((HF.out.of0 (S := fun k => B ≤ k)).trans hfa.of0).trans HST.out.2⟩
  simp

set_option maxHeartbeats 4000000 in
theorem does_three (w : World) (s : St w B hp mp rp sv c d L lv l) (n k at_ : Int) (hn : i64b n) (hk : i64b k) (hl : l.length ≤ 500) (hB : B ≤ w.heap.size) :
    Calls Try.prog 11 #[ptr hp, ptr rp, .agg #[.int .i64 3, .int .i64 n, .int .i64 k, .int .i64 at_], lv] w (After B hp mp rp c d l w) := by
  obtain ⟨w0, hw0⟩ : ∃ w0, w.alloc (.cells #[.int .i64 3, .int .i64 n, .int .i64 k, .int .i64 at_] 35) = w0 := ⟨_, rfl⟩
  have hf0 : Fr0 w w0 := by rw [← hw0]; exact (Fr.refl _ w).alloc _
  have hb0 : Blk w0 w.heap.size 35 #[.int .i64 3, .int .i64 n, .int .i64 k, .int .i64 at_] := by rw [← hw0]; exact Blk.new w _ _
  have s0 := s.fr0 hf0
  have hW := where_any w0 3 n k at_ s0.row (by omega) hk
  rw [← hw0] at hW
  have HWH := Lib.hid hW
  have HW := Lib.hid hw0
  obtain ⟨A1, cap1, rfl⟩ := own_form s.row
  have HS := Lib.hid s0
  have HB := Lib.hid hb0
  have HF := Lib.hid hf0
  clear s s0 hW hb0 hw0 hf0
  obtain ⟨i0, hi, hz0, hz1, hz2⟩ := info_parts infoI
  have hRs := fun (a : Int) (w1 : World) (L' : List Nd) (h' : HRep w1 hp mp c d B L') => Resize_any a n w1 h'
  have hRs' := fun (a : Int) (w1 : World) (sv1 : Value) (L' : List Bk) (h' : RInv w1 rp B sv1 c d L') => ResizeR_any a n w1 h' hn
  have HRs := Lib.hid hRs
  have HRs' := Lib.hid hRs'
  clear hRs hRs'
  rw [show ptr hp = .pointer (some ⟨hp, 0, none⟩) from rfl, show ptr rp = .pointer (some ⟨rp, 0, none⟩) from rfl] at *
  go_enter Try.func11, Try.ntmps11
  go_wp2_with (go_at_call 19; refine HWH.out.mono ?_; rintro e wa ⟨at', rfl, hfa⟩; rw [HW.out] at hfa; have hsa := HS.out.fr0 hfa; have hba := HB.out.fr0 hfa; have hni := hsa.h.not_in hba (by decide) (by decide); have b1 := hba.cell 1; have HSA := Lib.hid hsa; have HBA := Lib.hid hba; have HNI := Lib.hid hni; clear hsa hba hni)
  obtain ⟨rr, hrr⟩ : ∃ rr, resizeR at' n (bks L) = rr := ⟨_, rfl⟩
  have hA := HRs.out at' wa L HSA.out.h
  have hA' := fun (w1 : World) (sv1 : Value) (h1 : RInv w1 rp B sv1 c d (bks L)) => HRs'.out at' w1 sv1 (bks L) h1
  rw [hrr] at hA hA'
  obtain ⟨⟨ra, ro, ri⟩, rL⟩ := rr
  have HA := Lib.hid hA
  have HA' := Lib.hid hA'
  clear hA hA' hrr
  refine HA.out.mono ?_
  rintro e w1 ⟨rfl, hf1, L1, h1, hn1, e1⟩
  have hb1 := HBA.out.fr hf1 HNI.out
  have b1' := hb1.cell 1
  clear b1
  by_cases hri : ri = 0
  · subst hri
    go_wp2_with (first | (go_at_call 21; refine (HA'.out _ _ (HSA.out.r.fr hf1 HSA.out.sepR)).mono ?_; rintro e w2 ⟨rfl, hf2, sv2, h2, hn2⟩; have hst := HSA.out.step hf1 h1 hn1 hf2 (by rw [e1]; exact h2) hn2; have HST := Lib.hid hst; clear hst) | (at_builtin; refine wpList_append_src (m := 1) (news := [.int .i64 ra]) rfl (.tmp 93) (.tmp 95) rfl Try.underlying31 hi hz0 hz1 hz2 rfl (by decide) rfl rfl (own_fr HST.out.1.row ((Fr.refl (fun _ => False) _).alloc _) (fun _ _ x => x)) (Src.new' rfl _ rfl _) (fun u hu => by simp at hu; subst hu; rfl) (by unfold maxLen; omega) (by omega) (by have := HF.out.size; have := hfa.size; have := HST.out.2.size; simp; omega) ?_; intro v3 w3 ho3 hg3 hk3))
    go_ret2
    have hB2 : B ≤ w2.heap.size := by have := HF.out.size; have := hfa.size; have := HST.out.2.size; omega
    obtain ⟨s3, hf3⟩ := HST.out.1.grown hl ho3 hg3 hB2
    refine ⟨sv2, L1, v3, l ++ [ra], ?_, s3, by simp, (((HF.out.of0 (S := fun k => B ≤ k)).trans hfa.of0).trans HST.out.2).trans hf3⟩
    simp
  · have hri' : (ri == 0) = false := by simp [hri]
    go_wp2_with (first | (go_at_call 21; refine (HA'.out _ _ (HSA.out.r.fr hf1 HSA.out.sepR)).mono ?_; rintro e w2 ⟨rfl, hf2, sv2, h2, hn2⟩; have hst := HSA.out.step hf1 h1 hn1 hf2 (by rw [e1]; exact h2) hn2; have HST := Lib.hid hst; clear hst))
    go_ret2
    refine ⟨sv2, L1, _, l, ?_, HST.out.1, by omega, ((HF.out.of0 (S := fun k => B ≤ k)).trans hfa.of0).trans HST.out.2⟩
    simp

set_option maxHeartbeats 2000000 in
theorem does_other (w : World) (s : St w B hp mp rp sv c d L lv l) (kd n k at_ : Int) (h1 : kd ≠ 1) (h2 : kd ≠ 2) (h3 : kd ≠ 3) :
    Calls Try.prog 11 #[ptr hp, ptr rp, .agg #[.int .i64 kd, .int .i64 n, .int .i64 k, .int .i64 at_], lv] w (After B hp mp rp c d l w) := by
  obtain ⟨A1, cap1, rfl⟩ := own_form s.row
  have HS := Lib.hid s
  clear s
  have e1 : (kd == 1) = false := by simp [h1]
  have e2 : (kd == 2) = false := by simp [h2]
  have e3 : (kd == 3) = false := by simp [h3]
  clear h1 h2 h3
  rw [show ptr hp = .pointer (some ⟨hp, 0, none⟩) from rfl, show ptr rp = .pointer (some ⟨rp, 0, none⟩) from rfl] at *
  go_enter Try.func11, Try.ntmps11
  go_wp2
  go_ret2
  exact ⟨sv, L, _, l, rfl, HS.out.fr0 ((Fr.refl _ w).alloc _), by omega, (Fr.refl _ w).alloc _⟩

theorem does_any (w : World) (s : St w B hp mp rp sv c d L lv l) (kd n k at_ : Int) (hn : i64b n) (hk : i64b k) (hl : l.length ≤ 500) (hB : B ≤ w.heap.size) :
    Calls Try.prog 11 #[ptr hp, ptr rp, .agg #[.int .i64 kd, .int .i64 n, .int .i64 k, .int .i64 at_], lv] w (After B hp mp rp c d l w) := by
  by_cases h1 : kd = 1
  · subst h1; exact does_one w s n k at_ hn hl hB
  by_cases h2 : kd = 2
  · subst h2; exact does_two w s n k at_ hk hl
  by_cases h3 : kd = 3
  · subst h3; exact does_three w s n k at_ hn hk hl hB
  exact does_other w s kd n k at_ h1 h2 h3
end
end Go.Proofs.Ytedmdobfnkmccaa
