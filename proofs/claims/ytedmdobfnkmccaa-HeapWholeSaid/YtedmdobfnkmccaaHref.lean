/- The document's own heap: a row of blocks; join. -/
import Derived.Test.YtedmdobfnkmccaaHblocks
namespace Go.Proofs.Ytedmdobfnkmccaa
open Go Go.RowKit

def stepR (ro : List Bk) (b : Bk) : List Bk :=
  if b.size = 0 then ro else
  match ro with
  | [] => [b]
  | p :: r => if b.free && p.free then { p with size := p.size + b.size } :: r else b :: p :: r
/-- p before r, none of them of no bytes. -/
def joinC (p : Bk) : List Bk → List Bk
  | [] => [p]
  | z :: r => if p.free && z.free then { p with size := p.size + z.size } :: r else p :: z :: r
theorem consN_joinC {p : Bk} (h : p.size ≠ 0) (r : List Bk) : consN p r = joinC p r := by
  unfold consN joinC
  rw [if_neg h]
  cases r <;> rfl
def glueR (ro r : List Bk) : List Bk := match ro with
  | [] => r
  | p :: o => o.reverse ++ joinC p r
theorem fold_glue (L ro : List Bk) : (L.foldl stepR ro).reverse = glueR ro (norm L) := by
  induction L generalizing ro with
  | nil =>
    cases ro with
    | nil => rfl
    | cons p o => simp [glueR, norm, joinC]
  | cons b L ih =>
    rw [List.foldl_cons, ih, norm_cons]
    by_cases h0 : b.size = 0
    · simp [stepR, consN, h0]
    · rw [consN_joinC h0]
      cases ro with
      | nil => simp [stepR, h0, glueR]
      | cons p o =>
        simp only [stepR, if_neg h0]
        by_cases hf : b.free = true ∧ p.free = true
        · obtain ⟨h1, h2⟩ := hf
          simp only [h1, h2, Bool.and_self, if_true, glueR]
          cases hr : norm L with
          | nil => simp [joinC, h1, h2]
          | cons z r =>
            by_cases hz : z.free = true
            · simp [joinC, h1, h2, hz, Int.add_assoc]
            · simp [joinC, h1, h2, hz]
        · have hf' : (b.free && p.free) = false := by
            rw [Bool.eq_false_iff]
            simpa using hf
          have hf2 : (p.free && b.free) = false := by rw [Bool.and_comm]; exact hf'
          rw [hf']
          simp only [glueR, Bool.false_eq_true, if_false, List.reverse_cons, List.append_assoc, List.singleton_append]
          cases hr : norm L with
          | nil => simp [joinC, hf2]
          | cons z r =>
            by_cases hz : b.free = true ∧ z.free = true
            · have hp : p.free = false := by rw [hz.1] at hf'; simpa using hf'
              simp [joinC, hz.1, hz.2, hp]
            · have hz' : (b.free && z.free) = false := by
                rw [Bool.eq_false_iff]
                simpa using hz
              simp [joinC, hz', hf2]
theorem fold_norm (L : List Bk) : (L.foldl stepR []).reverse = norm L := fold_glue L []
theorem norm_snoc (A : List Bk) (x : Bk) : norm (A ++ [x]) = (stepR (norm A).reverse x).reverse := by
  rw [← fold_norm, List.foldl_append, ← fold_norm, List.reverse_reverse]
  rfl
theorem norm_snoc0 {A : List Bk} {x : Bk} (h : x.size = 0) : norm (A ++ [x]) = norm A := by
  rw [norm_snoc]
  unfold stepR
  rw [if_pos h, List.reverse_reverse]
theorem norm_snoc_nil {A : List Bk} {x : Bk} (h : x.size ≠ 0) (hA : norm A = []) : norm (A ++ [x]) = [x] := by
  rw [norm_snoc, hA]
  unfold stepR
  rw [if_neg h]
  rfl
theorem norm_snoc_join {A r : List Bk} {x p : Bk} (h : x.size ≠ 0) (hA : norm A = r ++ [p]) (hx : x.free = true) (hp : p.free = true) : norm (A ++ [x]) = r ++ [{ p with size := p.size + x.size }] := by
  rw [norm_snoc, hA]
  unfold stepR
  rw [if_neg h]
  simp [hx, hp]
theorem norm_snoc_far {A r : List Bk} {x p : Bk} (h : x.size ≠ 0) (hA : norm A = r ++ [p]) (hx : ¬ (x.free = true ∧ p.free = true)) : norm (A ++ [x]) = norm A ++ [x] := by
  rw [norm_snoc, hA]
  unfold stepR
  rw [if_neg h]
  have : (x.free && p.free) = false := by
    rw [Bool.eq_false_iff]
    simpa using hx
  simp [this]

/-- Blocks one behind the other; those of no bytes may say of themselves what they will. -/
def Cov1 : Int → Int → List Bk → Prop
  | a, b, [] => a = b
  | a, b, x :: L => (x.size ≠ 0 → x.at_ = a) ∧ 0 ≤ x.size ∧ x.size % 8 = 0 ∧ Cov1 (a + x.size) b L
theorem cov1_of {L : List Bk} {a b : Int} (h : Cov0 a b L) : Cov1 a b L := by
  induction L generalizing a with
  | nil => exact h
  | cons x L ih => exact ⟨fun _ => h.1, h.2.1, h.2.2.1, ih h.2.2.2⟩
theorem cov1_app {A C : List Bk} {a b : Int} : Cov1 a b (A ++ C) ↔ ∃ m, Cov1 a m A ∧ Cov1 m b C := by
  induction A generalizing a with
  | nil => simp [Cov1]
  | cons x A ih =>
    simp only [List.cons_append, Cov1, ih]
    constructor
    · rintro ⟨h1, h2, h3, m, h4, h5⟩; exact ⟨m, ⟨h1, h2, h3, h4⟩, h5⟩
    · rintro ⟨m, ⟨h1, h2, h3, h4⟩, h5⟩; exact ⟨h1, h2, h3, m, h4, h5⟩
theorem cov1_le {L : List Bk} {a b : Int} (h : Cov1 a b L) : a ≤ b ∧ ∀ x ∈ L, 0 ≤ x.size ∧ x.size ≤ b - a := by
  induction L generalizing a with
  | nil => simp only [Cov1] at h; subst h; exact ⟨Int.le_refl _, fun x hx => by cases hx⟩
  | cons x L ih =>
    obtain ⟨h1, h2, h3, h4⟩ := h
    obtain ⟨k1, k2⟩ := ih h4
    refine ⟨by omega, fun y hy => ?_⟩
    rcases List.mem_cons.1 hy with rfl | hy
    · exact ⟨h2, by omega⟩
    · have := k2 y hy
      exact ⟨this.1, by omega⟩
theorem norm_inv1 {L : List Bk} {a b : Int} (h : Cov1 a b L) : Cov0 a b (norm L) ∧ Pos (norm L) ∧ NoFF (norm L) := by
  induction L generalizing a with
  | nil => exact ⟨h, (fun x hx => by cases hx), trivial⟩
  | cons x L ih =>
    obtain ⟨h1, h2, h3, h4⟩ := h
    obtain ⟨k1, k2, k3⟩ := ih h4
    rw [norm_cons]
    by_cases h0 : x.size = 0
    · have e : consN x (norm L) = norm L := by unfold consN; rw [if_pos h0]
      rw [e]
      rw [h0, Int.add_zero] at k1
      exact ⟨k1, k2, k3⟩
    · exact ⟨consN_cov ⟨h1 h0, h2, h3, k1⟩, consN_pos (a := a) (b := b) ⟨h1 h0, h2, h3, k1⟩ k2, consN_noff k3⟩

theorem infoR : (Try.prog.info? 62).map (fun i => (i.zero, i.size, i.bytes)) = some (some (.agg #[.int .i64 0, .int .i64 0, .bool false]), 3, 24) := by kernel_rfl

section
variable {w w' : World} {base g cap : Nat} {t : TypeId} {L : List Bk} {v : Value}
theorem OwnB.form (h : OwnB w base t v L) (hn : 0 < L.length) : ∃ g cap, v = .slice (some ⟨g, 0, none⟩) L.length cap ∧ base ≤ g ∧ g < w.heap.size := by
  rcases h.2 with ⟨_, h0⟩ | ⟨g, cap, cur, rfl, hb, hgg, hle, hm, _⟩
  · omega
  · exact ⟨g, cap, rfl, hb, (Array.getElem?_eq_some_iff.1 hgg).1⟩
theorem OwnB.len_ (h : OwnB w base t v L) : ∃ A cap, v = .slice A L.length cap ∧ L.length ≤ cap := by
  rcases h.2 with ⟨rfl, h0⟩ | ⟨g, cap, cur, rfl, hb, hgg, hle, hm, _⟩
  · exact ⟨none, 0, by rw [h0], by omega⟩
  · exact ⟨_, cap, rfl, hle⟩
theorem rowB_at {L : List Bk} {k : Nat} {x : Bk} (h : L[k]? = some x) : (rowB L)[k * 3]? = some (.int .i64 x.at_) ∧ (rowB L)[k * 3 + 1]? = some (.int .i64 x.size) ∧ (rowB L)[k * 3 + 2]? = some (.bool x.free) := by
  induction L generalizing k with
  | nil => simp at h
  | cons y L ih =>
    have e : rowB (y :: L) = .int .i64 y.at_ :: .int .i64 y.size :: .bool y.free :: rowB L := rfl
    rw [e]
    cases k with
    | zero => simp at h; subst h; simp
    | succ k =>
      have := ih (by simpa using h)
      rw [show (k + 1) * 3 = k * 3 + 3 by omega]
      simpa using this
theorem OwnB.cells (h : OwnB w base t (.slice (some ⟨g, 0, none⟩) L.length cap) L) {k : Nat} {x : Bk} (hx : L[k]? = some x) :
    w.cell? ⟨g, k * 3, none⟩ = some (.int .i64 x.at_) ∧ w.cell? ⟨g, k * 3 + 1, none⟩ = some (.int .i64 x.size) ∧ w.cell? ⟨g, k * 3 + 2, none⟩ = some (.bool x.free) := by
  obtain ⟨_, A, cap', e, hc⟩ := own_src h
  obtain ⟨b, off, e2, hc⟩ := hc (by have := (List.getElem?_eq_some_iff.1 hx).1; omega)
  injection e with e1
  rw [← e1] at e2
  injection e2 with e2
  injection e2 with e3 e4
  subst e3 e4
  obtain ⟨h1, h2, h3⟩ := rowB_at hx
  have k1 := hc _ _ h1
  have k2 := hc _ _ h2
  have k3 := hc _ _ h3
  rw [Nat.zero_add] at k1 k2 k3
  exact ⟨k1, k2, k3⟩
theorem OwnB.fr {S : Nat → Prop} (h : OwnB w base t v L) (hf : Fr S w w') (hS : ∀ k, v.ownBlock = some k → ¬ S k) : OwnB w' base t v L := own_fr h hf hS
theorem OwnB.fr0 (h : OwnB w base t v L) (hf : Fr0 w w') : OwnB w' base t v L := own_fr h hf fun _ _ x => x
end

/-- Block rp is the document's heap: a row of blocks of its own. -/
structure RRep (w : World) (rp base : Nat) (sv : Value) (L : List Bk) : Prop where
  obj : Blk w rp 41 #[sv]
  row : OwnB w base 62 sv L
  lo : base ≤ rp

section
variable {rp base : Nat} {sv : Value} {L : List Bk} {c d : Int}

set_option maxHeartbeats 4000000 in
theorem joinR_any (w : World) (h : RRep w rp base sv L) (hc : Cov1 c d L) (hd : d - c ≤ 1048576) (hlen : L.length ≤ 1000000) (hbase : base ≤ w.heap.size) :
    Calls Try.prog 29 #[ptr rp] w fun e w' => e = .returned (.tuple #[]) ∧ Fr (fun k => k = rp) w w' ∧ ∃ sv', RRep w' rp base sv' (norm L) ∧ (∀ k, sv'.ownBlock = some k → w.heap.size ≤ k) := by
  obtain ⟨i0, hi, hz0, hz1, hz2⟩ := info_parts infoR
  have c0 := h.obj.cell 0
  have y0 := h.obj.frozen 0
  have hrl := h.obj.lt
  have HH := Lib.hid h
  have HC := Lib.hid hc
  obtain ⟨A0, cap, rfl, hcap⟩ := h.row.len_
  clear h hc
  rw [show ptr rp = .pointer (some ⟨rp, 0, none⟩) from rfl]
  go_enter Try.func29, Try.ntmps29
  go_wp2
  go_loopw [2, 3] (fun o i wr => ∃ k : Nat, k ≤ L.length ∧ i = .int .i64 k ∧ OwnB wr w.heap.size 62 o (norm (L.take k)) ∧ Fr0 w wr) (fun _ i _ => L.length - (intOf i).toNat)
  case atStart => exact ⟨0, by omega, rfl, World.ownsRow_nil _ _ _ _, Fr.refl _ _⟩
  case round =>
    obtain ⟨k, hk, rfl, hown, hfr⟩ := hrel
    have c0' : wr.cell? ⟨rp, 0, none⟩ = some (.slice A0 L.length cap) := (hfr.cell (p := ⟨rp, 0, none⟩) hrl (fun x => x)).trans c0
    by_cases hlt : k < L.length
    · obtain ⟨x, hx⟩ : ∃ x, L[k]? = some x := ⟨L[k], List.getElem?_eq_getElem hlt⟩
      obtain ⟨g, cap', e, hg1, hg2⟩ := HH.out.row.form (by omega)
      injection e with e1 e2 e3
      subst e1 e3
      obtain ⟨d0, d1, d2⟩ := (HH.out.row.fr0 hfr).cells hx
      have ht : L.take (k + 1) = L.take k ++ [x] := by rw [List.take_add_one, hx]; rfl
      have HX := Lib.hid hx
      have HT := Lib.hid ht
      have HO := Lib.hid hown
      have HF := Lib.hid hfr
      clear hx ht hown hfr
      have hfin : ∀ (o : Value) (W : World), OwnB W w.heap.size 62 o (norm (L.take (k + 1))) → Fr0 w W → ∃ k1 : Nat, k1 ≤ L.length ∧ Value.int .i64 ((k : Int) + 1) = .int .i64 k1 ∧ OwnB W w.heap.size 62 o (norm (L.take k1)) ∧ Fr0 w W := fun o W h1 h2 => ⟨k + 1, by omega, by push_cast; rfl, h1, h2⟩
      have HFN := Lib.hid hfin
      clear hfin
      have hcv := HC.out
      rw [← List.take_append_drop k L] at hcv
      obtain ⟨m, hcA, hcB⟩ := cov1_app.1 hcv
      have hnA := (norm_inv1 hcA).1
      have hxb : 0 ≤ x.size ∧ x.size ≤ d - m ∧ m ≤ d := by
        have hm : x ∈ L.drop k := by
          rw [List.drop_eq_getElem_cons hlt]
          have : L[k] = x := by have := HX.out; rw [List.getElem?_eq_getElem hlt] at this; simpa using this
          rw [this]; simp
        have := (cov1_le hcB).2 x hm
        have := (cov1_le hcB).1
        omega
      have hcm := (cov_le hnA).1
      have hnl : (norm (L.take k)).length ≤ 1000000 := by
        have h8 := cov_len hnA (norm_inv1 hcA).2.1
        omega
      have HNP := Lib.hid hnA
      clear hcv hcA hcB hnA
      obtain ⟨xa, xs, xf⟩ := x
      dsimp only at d0 d1 d2 hxb
      by_cases hs : xs = 0
      · subst hs
        go_wp2
        refine ⟨HFN.out _ _ ?_ (HF.out.alloc _), by simp [intOf]; omega⟩
        rw [HT.out, norm_snoc0 (by rfl)]
        exact HO.out.fr ((Fr.refl (fun _ => False) _).alloc _) (fun _ _ x => x)
      have hs' : (xs == 0) = false := by simp [hs]
      have hown1 : ∀ cs cs', OwnB ((wr.alloc (.cells cs 62)).alloc (.cells cs' 62)) w.heap.size 62 u2 (norm (L.take k)) := fun cs cs' => HO.out.fr (((Fr.refl (fun _ => False) _).alloc _).alloc _) (fun _ _ x => x)
      have hlo := own_lo HO.out
      have hz := HF.out.size
      have hap : norm (L.take (k + 1)) = norm (L.take k) ++ [⟨xa, xs, xf⟩] → ∀ v2 w2, World.ownsRow w2 w.heap.size 62 3 v2 ((norm (L.take k)).length + 1) (rowB (norm (L.take k)) ++ bkv ⟨xa, xs, xf⟩) → OwnB w2 w.heap.size 62 v2 (norm (L.take (k + 1))) := fun e v2 w2 ho2 => by
        rw [e]
        exact OwnB.app (C := [⟨xa, xs, xf⟩]) (by simpa [rowB] using ho2)
      have HAP := Lib.hid hap
      clear hap
      cases xf with
      | false =>
        have hno : norm (L.take (k + 1)) = norm (L.take k) ++ [⟨xa, xs, false⟩] := by
          rw [HT.out]
          rcases List.eq_nil_or_concat (norm (L.take k)) with h | ⟨r, p, h⟩
          · rw [norm_snoc_nil hs h, h]; rfl
          · rw [List.concat_eq_append] at h
            exact norm_snoc_far hs h (fun e => by simp at e)
        have HNO := Lib.hid hno
        clear hno
        go_wp2_with (at_builtin; refine wpList_append_src (m := 1) (news := bkv ⟨xa, xs, false⟩) rfl (.tmp 56) (.tmp 58) rfl Try.underlying39 hi hz0 hz1 hz2 rfl (by decide) rfl rfl (hown1 _ _) (Src.new' (by simp) _ rfl _) (fun u hu => rowB_one (L := [⟨xa, xs, false⟩]) u (by simpa [rowB] using hu)) (by unfold maxLen; omega) (by omega) (by simp; omega) ?_; intro v2 w2 ho2 hg2 hk2)
        refine ⟨HFN.out _ _ (HAP.out HNO.out _ _ ho2) (((HF.out.alloc _).alloc _).grown hg2 (fun k hk => .inr (hlo k hk).1)), by simp [intOf]; omega⟩
      | true =>
        rcases List.eq_nil_or_concat (norm (L.take k)) with hN | ⟨r, p, hN⟩
        · have hno : norm (L.take (k + 1)) = norm (L.take k) ++ [⟨xa, xs, true⟩] := by
            rw [HT.out, norm_snoc_nil hs hN, hN]; rfl
          have HNO := Lib.hid hno
          obtain ⟨A2, cap2, hv, _⟩ := HO.out.len_
          rw [hN] at hv
          simp only [List.length_nil] at hv
          subst hv
          clear hno hN
          go_wp2_with (at_builtin; refine wpList_append_src (m := 1) (news := bkv ⟨xa, xs, true⟩) rfl (.tmp 56) (.tmp 58) rfl Try.underlying39 hi hz0 hz1 hz2 rfl (by decide) rfl rfl (hown1 _ _) (Src.new' (by simp) _ rfl _) (fun u hu => rowB_one (L := [⟨xa, xs, true⟩]) u (by simpa [rowB] using hu)) (by unfold maxLen; omega) (by omega) (by simp; omega) ?_; intro v2 w2 ho2 hg2 hk2)
          refine ⟨HFN.out _ _ (HAP.out HNO.out _ _ ho2) (((HF.out.alloc _).alloc _).grown hg2 (fun k hk => .inr (hlo k hk).1)), by simp [intOf]; omega⟩
        · rw [List.concat_eq_append] at hN
          have hO := HO.out
          rw [hN] at hO
          obtain ⟨g2, cap2, hv, hg2, hg2l⟩ := hO.form (by simp)
          have hlen2 : (r ++ [p]).length = r.length + 1 := by simp
          rw [hv] at hO
          have hp := hO.cells (k := r.length) (x := p) (by simp)
          rw [hlen2] at hv hO
          subst hv
          obtain ⟨p0, p1, p2⟩ := hp
          have hlr : r.length + 1 ≤ 1000000 := by rw [hN, hlen2] at hnl; exact hnl
          cases hpf : p.free with
          | false =>
            rw [hpf] at p2
            have hno : norm (L.take (k + 1)) = norm (L.take k) ++ [⟨xa, xs, true⟩] := by
              rw [HT.out]
              exact norm_snoc_far hs hN (fun e => by rw [hpf] at e; simp at e)
            have HNO := Lib.hid hno
            have HN := Lib.hid hN
            have HOO := Lib.hid hO
            clear hno hN hO
            generalize r.length = q at *
            go_wp2_with (at_builtin; refine wpList_append_src (m := 1) (news := bkv ⟨xa, xs, true⟩) rfl (.tmp 56) (.tmp 58) rfl Try.underlying39 hi hz0 hz1 hz2 rfl (by decide) rfl rfl (hown1 _ _) (Src.new' (by simp) _ rfl _) (fun u hu => rowB_one (L := [⟨xa, xs, true⟩]) u (by simpa [rowB] using hu)) (by unfold maxLen; omega) (by omega) (by simp; omega) ?_; intro v2 w2 ho2 hg2 hk2)
            refine ⟨HFN.out _ _ (HAP.out HNO.out _ _ ho2) (((HF.out.alloc _).alloc _).grown hg2 (fun k hk => .inr (hlo k hk).1)), by simp [intOf]; omega⟩
          | true =>
            rw [hpf] at p2
            have hno : norm (L.take (k + 1)) = r ++ [⟨p.at_, p.size + xs, p.free⟩] := by
              rw [HT.out]
              exact norm_snoc_join hs hN rfl hpf
            have HNO := Lib.hid hno
            have HN := Lib.hid hN
            have HOO := Lib.hid hO
            have hO2 : wr.ownsRow w.heap.size 62 3 (.slice (some ⟨g2, 0, none⟩) (r.length + 1) cap2) (r.length + 1) (rowB (r ++ [p])) := by
              have := hO
              unfold OwnB at this
              rw [hlen2] at this
              exact this
            have hz2 := (World.ownsRow.stored hO2 (r.length * 3 + 1) (.int .i64 (p.size + xs))).1
            have HZ2 := Lib.hid hz2
            have hfz := World.ownsRow.frozenAt hO2 (r.length * 3 + 1)
            have hpb : 0 ≤ p.size ∧ p.size ≤ m - c := by
              have := (cov_le HNP.out).2 p (by rw [hN]; simp)
              omega
            have hrow : (rowB (r ++ [p])).set (r.length * 3 + 1) (.int .i64 (p.size + xs)) = rowB (r ++ [⟨p.at_, p.size + xs, p.free⟩]) := by
              rw [rowB_app, rowB_app, List.set_append_right _ _ (by rw [rowB_length]; omega), rowB_length, show r.length * 3 + 1 - r.length * 3 = 1 by omega]
              rfl
            have HRW := Lib.hid hrow
            have hql : (r ++ [(⟨p.at_, p.size + xs, p.free⟩ : Bk)]).length = r.length + 1 := by simp
            have HQL := Lib.hid hql
            clear hno hN hO hz2 hO2 hrow hql
            generalize r.length = q at *
            go_wp2
            go_region
            go_wp2
            refine ⟨HFN.out _ _ ?_ ((HF.out.setCell (p := ⟨g2, q * 3 + 1, none⟩) (.inr hg2) _).alloc _).drew, by simp [intOf]; omega⟩
            rw [HNO.out]
            have hz2 := HZ2.out
            rw [HRW.out] at hz2
            unfold OwnB
            rw [HQL.out]
            exact own_fr hz2 ((Fr.refl (fun _ => False) _).alloc _).drew (fun _ _ x => x)
    · obtain rfl : k = L.length := by omega
      rw [List.take_length] at hown
      have hob := HH.out.obj.fr0 hfr
      have hfz := hob.frozen 0
      obtain ⟨A2, cap2, rfl, _⟩ := hown.len_
      have hst := hob.set_ 0 (.slice A2 (norm L).length cap2)
      have HS := Lib.hid hst
      have HO := Lib.hid hown
      have HF := Lib.hid hfr
      have hne : ∀ k, (Value.slice A2 (norm L).length cap2).ownBlock = some k → ¬ k = rp := fun k hk e => by
        have := (own_lo hown k hk).1
        omega
      have hlo : ∀ k, (Value.slice A2 (norm L).length cap2).ownBlock = some k → w.heap.size ≤ k := fun k hk => (own_lo hown k hk).1
      clear hob hst hown hfr
      go_wp2
      go_end0
      refine ⟨rfl, (HF.out.of0 (S := fun k => k = rp)).setCell (p := ⟨rp, 0, none⟩) (.inl rfl) _, _, ⟨HS.out, ?_, HH.out.lo⟩, hlo⟩
      have h1 := HO.out.fr ((Fr.refl (fun k => k = rp) wr).setCell (p := ⟨rp, 0, none⟩) (.inl rfl) (.slice A2 (norm L).length cap2)) hne
      exact own_mono h1 hbase
end
end Go.Proofs.Ytedmdobfnkmccaa
