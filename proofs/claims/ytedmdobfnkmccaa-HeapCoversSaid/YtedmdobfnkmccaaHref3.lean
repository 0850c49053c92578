/- The document's own heap: cut. -/
import Derived.Test.YtedmdobfnkmccaaHref2
namespace Go.Proofs.Ytedmdobfnkmccaa
open Go Go.RowKit

section
variable {rp base : Nat} {sv : Value} {L : List Bk} {c d : Int}

theorem own_form {w : World} {e : TypeId} {size n : Nat} {v : Value} {xs : List Value} (h : w.ownsRow base e size v n xs) : ∃ A cap, v = .slice A n cap := by
  rcases h.2 with ⟨rfl, h0⟩ | ⟨g, cap, cur, rfl, _⟩
  · exact ⟨none, 0, by rw [h0]⟩
  · exact ⟨_, cap, rfl⟩

set_option maxHeartbeats 4000000 in
theorem cut_any {A B : List Bk} {a s n : Int} {f : Bool} (w : World) (h : RRep w rp base sv (A ++ ⟨a, s, f⟩ :: B)) (hc : Cov1 c d (A ++ ⟨a, s, f⟩ :: B)) (hd : d - c ≤ 1048576) (h0 : 0 ≤ c) (h1 : d ≤ 9223372036854775807) (hlen : (A ++ ⟨a, s, f⟩ :: B).length ≤ 900000) (hbase : base ≤ w.heap.size) (hn0 : 8 ≤ n) (hn8 : n % 8 = 0) (hns : n ≤ s) :
    Calls Try.prog 27 #[ptr rp, .int .i64 A.length, .int .i64 n, .bool false] w fun e w' => e = .returned (.tuple #[]) ∧ Fr (fun k => k = rp) w w' ∧ ∃ sv', RRep w' rp base sv' (cutL A ⟨a, s, f⟩ s n B) ∧ (∀ k, sv'.ownBlock = some k → w.heap.size ≤ k) := by
  obtain ⟨i0, hi, hz0, hz1, hz2⟩ := info_parts infoR
  have c0 := h.obj.cell 0
  have y0 := h.obj.frozen 0
  obtain ⟨g, cap, rfl, hgb, hgl⟩ := h.row.form (by simp; omega)
  obtain ⟨A', cap', ecap, hcap⟩ := h.row.len_
  injection ecap with ec1 ec2 ec3
  subst ec3
  clear ec1 ec2
  obtain ⟨d0, d1, d2⟩ := h.row.cells (k := A.length) (x := ⟨a, s, f⟩) (by simp)
  have hA := rowB_pre h.row
  have hB := fun (off : Nat) (e : off = (A.length + 1) * 3) (cap' : Nat) => rowB_suf (A := A ++ [⟨a, s, f⟩]) (B := B) (off := off) (by have := h.row; rw [← List.singleton_append, ← List.append_assoc] at this; exact this) cap' (by simpa using e)
  obtain ⟨m, hcA, hcx⟩ := cov1_app.1 hc
  have hs0 : s ≠ 0 := by omega
  have hcc : Cov1 c d (A ++ ⟨a, n, false⟩ :: ⟨a + n, s - n, true⟩ :: B) := by
    obtain ⟨k1, k2, k3, k4⟩ := hcx
    have k1' := k1 hs0
    dsimp only at k1' k2 k3
    refine cov1_app.2 ⟨m, hcA, fun _ => k1', by dsimp only; omega, by dsimp only; omega, fun _ => by dsimp only; omega, by dsimp only; omega, by dsimp only; omega, ?_⟩
    dsimp only
    rw [show m + n + (s - n) = m + s by omega]
    exact k4
  have hab : 0 ≤ a ∧ a + s ≤ 9223372036854775807 ∧ s ≤ 1048576 ∧ 0 ≤ s := by
    obtain ⟨k1, k2, k3, k4⟩ := hcx
    have k5 := (cov1_le k4).1
    have k6 := (cov1_le hcA).1
    have k1' := k1 hs0
    dsimp only at k1' k2 k5
    omega
  have hrl := h.obj.lt
  have hlA : (A ++ (⟨a, s, f⟩ : Bk) :: B).length = A.length + 1 + B.length := by simp; omega
  rw [hlA] at c0 hlen hcap
  have HLA := Lib.hid hlA
  have HH := Lib.hid h
  have HA := Lib.hid hA
  have HB := Lib.hid hB
  have HC := Lib.hid hcc
  clear h hA hB hcc hcx hcA hc hlA
  rw [show (#[Value.slice (some ⟨g, 0, none⟩) (A.length + 1 + B.length) cap] : Array Value)[0]? = some (.slice (some ⟨g, 0, none⟩) (A.length + 1 + B.length) cap) from rfl] at c0
  obtain ⟨q, hq⟩ : ∃ q, A.length = q := ⟨_, rfl⟩
  obtain ⟨r, hr⟩ : ∃ r, B.length = r := ⟨_, rfl⟩
  rw [hq] at HA HB
  rw [hq, hr] at c0 hlen hcap
  rw [hq] at d0 d1 d2 ⊢
  rw [hr] at HB
  have HQ := Lib.hid hq
  have HR := Lib.hid hr
  clear hq hr
  rw [show ptr rp = .pointer (some ⟨rp, 0, none⟩) from rfl]
  have hown0 : w.ownsRow w.heap.size 62 3 (.slice none 0 0) 0 [] := World.ownsRow_nil _ _ _ _
  go_enter Try.func27, Try.ntmps27
  go_wp2_with (at_builtin; refine wpList_append_src (v := .slice none 0 0) rfl (.tmp 9) (.tmp 15) rfl Try.underlying39 hi hz0 hz1 hz2 rfl (by decide) rfl rfl hown0 (HA.out _) (fun u hu => rowB_one (L := A) u hu) (by unfold maxLen; omega) (by omega) (Nat.le_refl _) ?_; intro v1 w1 ho1 hg1 hk1)
  simp only [Nat.zero_add, List.nil_append] at ho1
  have d0' : w1.cell? ⟨g, q * 3, none⟩ = some (.int .i64 a) := (World.cell?_of_block (hg1.block g hgl (by simp [Value.ownBlock]))).trans d0
  have d1' : w1.cell? ⟨g, q * 3 + 1, none⟩ = some (.int .i64 s) := (World.cell?_of_block (hg1.block g hgl (by simp [Value.ownBlock]))).trans d1
  have c0' : w1.cell? ⟨rp, 0, none⟩ = some (.slice (some ⟨g, 0, none⟩) (q + 1 + r) cap) := (World.cell?_of_block (hg1.block rp hrl (by simp [Value.ownBlock]))).trans c0
  have hrl1 : rp < w1.heap.size := Nat.lt_of_lt_of_le hrl hg1.size
  have hgl1 : g < w1.heap.size := Nat.lt_of_lt_of_le hgl hg1.size
  have hlo1 := own_lo ho1
  have hws := hg1.size
  have hwa : IntKind.i64.wrap (a + n) = a + n := by
    simp [IntKind.wrap, IntKind.bits, IntKind.signed]
    omega
  have hwb : IntKind.i64.wrap (s - n) = s - n := by
    simp [IntKind.wrap, IntKind.bits, IntKind.signed]
    omega
  have hqi : (q : Int) < (q : Int) + 1 + (r : Int) := by omega
  have hown1 : ∀ cs, (w1.drew.alloc (.cells cs 62)).ownsRow w.heap.size 62 3 v1 q (rowB A) := fun cs => own_fr ho1 ((Fr.refl (fun _ => False) w1).drew.alloc _) (fun _ _ x => x)
  go_region_held3 (fun W => W.cell? ⟨rp, 0, none⟩ = some (.slice (some ⟨g, 0, none⟩) (q + 1 + r) cap) ∧ W.cell? ⟨g, q * 3, none⟩ = some (.int .i64 a) ∧ W.cell? ⟨g, q * 3 + 1, none⟩ = some (.int .i64 s)) (first | exact ⟨c0', d0', d1'⟩ | exact ⟨(((Fr.refl (fun _ => False) _).alloc _).cell (p := ⟨rp, 0, none⟩) hrl1 (fun x => x)).trans c0', (((Fr.refl (fun _ => False) _).alloc _).cell (p := ⟨g, q * 3, none⟩) hgl1 (fun x => x)).trans d0', (((Fr.refl (fun _ => False) _).alloc _).cell (p := ⟨g, q * 3 + 1, none⟩) hgl1 (fun x => x)).trans d1'⟩ | exact ⟨(World.cell?_of_block (hg2.block rp (by simp; omega) (by intro e; have := (hlo1 rp e.symm).1; omega))).trans ((((Fr.refl (fun _ => False) _).alloc _).cell (p := ⟨rp, 0, none⟩) hrl1 (fun x => x)).trans c0'), (World.cell?_of_block (hg2.block g (by simp; omega) (by intro e; have := (hlo1 g e.symm).1; omega))).trans ((((Fr.refl (fun _ => False) _).alloc _).cell (p := ⟨g, q * 3, none⟩) hgl1 (fun x => x)).trans d0'), (World.cell?_of_block (hg2.block g (by simp; omega) (by intro e; have := (hlo1 g e.symm).1; omega))).trans ((((Fr.refl (fun _ => False) _).alloc _).cell (p := ⟨g, q * 3 + 1, none⟩) hgl1 (fun x => x)).trans d1')⟩) (first | (refine step_append_src (P := Try.prog) (t := 39) (e := 62) (size := 3) (n := q) (m := 2) (base := w.heap.size) (i := i0) (bytes := 24) (v := v1) (xs := rowB A) (news := [.int .i64 a, .int .i64 n, .bool false, .int .i64 (a + n), .int .i64 (s - n), .bool true]) rfl (.tmp 17) (.tmp 50) rfl Try.underlying39 hi hz0 hz1 hz2 rfl (by decide) rfl rfl (hown1 _) (Src.new' (w := w1.drew) (e := 62) (i := w1.heap.size) (m := 2) (size := 3) rfl #[.int .i64 a, .int .i64 n, .bool false, .int .i64 (a + n), .int .i64 (s - n), .bool true] rfl 2) (fun u hu => rowB_one (L := [⟨a, n, false⟩, ⟨a + n, s - n, true⟩]) u hu) (by unfold maxLen; omega) (by omega) (by simp; omega) ?_; intro v2 w2 ho2 hg2 hk2))
  have hF2 : Fr0 w w2 := ((((Fr.refl (fun _ => False) w).grown hg1 (fun k hk => by cases hk)).alloc _).drew).grown hg2 (fun k hk => .inr (hlo1 k hk).1)
  have c2 : w2.cell? ⟨rp, 0, none⟩ = some (.slice (some ⟨g, 0, none⟩) (q + 1 + r) cap) := (hF2.cell (p := ⟨rp, 0, none⟩) hrl (fun x => x)).trans c0
  have y2 : w2.frozen? ⟨rp, 0, none⟩ = false := (hF2.frozen (p := ⟨rp, 0, none⟩) hrl (fun x => x)).trans y0
  clear c0' d0' d1' hown1 hrl1 hgl1
  have hlo2 := own_lo ho2
  have hwz := hF2.size
  have hrow : rowB A ++ [.int .i64 a, .int .i64 n, .bool false, .int .i64 (a + n), .int .i64 (s - n), .bool true] ++ rowB B = rowB (A ++ ⟨a, n, false⟩ :: ⟨a + n, s - n, true⟩ :: B) := by
    rw [rowB_app, List.append_assoc]
    rfl
  have hlen3 : (A ++ (⟨a, n, false⟩ : Bk) :: ⟨a + n, s - n, true⟩ :: B).length = q + 2 + r := by
    simp [HQ.out, HR.out]
    omega
  have hend : ∀ (v3 : Value) (w3 : World), w3.ownsRow w.heap.size 62 3 v3 (q + 2 + r) (rowB A ++ [.int .i64 a, .int .i64 n, .bool false, .int .i64 (a + n), .int .i64 (s - n), .bool true] ++ rowB B) → Fr0 w w3 → Fr (fun k => k = rp) w (w3.setCell ⟨rp, 0, none⟩ v3) ∧ RRep (w3.setCell ⟨rp, 0, none⟩ v3) rp base v3 (A ++ ⟨a, n, false⟩ :: ⟨a + n, s - n, true⟩ :: B) := fun v3 w3 ho3 hf3 => by
    refine ⟨(hf3.of0 (S := fun k => k = rp)).setCell (p := ⟨rp, 0, none⟩) (.inl rfl) _, (HH.out.obj.fr0 hf3).set_ 0 _, ?_, HH.out.lo⟩
    unfold OwnB
    rw [hlen3, ← hrow]
    refine own_mono (own_fr (by simpa using ho3) ((Fr.refl (fun k => k = rp) w3).setCell (p := ⟨rp, 0, none⟩) (.inl rfl) v3) (fun k hk e => ?_)) hbase
    have := (own_lo ho3 k hk).1
    omega
  have HE := Lib.hid hend
  have HL3 := Lib.hid hlen3
  clear hend hrow hlen3
  have hJ : ∀ (v3 : Value) (w4 : World), Fr (fun k => k = rp) w w4 → RRep w4 rp base v3 (A ++ ⟨a, n, false⟩ :: ⟨a + n, s - n, true⟩ :: B) → Calls Try.prog 29 #[.pointer (some ⟨rp, 0, none⟩)] w4 fun e w' => e = .returned (.tuple #[]) ∧ Fr (fun k => k = rp) w4 w' ∧ ∃ sv', RRep w' rp base sv' (norm (A ++ ⟨a, n, false⟩ :: ⟨a + n, s - n, true⟩ :: B)) ∧ (∀ k, sv'.ownBlock = some k → w4.heap.size ≤ k) :=
    fun v3 w4 hf h4 => joinR_any w4 h4 HC.out hd (by rw [HL3.out]; omega) (by have := hf.size; omega)
  have HJ := Lib.hid hJ
  clear hJ
  by_cases hqc : cap = q + 1
  · have hsB : Src w2 (.slice (some ⟨g, 0, none⟩) r 0) r 3 (rowB B) := by
      have hr0 : r = 0 := by omega
      have hb : B = [] := List.eq_nil_of_length_eq_zero (by rw [HR.out, hr0])
      rw [hr0, hb]
      exact Src.nil _ _ _ _
    go_wp2_with (at_builtin; refine wpList_append_src (v := v2) rfl (.tmp 53) (.tmp 60) rfl Try.underlying39 hi hz0 hz1 hz2 rfl (by decide) rfl rfl ho2 hsB (fun u hu => rowB_one (L := B) u hu) (by unfold maxLen; omega) (by omega) hwz ?_; intro v3 w3 ho3 hg3 hk3; obtain ⟨A3, cap3, rfl⟩ := own_form ho3; have hF3 : Fr0 w w3 := hF2.grown hg3 (fun k hk => .inr (hlo2 k hk).1); have y3 : w3.frozen? ⟨rp, 0, none⟩ = false := (hF3.frozen (p := ⟨rp, 0, none⟩) hrl (fun x => x)).trans y0; have c3 : w3.cell? ⟨rp, 0, none⟩ = some (.slice (some ⟨g, 0, none⟩) (q + 1 + r) cap) := (hF3.cell (p := ⟨rp, 0, none⟩) hrl (fun x => x)).trans c0)
    obtain ⟨hf4, h4⟩ := HE.out _ _ ho3 hF3
    refine (HJ.out _ _ hf4 h4).mono ?_
    rintro e w5 ⟨rfl, hf5, sv', h5, hl5⟩
    go_wp2
    go_end0
    exact ⟨rfl, hf4.then hf5 (fun k _ e => e), sv', h5, fun k hk => Nat.le_trans hf4.size (hl5 k hk)⟩
  · have hsB : Src w2 (.slice (some ⟨g, (q + 1) * 3, none⟩) r (cap - (q + 1))) r 3 (rowB B) :=
      (HB.out _ rfl _).fr hF2 (fun p hp => ⟨fun x => x, by injection hp with hp; rw [← hp]; exact hgl⟩)
    go_wp2_with (at_builtin; refine wpList_append_src (v := v2) rfl (.tmp 53) (.tmp 60) rfl Try.underlying39 hi hz0 hz1 hz2 rfl (by decide) rfl rfl ho2 hsB (fun u hu => rowB_one (L := B) u hu) (by unfold maxLen; omega) (by omega) hwz ?_; intro v3 w3 ho3 hg3 hk3; obtain ⟨A3, cap3, rfl⟩ := own_form ho3; have hF3 : Fr0 w w3 := hF2.grown hg3 (fun k hk => .inr (hlo2 k hk).1); have y3 : w3.frozen? ⟨rp, 0, none⟩ = false := (hF3.frozen (p := ⟨rp, 0, none⟩) hrl (fun x => x)).trans y0; have c3 : w3.cell? ⟨rp, 0, none⟩ = some (.slice (some ⟨g, 0, none⟩) (q + 1 + r) cap) := (hF3.cell (p := ⟨rp, 0, none⟩) hrl (fun x => x)).trans c0)
    obtain ⟨hf4, h4⟩ := HE.out _ _ ho3 hF3
    refine (HJ.out _ _ hf4 h4).mono ?_
    rintro e w5 ⟨rfl, hf5, sv', h5, hl5⟩
    go_wp2
    go_end0
    exact ⟨rfl, hf4.then hf5 (fun k _ e => e), sv', h5, fun k hk => Nat.le_trans hf4.size (hl5 k hk)⟩
end
end Go.Proofs.Ytedmdobfnkmccaa
