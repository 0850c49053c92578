/- Slices of strings that came in, with their bounds. -/
import Derived.Test.YtmhjnbolngdijaaRowT
import Derived.Test.YtmhjnbolngdijaaNrd
import Derived.Test.YtmhjnbolngdijaaQ2
import Derived.Test.YtmhjnbolngdijaaNawake
import Derived.Test.YtmhjnbolngdijaaNlaw1
namespace Go.Proofs.Ytmhjnbolngdijaa
open Go Go.RowKit Go.ChangeShapes Go.WideShapes Go.ChangeAt
set_option linter.unusedVariables false

/-- A slice of strings that came in, none longer than Go lays. -/
def RowU (w : World) (B : Nat) (sv : Value) (ns : List (List Int)) : Prop := RowT w B sv ns ∧ ∀ nm ∈ ns, nm.length ≤ 9223372036854775807
theorem RowU.below {w w' : World} {B : Nat} {sv : Value} {ns : List (List Int)} (h : RowU w B sv ns) (hb : Below B w w') : RowU w' B sv ns := ⟨h.1.below hb, h.2⟩
section
variable {H : Type} {enc : TypeId × Value → H} {W : World} {base : Nat} {sp : Nat → Bool} {hd : Bool}
theorem open_rowU {a : Option Addr} {len cap : Nat} {d : DataW H} {ps : List MemPlace}
    (h : DataW.Trod enc Try.prog W base sp hd 22 (.slice a len cap) d ps) : ∃ ns, RowU W W.heap.size (.slice a len cap) ns := by
  obtain ⟨ns, hns⟩ := open_rowT h
  refine ⟨ns, hns, fun nm hnm => ?_⟩
  obtain ⟨fuel, hf⟩ := h
  obtain ⟨A, cap', e, h1, h2⟩ := hns
  injection e with e1 e2 e3
  subst e1 e2 e3
  have hp : 0 < ns.length := List.length_pos_of_mem hnm
  obtain ⟨b, off, rfl, _, hc⟩ := h2 hp
  rcases open_strings Try.underlying22 Try.underlying9 (by kernel_rfl) hf with ⟨hcs, hx⟩ | ⟨x, l, c, ss, hcs, _, hl, hm, hz, hx, hcell, hsz⟩
  · simp [Value.cells] at hcs
  · simp [Value.cells] at hcs
    obtain ⟨rfl, rfl, rfl⟩ := hcs
    have hlen : ns.length ≤ ss.length := by rw [hz]; split <;> omega
    obtain ⟨j, hj, rfl⟩ := List.getElem_of_mem hnm
    have h3 := hcell j (by omega)
    have h4 := hc j _ (List.getElem?_eq_getElem hj)
    have h5 : (⟨b, off, none⟩ : Addr).add j = ⟨b, off + j, none⟩ := by
      unfold Addr.add
      by_cases h : j = 0
      · simp [h]
      · simp [h]
    rw [h5, h4] at h3
    injection h3 with h3
    injection h3 with h3
    have h6 : ss.getD j ByteArray.empty ∈ ss := by
      rw [List.getD_eq_getElem?_getD, List.getElem?_eq_getElem (show j < ss.length by omega)]
      exact List.getElem_mem _
    have h7 := hsz _ h6
    rw [← h3, strOfNums_size] at h7
    unfold maxLen at h7
    omega
end
end Go.Proofs.Ytmhjnbolngdijaa

namespace Go.Proofs.Ytmhjnbolngdijaa
open Go Go.RowKit
set_option linter.unusedVariables false
attribute [local go_sem] Oper.semAt_some

section
variable {B c : Nat} {s : St} {S : Nat → Prop}
set_option maxRecDepth 100000 in
set_option maxHeartbeats 4000000 in
theorem Find_big (l : Int) (nm : List Int) (hb : (∀ y ∈ nm, 0 ≤ y ∧ y ≤ 255) ∧ nm.length ≤ 9223372036854775807) (w : World) (h : NgS w B c s S) :
    Calls Try.prog 13 #[.pointer (some ⟨c, 0, none⟩), .int .i64 l, .string (strOfNums nm)] w fun e w' => e = .returned (.tuple #[.int .i64 (lastOf s.ws (l, strOfNums (lowL nm))), .bool (decide (lastOf s.ws (l, strOfNums (lowL nm)) ≠ 0))]) ∧ ∃ S', NgI w' B c s S' ∧ Turn S S' w w' ∧ (NgI w B c s S → Fr0 w w') := by
  have HNO := Lib.hid (none_ng w h)
  have HPL := Lib.hid (fun V => place_any l nm hb.1 (by have := hb.2; omega) V)
  clear h
  obtain ⟨key, hkey⟩ : ∃ key : Int × ByteArray, (l, strOfNums (lowL nm)) = key := ⟨_, rfl⟩
  have hk1 : l = key.1 := by rw [← hkey]
  have hk2 : strOfNums (lowL nm) = key.2 := by rw [← hkey]
  rw [hkey]
  rw [hk2] at HPL
  by_cases hk : toksOf s.ws key = []
  · rw [lastOf_none hk]
    have HK := Lib.hid hk
    have HK1 := Lib.hid hk1
    clear hk hkey hk1 hk2
    go_enter Try.func13, Try.ntmps13
    go_wp2_with (go_at_call 33; refine HNO.out.mono ?_; rintro e w1 ⟨rfl, S1, h1, ht, hq⟩; have HT := Lib.hid ht; have HQ := Lib.hid hq; clear ht hq)
    have H1 := Lib.hid h1
    obtain ⟨m, wv, ov, mf, hN, _⟩ := h1
    have c4 := hN.cells.2.2.2.2
    have hcl := hN.obj.blk.lt
    have hlk := fun V (hV : Fr0 w1 V) => (hN.fr0 hV).look key
    have hown := hN.mf_own key
    rw [toksP_all, HK.out] at hown
    rw [← HK1.out] at hlk
    obtain ⟨A, cap, hA⟩ := hown.rd.form
    rw [hA] at hlk
    have HLK := Lib.hid hlk
    clear hN hlk hown hA
    go_region_held3 (fun V => V.cell? ⟨c, 4, none⟩ = some (.map (some m))) (first | exact c4 | exact d4) ((go_at_call 37; (with_reducible refine (HPL.out _).mono ?_); rintro e w2 ⟨rfl, hf1⟩; have hf2 : Fr0 w1 w2 := (Fr.refl _ w1).drew.trans hf1; have d4 := (hf2.cell (p := ⟨c, 4, none⟩) hcl (fun x => x)).trans c4; have hl1 := HLK.out w2 hf2; have HF2 := Lib.hid hf2; clear hf1 hf2))
    go_wp2_with fail
    go_ret2
    exact ⟨rfl, S1, H1.out.fr0 HF2.out, HT.out.trans (Turn.of0 HF2.out), fun h => by rw [HQ.out h]; exact HF2.out⟩
  · obtain ⟨t, ht, hlt, ht1⟩ := lastOf_some hk
    rw [hlt]
    have hl0 : 0 < (toksOf s.ws key).length := List.length_pos_iff.2 hk
    have hd : decide (t ≠ 0) = true := by simp; omega
    rw [hd]
    obtain ⟨n, hn⟩ : ∃ n, (toksOf s.ws key).length = n + 1 := ⟨(toksOf s.ws key).length - 1, by omega⟩
    rw [hn, Nat.add_sub_cancel] at ht
    have HTK := Lib.hid ht
    have HN := Lib.hid hn
    have HK1 := Lib.hid hk1
    clear hk hkey hk1 hk2 ht hlt ht1 hl0 hd hn
    go_enter Try.func13, Try.ntmps13
    go_wp2_with (go_at_call 33; refine HNO.out.mono ?_; rintro e w1 ⟨rfl, S1, h1, ht, hq⟩; have HT := Lib.hid ht; have HQ := Lib.hid hq; clear ht hq)
    have H1 := Lib.hid h1
    obtain ⟨m, wv, ov, mf, hN, _⟩ := h1
    have c4 := hN.cells.2.2.2.2
    have hcl := hN.obj.blk.lt
    have hlk := fun V (hV : Fr0 w1 V) => (hN.fr0 hV).look key
    have hown := fun V (hV : Fr0 w1 V) => (hN.fr0 hV).mf_own key
    rw [toksP_all] at hown
    rw [← HK1.out] at hlk
    have htl := toksOf_len s.ws key
    have hfew := hN.few
    rw [HN.out] at htl
    obtain ⟨b, cap, hA, hc⟩ : ∃ b cap, mfOf mf key = .slice (some ⟨b, 0, none⟩) (n + 1) cap ∧ ∀ V, Fr0 w1 V → V.cell? ⟨b, n, none⟩ = some (.int .i64 t) := by
      rcases ownI_open (hown w1 (Fr.refl _ _)) with ⟨_, e⟩ | ⟨b, cap, cs, e, _, _⟩
      · have := HN.out
        rw [e] at this
        simp at this
      · rw [HN.out] at e
        refine ⟨b, cap, e, fun V hV => ?_⟩
        have h2 := hown V hV
        rw [e] at h2
        obtain ⟨b2, off2, e2, hcc2⟩ := (h2.rd).at_ HTK.out
        injection e2 with e2
        injection e2 with e2 e3
        subst e2 e3
        rw [Nat.zero_add] at hcc2
        exact hcc2
    rw [hA] at hlk
    have x1 : IntKind.i64.wrap ((n : Int) + 1 - 1) = (n : Int) := by rw [IntWalk.i64_in _ (by omega)]; omega
    have hnI : (n : Int) < (n : Int) + 1 := by omega
    have x2 : wrap64 (n : Int) = (n : Int) := IntWalk.wrap64_in _ (by omega)
    have HLK := Lib.hid hlk
    have HC := Lib.hid hc
    clear hN hlk hown hA htl hc
    go_region_held3 (fun V => V.cell? ⟨c, 4, none⟩ = some (.map (some m))) (first | exact c4 | exact d4) ((go_at_call 37; (with_reducible refine (HPL.out _).mono ?_); rintro e w2 ⟨rfl, hf1⟩; have hf2 : Fr0 w1 w2 := (Fr.refl _ w1).drew.trans hf1; have d4 := (hf2.cell (p := ⟨c, 4, none⟩) hcl (fun x => x)).trans c4; have hl1 := HLK.out w2 hf2; have e1 := HC.out w2 hf2; have HF2 := Lib.hid hf2; clear hf1 hf2))
    go_wp2_with fail
    go_ret2
    exact ⟨rfl, S1, H1.out.fr0 HF2.out, HT.out.trans (Turn.of0 HF2.out), fun h => by rw [HQ.out h]; exact HF2.out⟩

set_option maxRecDepth 100000 in
set_option maxHeartbeats 4000000 in
theorem Search_big (nm : List Int) (hb : (∀ y ∈ nm, 0 ≤ y ∧ y ≤ 255) ∧ nm.length ≤ 9223372036854775807) (w : World) (h : NgS w B c s S) (hol : s.order.length ≤ 1000) :
    Calls Try.prog 14 #[.pointer (some ⟨c, 0, none⟩), .string (strOfNums nm)] w fun e w' => e = .returned (.tuple #[.int .i64 (srchOf s.ws nm s.order), .bool (decide (srchOf s.ws nm s.order ≠ 0))]) ∧ ∃ S', NgI w' B c s S' ∧ Turn S S' w w' := by
  have HNO := Lib.hid (none_ng w h)
  clear h
  obtain ⟨n, hn⟩ : ∃ n, s.order.length = n := ⟨_, rfl⟩
  have HN := Lib.hid hn
  rw [hn] at hol
  obtain ⟨sv, hsv⟩ : ∃ sv, srchOf s.ws nm s.order = sv := ⟨_, rfl⟩
  have HSV := Lib.hid hsv
  rw [hsv]
  clear hn hsv
  go_enter Try.func14, Try.ntmps14
  go_wp2_with (go_at_call 33; refine HNO.out.mono ?_; rintro e w1 ⟨rfl, S1, h1, ht, _⟩; have HT := Lib.hid ht; have H1 := Lib.hid h1; have HFI := Lib.hid (fun l V (hV : Fr0 w1 V) => Find_big l nm hb V (.inl (h1.fr0 hV))); obtain ⟨m, wv, ov, mf, hN, _⟩ := h1; have c2 := hN.cells.2.2.1; have HOR := Lib.hid (fun V (hV : Fr0 w1 V) => (hN.ord.fr hV (fun _ _ x => x)).rd); obtain ⟨A, cap, rfl⟩ := hN.ord.rd.form; rw [HN.out] at c2 HOR; clear hN ht)
  go_loopw [4, 5, 16] (fun u4 u5 i wr => ∃ j : Nat, j ≤ n ∧ u4 = .int .i64 0 ∧ u5 = .bool false ∧ i = .int .i64 j ∧ sv = srchOf s.ws nm (s.order.drop j) ∧ Fr0 w1 wr) (fun _ _ i _ => n - (intOf i).toNat)
  case atStart => exact ⟨0, by omega, rfl, rfl, rfl, by rw [List.drop_zero]; exact HSV.out.symm, Fr.refl _ _⟩
  case round =>
    obtain ⟨j, hj, rfl, rfl, rfl, hsr, hfr⟩ := hrel
    by_cases hjn : j < n
    · have hjI : (j : Int) < (n : Int) := by omega
      have hjl : j < s.order.length := by rw [HN.out]; exact hjn
      obtain ⟨l, hl⟩ : ∃ l, s.order[j]? = some l := ⟨_, List.getElem?_eq_getElem hjl⟩
      obtain ⟨b, off, rfl, hc⟩ := (HOR.out wr hfr).at_ hl
      have hdr : s.order.drop j = l :: s.order.drop (j + 1) := by
        rw [List.drop_eq_getElem_cons hjl]
        rw [List.getElem?_eq_getElem hjl] at hl
        injection hl with hl
        rw [hl]
      rw [hdr, srchOf] at hsr
      have hFi := HFI.out l wr hfr
      obtain ⟨t, ht⟩ : ∃ t, lastOf s.ws (l, strOfNums (lowL nm)) = t := ⟨_, rfl⟩
      rw [ht] at hsr hFi
      have HSR := Lib.hid hsr
      have HFR := Lib.hid hfr
      have HFI2 := Lib.hid hFi
      have HI := Lib.hid (H1.out.fr0 hfr)
      clear hsr hfr hFi ht hl hdr
      by_cases ht0 : t = 0
      · subst ht0
        rw [show decide ((0 : Int) ≠ 0) = false by decide] at HFI2
        go_wp2_with (go_at_call 13; refine HFI2.out.mono ?_; rintro e w' ⟨rfl, S2, _, _, hf⟩; have HF := Lib.hid (hf HI.out); clear hf)
        have hsr := HSR.out
        simp only [if_true] at hsr
        exact ⟨⟨j + 1, by omega, rfl, rfl, by push_cast; rfl, hsr, HFR.out.trans HF.out⟩, by simp [intOf]; omega⟩
      · have hsr := HSR.out
        rw [if_neg ht0] at hsr
        subst hsr
        have hd : decide (sv ≠ 0) = true := by simp; exact ht0
        rw [hd] at HFI2
        go_wp2_with (go_at_call 13; refine HFI2.out.mono ?_; rintro e w' ⟨rfl, S2, _, _, hf⟩; have HF := Lib.hid (hf HI.out); clear hf)
        go_ret2
        exact ⟨congrArg (fun b => Ending.returned (.tuple #[.int .i64 sv, .bool b])) hd.symm, S1, H1.out.fr0 (HFR.out.trans HF.out), HT.out.trans (Turn.of0 (HFR.out.trans HF.out))⟩
    · obtain rfl : j = n := by omega
      rw [← HN.out, List.drop_length, srchOf] at hsr
      subst hsr
      have HFR := Lib.hid hfr
      clear hfr
      go_wp2_with fail
      go_ret2
      exact ⟨by simp, S1, H1.out.fr0 HFR.out, HT.out.trans (Turn.of0 HFR.out)⟩
end
end Go.Proofs.Ytmhjnbolngdijaa

namespace Go.Proofs.Ytmhjnbolngdijaa
open Go Go.RowKit
set_option linter.unusedVariables false

/-- The pair, a mark p that holds t, a row u of t's order, a row v of what was found. -/
structure Held4 (w : World) (B x c d : Nat) (s1 : St) (S : Nat → Prop) (s2 : St) (R : Nat → Prop) (p : Nat) (t : St) (A : Nat → Prop) (u v : Value) (os vs : List Int) : Prop where
  both : Both w B x c d s1 S s2 R (.slice none 0 0) (.slice none 0 0)
  mark : MkS w B p c t A
  ou : OwnI w B u os
  ov : OwnI w B v vs
  farA : ∀ k, A k → ¬ S k ∧ ¬ R k ∧ k ≠ x
  farU : ∀ k, u.ownBlock = some k → ¬ S k ∧ ¬ R k ∧ k ≠ x
  farV : ∀ k, v.ownBlock = some k → ¬ S k ∧ ¬ R k ∧ k ≠ x ∧ ¬ A k ∧ u.ownBlock ≠ some k
/-- Their blocks. -/
def In4 (x : Nat) (S R A : Nat → Prop) (u v : Value) (k : Nat) : Prop := (S k ∨ R k) ∨ k = x ∨ A k ∨ u.ownBlock = some k ∨ v.ownBlock = some k
section
variable {w w' : World} {B x c d p : Nat} {s1 s2 t s1' s2' : St} {S R A S' R' : Nat → Prop} {u v v' : Value} {os vs : List Int}
theorem Held4.lo (h : Held4 w B x c d s1 S s2 R p t A u v os vs) {k : Nat} (hk : In4 x S R A u v k) : B ≤ k ∧ k < w.heap.size := by
  rcases hk with (h1 | h1) | rfl | h1 | h1 | h1
  · exact h.both.ng.lo h1
  · exact h.both.rn.lo h1
  · exact ⟨h.both.lo, h.both.xlt⟩
  · exact h.mark.lo h1
  · exact own_lo h.ou k h1
  · exact own_lo h.ov k h1
theorem Held4.fr0 (h : Held4 w B x c d s1 S s2 R p t A u v os vs) (hf : Fr0 w w') : Held4 w' B x c d s1 S s2 R p t A u v os vs :=
  ⟨h.both.fr0 hf, h.mark.fr hf (fun _ _ x => x), h.ou.fr hf (fun _ _ x => x), h.ov.fr hf (fun _ _ x => x), h.farA, h.farU, h.farV⟩
theorem Held4.step (h : Held4 w B x c d s1 S s2 R p t A u v os vs) (hb : Both w' B x c d s1' S' s2' R' (.slice none 0 0) (.slice none 0 0)) (ht : Turn (fun k => S k ∨ R k) (fun k => S' k ∨ R' k) w w') : Held4 w' B x c d s1' S' s2' R' p t A u v os vs := by
  have key : ∀ k, k < w.heap.size → ¬ S k → ¬ R k → ¬ S' k ∧ ¬ R' k := fun k hl hs hr => by
    refine ⟨fun h1 => ?_, fun h1 => ?_⟩
    · rcases ht.2 k (.inl h1) with h2 | h2
      · exact h2.elim hs hr
      · omega
    · rcases ht.2 k (.inr h1) with h2 | h2
      · exact h2.elim hs hr
      · omega
  refine ⟨hb, h.mark.fr ht.1 (fun k hk hs => hs.elim (h.farA k hk).1 (h.farA k hk).2.1), h.ou.fr ht.1 (fun k hk hs => hs.elim (h.farU k hk).1 (h.farU k hk).2.1), h.ov.fr ht.1 (fun k hk hs => hs.elim (h.farV k hk).1 (h.farV k hk).2.1), fun k hk => ?_, fun k hk => ?_, fun k hk => ?_⟩
  · have h1 := h.farA k hk
    have h2 := key k (h.mark.lo hk).2 h1.1 h1.2.1
    exact ⟨h2.1, h2.2, h1.2.2⟩
  · have h1 := h.farU k hk
    have h2 := key k (own_lo h.ou k hk).2 h1.1 h1.2.1
    exact ⟨h2.1, h2.2, h1.2.2⟩
  · have h1 := h.farV k hk
    have h2 := key k (own_lo h.ov k hk).2 h1.1 h1.2.1
    exact ⟨h2.1, h2.2, h1.2.2⟩
/-- One more was found. -/
theorem Held4.more (h : Held4 w B x c d s1 S s2 R p t A u v os vs) {o : Obj} {y : Int} (hg : (w.alloc o).grownBy w' v.ownBlock) (ho : OwnI w' B v' (vs ++ [y])) (hk : v'.ownBlock = v.ownBlock ∨ v'.ownBlock = some (w.alloc o).heap.size) : Held4 w' B x c d s1 S s2 R p t A u v' os (vs ++ [y]) ∧ Fr (fun k => v.ownBlock = some k) w w' := by
  have hf : Fr (fun k => v.ownBlock = some k) w w' := ((Fr.refl _ w).alloc o).grown hg (fun k hk => .inl hk)
  have hnew : (w.alloc o).heap.size = w.heap.size + 1 := by simp
  refine ⟨⟨h.both.fr hf (fun k hk e => (h.farV k e).1 hk) (fun k hk e => (h.farV k e).2.1 hk) (fun e => (h.farV _ e).2.2.1 rfl), h.mark.fr hf (fun k hk e => (h.farV k e).2.2.2.1 hk), h.ou.fr hf (fun k hk e => (h.farV k e).2.2.2.2 hk), ho, h.farA, h.farU, fun k hk' => ?_⟩, hf⟩
  rcases hk with h1 | h1
  · exact h.farV k (h1 ▸ hk')
  · rw [h1, hnew] at hk'
    injection hk' with hk'
    refine ⟨fun e => ?_, fun e => ?_, fun e => ?_, fun e => ?_, fun e => ?_⟩
    · have := (h.both.ng.lo e).2; omega
    · have := (h.both.rn.lo e).2; omega
    · have := h.both.xlt; omega
    · have := (h.mark.lo e).2; omega
    · have := (own_lo h.ou k e).2; omega
/-- A call on the names alone. -/
theorem Held4.ng {w0 : World} (h : Held4 w B x c d s1 S s2 R p t A u v os vs) (n2 : NgI w' B c s1' S') (t2 : Turn S S' w w') (hf : Fr0 w0 w) (hB : w0.heap.size ≤ B) : Held4 w' B x c d s1' S' s2 R p t A u v os vs ∧ Fr0 w0 w' :=
  ⟨h.step (h.both.atNg n2 t2).1 (h.both.atNg n2 t2).2, hf.then t2.1 (fun k hk hs => by have := (h.both.ng.lo hs).1; omega)⟩
/-- The mark has been made. -/
theorem Held4.new (h : Both w B x c d s1 S s2 R (.slice none 0 0) (.slice none 0 0)) (m1 : MkS w' w.heap.size p c s1 A) (n2 : NgI w' B c s1 S') (t2 : Turn S S' w w') (m4 : ∀ k, A k → ¬ S' k) : Held4 w' B x c d s1 S' s2 R p s1 A (.slice none 0 0) (.slice none 0 0) [] [] := by
  have hB : B ≤ w.heap.size := Nat.le_trans h.lo (Nat.le_of_lt h.xlt)
  refine ⟨(h.atNg n2 t2).1, m1.mono hB, OwnI.nil _ _, OwnI.nil _ _, fun k hk => ⟨m4 k hk, fun e => ?_, fun e => ?_⟩, (fun k hk => by cases hk), (fun k hk => by cases hk)⟩
  · have h1 := (m1.lo hk).1
    have h2 := (h.rn.lo e).2
    omega
  · have h1 := (m1.lo hk).1
    have h2 := h.xlt
    omega
/-- The order has been told. -/
theorem Held4.order {w0 : World} {u' : Value} {os' : List Int} (h : Held4 w B x c d s1 S s2 R p t A u v os vs) (hu : OwnI w' w.heap.size u' os') (n2 : NgI w' B c s1' S') (t2 : Turn S S' w w') (hd : ∀ k, u'.ownBlock = some k → ¬ S' k) (hf : Fr0 w0 w) (hB : w0.heap.size ≤ B) : Held4 w' B x c d s1' S' s2 R p t A u' v os' vs ∧ Fr0 w0 w' := by
  have hBw : B ≤ w.heap.size := Nat.le_trans h.both.lo (Nat.le_of_lt h.both.xlt)
  have h2 := h.ng n2 t2 hf hB
  refine ⟨⟨h2.1.both, h2.1.mark, own_mono hu hBw, h2.1.ov, h2.1.farA, fun k hk => ⟨hd k hk, fun e => ?_, fun e => ?_⟩, fun k hk => ?_⟩, h2.2⟩
  · have h3 := (own_lo hu k hk).1
    have h4 := (h.both.rn.lo e).2
    omega
  · have h3 := (own_lo hu k hk).1
    have h4 := h.both.xlt
    omega
  · have h5 := h2.1.farV k hk
    refine ⟨h5.1, h5.2.1, h5.2.2.1, h5.2.2.2.1, fun e => ?_⟩
    have h3 := (own_lo hu k e).1
    have h4 := (own_lo h.ov k hk).2
    omega
theorem Held4.low {w0 : World} (h : Held4 w B x c d s1 S s2 R p t A u v os vs) (hb : Both w' B x c d s1' S' s2' R' (.slice none 0 0) (.slice none 0 0)) (ht : Turn (fun k => S k ∨ R k) (fun k => S' k ∨ R' k) w w') (hf : Fr0 w0 w) (hB : w0.heap.size ≤ B) : Held4 w' B x c d s1' S' s2' R' p t A u v os vs ∧ Fr0 w0 w' :=
  ⟨h.step hb ht, hf.then ht.1 (fun k hk hs => by have := (h.lo (.inl hs)).1; omega)⟩
end
end Go.Proofs.Ytmhjnbolngdijaa

namespace Go.Proofs.Ytmhjnbolngdijaa
open Go Go.RowKit
set_option linter.unusedVariables false
attribute [local go_sem] Oper.semAt_some

set_option maxRecDepth 100000 in
set_option maxHeartbeats 16000000 in
theorem back_walk (a : Option Addr) (len cap : Nat) (f : Nat → Stp) (a2 : Option Addr) (len2 cap2 : Nat) (f2 : Nat → Stp) (sv : Value) (ns : List (List Int)) (w : World) (h1 : RowN w w.heap.size a len cap f) (h2 : RowN w w.heap.size a2 len2 cap2 f2) (h3 : RowU w w.heap.size sv ns) : Calls Try.prog 8 #[.slice a len cap, .slice a2 len2 cap2, sv] w fun e w' => e = .returned (.bool true) ∧ Fr0 w w' := by
  have HAW := Lib.hid (fun W => awake14 W)
  have hM1 := much_any a len cap f w.heap.size w h1
  have hM2 := much_any a2 len2 cap2 f2 w.heap.size w h2
  have hml : (len : Int) ≤ 9223372036854775807 := by have := h1.le; have := h1.cap; omega
  have hml2 : (len2 : Int) ≤ 9223372036854775807 := by have := h2.le; have := h2.cap; omega
  obtain ⟨A3, cap3, hsv, _⟩ := id h3.1
  subst hsv
  obtain ⟨n3, hn3⟩ : ∃ n3, ns.length = n3 := ⟨_, rfl⟩
  rw [hn3] at h3 ⊢
  have HN3 := Lib.hid hn3
  clear hn3
  cases hb1 : muchB len f
  case true =>
    rw [hb1] at hM1
    have HM := Lib.hid hM1
    clear hM1 hM2 h1 h2 h3 hb1
    go_enter Try.func8, Try.ntmps8
    go_wp2_with (first | (go_at_call 21; (with_reducible refine HM.out.mono ?_); rintro e w1 ⟨rfl, rfl⟩) | (go_at_call 9; refine (HAW.out _).mono ?_; rintro e w2 ⟨rfl, hf2⟩))
    go_ret
    exact ⟨rfl, hf2⟩
  case false =>
  rw [hb1] at hM1
  have HM1 := Lib.hid hM1
  have HMB1 := Lib.hid (muchB_false hb1)
  cases hb2 : muchB len2 f2
  case true =>
    rw [hb2] at hM2
    have HM2 := Lib.hid hM2
    clear hM1 hM2 h1 h2 h3 hb1 hb2 HMB1
    go_enter Try.func8, Try.ntmps8
    go_wp2_with (first | (go_at_call 21; (with_reducible refine HM1.out.mono ?_); rintro e w1 ⟨rfl, rfl⟩) | (go_at_call 21; (with_reducible refine HM2.out.mono ?_); rintro e w1 ⟨rfl, rfl⟩) | (go_at_call 9; refine (HAW.out _).mono ?_; rintro e w2 ⟨rfl, hf2⟩))
    go_ret
    exact ⟨rfl, hf2⟩
  case false =>
  rw [hb2] at hM2
  have HM2 := Lib.hid hM2
  have HMB2 := Lib.hid (muchB_false hb2)
  have HR1 := Lib.hid h1
  have HR2 := Lib.hid h2
  have HR3 := Lib.hid h3
  clear hM1 hM2 h1 h2 h3 hb1 hb2
  by_cases hp : 30 < n3
  · have hpI : (30 : Int) < (n3 : Int) := by omega
    go_enter Try.func8, Try.ntmps8
    go_wp2_with (first | (go_at_call 21; (with_reducible refine HM1.out.mono ?_); rintro e w1 ⟨rfl, rfl⟩) | (go_at_call 21; (with_reducible refine HM2.out.mono ?_); rintro e w1 ⟨rfl, rfl⟩) | (go_at_call 9; refine (HAW.out _).mono ?_; rintro e w2 ⟨rfl, hf2⟩))
    go_ret
    exact ⟨rfl, hf2⟩
  have hpI : (n3 : Int) ≤ 30 := by omega
  obtain ⟨i0, hi, hz0, hz1, hz2⟩ := info_parts infoI
  have HI := Lib.hid hi
  have HZ := Lib.hid (And.intro hz0 (And.intro hz1 hz2))
  clear hi hz0 hz1 hz2
  have HPC := Lib.hid (show ∀ j, j < n3 → ∃ b off nm, A3 = some ⟨b, off, none⟩ ∧ ns[j]? = some nm ∧ ((∀ y ∈ nm, 0 ≤ y ∧ y ≤ 255) ∧ nm.length ≤ 9223372036854775807) ∧ ∀ V, Fr0 w V → V.cell? ⟨b, off + j, none⟩ = some (.string (strOfNums nm)) from fun j hj => by
    obtain ⟨b, off, nm, e1, e2, e3, e4, e5⟩ := HR3.out.1.at_ (k := j) (by rw [HN3.out]; exact hj)
    exact ⟨b, off, nm, e1, e3, ⟨e4, HR3.out.2 nm (List.mem_of_getElem? e3)⟩, fun V hV => (hV.cell (p := ⟨b, off + j, none⟩) e2 (fun x => x)).trans e5⟩)
  go_enter Try.func8, Try.ntmps8
  go_wp2_with (first | (go_at_call 21; (with_reducible refine HM1.out.mono ?_); rintro e w1 ⟨rfl, rfl⟩) | (go_at_call 21; (with_reducible refine HM2.out.mono ?_); rintro e w1 ⟨rfl, rfl⟩))
  go_at_call 22
  refine (begun_any _ _).mono ?_
  rintro e w1 ⟨x, c, d, S0, R0, rfl, b1, b2, _, b3, b4, b5, b6, b7⟩
  have q0 := Blk.cell b1 0
  have HALL := Lib.hid (show Both w1 w.heap.size x c d initSt S0 initSt R0 (.slice none 0 0) (.slice none 0 0) from ⟨b1, b2, b3, b5, b6, b4⟩)
  have HF1 := Lib.hid b7
  clear b1 b2 b3 b4 b5 b6 b7
  go_wp2_with fail
  go_loopw [8] (fun i wr => ∃ j : Nat, j ≤ len ∧ i = .int .i64 j ∧ Fr0 w wr ∧ ∃ s S R, Both wr w.heap.size x c d s S s R (.slice none 0 0) (.slice none 0 0) ∧ Bnd j s) (fun i _ => len - (intOf i).toNat)
  case atStart => exact ⟨0, by omega, rfl, HF1.out, _, _, _, HALL.out, by simp [initSt], by simp [initSt], by simp [initSt]⟩
  case round =>
    obtain ⟨j, hj, rfl, hff, s, S, R, hbc, hbd⟩ := hrel
    by_cases hlt : j < len
    · have hltI : (j : Int) < (len : Int) := by omega
      have hrow := HR1.out.below hff.below0
      obtain ⟨b, off, rfl, hb, d0, d1, d2, d3, d4, d5, d6, d7⟩ := hrow.at_ hlt
      have hok := hrow.ok j hlt
      by_cases hk : (f j).kind < 10
      · have HDO := Lib.hid (does_low (f j) ⟨by omega, by omega⟩ wr hok.l (HMB1.out.2 j hlt).2 ⟨hok.name, by have := (HMB1.out.2 j hlt).1; omega⟩ hbd (by have := HMB1.out.1; omega) hbc)
        have HFF := Lib.hid hff
        have HBC := Lib.hid hbc
        have HBD := Lib.hid hbd
        clear hrow hok hff hbc hbd
        unfold Stp.val at HDO
        go_wp2_with (go_at_call 28; refine HDO.out.mono ?_; rintro e w2 ⟨rfl, S2, R2, h2, t2⟩; have H2 := Lib.hid h2; have HF2 := Lib.hid (HFF.out.then t2.1 (fun k hk hs => hs.elim (fun e => by have := (HBC.out.ng.lo e).1; omega) (fun e => by have := (HBC.out.rn.lo e).1; omega))); clear h2 t2)
        exact ⟨⟨j + 1, by omega, by push_cast; rfl, HF2.out, _, _, _, H2.out, (stepSt_bnd HBD.out (HMB1.out.2 j hlt).2).1⟩, by simp [intOf]; omega⟩
      · have hk' : 10 ≤ (f j).kind := by omega
        have HFF := Lib.hid hff
        have HBC := Lib.hid hbc
        have HBD := Lib.hid hbd
        clear hrow hok hff hbc hbd
        go_wp2_with fail
        exact ⟨⟨j + 1, by omega, by push_cast; rfl, HFF.out, _, _, _, HBC.out, Nat.le_succ_of_le HBD.out.1, HBD.out.2⟩, by simp [intOf]; omega⟩
    · obtain rfl : j = len := by omega
      have hq := HMB1.out.1
      have q0 := hbc.two.cell 0
      go_wp2_with (first | (go_at_call 24; refine (Mark_ng _ hbc.ng (by have := hbd.2.1; omega)).mono ?_; rintro e w2 ⟨p, MA, S2, rfl, m1, n2, t2, m4⟩; have hh := Held4.new hbc m1 n2 t2 m4; have hff := hff.then t2.1 (fun k hk hs => by have := (hbc.ng.lo hs).1; omega); clear m1 n2 t2 m4; have q0 := hh.both.two.cell 0) | (go_at_call 26; refine (Count_ng _ hh.both.ng).mono ?_; rintro e w2 ⟨rfl, S2, n2, t2⟩; have hx := hh.ng n2 t2 hff (Nat.le_refl _); have hh := hx.1; have hff := hx.2; clear hx n2 t2; have q0 := hh.both.two.cell 0) | (go_at_call 17; refine (Order_ng _ hh.both.ng (by have := hbd.2.1; omega)).mono ?_; rintro e w2 ⟨u, rfl, hu, S2, n2, t2, hd⟩; have hx := hh.order hu n2 t2 hd hff (Nat.le_refl _); have hh := hx.1; have hff := hx.2; clear hx n2 t2 hu hd; have q0 := hh.both.two.cell 0) | (go_at_call 27; refine (Current_ng _ hh.both.ng).mono ?_; rintro e w2 ⟨rfl, S2, n2, t2⟩; have hx := hh.ng n2 t2 hff (Nat.le_refl _); have hh := hx.1; have hff := hx.2; clear hx n2 t2; have q0 := hh.both.two.cell 0))
      have HHH := Lib.hid hh
      have HFF := Lib.hid hff
      have HBD := Lib.hid hbd
      clear hh hff hbd hbc q0 HALL HF1 HR3
      go_loopw [13, 14] (fun v i wr => ∃ j : Nat, j ≤ n3 ∧ i = .int .i64 j ∧ Fr0 w wr ∧ ∃ S, Held4 wr w.heap.size x c d s S s R p s MA u v s.order ((ns.take j).map fun nm => srchOf s.ws nm s.order)) (fun _ i _ => n3 - (intOf i).toNat)
      case atStart => exact ⟨0, by omega, rfl, HFF.out, _, HHH.out⟩
      case round =>
        obtain ⟨j, hj, rfl, hff, S, hh⟩ := hrel
        by_cases hjl : j < n3
        · have hjI : (j : Int) < (n3 : Int) := by omega
          obtain ⟨b, off, nm, rfl, hnm, hbn, hpc⟩ := HPC.out j hjl
          have HP := Lib.hid hpc
          have HSE := Lib.hid (fun (V : World) S (hV : NgS V w.heap.size c s S) => Search_big nm hbn V hV (by have := HBD.out.2.1; omega))
          have HNM := Lib.hid hnm
          obtain ⟨y, hy⟩ : ∃ y, srchOf s.ws nm s.order = y := ⟨_, rfl⟩
          have HY := Lib.hid hy
          rw [hy] at HSE
          clear hpc hbn hnm hy
          have hml0 : (s.ws.length : Int) ≤ 150 := by have := HBD.out.1; have := HMB1.out.1; omega
          go_upto_region 19 with (fail)
          have hff := hff.drew
          have hh := hh.fr0 (Fr.refl (fun _ => False) _).drew
          go_region_held3 (fun V => V.cell? ⟨x, 0, none⟩ = some (.pointer (some ⟨c, 0, none⟩)) ∧ V.cell? ⟨b, off + j, none⟩ = some (.string (strOfNums nm))) (exact ⟨hh.both.two.cell 0, HP.out _ hff⟩) (first | (go_at_call 14; refine (HSE.out _ _ hh.both.ng).mono ?_; rintro e w2 ⟨rfl, S2, n2, t2⟩; have hx := hh.ng n2 t2 hff (Nat.le_refl _); have hh := hx.1; have hff := hx.2; clear hx n2 t2))
          have HHA := Lib.hid hh
          have HFA := Lib.hid hff
          obtain ⟨Av, capv, hAv⟩ := hh.ov.rd.form
          have HOA := Lib.hid (hh.ov.fr ((Fr.refl (fun _ => False) w2).alloc (.cells #[.int .i64 y] 3)) (fun _ _ x => x))
          have hlj : ((ns.take j).map fun nm => srchOf s.ws nm s.order).length = j := by rw [List.length_map, List.length_take, HN3.out]; omega
          have HLJ := Lib.hid hlj
          rw [hlj] at hAv
          subst hAv
          have hsz := hff.size
          have hjo := HOA.out
          unfold OwnI at hjo
          rw [hlj] at hjo
          have HJO := Lib.hid hjo
          clear hh hff hlj hjo HOA
          go_wp2_with (at_builtin; refine wpList_append_src (m := 1) (news := [.int .i64 y]) rfl (.tmp 95) (.tmp 97) rfl Try.underlying41 HI.out HZ.out.1 HZ.out.2.1 HZ.out.2.2 rfl (by decide) rfl rfl HJO.out (Rd.new w2 #[.int .i64 y] rfl 1) (fun u hu => by simp at hu; subst hu; rfl) (by unfold maxLen; omega) (by omega) (by simp; omega) ?_; intro v6 w6 ho6 hg6 hk6; have HO6 := Lib.hid ho6; have HG6 := Lib.hid hg6; have HK6 := Lib.hid hk6; clear ho6 hg6 hk6)
          have ho6 : OwnI w6 w.heap.size v6 (((ns.take j).map fun nm => srchOf s.ws nm s.order) ++ [y]) := by
            have := HO6.out
            unfold OwnI
            rw [List.length_append, List.map_append, HLJ.out]
            exact this
          have hx := HHA.out.more HG6.out ho6 HK6.out
          refine ⟨⟨j + 1, by omega, by push_cast; rfl, HFA.out.then hx.2 (fun k hk e => by have := (own_lo HHA.out.ov k e).1; omega), S2, ?_⟩, by simp [intOf]; omega⟩
          have htk : (ns.take (j + 1)).map (fun nm => srchOf s.ws nm s.order) = ((ns.take j).map fun nm => srchOf s.ws nm s.order) ++ [y] := by
            rw [List.take_add_one, HNM.out, List.map_append]
            simp [HY.out]
          rw [htk]
          exact hx.1
        · obtain rfl : j = n3 := by omega
          obtain ⟨vs, hvs⟩ : ∃ vs, (ns.map fun nm => srchOf s.ws nm s.order) = vs := ⟨_, rfl⟩
          have hh : Held4 wr w.heap.size x c d s S s R p s MA u u13 s.order vs := by
            have := hh
            rw [← HN3.out, List.take_length, hvs] at this
            exact this
          have HVS := Lib.hid hvs
          obtain ⟨Av, capv, hAv⟩ := hh.ov.rd.form
          have hvl : vs.length = j := by rw [← HVS.out, List.length_map, HN3.out]
          rw [hvl] at hAv
          subst hAv
          have HHH := Lib.hid hh
          have HFF := Lib.hid hff
          clear hh hff hvs hvl
          go_wp2_with fail
          go_loopw [17] (fun i wr => ∃ k : Nat, k ≤ len2 ∧ i = .int .i64 k ∧ Fr0 w wr ∧ ∃ s2 S R, Held4 wr w.heap.size x c d s2 S s2 R p s MA u (.slice Av j capv) s.order vs ∧ Bnd (150 + k) s2 ∧ s.ws.length ≤ s2.ws.length ∧ s.lists ≤ s2.lists) (fun i _ => len2 - (intOf i).toNat)
          case atStart => exact ⟨0, by omega, rfl, HFF.out, _, _, _, HHH.out, ⟨by have := HBD.out.1; have := HMB1.out.1; omega, HBD.out.2⟩, Nat.le_refl _, Int.le_refl _⟩
          case round =>
            obtain ⟨k, hk, rfl, hff, s2, S2, R2, hh, hbd, hm1, hm2⟩ := hrel
            by_cases hlt2 : k < len2
            · have hltI2 : (k : Int) < (len2 : Int) := by omega
              have hrow := HR2.out.below hff.below0
              obtain ⟨b, off, rfl, hb, d0, d1, d2, d3, d4, d5, d6, d7⟩ := hrow.at_ hlt2
              have hok := hrow.ok k hlt2
              by_cases hkk : (f2 k).kind < 10
              · have HDO := Lib.hid (does_low (f2 k) ⟨by omega, by omega⟩ wr hok.l (HMB2.out.2 k hlt2).2 ⟨hok.name, by have := (HMB2.out.2 k hlt2).1; omega⟩ hbd (by have := HMB2.out.1; omega) hh.both)
                have HF2 := Lib.hid hff
                have HH2 := Lib.hid hh
                have HB2 := Lib.hid (And.intro hbd (And.intro hm1 hm2))
                clear hrow hok hff hh hbd hm1 hm2
                unfold Stp.val at HDO
                go_wp2_with (go_at_call 28; refine HDO.out.mono ?_; rintro e w3 ⟨rfl, S3, R3, h2, t2⟩; have H3 := Lib.hid (HH2.out.low h2 t2 HF2.out (Nat.le_refl _)); clear h2 t2)
                have hst := stepSt_bnd HB2.out.1 (HMB2.out.2 k hlt2).2
                exact ⟨⟨k + 1, by omega, by push_cast; rfl, H3.out.2, _, _, _, H3.out.1, hst.1, Nat.le_trans HB2.out.2.1 hst.2.1, Int.le_trans HB2.out.2.2 hst.2.2⟩, by simp [intOf]; omega⟩
              · have hkk' : 10 ≤ (f2 k).kind := by omega
                have HF2 := Lib.hid hff
                have HH2 := Lib.hid hh
                have HB2 := Lib.hid (And.intro hbd (And.intro hm1 hm2))
                clear hrow hok hff hh hbd hm1 hm2
                go_wp2_with fail
                exact ⟨⟨k + 1, by omega, by push_cast; rfl, HF2.out, _, _, _, HH2.out, ⟨Nat.le_succ_of_le HB2.out.1.1, HB2.out.1.2⟩, HB2.out.2.1, HB2.out.2.2⟩, by simp [intOf]; omega⟩
            · obtain rfl : k = len2 := by omega
              have HBK := Lib.hid (Back_ng wr hh.both.ng hh.mark (fun k hk => (hh.farA k hk).1) (by have := HBD.out.2.1; omega))
              rw [show backV s2 s = 0 from by unfold backV; rw [if_neg (by omega)], show backSt s2 s = s from by unfold backSt; rw [if_neg (by omega)]] at HBK
              have hbd := HBD.out
              have q0 := hh.both.two.cell 0
              have hou := hh.ou
              clear hm1 hm2
              go_wp2_with (first | (go_at_call 23; refine HBK.out.mono ?_; rintro e w2 ⟨rfl, S2, n2, t2⟩; have hx := hh.ng n2 t2 hff (Nat.le_refl _); have hh := hx.1; have hff := hx.2; clear hx n2 t2; have q0 := hh.both.two.cell 0) | (go_at_call 26; refine (Count_ng _ hh.both.ng).mono ?_; rintro e w2 ⟨rfl, S2, n2, t2⟩; have hx := hh.ng n2 t2 hff (Nat.le_refl _); have hh := hx.1; have hff := hx.2; clear hx n2 t2; have q0 := hh.both.two.cell 0) | (go_at_call 17; refine (Order_ng _ hh.both.ng (by have := hbd.2.1; omega)).mono ?_; rintro e w2 ⟨u2, rfl, hu2, S2, n2, t2, _⟩; have hx := hh.ng n2 t2 hff (Nat.le_refl _); have hh := hx.1; have hff := hx.2; clear hx n2 t2; have q0 := hh.both.two.cell 0) | (go_at_call 18; refine (ints_same _ _ s.order _ hu2.rd hh.ou.rd (by have := hbd.2.1; omega)).mono ?_; rintro e w2 ⟨rfl, f2⟩; have hh := hh.fr0 f2; have hff := hff.trans f2; clear hu2 f2; have q0 := hh.both.two.cell 0) | (go_at_call 27; refine (Current_ng _ hh.both.ng).mono ?_; rintro e w2 ⟨rfl, S2, n2, t2⟩; have hx := hh.ng n2 t2 hff (Nat.le_refl _); have hh := hx.1; have hff := hx.2; clear hx n2 t2; have q0 := hh.both.two.cell 0))
              have HHK := Lib.hid hh
              have HFK := Lib.hid hff
              clear hh hff q0 hou hbd HHH HFF
              go_loopw [18] (fun i wr => ∃ k : Nat, k ≤ j ∧ i = .int .i64 k ∧ Fr0 w wr ∧ ∃ S, Held4 wr w.heap.size x c d s S s2 R2 p s MA u (.slice Av j capv) s.order vs) (fun i _ => j - (intOf i).toNat)
              case atStart => exact ⟨0, by omega, rfl, HFK.out, _, HHK.out⟩
              case round =>
                obtain ⟨k2, hk2, rfl, hff, S, hh⟩ := hrel
                by_cases hjl : k2 < j
                · have hjI : (k2 : Int) < (j : Int) := by omega
                  obtain ⟨b, off, nm, rfl, hnm, hbn, hpc⟩ := HPC.out k2 hjl
                  have HP := Lib.hid hpc
                  have HSE := Lib.hid (fun (V : World) S (hV : NgS V w.heap.size c s S) => Search_big nm hbn V hV (by have := HBD.out.2.1; omega))
                  obtain ⟨y, hy⟩ : ∃ y, srchOf s.ws nm s.order = y := ⟨_, rfl⟩
                  have hvy : vs[k2]? = some y := by rw [← HVS.out, List.getElem?_map, hnm, ← hy]; rfl
                  have HVY := Lib.hid hvy
                  rw [hy] at HSE
                  clear hpc hbn hnm hy hvy
                  go_upto_region 31 with (fail)
                  have hff := hff.drew
                  have hh := hh.fr0 (Fr.refl (fun _ => False) _).drew
                  go_region_held3 (fun V => V.cell? ⟨x, 0, none⟩ = some (.pointer (some ⟨c, 0, none⟩)) ∧ V.cell? ⟨b, off + k2, none⟩ = some (.string (strOfNums nm))) (exact ⟨hh.both.two.cell 0, HP.out _ hff⟩) (first | (go_at_call 14; refine (HSE.out _ _ hh.both.ng).mono ?_; rintro e w2 ⟨rfl, S2, n2, t2⟩; have hx := hh.ng n2 t2 hff (Nat.le_refl _); have hh := hx.1; have hff := hx.2; clear hx n2 t2))
                  obtain ⟨vb, voff, hvb, hvc⟩ := (show RdI _ (.slice Av j capv) vs from hh.ov.rd).at_ HVY.out
                  subst hvb
                  have HHA := Lib.hid hh
                  have HFA := Lib.hid hff
                  clear hh hff
                  go_wp2_with fail
                  exact ⟨⟨k2 + 1, by omega, by push_cast; rfl, HFA.out, _, HHA.out⟩, by simp [intOf]; omega⟩
                · obtain rfl : k2 = j := by omega
                  have HFA := Lib.hid hff
                  clear hh hff
                  go_wp2_with (go_at_call 9; refine (HAW.out _).mono ?_; rintro e wz ⟨rfl, hfz⟩)
                  go_ret
                  exact ⟨rfl, HFA.out.trans hfz⟩
end Go.Proofs.Ytmhjnbolngdijaa
