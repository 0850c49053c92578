/- The document's own heap: Allocate, Free. -/
import Derived.Test.YtedmdobfnkmccaaHref3
namespace Go.Proofs.Ytedmdobfnkmccaa
open Go Go.RowKit

/-- The blocks of the document's heap. -/
def RIn (rp : Nat) (sv : Value) (k : Nat) : Prop := k = rp ∨ sv.ownBlock = some k
def RNewer (w : World) (sv sv' : Value) : Prop := ∀ k, sv'.ownBlock = some k → sv.ownBlock = some k ∨ w.heap.size ≤ k
theorem RNewer.same (w : World) (sv : Value) : RNewer w sv sv := fun _ h => .inl h
theorem RNewer.trans {w w' : World} {a b c : Value} (h : RNewer w a b) (h' : RNewer w' b c) (hz : w.heap.size ≤ w'.heap.size) : RNewer w a c := fun k hk => by
  rcases h' k hk with e | e
  · exact h k e
  · exact .inr (by omega)
theorem Fr.thenR {w w' w'' : World} {rp : Nat} {sv sv' : Value} (h : Fr (RIn rp sv) w w') (h' : Fr (RIn rp sv') w' w'') (hn : RNewer w sv sv') : Fr (RIn rp sv) w w'' := h.then h' fun k hk e => by
  rcases e with e | e
  · exact .inl e
  · rcases hn k e with e | e
    · exact .inr e
    · omega
/-- The document's heap, and what is always so of it. -/
structure RInv (w : World) (rp base : Nat) (sv : Value) (c d : Int) (L : List Bk) : Prop where
  rep : RRep w rp base sv L
  inv : Inv c d L
  c0 : 0 ≤ c
  d0 : d ≤ 9223372036854775807
  cd : d - c ≤ 1048576
  lt : base ≤ w.heap.size
theorem RInv.len {w : World} {rp base : Nat} {sv : Value} {c d : Int} {L : List Bk} (h : RInv w rp base sv c d L) : L.length ≤ 131072 := by
  have := cov_len h.inv.cov h.inv.pos
  have := h.cd
  omega
theorem RInv.fr {S : Nat → Prop} {w w' : World} {rp base : Nat} {sv : Value} {c d : Int} {L : List Bk} (h : RInv w rp base sv c d L) (hf : Fr S w w') (hs : ∀ k, RIn rp sv k → ¬ S k) : RInv w' rp base sv c d L :=
  ⟨⟨h.rep.obj.fr hf (hs _ (.inl rfl)), h.rep.row.fr hf (fun k hk => hs k (.inr hk)), h.rep.lo⟩, h.inv, h.c0, h.d0, h.cd, Nat.le_trans h.lt hf.size⟩

theorem allocR_far {n : Int} {L : List Bk} {c d : Int} (h : Cov0 c d L) (hd : d - c ≤ 1048576) (hn : 1048576 < n) : allocS (rnd n) L = none := by
  unfold allocS
  rw [pick_none]
  intro y hy
  have h1 := (cov_le h).2 y hy
  have h2 : n ≤ rnd n := by unfold rnd; omega
  simp [fit]
  intro _
  omega
theorem allocR_eq {n : Int} {L : List Bk} {c d : Int} (h : Cov0 c d L) (hd : d - c ≤ 1048576) (h0 : 0 ≤ n) : allocR n L = match allocS (rnd n) L with
    | none => (0, -59, L)
    | some (a, L') => (a, 0, L') := by
  unfold allocR
  by_cases hn : n ≤ 1048576
  · rw [if_pos ⟨h0, hn⟩]; rfl
  · rw [if_neg (by omega), allocR_far h hd (by omega)]

section
variable {rp base : Nat} {sv : Value} {L : List Bk} {c d : Int}

set_option maxHeartbeats 4000000 in
theorem AllocR_any (n : Int) (w : World) (h : RInv w rp base sv c d L) (hn : -9223372036854775808 ≤ n ∧ n ≤ 9223372036854775807) :
    Calls Try.prog 18 #[ptr rp, .int .i64 n] w fun e w' => e = .returned (.tuple #[.int .i64 (allocR n L).1, .int .i64 (allocR n L).2.1]) ∧ Fr (RIn rp sv) w w' ∧ ∃ sv', RInv w' rp base sv' c d (allocR n L).2.2 ∧ RNewer w sv sv' := by
  obtain ⟨r, hr⟩ : ∃ r, allocR n L = r := ⟨_, rfl⟩
  rw [hr]
  by_cases hb : n < 0 ∨ 2147483647 < n
  · have hS := size_err n w hb
    have e : r = (0, -59, L) := by
      rw [← hr]
      unfold allocR
      rw [if_neg (by omega)]
    subst e
    have HH := Lib.hid h
    clear h hr hb
    rw [show ptr rp = .pointer (some ⟨rp, 0, none⟩) from rfl]
    go_enter Try.func18, Try.ntmps18
    go_wp2_with (go_at_call 26; refine hS.mono ?_; rintro e w ⟨rfl, rfl⟩)
    go_ret2
    exact ⟨rfl, Fr.refl _ _, sv, HH.out, RNewer.same _ _⟩
  · have hS := size_ok n w (by omega) (by omega)
    rw [allocR_eq h.inv.cov h.cd (by omega)] at hr
    obtain ⟨z1, z2⟩ := rnd_pos n
    have hzb : rnd n ≤ 2147483656 := by unfold rnd; omega
    have hlen := h.len
    have c0 := h.rep.obj.cell 0
    have HH := Lib.hid h
    obtain ⟨A0, cap, rfl, hcap⟩ := h.rep.row.len_
    clear h hb
    generalize rnd n = z at *
    have HR := Lib.hid hr
    clear hr
    rw [show ptr rp = .pointer (some ⟨rp, 0, none⟩) from rfl]
    go_enter Try.func18, Try.ntmps18
    go_wp2_with (go_at_call 26; refine hS.mono ?_; rintro e w ⟨rfl, rfl⟩)
    go_loopw [8] (fun i wr => ∃ k : Nat, k ≤ L.length ∧ i = .int .i64 k ∧ wr = w ∧ ∀ y ∈ L.take k, fit z y = false) (fun i _ => L.length - (intOf i).toNat)
    case atStart => exact ⟨0, by omega, rfl, rfl, fun y hy => by simp at hy⟩
    case round =>
      obtain ⟨k, hk, rfl, rfl, hA⟩ := hrel
      by_cases hlt : k < L.length
      · obtain ⟨x, hx⟩ : ∃ x, L[k]? = some x := ⟨L[k], List.getElem?_eq_getElem hlt⟩
        obtain ⟨g, cap', e, hg1, hg2⟩ := HH.out.rep.row.form (by omega)
        injection e with e1 e2 e3
        subst e1 e3
        obtain ⟨d0, d1, d2⟩ := HH.out.rep.row.cells hx
        have hsp : L = L.take k ++ x :: L.drop (k + 1) := by
          conv => lhs; rw [← List.take_append_drop k L]
          rw [List.drop_eq_getElem_cons hlt]
          have : L[k] = x := by rw [List.getElem?_eq_getElem hlt] at hx; simpa using hx
          rw [this]
        have hstep : fit z x = false → ∃ k1 : Nat, k1 ≤ L.length ∧ Value.int .i64 ((k : Int) + 1) = .int .i64 k1 ∧ True ∧ ∀ y ∈ L.take k1, fit z y = false := fun hxf => by
          refine ⟨k + 1, by omega, by push_cast; rfl, trivial, fun y hy => ?_⟩
          rw [List.take_add_one, hx] at hy
          rcases List.mem_append.1 hy with hy | hy
          · exact hA y hy
          · simp at hy; subst hy; exact hxf
        have hxs := (cov_le HH.out.inv.cov).2 x (by rw [hsp]; simp)
        have HST := Lib.hid hstep
        have HA := Lib.hid hA
        obtain ⟨xa, xs, xf⟩ := x
        dsimp only at d0 d1 d2 hxs
        cases xf with
        | false =>
          clear hx hsp hA hstep
          go_wp2
          refine ⟨HST.out (by simp [fit]), by simp [intOf]; omega⟩
        | true =>
          by_cases hxz : xs < z
          · clear hx hsp hA hstep
            go_wp2
            refine ⟨HST.out (by simp [fit]; omega), by simp [intOf]; omega⟩
          · have hcut := cut_any (A := L.take k) (B := L.drop (k + 1)) (a := xa) (s := xs) (f := true) (n := z) (c := c) (d := d) (base := base) (rp := rp) wr (by rw [← hsp]; exact HH.out.rep) (by rw [← hsp]; exact cov1_of HH.out.inv.cov) HH.out.cd HH.out.c0 HH.out.d0 (by rw [← hsp]; omega) HH.out.lt z1 z2 (by omega)
            rw [List.length_take, Nat.min_eq_left hk] at hcut
            have hS : allocS z L = some (xa, cutL (L.take k) ⟨xa, xs, true⟩ xs z (L.drop (k + 1))) := by
              unfold allocS
              conv => lhs; rw [hsp]
              rw [pick_app hA (by simp [fit]; omega)]
            have hr := HR.out
            rw [hS] at hr
            subst hr
            have hiv := allocS_inv HH.out.inv z1 z2 hS
            have HIV := Lib.hid hiv
            have HCT := Lib.hid hcut
            clear hx hsp hA hstep hcut hS hiv HR
            rw [show ptr rp = .pointer (some ⟨rp, 0, none⟩) from rfl] at HCT
            go_wp2_with (go_at_call 27; refine HCT.out.mono ?_; rintro e w2 ⟨rfl, hf2, sv2, h2, hl2⟩)
            go_ret2
            exact ⟨rfl, hf2.mono (fun k _ e => .inl e), sv2, ⟨h2, HIV.out, HH.out.c0, HH.out.d0, HH.out.cd, Nat.le_trans HH.out.lt hf2.size⟩, fun k hk => .inr (hl2 k hk)⟩
      · obtain rfl : k = L.length := by omega
        rw [List.take_length] at hA
        have hS : allocS z L = none := by
          unfold allocS
          rw [pick_none hA]
        have hr := HR.out
        rw [hS] at hr
        subst hr
        clear hA HR hS
        go_wp2
        go_ret2
        exact ⟨rfl, Fr.refl _ _, _, HH.out, RNewer.same _ _⟩

/-- The frame of one row's cell set. -/
theorem OwnB.freed {w : World} {g cap : Nat} {t : TypeId} {A B : List Bk} {a s : Int} (h : OwnB w base t (.slice (some ⟨g, 0, none⟩) (A ++ ⟨a, s, false⟩ :: B).length cap) (A ++ ⟨a, s, false⟩ :: B)) :
    OwnB (w.setCell ⟨g, A.length * 3 + 2, none⟩ (.bool true)) base t (.slice (some ⟨g, 0, none⟩) (A ++ (⟨a, s, false⟩ : Bk) :: B).length cap) (A ++ ⟨a, s, true⟩ :: B) := by
  have h1 := (World.ownsRow.stored h (A.length * 3 + 2) (.bool true)).1
  have e : (rowB (A ++ ⟨a, s, false⟩ :: B)).set (A.length * 3 + 2) (.bool true) = rowB (A ++ ⟨a, s, true⟩ :: B) := by
    rw [rowB_app, rowB_app, List.set_append_right _ _ (by rw [rowB_length]; omega), rowB_length, show A.length * 3 + 2 - A.length * 3 = 2 by omega]
    rfl
  have e2 : (A ++ (⟨a, s, true⟩ : Bk) :: B).length = (A ++ (⟨a, s, false⟩ : Bk) :: B).length := by simp
  unfold OwnB
  rw [← e, e2]
  exact h1

set_option maxHeartbeats 4000000 in
theorem FreeR_any (a : Int) (w : World) (h : RInv w rp base sv c d L) :
    Calls Try.prog 20 #[ptr rp, .int .i64 a] w fun e w' => e = .returned (.int .i64 (freeR a L).1) ∧ Fr (RIn rp sv) w w' ∧ ∃ sv', RInv w' rp base sv' c d (freeR a L).2 ∧ RNewer w sv sv' := by
  have hlen := h.len
  have hF := find_any a w h.rep (by omega)
  cases hq : pick (takenAt a) L with
  | none =>
    have e1 : freeR a L = (-60, L) := by unfold freeR freeS; rw [hq]
    have e2 : findI a L = -1 := by unfold findI; rw [hq]
    rw [e2] at hF
    rw [e1]
    have HH := Lib.hid h
    clear h hq e1 e2
    rw [show ptr rp = .pointer (some ⟨rp, 0, none⟩) from rfl] at *
    go_enter Try.func20, Try.ntmps20
    go_wp2_with (go_at_call 28; refine hF.mono ?_; rintro e w ⟨rfl, rfl⟩)
    go_ret
    exact ⟨rfl, Fr.refl _ _, sv, HH.out, RNewer.same _ _⟩
  | some t =>
    obtain ⟨A, x, R⟩ := t
    obtain ⟨g1, g2, _⟩ := pick_spec hq
    subst g1
    obtain ⟨xa, xs, xf⟩ := x
    simp [takenAt] at g2
    obtain ⟨rfl, rfl⟩ := g2
    have e1 : freeR xa (A ++ ⟨xa, xs, false⟩ :: R) = (0, norm (A ++ ⟨xa, xs, true⟩ :: R)) := by
      unfold freeR
      rw [freeS_at hq]
    have e2 : findI xa (A ++ ⟨xa, xs, false⟩ :: R) = A.length := by unfold findI; rw [hq]
    have hiv := freeS_inv h.inv (freeS_at hq)
    rw [e2] at hF
    rw [e1]
    have c0 := h.rep.obj.cell 0
    obtain ⟨g, cap, rfl, hg1, hg2⟩ := h.rep.row.form (by simp; omega)
    have hz2 := World.ownsRow.frozenAt h.rep.row (A.length * 3 + 2)
    obtain ⟨d0, d1, d2⟩ := h.rep.row.cells (k := A.length) (x := ⟨xa, xs, false⟩) (by simp)
    have hfz := h.rep.row.freed
    have hob := h.rep.obj
    have hgr : g ≠ rp := by
      rintro rfl
      rcases h.rep.row.2 with ⟨e, _⟩ | ⟨g', cap', cur, e, _, hg, _⟩
      · cases e
      · injection e with e
        injection e with e
        injection e with e
        subst e
        unfold Blk at hob
        rw [hob] at hg
        injection hg with hg
        injection hg with _ hg
        cases hg
    have hcov : Cov0 c d (A ++ ⟨xa, xs, true⟩ :: R) := by
      obtain ⟨m, k1, k2⟩ := cov_app.1 h.inv.cov
      exact cov_app.2 ⟨m, k1, k2⟩
    have hJ := joinR_any (base := base) (c := c) (d := d) (rp := rp) (w.setCell ⟨g, A.length * 3 + 2, none⟩ (.bool true)) ⟨hob.far hgr.symm _, hfz, h.rep.lo⟩ (cov1_of hcov) h.cd (by simp at hlen ⊢; omega) (by have := h.lt; simpa [World.setCell] using this)
    have hlx : (A ++ (⟨xa, xs, false⟩ : Bk) :: R).length = A.length + 1 + R.length := by simp; omega
    rw [hlx] at c0 hlen
    have HH := Lib.hid h
    have HJ := Lib.hid hJ
    have HIV := Lib.hid hiv
    have HC := Lib.hid hF
    clear h hq e1 e2 hfz hob hcov hJ hiv hF hlx
    rw [show ptr rp = .pointer (some ⟨rp, 0, none⟩) from rfl] at *
    obtain ⟨q, hqq⟩ : ∃ q, A.length = q := ⟨_, rfl⟩
    obtain ⟨r, hrr⟩ : ∃ r, R.length = r := ⟨_, rfl⟩
    rw [hqq] at HC HJ
    rw [hqq] at hz2 d0 d1 d2
    rw [hqq, hrr] at c0 hlen
    have hqr : (q : Int) < (q : Int) + 1 + (r : Int) := by omega
    have HQ := Lib.hid hqq
    clear hqq hrr
    rw [show (#[Value.slice (some ⟨g, 0, none⟩) (q + 1 + r) cap] : Array Value)[0]? = some (.slice (some ⟨g, 0, none⟩) (q + 1 + r) cap) from rfl] at c0
    go_enter Try.func20, Try.ntmps20
    go_wp2_with (go_at_call 28; refine HC.out.mono ?_; rintro e w ⟨rfl, rfl⟩)
    refine HJ.out.mono ?_
    rintro e w2 ⟨rfl, hf2, sv2, h2, hl2⟩
    go_wp2
    go_ret
    have hzz : (w.setCell ⟨g, q * 3 + 2, none⟩ (.bool true)).heap.size = w.heap.size := by simp [World.setCell]
    have hfr : Fr (RIn rp (.slice (some ⟨g, 0, none⟩) (A ++ (⟨xa, xs, false⟩ : Bk) :: R).length cap)) w w2 :=
      ((Fr.refl _ w).setCell (p := ⟨g, q * 3 + 2, none⟩) (.inl (.inr rfl)) _).then hf2 (fun k _ e => .inl e)
    exact ⟨rfl, hfr, sv2, ⟨h2, HIV.out, HH.out.c0, HH.out.d0, HH.out.cd, Nat.le_trans HH.out.lt hfr.size⟩, fun k hk => .inr (by have := hl2 k hk; omega)⟩
end
end Go.Proofs.Ytedmdobfnkmccaa
