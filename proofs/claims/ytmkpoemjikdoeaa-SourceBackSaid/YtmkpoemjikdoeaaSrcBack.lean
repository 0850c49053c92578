/- The walk of SourceBack. -/
import Derived.Test.YtmkpoemjikdoeaaSrcLaw
namespace Go.Proofs.Ytmkpoemjikdoeaa
open Go Go.RowKit
set_option linter.unusedVariables false

def OwnI (w : World) (base : Nat) (v : Value) (zs : List Int) : Prop := w.ownsRow base 3 1 v zs.length (zs.map (Value.int .i64))
theorem infoI : (Try.prog.info? 3).map (fun i => (i.zero, i.size, i.bytes)) = some (some (.int .i64 0), 1, 8) := by kernel_rfl

/-- Both rows of what has been told, apart. -/
structure Rows2 (w : World) (B : Nat) (u1 u2 : Value) (xs ys : List Int) : Prop where
  one : OwnI w B u1 xs
  two : OwnI w B u2 ys
  apart : ∀ k, u1.ownBlock = some k → u2.ownBlock ≠ some k
theorem own_blk_i {w : World} {B : Nat} {u : Value} {xs : List Int} (h : OwnI w B u xs) : ∀ k, u.ownBlock = some k → B ≤ k ∧ k < w.heap.size := own_lo h
theorem Rows2.fr {w w' : World} {B : Nat} {u1 u2 : Value} {xs ys : List Int} {S : Nat → Prop} (h : Rows2 w B u1 u2 xs ys) (hf : Fr S w w') (h1 : ∀ k, u1.ownBlock = some k → ¬ S k) (h2 : ∀ k, u2.ownBlock = some k → ¬ S k) : Rows2 w' B u1 u2 xs ys :=
  ⟨own_fr h.one hf h1, own_fr h.two hf h2, h.apart⟩
/-- Behind an append onto the first. -/
theorem Rows2.grow1 {w w' : World} {B : Nat} {u1 u1' u2 : Value} {xs ys : List Int} {x : Int} {o : Obj} (h : Rows2 w B u1 u2 xs ys) (ho : w'.ownsRow B 3 1 u1' (xs.length + 1) (xs.map (Value.int .i64) ++ [.int .i64 x])) (hg : (w.alloc o).grownBy w' u1.ownBlock) (hk : u1'.ownBlock = u1.ownBlock ∨ u1'.ownBlock = some (w.alloc o).heap.size) :
    Rows2 w' B u1' u2 (xs ++ [x]) ys ∧ Fr (fun k => u1.ownBlock = some k) w w' := by
  have hf : Fr (fun k => u1.ownBlock = some k) w w' := ((Fr.refl (fun k => u1.ownBlock = some k) w).alloc o).grown hg (fun k hk => .inl hk)
  refine ⟨⟨?_, own_fr h.two hf (fun k h2 e => h.apart k e h2), fun k h1 h2 => ?_⟩, hf⟩
  · unfold OwnI
    rw [List.length_append, List.map_append]
    exact ho
  · rcases hk with hk | hk
    · exact h.apart k (by rw [← hk]; exact h1) h2
    · rw [h1] at hk
      have := (own_blk_i h.two k h2).2
      injection hk with hk
      simp at hk
      omega
theorem own_far {w : World} {B k : Nat} {u : Value} {xs : List Int} {t : TypeId} {cs : Array Value} (h : OwnI w B u xs) (hb : Blk w k t cs) (ht : t ≠ 3) : u.ownBlock ≠ some k := by
  intro hk
  rcases h.2 with ⟨rfl, _⟩ | ⟨b, cap, cur, rfl, _, hc, _⟩
  · cases hk
  · simp only [Value.ownBlock, Option.some.injEq] at hk
    subst hk
    have hB : Blk w b 3 cur := hc
    exact hb.ne_ hB ht rfl
theorem own_row1 {w : World} {B t m : Nat} {u : Value} {xs : List Int} {a : Int} (h : OwnI w B u xs) (hx : xs[t]? = some a) (hm : xs.length = m) : ∃ b cap, u = .slice (some ⟨b, 0, none⟩) m cap ∧ w.cell? ⟨b, t, none⟩ = some (.int .i64 a) ∧ b < w.heap.size := by
  subst hm
  have hlt : t < xs.length := (List.getElem?_eq_some_iff.1 hx).1
  obtain ⟨_, A, cap, rfl, h4⟩ := own_src h
  obtain ⟨b, off, rfl, hc⟩ := h4 (by omega)
  have h5 := hc t (.int .i64 a) (by rw [List.getElem?_map, hx]; rfl)
  have h6 : off = 0 := by
    rcases h.2 with ⟨e, _⟩ | ⟨g, cap', cur, e, _⟩
    · cases e
    · injection e with e; injection e with e; injection e with e1 e2
  subst h6
  rw [Nat.zero_add] at h5
  have := World.block_lt_of_cell? _ _ h5
  exact ⟨b, cap, rfl, h5, by simpa using this⟩
theorem Rows2.swap {w : World} {B : Nat} {u1 u2 : Value} {xs ys : List Int} (h : Rows2 w B u1 u2 xs ys) : Rows2 w B u2 u1 ys xs := ⟨h.two, h.one, fun k h1 h2 => h.apart k h2 h1⟩

set_option maxRecDepth 100000 in
set_option maxHeartbeats 4000000 in
theorem back_walk (sv : Value) (zs : List Int) (n m : Int) (w : World) (hs : Row8 w w.heap.size sv zs) (hn : -9223372036854775808 ≤ n ∧ n ≤ 9223372036854775807) (hm : -9223372036854775808 ≤ m ∧ m ≤ 9223372036854775807) :
    Calls Try.prog 6 #[sv, .int .i64 n, .int .i64 m] w fun e w' => e = .returned (.bool true) ∧ Fr0 w w' := by
  have HAW := Lib.hid (fun W => awake17 W)
  by_cases hg : zs.length ≤ 1024 ∧ 0 ≤ n ∧ n ≤ 40 ∧ 0 ≤ m ∧ m ≤ 40
  · obtain ⟨hz, n0, n1, m0, m1⟩ := hg
    obtain ⟨n, rfl⟩ := Int.eq_ofNat_of_zero_le n0
    obtain ⟨m, rfl⟩ := Int.eq_ofNat_of_zero_le m0
    have HB := Lib.hid (begun_any w)
    have HSV := Lib.hid hs
    obtain ⟨A, cap, rfl, _⟩ := hs
    obtain ⟨len, hlen⟩ : ∃ len, zs.length = len := ⟨_, rfl⟩
    have HLEN := Lib.hid hlen
    rw [hlen] at HSV hz ⊢
    clear hlen hn hm n0 m0
    obtain ⟨i0, hi, hz0, hz1, hz2⟩ := info_parts infoI
    have HI := Lib.hid hi
    have HZ := Lib.hid (And.intro hz0 (And.intro hz1 hz2))
    clear hi hz0 hz1 hz2
    go_enter Try.func6, Try.ntmps6
    go_wp2_with (first | (go_at_call 8; refine HB.out.mono ?_; rintro e w1 ⟨x, p, c, g, q, v, bs, rfl, hf1, hx1, hs1, l1, l2, l3, l4⟩; obtain ⟨t0, t1, t2, t3⟩ := two_cells hx1; have HX1 := Lib.hid hx1; have HS1 := Lib.hid hs1; have HF1 := Lib.hid hf1; have HLAY := Lib.hid (Lay_any _ zs w1 hs1 w.heap.size (HSV.out.fr hf1 (Nat.le_refl _) (fun _ _ x => x)) hf1.size (by rw [HLEN.out]; exact hz)); clear hx1 hs1 hf1) | (go_at_call 9; refine HLAY.out.mono ?_; rintro e w2 ⟨rfl, hf2, bs2, hs2⟩; have hl17 : L17 w.heap.size w2 x c p g q v bs2 zs 0 0 := ⟨HX1.out.fr hf2 (fun e => e.elim (HX1.out.ne_ HS1.out.obj (by decide)) (HX1.out.ne_ HS1.out.sp.row (by decide))), hs2, l1, l3, l2, l4⟩; have HL17 := Lib.hid hl17; have HF2 := Lib.hid (HF1.out.then hf2 (fun k hk e => by omega)); clear hl17 hs2 hf2))
    go_loopw [8] (fun i wr => ∃ (k : Nat) (bs : List Int), k ≤ n ∧ i = .int .i64 k ∧ L17 w.heap.size wr x c p g q v bs zs (runN zs 0 k) 0 ∧ Fr0 w wr) (fun i _ => n - (intOf i).toNat)
    case atStart => exact ⟨0, bs2, by omega, rfl, HL17.out, HF2.out⟩
    case round =>
      obtain ⟨k, bsk, hk, rfl, hl, hfr⟩ := hrel
      by_cases hkn : k < n
      · have hkI : (k : Int) < (n : Int) := by omega
        obtain ⟨q0, q1⟩ := hl.cells
        have HNM := Lib.hid (Name_src wr hl.src)
        have HL := Lib.hid hl
        have HFR := Lib.hid hfr
        clear hl hfr
        go_wp2_with (go_at_call 10; refine HNM.out.mono ?_; rintro e w3 ⟨rfl, hf3, bs', hs3⟩)
        obtain ⟨hl3, hfb⟩ := HL.out.step hf3 hs3
        exact ⟨⟨k + 1, bs', by omega, by push_cast; rfl, hl3, HFR.out.then hfb (fun j hj e => by omega)⟩, by simp [intOf]; omega⟩
      · obtain rfl : k = n := by omega
        obtain ⟨r, hr⟩ : ∃ r, runN zs 0 k = r := ⟨_, rfl⟩
        rw [hr] at hl
        obtain ⟨q0, q1⟩ := hl.cells
        have HNOW := Lib.hid (Now_src wr hl.src)
        have hrl := hl.src.le
        rw [HLEN.out] at HNOW hrl
        unfold nowV at HNOW
        have HL := Lib.hid hl
        have HFR := Lib.hid hfr
        clear hl hfr hr
        go_wp2_with (go_at_call 15; refine HNOW.out.mono ?_; rintro e w3 ⟨rfl, hf3⟩; have HL3 := Lib.hid (HL.out.fr0 hf3); have HF3 := Lib.hid (HFR.out.trans hf3); clear hf3)
        have hwb := Blk.new w3 45 #[.int .i64 0, .int .i64 65792, .int .i64 len, .int .i64 r, .int .i64 0]
        have hf4 : Fr0 w3 (w3.alloc (.cells #[.int .i64 0, .int .i64 65792, .int .i64 len, .int .i64 r, .int .i64 0] 45)) := (Fr.refl _ w3).alloc _
        have hlw := HF3.out.size
        obtain ⟨ws, hws⟩ : ∃ ws, w3.heap.size = ws := ⟨_, rfl⟩
        obtain ⟨w4, hw4⟩ : ∃ w4, w3.alloc (.cells #[.int .i64 0, .int .i64 65792, .int .i64 len, .int .i64 r, .int .i64 0] 45) = w4 := ⟨_, rfl⟩
        rw [hw4] at hf4 hwb ⊢
        rw [hws] at hwb hlw ⊢
        have HWB := Lib.hid hwb
        have HL4 := Lib.hid (HL3.out.fr0 hf4)
        have HF4 := Lib.hid (HF3.out.trans hf4)
        clear hwb hf4 hws hw4
        go_loopw [10, 11, 12] (fun u1 u2 i wr => ∃ (j : Nat) (bs : List Int), j ≤ m ∧ i = .int .i64 j ∧ L17 w.heap.size wr x c p g q v bs zs (runN zs r j) 0 ∧ Blk wr ws 45 #[.int .i64 0, .int .i64 65792, .int .i64 len, .int .i64 r, .int .i64 0] ∧ Rows2 wr w.heap.size u1 u2 (atN zs r j) (lenN zs r j) ∧ Fr0 w wr) (fun _ _ i _ => m - (intOf i).toNat)
        case atStart => exact ⟨0, bsk, by omega, rfl, HL4.out, HWB.out, ⟨World.ownsRow_nil _ _ _ _, World.ownsRow_nil _ _ _ _, fun k h => by cases h⟩, HF4.out⟩
        case round =>
          obtain ⟨j, bsj, hj, rfl, hl, hb, hr2, hfr⟩ := hrel
          by_cases hjm : j < m
          · have hjI : (j : Int) < (m : Int) := by omega
            obtain ⟨q0', q1'⟩ := hl.cells
            have hNm := Name_src wr hl.src
            obtain ⟨a1, ha1⟩ : ∃ a1 : Int, 65792 + (skipP 32 zs (runN zs r j) : Int) = a1 := ⟨_, rfl⟩
            obtain ⟨a2, ha2⟩ : ∃ a2 : Int, (wordP 32 zs (runN zs r j) : Int) - skipP 32 zs (runN zs r j) = a2 := ⟨_, rfl⟩
            rw [ha1, ha2] at hNm
            have hal := atN_length zs r j
            have hbl := lenN_length zs r j
            have HA1 := Lib.hid (show atN zs r (j + 1) = atN zs r j ++ [a1] by rw [atN_succ, ha1])
            have HA2 := Lib.hid (show lenN zs r (j + 1) = lenN zs r j ++ [a2] by rw [lenN_succ, ha2])
            have HNM := Lib.hid hNm
            have HL := Lib.hid hl
            have HB5 := Lib.hid hb
            have HR2 := Lib.hid hr2
            have HFR := Lib.hid hfr
            have HAL := Lib.hid hal
            have HBL := Lib.hid hbl
            clear hNm ha1 ha2 hl hb hr2 hfr hal hbl
            generalize atN zs r j = at1 at *
            generalize lenN zs r j = ln1 at *
            go_wp2_with (first | (go_at_call 10; refine HNM.out.mono ?_; rintro e w5 ⟨rfl, hf5, bs', hs5⟩; have HL5 := Lib.hid (HL.out.step hf5 hs5).1; have HF5 := Lib.hid (HFR.out.then (HL.out.step hf5 hs5).2 (fun j hj e => by omega)); have HR5 := Lib.hid (HR2.out.fr hf5 (fun k hk e => (HL.out.own HR2.out.one k hk).2.2.2 e.symm) (fun k hk e => (HL.out.own HR2.out.two k hk).2.2.2 e.symm)); have HB6 := Lib.hid (HB5.out.fr hf5 (HB5.out.ne_ HL.out.src.sp.row (by decide))); clear hf5 hs5) | (at_builtin; refine wpList_append_src (m := 1) (news := [.int .i64 a1]) rfl (.tmp 88) (.tmp 90) rfl Try.underlying23 HI.out HZ.out.1 HZ.out.2.1 HZ.out.2.2 rfl (by decide) rfl rfl (own_fr HR5.out.one ((Fr.refl (fun _ => False) _).alloc _) (fun _ _ x => x)) (Rd.new' rfl _ rfl _) (fun u hu => by simp at hu; subst hu; rfl) (by unfold maxLen; have := HAL.out; omega) (by have := HAL.out; omega) (by have := HF5.out.size; simp; omega) ?_; intro v6 w6 ho6 hg6 hk6; have HR6 := Lib.hid (HR5.out.grow1 ho6 hg6 hk6).1; have HG6 := Lib.hid (HR5.out.grow1 ho6 hg6 hk6).2; clear ho6 hg6 hk6) | (at_builtin; refine wpList_append_src (m := 1) (news := [.int .i64 a2]) rfl (.tmp 92) (.tmp 94) rfl Try.underlying23 HI.out HZ.out.1 HZ.out.2.1 HZ.out.2.2 rfl (by decide) rfl rfl (own_fr HR6.out.two ((Fr.refl (fun _ => False) _).alloc _) (fun _ _ x => x)) (Rd.new' rfl _ rfl _) (fun u hu => by simp at hu; subst hu; rfl) (by unfold maxLen; have := HBL.out; omega) (by have := HBL.out; omega) (by have := HF5.out.size; have := HG6.out.size; simp; omega) ?_; intro v7 w7 ho7 hg7 hk7; have HR7 := Lib.hid (HR6.out.swap.grow1 ho7 hg7 hk7).1; have HG7 := Lib.hid (HR6.out.swap.grow1 ho7 hg7 hk7).2; clear ho7 hg7 hk7))
            have hl6 := HL5.out.far HG6.out (fun e => (HL5.out.own HR5.out.one _ e).1 rfl) (fun e => (HL5.out.own HR5.out.one _ e).2.1 rfl) (fun e => (HL5.out.own HR5.out.one _ e).2.2.1 rfl) (fun e => (HL5.out.own HR5.out.one _ e).2.2.2 rfl)
            have hl7 := hl6.far HG7.out (fun e => (hl6.own HR6.out.two _ e).1 rfl) (fun e => (hl6.own HR6.out.two _ e).2.1 rfl) (fun e => (hl6.own HR6.out.two _ e).2.2.1 rfl) (fun e => (hl6.own HR6.out.two _ e).2.2.2 rfl)
            have hb6 := HB6.out.fr HG6.out (own_far HR5.out.one HB6.out (by decide))
            have hb7 := hb6.fr HG7.out (own_far HR6.out.two hb6 (by decide))
            have hF6 := HF5.out.then HG6.out (fun k hk e => by have := (own_blk_i HR5.out.one k e).1; omega)
            have hF7 := hF6.then HG7.out (fun k hk e => by have := (own_blk_i HR6.out.two k e).1; omega)
            have hr7 := HR7.out.swap
            rw [← HA1.out, ← HA2.out] at hr7
            exact ⟨⟨j + 1, bs', by omega, by push_cast; rfl, hl7, hb7, hr7, hF7⟩, by simp [intOf]; omega⟩
          · obtain rfl : j = m := by omega
            have hrz : r ≤ zs.length := by rw [HLEN.out]; exact hrl
            have HSET := Lib.hid (fun W bs' inn' vi' (hW : Src W c p g bs' zs inn' vi') => Set_src r hrz W hW)
            obtain ⟨q0', q1'⟩ := hl.cells
            have k0 := hb.cell 0
            have k1 := hb.cell 1
            have k2 := hb.cell 2
            have k3 := hb.cell 3
            have k4 := hb.cell 4
            simp at k0 k1 k2 k3 k4
            have HL := Lib.hid hl
            have HB5 := Lib.hid hb
            have HR2 := Lib.hid hr2
            have HFR := Lib.hid hfr
            clear hl hb hr2 hfr hrz
            rw [HLEN.out] at HSET
            unfold nowV at HSET
            go_wp2_with fail
            go_region_held3 (fun V => V.cell? ⟨x, 1, none⟩ = some (.pointer (some ⟨c, 0, none⟩)) ∧ V.cell? ⟨ws, 0, none⟩ = some (.int .i64 0) ∧ V.cell? ⟨ws, 1, none⟩ = some (.int .i64 65792) ∧ V.cell? ⟨ws, 2, none⟩ = some (.int .i64 len) ∧ V.cell? ⟨ws, 3, none⟩ = some (.int .i64 r) ∧ V.cell? ⟨ws, 4, none⟩ = some (.int .i64 0)) (first | exact ⟨q1', k0, k1, k2, k3, k4⟩ | exact ⟨e1, e2, e3, e4, e5, e6⟩) ((go_at_call 16; (with_reducible refine (HSET.out _ _ _ _ (HL.out.src.fr0 (Fr.refl _ _).drew)).mono ?_); rintro e w8 ⟨rfl, hf8', bs8, hs8⟩; have hf8 := ((Fr.refl (fun k => k = c ∨ k = g) wr).drew).trans hf8'; have hx8 := HL.out.two.fr hf8 (fun e => e.elim HL.out.ne.2.1 HL.out.ne.1); have hb8 := HB5.out.fr hf8 (fun e => e.elim (HB5.out.ne_ HL.out.src.obj (by decide)) (HB5.out.ne_ HL.out.src.sp.row (by decide))); have e1 := hx8.cell 1; have e2 := hb8.cell 0; have e3 := hb8.cell 1; have e4 := hb8.cell 2; have e5 := hb8.cell 3; have e6 := hb8.cell 4; simp at e1 e2 e3 e4 e5 e6; have HL8 := Lib.hid (L17.mk hx8 hs8 HL.out.lo); have HB8 := Lib.hid hb8; have HF8 := Lib.hid hf8; clear hx8 hb8 hs8 hf8 hf8'))
            have hnw := fun V (hV : Fr0 w8 V) => Now_src V (HL8.out.src.fr0 hV)
            rw [HLEN.out] at hnw
            unfold nowV at hnw
            have HNW2 := Lib.hid hnw
            have HFw8 := Lib.hid (HFR.out.then HF8.out (fun k hk e => by have h1 := l3; have h2 := l4; omega))
            have HR8 := Lib.hid (HR2.out.fr HF8.out (fun k hk e => e.elim (fun e => (HL.out.own HR2.out.one k hk).2.1 e.symm) (fun e => (HL.out.own HR2.out.one k hk).2.2.2 e.symm)) (fun k hk e => e.elim (fun e => (HL.out.own HR2.out.two k hk).2.1 e.symm) (fun e => (HL.out.own HR2.out.two k hk).2.2.2 e.symm)))
            clear hnw
            go_wp2_with fail
            go_region_held3 (fun V => V.cell? ⟨x, 1, none⟩ = some (.pointer (some ⟨c, 0, none⟩)) ∧ V.cell? ⟨ws, 0, none⟩ = some (.int .i64 0) ∧ V.cell? ⟨ws, 1, none⟩ = some (.int .i64 65792) ∧ V.cell? ⟨ws, 2, none⟩ = some (.int .i64 len) ∧ V.cell? ⟨ws, 3, none⟩ = some (.int .i64 r) ∧ V.cell? ⟨ws, 4, none⟩ = some (.int .i64 0)) (first | exact ⟨e1, e2, e3, e4, e5, e6⟩ | exact ⟨i1, i2, i3, i4, i5, i6⟩) ((go_at_call 15; (with_reducible refine (HNW2.out _ (Fr.refl _ _).drew).mono ?_); rintro e w9 ⟨rfl, hf9'⟩; have hf9 : Fr0 w8 w9 := ((Fr.refl (fun _ => False) w8).drew).trans hf9'; have hb9 := HB8.out.fr0 hf9; have HL9 := Lib.hid (HL8.out.fr0 hf9); have i1 := HL9.out.cells.2; have i2 := hb9.cell 0; have i3 := hb9.cell 1; have i4 := hb9.cell 2; have i5 := hb9.cell 3; have i6 := hb9.cell 4; simp at i2 i3 i4 i5 i6; have HF9 := Lib.hid (HFw8.out.trans hf9); have HR9 := Lib.hid (HR8.out.fr hf9 (fun _ _ x => x) (fun _ _ x => x)); clear hb9 hf9 hf9'))
            go_wp2_with fail
            go_loopw [15] (fun i wr => ∃ (t : Nat) (bs : List Int), t ≤ j ∧ i = .int .i64 t ∧ L17 w.heap.size wr x c p g q v bs zs (runN zs r t) r ∧ Rows2 wr w.heap.size u10 u11 (atN zs r j) (lenN zs r j) ∧ Fr0 w wr) (fun i _ => j - (intOf i).toNat)
            case atStart => exact ⟨0, bs8, by omega, rfl, HL9.out, HR9.out, HF9.out⟩
            case round =>
              obtain ⟨t, bst, ht, rfl, hl, hr2, hfr⟩ := hrel
              by_cases htj : t < j
              · have htI : (t : Int) < (j : Int) := by omega
                obtain ⟨q0'', q1''⟩ := hl.cells
                have hNm := Name_src wr hl.src
                have hx1 := atN_at zs r htj
                have hx2 := lenN_at zs r htj
                obtain ⟨a1, ha1⟩ : ∃ a1 : Int, 65792 + (skipP 32 zs (runN zs r t) : Int) = a1 := ⟨_, rfl⟩
                obtain ⟨a2, ha2⟩ : ∃ a2 : Int, (wordP 32 zs (runN zs r t) : Int) - skipP 32 zs (runN zs r t) = a2 := ⟨_, rfl⟩
                rw [ha1, ha2] at hNm
                rw [ha1] at hx1
                rw [ha2] at hx2
                have hg1 := own_row1 hr2.one hx1 (atN_length zs r j)
                have hg2 := own_row1 hr2.two hx2 (lenN_length zs r j)
                obtain ⟨b1, cp1, rfl, g1, g2⟩ := hg1
                obtain ⟨b2, cp2, rfl, g3, g4⟩ := hg2
                have HNM := Lib.hid hNm
                have HL := Lib.hid hl
                have HR2 := Lib.hid hr2
                have HFR := Lib.hid hfr
                clear hNm ha1 ha2 hl hr2 hfr hx1 hx2
                go_wp2_with (go_at_call 10; refine HNM.out.mono ?_; rintro e w5 ⟨rfl, hf5, bs', hs5⟩; have HL5 := Lib.hid (HL.out.step hf5 hs5).1; have HF5 := Lib.hid (HFR.out.then (HL.out.step hf5 hs5).2 (fun j hj e => by omega)); have n1 := (HL.out.own HR2.out.one b1 rfl).2.2.2; have n2 := (HL.out.own HR2.out.two b2 rfl).2.2.2; have HR5 := Lib.hid (HR2.out.fr hf5 (fun k hk e => (HL.out.own HR2.out.one k hk).2.2.2 e.symm) (fun k hk e => (HL.out.own HR2.out.two k hk).2.2.2 e.symm)); have g5 := (hf5.cell (p := ⟨b1, t, none⟩) g2 (fun e => n1 e.symm)).trans g1; have g6 := (hf5.cell (p := ⟨b2, t, none⟩) g4 (fun e => n2 e.symm)).trans g3; clear hf5 hs5)
                exact ⟨⟨t + 1, bs', by omega, by push_cast; rfl, HL5.out, HR5.out, HF5.out⟩, by simp [intOf]; omega⟩
              · have HFR := Lib.hid hfr
                obtain rfl : t = j := by omega
                clear hl hr2 hfr
                go_wp2_with (go_at_call 7; refine (HAW.out _).mono ?_; rintro e wz ⟨rfl, hfz⟩)
                go_ret
                exact ⟨rfl, HFR.out.trans hfz⟩
  · have hc : 1024 < zs.length ∨ (zs.length ≤ 1024 ∧ n < 0) ∨ (zs.length ≤ 1024 ∧ 0 ≤ n ∧ 40 < n) ∨ (zs.length ≤ 1024 ∧ 0 ≤ n ∧ n ≤ 40 ∧ m < 0) ∨ (zs.length ≤ 1024 ∧ 0 ≤ n ∧ n ≤ 40 ∧ 0 ≤ m ∧ 40 < m) := by omega
    obtain ⟨A, cap, rfl, _⟩ := hs
    generalize zs.length = len at *
    clear hg
    rcases hc with h | ⟨h, h2⟩ | ⟨h, h2, h3⟩ | ⟨h, h2, h3, h4⟩ | ⟨h, h2, h3, h4, h5⟩
    all_goals
      go_enter Try.func6, Try.ntmps6
      go_wp2_with (go_at_call 7; refine (HAW.out _).mono ?_; rintro e w1 ⟨rfl, hf1⟩)
      go_ret
      exact ⟨rfl, hf1⟩
end Go.Proofs.Ytmkpoemjikdoeaa
