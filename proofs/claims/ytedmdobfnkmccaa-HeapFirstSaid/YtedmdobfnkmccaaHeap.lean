/- The heap's blocks in memory, a chain both ways; join. -/
import Derived.Test.YtedmdobfnkmccaaHpure
import Derived.Test.YtedmdobfnkmccaaMap
import Derived.StillTailTactics
import Derived.Test.YtedmdobfnkmccaaProg
namespace Go.Proofs.Ytedmdobfnkmccaa
open Go Go.RowKit

abbrev Nd := Nat × Bk
def ptr (i : Nat) : Value := .pointer (some ⟨i, 0, none⟩)
def nil_ : Value := .pointer none
def hdp (nx : Value) : List Nd → Value
  | [] => nx
  | x :: _ => ptr x.1
def lst (pv : Value) : List Nd → Value
  | [] => pv
  | x :: L => lst (ptr x.1) L
def node (b : Bk) (pv nx : Value) : Array Value := #[.int .i64 b.at_, .int .i64 b.size, .bool b.free, pv, nx]
/-- Nodes one behind the other, between pv and nx. -/
def Chain (w : World) : Value → List Nd → Value → Prop
  | _, [], _ => True
  | pv, x :: L, nx => Blk w x.1 61 (node x.2 pv (hdp nx L)) ∧ Chain w (ptr x.1) L nx
def ids (L : List Nd) : List Nat := L.map (·.1)
def bks (L : List Nd) : List Bk := L.map (·.2)

theorem hdp_app (nx : Value) (A B : List Nd) : hdp nx (A ++ B) = hdp (hdp nx B) A := by cases A <;> rfl
theorem Chain.app {w : World} {pv nx : Value} {A B : List Nd} : Chain w pv (A ++ B) nx ↔ Chain w pv A (hdp nx B) ∧ Chain w (lst pv A) B nx := by
  induction A generalizing pv with
  | nil => simp [Chain, lst]
  | cons x A ih => simp only [List.cons_append, Chain, ih, lst, hdp_app, and_assoc]
theorem Chain.fr {S : Nat → Prop} {w w' : World} {pv nx : Value} {L : List Nd} (h : Chain w pv L nx) (hf : Fr S w w') (hs : ∀ k ∈ ids L, ¬ S k) : Chain w' pv L nx := by
  induction L generalizing pv with
  | nil => trivial
  | cons x L ih => exact ⟨h.1.fr hf (hs _ (by simp [ids])), ih h.2 fun k hk => hs k (by simp only [ids, List.map_cons, List.mem_cons]; exact .inr hk)⟩
theorem Chain.lt {w : World} {pv nx : Value} {L : List Nd} (h : Chain w pv L nx) : ∀ k ∈ ids L, k < w.heap.size := by
  induction L generalizing pv with
  | nil => intro k hk; cases hk
  | cons x L ih =>
    intro k hk
    simp only [ids, List.map_cons, List.mem_cons] at hk
    rcases hk with rfl | hk
    · exact h.1.lt
    · exact ih h.2 k hk

section
variable {px pn pm : Nat} {a s a' s' : Int} {f : Bool} {pv pv' nx c0 c1 c2 c3 : Value}

set_option maxHeartbeats 1000000 in
theorem join_nil (w : World) (hx : Blk w px 61 (node ⟨a, s, f⟩ pv nil_)) :
    Calls Try.prog 25 #[ptr px] w fun e w' => e = .returned (.tuple #[]) ∧ w' = w := by
  have c4 := hx.cell 4
  simp only [node, nil_, ptr] at *
  clear hx
  go_enter Try.func25, Try.ntmps25
  go_wp2
  refine bodyPost_ret (results_none rfl _ _ _) rfl ?_
  exact ⟨rfl, rfl⟩

set_option maxHeartbeats 1000000 in
theorem join_taken (w : World) (hx : Blk w px 61 (node ⟨a, s, f⟩ pv (ptr pn))) (hn : Blk w pn 61 (node ⟨a', s', false⟩ pv' nx)) :
    Calls Try.prog 25 #[ptr px] w fun e w' => e = .returned (.tuple #[]) ∧ w' = w := by
  have c4 := hx.cell 4
  have d2 := hn.cell 2
  simp only [node, ptr] at *
  clear hx hn
  go_enter Try.func25, Try.ntmps25
  go_wp2
  refine bodyPost_ret (results_none rfl _ _ _) rfl ?_
  exact ⟨rfl, rfl⟩

set_option maxHeartbeats 2000000 in
theorem join_last (w : World) (hx : Blk w px 61 (node ⟨a, s, f⟩ pv (ptr pn))) (hn : Blk w pn 61 (node ⟨a', s', true⟩ pv' nil_)) (_hne : px ≠ pn) (b1 : 0 ≤ s) (b2 : 0 ≤ s') (b3 : s + s' ≤ 1048576) :
    Calls Try.prog 25 #[ptr px] w fun e w' => e = .returned (.tuple #[]) ∧ Fr (fun k => k = px) w w' ∧ w'.heap.size = w.heap.size ∧ Blk w' px 61 (node ⟨a, s + s', f⟩ pv nil_) := by
  have c4 := hx.cell 4
  have c1 := hx.cell 1
  have z1 := hx.frozen 1
  have z4 := hx.frozen 4
  have d2 := hn.cell 2
  have d1 := hn.cell 1
  have d4 := hn.cell 4
  simp only [node, nil_, ptr] at *
  have HX := Lib.hid hx
  clear hx hn
  go_enter Try.func25, Try.ntmps25
  go_wp2
  go_region
  go_wp2
  go_end0
  refine ⟨rfl, (((Fr.refl (fun k => k = px) w).setCell (p := ⟨px, 1, none⟩) (.inl rfl) _).setCell (p := ⟨px, 4, none⟩) (.inl rfl) _).drew, by simp [World.setCell], ?_⟩
  exact ((HX.out.set_ 1 _).set_ 4 _).drew

set_option maxHeartbeats 2000000 in
theorem join_mid (w : World) (hx : Blk w px 61 (node ⟨a, s, f⟩ pv (ptr pn))) (hn : Blk w pn 61 (node ⟨a', s', true⟩ pv' (ptr pm))) (hm : Blk w pm 61 #[c0, c1, c2, c3, nx]) (_hne : px ≠ pn) (hne' : px ≠ pm) (_hne2 : pn ≠ pm) (b1 : 0 ≤ s) (b2 : 0 ≤ s') (b3 : s + s' ≤ 1048576) :
    Calls Try.prog 25 #[ptr px] w fun e w' => e = .returned (.tuple #[]) ∧ Fr (fun k => k = px ∨ k = pm) w w' ∧ w'.heap.size = w.heap.size ∧ Blk w' px 61 (node ⟨a, s + s', f⟩ pv (ptr pm)) ∧ Blk w' pm 61 #[c0, c1, c2, ptr px, nx] := by
  have c4 := hx.cell 4
  have c1 := hx.cell 1
  have z1 := hx.frozen 1
  have z4 := hx.frozen 4
  have d2 := hn.cell 2
  have d1 := hn.cell 1
  have d4 := hn.cell 4
  have m3 := hm.cell 3
  have y3 := hm.frozen 3
  simp only [node, ptr] at *
  have HX := Lib.hid hx
  have HM := Lib.hid hm
  clear hx hn hm
  go_enter Try.func25, Try.ntmps25
  go_wp2
  go_region
  go_wp2
  go_end0
  refine ⟨rfl, ((((Fr.refl (fun k => k = px ∨ k = pm) w).setCell (p := ⟨px, 1, none⟩) (.inl (.inl rfl)) _).setCell (p := ⟨px, 4, none⟩) (.inl (.inl rfl)) _).drew).setCell (p := ⟨pm, 3, none⟩) (.inl (.inr rfl)) _, by simp [World.setCell], ?_, ?_⟩
  · exact (((HX.out.set_ 1 _).set_ 4 _).drew).far hne' _
  · exact (((HM.out.far hne'.symm _).far hne'.symm _).drew).set_ 3 _
end

/-- x takes a free one behind it. -/
def joinN (x : Nd) : List Nd → List Nd
  | [] => [x]
  | n :: R => if n.2.free then (x.1, { x.2 with size := x.2.size + n.2.size }) :: R else x :: n :: R
theorem joinN_ids (x : Nd) (R : List Nd) : (ids (joinN x R)).Sublist (ids (x :: R)) := by
  cases R with
  | nil => exact List.Sublist.refl _
  | cons n R =>
    simp only [joinN]
    split
    · simp only [ids, List.map_cons]
      exact (List.sublist_cons_self _ _).cons_cons _
    · exact List.Sublist.refl _

theorem joinN_hd (nx : Value) (x : Nd) (R : List Nd) : hdp nx (joinN x R) = ptr x.1 := by
  cases R with
  | nil => rfl
  | cons n R => simp only [joinN]; split <;> rfl


theorem join_any {x : Nd} {R : List Nd} {pv : Value} {c d : Int} (w : World) (h : Chain w pv (x :: R) nil_) (hnd : (ids (x :: R)).Nodup) (hc : Cov0 c d (bks (x :: R))) (hd : d - c ≤ 1048576) :
    Calls Try.prog 25 #[ptr x.1] w fun e w' => e = .returned (.tuple #[]) ∧ Fr (fun k => k ∈ ids (x :: R)) w w' ∧ w'.heap.size = w.heap.size ∧ Chain w' pv (joinN x R) nil_ := by
  obtain ⟨px, a, s, f⟩ := x
  cases R with
  | nil =>
    refine (join_nil w h.1).mono ?_
    rintro e w' ⟨rfl, rfl⟩
    exact ⟨rfl, Fr.refl _ _, rfl, h⟩
  | cons n R =>
    obtain ⟨pn, a', s', g⟩ := n
    cases g with
    | false =>
      refine (join_taken w h.1 h.2.1).mono ?_
      rintro e w' ⟨rfl, rfl⟩
      exact ⟨rfl, Fr.refl _ _, rfl, h⟩
    | true =>
      simp only [bks, List.map_cons, Cov0] at hc
      obtain ⟨_, h1, _, _, h2, _, h3⟩ := hc
      have h4 := (cov_le h3).1
      simp only [ids, List.map_cons, List.nodup_cons, List.mem_cons, not_or] at hnd
      obtain ⟨⟨n1, n2⟩, n3, n4⟩ := hnd
      cases R with
      | nil =>
        refine (join_last w h.1 h.2.1 n1 h1 h2 (by omega)).mono ?_
        rintro e w' ⟨rfl, hf, hz, hb⟩
        exact ⟨rfl, hf.mono (fun k _ e => by simp [ids, e]), hz, hb, trivial⟩
      | cons m R =>
        simp only [List.map_cons, List.mem_cons, not_or, List.nodup_cons] at n2 n3 n4
        refine (join_mid (c0 := .int .i64 m.2.at_) (c1 := .int .i64 m.2.size) (c2 := .bool m.2.free) (nx := hdp nil_ R) w h.1 h.2.1 h.2.2.1 n1 n2.1 n3.1 h1 h2 (by omega)).mono ?_
        rintro e w' ⟨rfl, hf, hz, hb, hm⟩
        refine ⟨rfl, hf.mono (fun k _ e => by rcases e with e | e <;> simp [ids, e]), hz, hb, hm, h.2.2.2.fr hf ?_⟩
        intro k hk e
        rcases e with rfl | rfl
        · exact n2.2 hk
        · exact n4.1 hk

section
variable {px pm : Nat} {a s z : Int} {f : Bool} {pv nx c0 c1 c2 : Value}

set_option maxHeartbeats 1000000 in
theorem split_same (w : World) (hx : Blk w px 61 (node ⟨a, s, f⟩ pv nx)) :
    Calls Try.prog 23 #[ptr px, .int .i64 s] w fun e w' => e = .returned (.tuple #[]) ∧ w' = w := by
  have c1 := hx.cell 1
  simp only [node, ptr] at *
  clear hx
  go_enter Try.func23, Try.ntmps23
  go_wp2
  refine bodyPost_ret (results_none rfl _ _ _) rfl ?_
  exact ⟨rfl, rfl⟩

end

/-- x keeps z bytes; a new block i has the others. -/
def splitN (i : Nat) (z : Int) (x : Nd) (R : List Nd) : List Nd :=
  if z = x.2.size then x :: R else (x.1, { x.2 with size := z }) :: joinN (i, ⟨x.2.at_ + z, x.2.size - z, true⟩) R
theorem splitN_hd (i : Nat) (z : Int) (nx : Value) (x : Nd) (R : List Nd) : hdp nx (splitN i z x R) = ptr x.1 := by
  unfold splitN; split <;> rfl
theorem splitN_ids (i : Nat) (z : Int) (x : Nd) (R : List Nd) : ∀ k ∈ ids (splitN i z x R), k = i ∨ k ∈ ids (x :: R) := by
  intro k hk
  unfold splitN at hk
  split at hk
  · exact .inr hk
  · simp only [ids, List.map_cons, List.mem_cons] at hk ⊢
    rcases hk with rfl | hk
    · exact .inr (.inl rfl)
    · have := (joinN_ids _ _).subset hk
      simp only [ids, List.map_cons, List.mem_cons] at this
      rcases this with h | h
      · exact .inl h
      · exact .inr (.inr h)
theorem splitN_nodup {i : Nat} {z : Int} {x : Nd} {R : List Nd} (h : (ids (x :: R)).Nodup) (hi : i ∉ ids (x :: R)) : (ids (splitN i z x R)).Nodup := by
  unfold splitN
  split
  · exact h
  · simp only [ids, List.map_cons, List.nodup_cons, List.mem_cons, not_or] at h hi ⊢
    have hs := joinN_ids (i, ⟨x.2.at_ + z, x.2.size - z, true⟩) R
    refine ⟨fun hk => ?_, List.Nodup.sublist hs (by simp only [ids, List.map_cons, List.nodup_cons]; exact ⟨hi.2, h.2⟩)⟩
    have := hs.subset hk
    simp only [ids, List.map_cons, List.mem_cons] at this
    rcases this with e | e
    · exact hi.1 e.symm
    · exact h.1 e

set_option maxHeartbeats 2000000 in
theorem split_any {x : Nd} {R : List Nd} {pv : Value} {c d z : Int} (w : World) (h : Chain w pv (x :: R) nil_) (hnd : (ids (x :: R)).Nodup) (hc : Cov0 c d (bks (x :: R))) (hd : d - c ≤ 1048576) (h0 : 0 ≤ c) (h1 : d ≤ 9223372036854775807) (hz0 : 8 ≤ z) (hz8 : z % 8 = 0) (hz : z ≤ x.2.size) :
    Calls Try.prog 23 #[ptr x.1, .int .i64 z] w fun e w' => e = .returned (.tuple #[]) ∧ Fr (fun k => k ∈ ids (x :: R)) w w' ∧ Chain w' pv (splitN w.heap.size z x R) nil_ := by
  obtain ⟨px, a, s, f⟩ := x
  dsimp only at hz
  unfold splitN
  by_cases hzs : z = s
  · subst hzs
    refine (split_same w h.1).mono ?_
    rintro e w' ⟨rfl, rfl⟩
    exact ⟨rfl, Fr.refl _ _, by rw [if_pos rfl]; exact h⟩
  rw [if_neg hzs]
  simp only [bks, List.map_cons, Cov0] at hc
  obtain ⟨k1, k2, k3, k4⟩ := hc
  have k5 := (cov_le k4).1
  have hcov : Cov0 (a + z) d (bks ((w.heap.size, (⟨a + z, s - z, true⟩ : Bk)) :: R)) := by
    refine ⟨rfl, by dsimp only; omega, by dsimp only; omega, ?_⟩
    dsimp only
    rw [show a + z + (s - z) = c + s by omega]
    exact k4
  have hlt := h.lt
  have hnd' : (ids ((w.heap.size, (⟨a + z, s - z, true⟩ : Bk)) :: R)).Nodup := by
    simp only [ids, List.map_cons, List.nodup_cons] at hnd ⊢
    refine ⟨fun hk => ?_, hnd.2⟩
    have := hlt w.heap.size (by simp only [ids, List.map_cons, List.mem_cons]; exact .inr hk)
    omega
  have hpx : px < w.heap.size := h.1.lt
  have hx := h.1
  have hb1 : 0 ≤ a := by omega
  have hb2 : a + s ≤ 9223372036854775807 := by omega
  have hb3 : z < s := by omega
  have hdc : d - (a + z) ≤ 1048576 := by omega
  clear k1 k2 k3 k4 k5 hz8 hz hzs h0 h1 hd
  have c0 := hx.cell 0
  have c1 := hx.cell 1
  have c4 := hx.cell 4
  have z1 := hx.frozen 1
  have z4 := hx.frozen 4
  have HX := Lib.hid hx
  have HC := Lib.hid hcov
  have HN := Lib.hid hnd'
  have HD := Lib.hid hnd
  have HL := Lib.hid hlt
  have HH := Lib.hid h
  clear hx hcov hnd' hlt hnd h
  cases R with
  | nil =>
    simp only [node, ptr, nil_, hdp] at *
    go_enter Try.func23, Try.ntmps23
    go_wp2
    go_region
    go_wp2_with fail
    have hf1 : ∀ o, Fr (fun k => k ∈ ids [(px, (⟨a, s, f⟩ : Bk))]) w ((((w.setCell ⟨px, 4, none⟩ (ptr w.heap.size)).setCell ⟨px, 1, none⟩ (.int .i64 z)).alloc o).drew) := fun o =>
      ((((Fr.refl _ w).setCell (p := ⟨px, 4, none⟩) (.inl (by simp [ids])) _).setCell (p := ⟨px, 1, none⟩) (.inl (by simp [ids])) _).alloc o).drew
    have hb1 : ∀ o, Blk ((((w.setCell ⟨px, 4, none⟩ (ptr w.heap.size)).setCell ⟨px, 1, none⟩ (.int .i64 z)).alloc o).drew) px 61 (node ⟨a, z, f⟩ pv (ptr w.heap.size)) := fun o =>
      ((((HX.out).set_ 4 _).set_ 1 _).alloc o).drew
    have hb2 : ∀ cs, Blk ((((w.setCell ⟨px, 4, none⟩ (ptr w.heap.size)).setCell ⟨px, 1, none⟩ (.int .i64 z)).alloc (.cells cs 61)).drew) w.heap.size 61 cs := fun cs => by
      have := Blk.new ((w.setCell ⟨px, 4, none⟩ (ptr w.heap.size)).setCell ⟨px, 1, none⟩ (.int .i64 z)) 61 cs
      have e : ((w.setCell ⟨px, 4, none⟩ (ptr w.heap.size)).setCell ⟨px, 1, none⟩ (.int .i64 z)).heap.size = w.heap.size := by simp [World.setCell]
      rw [e] at this
      exact this.drew
    refine (join_any (x := (w.heap.size, ⟨a + z, s - z, true⟩)) (R := []) (pv := ptr px) (c := a + z) (d := d) _ ⟨hb2 _, trivial⟩ HN.out HC.out (by omega)).mono ?_
    rintro e w' ⟨rfl, hf2, _, hch⟩
    go_wp2
    go_end0
    refine ⟨rfl, (hf1 _).then hf2 (fun k hk e => by simp [ids] at e; omega), (hb1 _).fr hf2 (by simp [ids]; omega), hch⟩
  | cons m R =>
    have hm := HH.out.2.1
    have d3 := hm.cell 3
    have y3 := hm.frozen 3
    have hpm := hm.lt
    have HM := Lib.hid hm
    clear hm
    simp only [node, ptr, nil_, hdp] at *
    go_enter Try.func23, Try.ntmps23
    go_wp2
    go_region
    go_wp2_with fail
    have hnd := HD.out
    simp only [ids, List.map_cons, List.nodup_cons, List.mem_cons, not_or] at hnd
    obtain ⟨⟨n1, n2⟩, n3, n4⟩ := hnd
    have hf1 : ∀ o, Fr (fun k => k ∈ ids ((px, (⟨a, s, f⟩ : Bk)) :: m :: R)) w (((((w.setCell ⟨m.1, 3, none⟩ (ptr w.heap.size)).setCell ⟨px, 4, none⟩ (ptr w.heap.size)).setCell ⟨px, 1, none⟩ (.int .i64 z)).alloc o).drew) := fun o =>
      (((((Fr.refl _ w).setCell (p := ⟨m.1, 3, none⟩) (.inl (by simp [ids])) _).setCell (p := ⟨px, 4, none⟩) (.inl (by simp [ids])) _).setCell (p := ⟨px, 1, none⟩) (.inl (by simp [ids])) _).alloc o).drew
    have hf3 : ∀ o, Fr (fun k => k = px ∨ k = m.1) w (((((w.setCell ⟨m.1, 3, none⟩ (ptr w.heap.size)).setCell ⟨px, 4, none⟩ (ptr w.heap.size)).setCell ⟨px, 1, none⟩ (.int .i64 z)).alloc o).drew) := fun o =>
      (((((Fr.refl _ w).setCell (p := ⟨m.1, 3, none⟩) (.inl (.inr rfl)) _).setCell (p := ⟨px, 4, none⟩) (.inl (.inl rfl)) _).setCell (p := ⟨px, 1, none⟩) (.inl (.inl rfl)) _).alloc o).drew
    have hb1 : ∀ o, Blk (((((w.setCell ⟨m.1, 3, none⟩ (ptr w.heap.size)).setCell ⟨px, 4, none⟩ (ptr w.heap.size)).setCell ⟨px, 1, none⟩ (.int .i64 z)).alloc o).drew) px 61 (node ⟨a, z, f⟩ pv (ptr w.heap.size)) := fun o =>
      (((((HX.out).far n1 _).set_ 4 _).set_ 1 _).alloc o).drew
    have hb3 : ∀ o, Blk (((((w.setCell ⟨m.1, 3, none⟩ (ptr w.heap.size)).setCell ⟨px, 4, none⟩ (ptr w.heap.size)).setCell ⟨px, 1, none⟩ (.int .i64 z)).alloc o).drew) m.1 61 (node m.2 (ptr w.heap.size) (hdp nil_ R)) := fun o =>
      (((((HM.out).set_ 3 _).far (Ne.symm n1) _).far (Ne.symm n1) _).alloc o).drew
    have hb2 : ∀ cs, Blk (((((w.setCell ⟨m.1, 3, none⟩ (ptr w.heap.size)).setCell ⟨px, 4, none⟩ (ptr w.heap.size)).setCell ⟨px, 1, none⟩ (.int .i64 z)).alloc (.cells cs 61)).drew) w.heap.size 61 cs := fun cs => by
      have := Blk.new (((w.setCell ⟨m.1, 3, none⟩ (ptr w.heap.size)).setCell ⟨px, 4, none⟩ (ptr w.heap.size)).setCell ⟨px, 1, none⟩ (.int .i64 z)) 61 cs
      have e : (((w.setCell ⟨m.1, 3, none⟩ (ptr w.heap.size)).setCell ⟨px, 4, none⟩ (ptr w.heap.size)).setCell ⟨px, 1, none⟩ (.int .i64 z)).heap.size = w.heap.size := by simp [World.setCell]
      rw [e] at this
      exact this.drew
    have hR := HH.out.2.2
    refine (join_any (x := (w.heap.size, ⟨a + z, s - z, true⟩)) (R := m :: R) (pv := ptr px) (c := a + z) (d := d) _ ⟨hb2 _, hb3 _, hR.fr (hf3 _) (fun k hk e => by
      rcases e with rfl | rfl
      · exact n2 hk
      · exact n3 hk)⟩ HN.out HC.out (by omega)).mono ?_
    rintro e w' ⟨rfl, hf2, _, hch⟩
    go_wp2
    go_end0
    refine ⟨rfl, (hf1 _).then hf2 (fun k hk e => ?_), ?_, hch⟩
    · simp only [ids, List.map_cons, List.mem_cons] at e ⊢
      rcases e with e | e | e
      · omega
      · exact .inr (.inl e)
      · exact .inr (.inr e)
    · rw [joinN_hd]
      refine (hb1 _).fr hf2 ?_
      simp only [ids, List.map_cons, List.mem_cons, not_or]
      exact ⟨by omega, n1, n2⟩

end Go.Proofs.Ytedmdobfnkmccaa
