/- Flow: the document's turn, words that take a thing. -/
import Derived.Test.YtoldegajbonliaaFr8
import Derived.Test.YtoldegajbonliaaFr9
import Derived.Test.YtoldegajbonliaaFlaw
namespace Go.Proofs.Ytoldegajbonliaa
open Go Go.RowKit
set_option linter.unusedVariables false
attribute [local go_sem] Oper.semAt_some

section
variable {w w' : World} {B r p q cap : Nat} {tv tv' lv lv' : Value} {ts ts' : List Tk} {xs : List RT} {T : Nat → Prop}
/-- What a word's turn leaves: its kinds; as many tokens as before. -/
def TurnR (w : World) (B r p : Nat) (xs : List RT) (lv : Value) (ts : List Tk) (q cap : Nat) (tv : Value) (M : Nat) (ks' : List Int) (w' : World) : Prop :=
  ∃ xs' lv' ts', RF w' B r p xs' lv' ts' q cap tv ∧ xs'.map RT.kind = ks' ∧ ts'.length = ts.length ∧ (∀ x ∈ xs', x.to_.length ≤ M + 1) ∧ Turn (RFIn r p q tv lv xs) (RFIn r p q tv lv' xs') w w'
theorem RF.c01 (h : RF w B r p xs lv ts q cap tv) : w.cell? ⟨r, 0, none⟩ = some (.pointer (some ⟨p, 0, none⟩)) ∧ w.cell? ⟨r, 1, none⟩ = some (.int .i64 1) := ⟨h.cells.1, h.cells.2.1⟩
theorem RF.patched {a i : Int} (h : RF w B r p xs lv ts q cap tv) (hp : Pl RP w' B p q cap tv (patchT ts i a)) (hf : Fr (PlIn p q tv) w w') : RF w' B r p xs lv (patchT ts i a) q cap tv ∧ Turn (RFIn r p q tv lv xs) (RFIn r p q tv lv xs) w w' := h.pool hp ⟨hf, fun k hk => .inl hk⟩
/-- A thing pushed, that holds no row. -/
theorem RF.plain (x : RT) (h : RF w B r p xs lv ts q cap tv) (hx : x.tv = .slice none 0 0) (hx2 : x.to_ = []) : (OwnI w B x.tv x.to_ ∧ x.to_.length ≤ 1000) ∧ ∀ (y : RT) (k : Nat), y ∈ xs → y.tv.ownBlock = some k → x.tv.ownBlock ≠ some k := by
  rw [hx, hx2]
  exact ⟨⟨OwnI.nil _ _, by simp⟩, fun y k _ _ e => by cases e⟩
theorem fieldAt (k p : Int) (A : Option Addr) (m c : Nat) (W : World) : (Instr.field 89 (.agg #[.int .i64 k, .int .i64 p, .slice A m c]) 1).run Try.prog W = .ok (.int .i64 p) W := by kernel_rfl
theorem RF.shape (h : RF w B r p xs lv ts q cap tv) {x : RT} (hx : x ∈ xs) : ∃ A m c, x.tv = .slice A m c := by
  obtain ⟨_, A, c, e, _⟩ := own_src (h.js x hx).1
  exact ⟨A, _, c, e⟩
theorem RF.last_apart {x : RT} (h : RF w B r p (xs ++ [x]) lv ts q cap tv) : ∀ (y : RT) (k : Nat), y ∈ xs → y.tv.ownBlock = some k → x.tv.ownBlock ≠ some k := fun y k hy h1 h2 => by
  obtain ⟨i, hi⟩ := List.getElem?_of_mem hy
  have hil := (List.getElem?_eq_some_iff.1 hi).1
  have := h.dj i xs.length y x k (by rw [List.getElem?_append_left hil]; exact hi) (by rw [List.getElem?_append_right (Nat.le_refl _), Nat.sub_self]; rfl) h1 h2
  omega
set_option maxRecDepth 100000 in
set_option maxHeartbeats 8000000 in
theorem turn_3 (at_ : Int) (x : RT) (M : Nat) (w : World) (h : RF w B r p (xs ++ [x]) lv ts q cap tv) (hM : ∀ z ∈ xs ++ [x], z.to_.length ≤ M) : Calls Try.prog 52 #[.pointer (some ⟨r, 0, none⟩), .int .i64 3, .int .i64 at_] w fun e w' => (∃ v, e = .returned v) ∧ TurnR w B r p (xs ++ [x]) lv ts q cap tv M (xs.map RT.kind) w' := by
  obtain ⟨Ax, mx, cx, hx⟩ := h.shape (x := x) (by simp)
  obtain ⟨kx, px, tx, vx⟩ := x
  dsimp only at hx
  subst hx
  have hfdx := fun W => fieldAt kx px Ax mx cx W
  have HH := Lib.hid h
  have HM := Lib.hid hM
  obtain ⟨c0, c1⟩ := h.c01
  have hfew := h.few
  try simp only [List.length_append, List.length_cons, List.length_nil] at hfew
  have HFEW := Lib.hid hfew
  clear h hM hfew
  go_enter Try.func52, Try.ntmps52
  go_wp2_with fail
  have HD0 := Lib.hid (HH.out.fr0 (Fr.refl (fun _ => False) w).drew)
  have k00 := HD0.out.c01
  go_region_held3 (fun V => V.cell? ⟨r, 0, none⟩ = some (.pointer (some ⟨p, 0, none⟩)) ∧ V.cell? ⟨r, 1, none⟩ = some (.int .i64 1)) (first | exact k00 | exact kk3 | exact kk2 | exact kk1) (first | (go_at_call 75; refine (pop_r _ _ HD0.out).mono ?_; rintro e w1 ⟨rfl, lv1, h1, o1, t1⟩; have HA1 := Lib.hid h1; have HT1 := Lib.hid t1; have kk1 := h1.c01; clear h1 o1 t1) | (go_at_call 76; refine (here_r _ HA1.out).mono ?_; rintro e w2 ⟨rfl, f2⟩; have HA2 := Lib.hid (HA1.out.fr0 f2); have HT2 := Lib.hid (HT1.out.trans (Turn.of0 f2)); have kk2 := HA2.out.c01; clear f2) | (go_at_call 76; refine (here_r _ HD0.out).mono ?_; rintro e w1 ⟨rfl, f1⟩; have HC1 := Lib.hid (HD0.out.fr0 f1); have HF1 := Lib.hid f1; have kk1 := HC1.out.c01; clear f1) | (go_at_call 75; refine (pop_r _ _ HC1.out).mono ?_; rintro e w2 ⟨rfl, lv1, h2, o2, t2⟩; have HA2 := Lib.hid h2; have HT2 := Lib.hid ((Turn.of0 HF1.out).trans t2); have kk2 := h2.c01; clear h2 o2 t2) | (go_at_call 74; refine (Patch_r _ _ _ HA2.out.pl).mono ?_; rintro e w3 ⟨rfl, hp3, f3⟩; have hq3 := HA2.out.patched hp3 f3; have HP3 := Lib.hid hq3.1; have HT3 := Lib.hid (((Turn.of0 (Fr.refl (fun _ => False) w).drew).trans HT2.out).trans hq3.2); have kk3 := hq3.1.c01; clear hp3 f3 hq3))
  all_goals
    go_wp2_with fail
    refine bodyPost_end (results_none rfl _ _ _) rfl ?_
    exact ⟨⟨_, rfl⟩, _, _, _, HP3.out, rfl, patchT_len _ _ _, (fun y hy => Nat.le_succ_of_le (HM.out y (List.mem_append_left _ hy))), HT3.out⟩
set_option maxRecDepth 100000 in
set_option maxHeartbeats 8000000 in
theorem turn_4 (at_ : Int) (x : RT) (M : Nat) (w : World) (h : RF w B r p (xs ++ [x]) lv ts q cap tv) (hM : ∀ z ∈ xs ++ [x], z.to_.length ≤ M) : Calls Try.prog 52 #[.pointer (some ⟨r, 0, none⟩), .int .i64 4, .int .i64 at_] w fun e w' => (∃ v, e = .returned v) ∧ TurnR w B r p (xs ++ [x]) lv ts q cap tv M (xs.map RT.kind ++ [1]) w' := by
  obtain ⟨Ax, mx, cx, hx⟩ := h.shape (x := x) (by simp)
  obtain ⟨kx, px, tx, vx⟩ := x
  dsimp only at hx
  subst hx
  have hfdx := fun W => fieldAt kx px Ax mx cx W
  have HH := Lib.hid h
  have HM := Lib.hid hM
  obtain ⟨c0, c1⟩ := h.c01
  have hfew := h.few
  try simp only [List.length_append, List.length_cons, List.length_nil] at hfew
  have HFEW := Lib.hid hfew
  clear h hM hfew
  go_enter Try.func52, Try.ntmps52
  go_wp2_with fail
  have HD0 := Lib.hid (HH.out.fr0 (Fr.refl (fun _ => False) w).drew)
  have k00 := HD0.out.c01
  go_region_held3 (fun V => V.cell? ⟨r, 0, none⟩ = some (.pointer (some ⟨p, 0, none⟩)) ∧ V.cell? ⟨r, 1, none⟩ = some (.int .i64 1)) (first | exact k00 | exact kk3 | exact kk2 | exact kk1) (first | (go_at_call 75; refine (pop_r _ _ HD0.out).mono ?_; rintro e w1 ⟨rfl, lv1, h1, o1, t1⟩; have HA1 := Lib.hid h1; have HT1 := Lib.hid t1; have kk1 := h1.c01; clear h1 o1 t1) | (go_at_call 76; refine (here_r _ HA1.out).mono ?_; rintro e w2 ⟨rfl, f2⟩; have HA2 := Lib.hid (HA1.out.fr0 f2); have HT2 := Lib.hid (HT1.out.trans (Turn.of0 f2)); have kk2 := HA2.out.c01; clear f2) | (go_at_call 76; refine (here_r _ HD0.out).mono ?_; rintro e w1 ⟨rfl, f1⟩; have HC1 := Lib.hid (HD0.out.fr0 f1); have HF1 := Lib.hid f1; have kk1 := HC1.out.c01; clear f1) | (go_at_call 75; refine (pop_r _ _ HC1.out).mono ?_; rintro e w2 ⟨rfl, lv1, h2, o2, t2⟩; have HA2 := Lib.hid h2; have HT2 := Lib.hid ((Turn.of0 HF1.out).trans t2); have kk2 := h2.c01; clear h2 o2 t2) | (go_at_call 74; refine (Patch_r _ _ _ HA2.out.pl).mono ?_; rintro e w3 ⟨rfl, hp3, f3⟩; have hq3 := HA2.out.patched hp3 f3; have HP3 := Lib.hid hq3.1; have HT3 := Lib.hid (((Turn.of0 (Fr.refl (fun _ => False) w).drew).trans HT2.out).trans hq3.2); have kk3 := hq3.1.c01; clear hp3 f3 hq3))
  all_goals
    clear k00 kk1 kk2 kk3
    go_wp2_with (go_at_call 72; refine (push_r ⟨1, at_, [], .slice none 0 0⟩ _ HP3.out (HP3.out.plain _ rfl rfl).1 (HP3.out.plain _ rfl rfl).2 (by have := HFEW.out; omega)).mono ?_; rintro e w4 ⟨⟨v, rfl⟩, lv4, hq, fq, lq⟩; have HQ4 := Lib.hid hq; have HT4 := Lib.hid (RF.pushed (r := r) (p := p) (q := q) (tv := tv) (xs := xs) (x := ⟨1, at_, [], .slice none 0 0⟩) fq lq (fun k hk => by cases hk)); clear hq fq lq)
    refine bodyPost_end (results_none rfl _ _ _) rfl ?_
    refine ⟨⟨_, rfl⟩, _, _, _, HQ4.out, by simp, patchT_len _ _ _, fun y hy => ?_, HT3.out.trans HT4.out⟩
    rcases List.mem_append.1 hy with hy | hy
    · exact Nat.le_succ_of_le (HM.out y (List.mem_append_left _ hy))
    · rw [List.mem_singleton.1 hy]; simp
set_option maxRecDepth 100000 in
set_option maxHeartbeats 8000000 in
theorem turn_6 (at_ : Int) (x : RT) (M : Nat) (w : World) (h : RF w B r p (xs ++ [x]) lv ts q cap tv) (hM : ∀ z ∈ xs ++ [x], z.to_.length ≤ M) : Calls Try.prog 52 #[.pointer (some ⟨r, 0, none⟩), .int .i64 6, .int .i64 at_] w fun e w' => (∃ v, e = .returned v) ∧ TurnR w B r p (xs ++ [x]) lv ts q cap tv M (xs.map RT.kind) w' := by
  obtain ⟨Ax, mx, cx, hx⟩ := h.shape (x := x) (by simp)
  obtain ⟨kx, px, tx, vx⟩ := x
  dsimp only at hx
  subst hx
  have hfdx := fun W => fieldAt kx px Ax mx cx W
  have HH := Lib.hid h
  have HM := Lib.hid hM
  obtain ⟨c0, c1⟩ := h.c01
  have hfew := h.few
  try simp only [List.length_append, List.length_cons, List.length_nil] at hfew
  have HFEW := Lib.hid hfew
  clear h hM hfew
  go_enter Try.func52, Try.ntmps52
  go_wp2_with fail
  have HD0 := Lib.hid (HH.out.fr0 (Fr.refl (fun _ => False) w).drew)
  have k00 := HD0.out.c01
  go_region_held3 (fun V => V.cell? ⟨r, 0, none⟩ = some (.pointer (some ⟨p, 0, none⟩)) ∧ V.cell? ⟨r, 1, none⟩ = some (.int .i64 1)) (first | exact k00 | exact jj2 | exact jj1) (first | (go_at_call 75; refine (pop_r _ _ HD0.out).mono ?_; rintro e v1 ⟨rfl, lu1, h1, o1, t1⟩; have HB1 := Lib.hid h1; have HU1 := Lib.hid t1; have jj1 := h1.c01; clear h1 o1 t1) | (go_at_call 74; refine (Patch_r _ _ _ HB1.out.pl).mono ?_; rintro e v2 ⟨rfl, hp2, f2⟩; have hq2 := HB1.out.patched hp2 f2; have HB2 := Lib.hid hq2.1; have HU2 := Lib.hid (((Turn.of0 (Fr.refl (fun _ => False) w).drew).trans HU1.out).trans hq2.2); have jj2 := hq2.1.c01; clear hp2 f2 hq2))
  clear k00 jj1 jj2
  go_wp2_with fail
  refine bodyPost_end (results_none rfl _ _ _) rfl ?_
  exact ⟨⟨_, rfl⟩, _, _, _, HB2.out, rfl, patchT_len _ _ _, (fun y hy => Nat.le_succ_of_le (HM.out y (List.mem_append_left _ hy))), HU2.out⟩
set_option maxRecDepth 100000 in
set_option maxHeartbeats 8000000 in
theorem turn_7 (at_ : Int) (x : RT) (M : Nat) (w : World) (h : RF w B r p (xs ++ [x]) lv ts q cap tv) (hM : ∀ z ∈ xs ++ [x], z.to_.length ≤ M) : Calls Try.prog 52 #[.pointer (some ⟨r, 0, none⟩), .int .i64 7, .int .i64 at_] w fun e w' => (∃ v, e = .returned v) ∧ TurnR w B r p (xs ++ [x]) lv ts q cap tv M (xs.map RT.kind) w' := by
  obtain ⟨Ax, mx, cx, hx⟩ := h.shape (x := x) (by simp)
  obtain ⟨kx, px, tx, vx⟩ := x
  dsimp only at hx
  subst hx
  have hfdx := fun W => fieldAt kx px Ax mx cx W
  have HH := Lib.hid h
  have HM := Lib.hid hM
  obtain ⟨c0, c1⟩ := h.c01
  have hfew := h.few
  try simp only [List.length_append, List.length_cons, List.length_nil] at hfew
  have HFEW := Lib.hid hfew
  clear h hM hfew
  go_enter Try.func52, Try.ntmps52
  go_wp2_with fail
  have HD0 := Lib.hid (HH.out.fr0 (Fr.refl (fun _ => False) w).drew)
  have k00 := HD0.out.c01
  go_region_held3 (fun V => V.cell? ⟨r, 0, none⟩ = some (.pointer (some ⟨p, 0, none⟩)) ∧ V.cell? ⟨r, 1, none⟩ = some (.int .i64 1)) (first | exact k00 | exact jj2 | exact jj1) (first | (go_at_call 75; refine (pop_r _ _ HD0.out).mono ?_; rintro e v1 ⟨rfl, lu1, h1, o1, t1⟩; have HB1 := Lib.hid h1; have HU1 := Lib.hid t1; have jj1 := h1.c01; clear h1 o1 t1) | (go_at_call 74; refine (Patch_r _ _ _ HB1.out.pl).mono ?_; rintro e v2 ⟨rfl, hp2, f2⟩; have hq2 := HB1.out.patched hp2 f2; have HB2 := Lib.hid hq2.1; have HU2 := Lib.hid (((Turn.of0 (Fr.refl (fun _ => False) w).drew).trans HU1.out).trans hq2.2); have jj2 := hq2.1.c01; clear hp2 f2 hq2))
  clear k00 jj1 jj2
  go_wp2_with fail
  refine bodyPost_end (results_none rfl _ _ _) rfl ?_
  exact ⟨⟨_, rfl⟩, _, _, _, HB2.out, rfl, patchT_len _ _ _, (fun y hy => Nat.le_succ_of_le (HM.out y (List.mem_append_left _ hy))), HU2.out⟩
set_option maxRecDepth 100000 in
set_option maxHeartbeats 8000000 in
theorem turn_9 (at_ : Int) (x y : RT) (M : Nat) (w : World) (h : RF w B r p ((xs ++ [x]) ++ [y]) lv ts q cap tv) (hM : ∀ z ∈ (xs ++ [x]) ++ [y], z.to_.length ≤ M) : Calls Try.prog 52 #[.pointer (some ⟨r, 0, none⟩), .int .i64 9, .int .i64 at_] w fun e w' => (∃ v, e = .returned v) ∧ TurnR w B r p ((xs ++ [x]) ++ [y]) lv ts q cap tv M (xs.map RT.kind) w' := by
  obtain ⟨Ax, mx, cx, hx⟩ := h.shape (x := x) (by simp)
  obtain ⟨kx, px, tx, vx⟩ := x
  dsimp only at hx
  subst hx
  have hfdx := fun W => fieldAt kx px Ax mx cx W
  obtain ⟨Ay, my, cy, hy⟩ := h.shape (x := y) (by simp)
  obtain ⟨ky, py, ty, vy⟩ := y
  dsimp only at hy
  subst hy
  have hfdy := fun W => fieldAt ky py Ay my cy W
  have HH := Lib.hid h
  have HM := Lib.hid hM
  obtain ⟨c0, c1⟩ := h.c01
  have hfew := h.few
  try simp only [List.length_append, List.length_cons, List.length_nil] at hfew
  have HFEW := Lib.hid hfew
  clear h hM hfew
  go_enter Try.func52, Try.ntmps52
  go_wp2_with fail
  have HD0 := Lib.hid (HH.out.fr0 (Fr.refl (fun _ => False) w).drew)
  have k00 := HD0.out.c01
  go_region_held3 (fun V => V.cell? ⟨r, 0, none⟩ = some (.pointer (some ⟨p, 0, none⟩)) ∧ V.cell? ⟨r, 1, none⟩ = some (.int .i64 1)) (first | exact k00 | exact jj2 | exact jj1) (first | (go_at_call 75; refine (pop_r _ _ HD0.out).mono ?_; rintro e v1 ⟨rfl, lu1, h1, o1, t1⟩; have HB1 := Lib.hid h1; have HU1 := Lib.hid t1; have jj1 := h1.c01; clear h1 o1 t1) | (go_at_call 74; refine (Patch_r _ _ _ HB1.out.pl).mono ?_; rintro e v2 ⟨rfl, hp2, f2⟩; have hq2 := HB1.out.patched hp2 f2; have HB2 := Lib.hid hq2.1; have HU2 := Lib.hid (((Turn.of0 (Fr.refl (fun _ => False) w).drew).trans HU1.out).trans hq2.2); have jj2 := hq2.1.c01; clear hp2 f2 hq2))
  clear k00 jj1 jj2
  clear HD0
  go_wp2_with fail
  have HD0 := Lib.hid (HB2.out.fr0 (Fr.refl (fun _ => False) v2).drew)
  have k00 := HD0.out.c01
  go_region_held3 (fun V => V.cell? ⟨r, 0, none⟩ = some (.pointer (some ⟨p, 0, none⟩)) ∧ V.cell? ⟨r, 1, none⟩ = some (.int .i64 1)) (first | exact k00 | exact kk3 | exact kk2 | exact kk1) (first | (go_at_call 75; refine (pop_r _ _ HD0.out).mono ?_; rintro e w1 ⟨rfl, lv1, h1, o1, t1⟩; have HA1 := Lib.hid h1; have HT1 := Lib.hid t1; have kk1 := h1.c01; clear h1 o1 t1) | (go_at_call 76; refine (here_r _ HA1.out).mono ?_; rintro e w2 ⟨rfl, f2⟩; have HA2 := Lib.hid (HA1.out.fr0 f2); have HT2 := Lib.hid (HT1.out.trans (Turn.of0 f2)); have kk2 := HA2.out.c01; clear f2) | (go_at_call 76; refine (here_r _ HD0.out).mono ?_; rintro e w1 ⟨rfl, f1⟩; have HC1 := Lib.hid (HD0.out.fr0 f1); have HF1 := Lib.hid f1; have kk1 := HC1.out.c01; clear f1) | (go_at_call 75; refine (pop_r _ _ HC1.out).mono ?_; rintro e w2 ⟨rfl, lv1, h2, o2, t2⟩; have HA2 := Lib.hid h2; have HT2 := Lib.hid ((Turn.of0 HF1.out).trans t2); have kk2 := h2.c01; clear h2 o2 t2) | (go_at_call 74; refine (Patch_r _ _ _ HA2.out.pl).mono ?_; rintro e w3 ⟨rfl, hp3, f3⟩; have hq3 := HA2.out.patched hp3 f3; have HP3 := Lib.hid hq3.1; have HT3 := Lib.hid (((Turn.of0 (Fr.refl (fun _ => False) v2).drew).trans HT2.out).trans hq3.2); have kk3 := hq3.1.c01; clear hp3 f3 hq3))
  all_goals
    go_wp2_with fail
    refine bodyPost_end (results_none rfl _ _ _) rfl ?_
    exact ⟨⟨_, rfl⟩, _, _, _, HP3.out, rfl, by rw [patchT_len, patchT_len], (fun z hz => Nat.le_succ_of_le (HM.out z (List.mem_append_left _ (List.mem_append_left _ hz)))), HU2.out.trans HT3.out⟩
set_option maxRecDepth 100000 in
set_option maxHeartbeats 8000000 in
theorem turn_16 (at_ : Int) (M : Nat) (w : World) (h : RF w B r p (xs) lv ts q cap tv) (hn : xs.length < 64) (hM : ∀ z ∈ xs, z.to_.length ≤ M) : Calls Try.prog 52 #[.pointer (some ⟨r, 0, none⟩), .int .i64 16, .int .i64 at_] w fun e w' => (∃ v, e = .returned v) ∧ TurnR w B r p (xs) lv ts q cap tv M (xs.map RT.kind ++ [5]) w' := by
  have HH := Lib.hid h
  have HM := Lib.hid hM
  obtain ⟨c0, c1⟩ := h.c01
  have hfew := h.few
  try simp only [List.length_append, List.length_cons, List.length_nil] at hfew
  have HFEW := Lib.hid hfew
  clear h hM hfew
  go_enter Try.func52, Try.ntmps52
  go_wp2_with (go_at_call 72; refine (push_r ⟨5, at_, [], .slice none 0 0⟩ _ HH.out (HH.out.plain _ rfl rfl).1 (HH.out.plain _ rfl rfl).2 hn).mono ?_; rintro e w4 ⟨⟨v, rfl⟩, lv4, hq, fq, lq⟩; have HQ4 := Lib.hid hq; have HT4 := Lib.hid (RF.pushed (r := r) (p := p) (q := q) (tv := tv) (xs := xs) (x := ⟨5, at_, [], .slice none 0 0⟩) fq lq (fun k hk => by cases hk)); clear hq fq lq)
  refine bodyPost_end (results_none rfl _ _ _) rfl ?_
  refine ⟨⟨_, rfl⟩, _, _, _, HQ4.out, by simp, rfl, fun y hy => ?_, HT4.out⟩
  rcases List.mem_append.1 hy with hy | hy
  · exact Nat.le_succ_of_le (HM.out y hy)
  · rw [List.mem_singleton.1 hy]; simp
set_option maxRecDepth 100000 in
set_option maxHeartbeats 8000000 in
theorem turn_8 (at_ : Int) (x : RT) (M : Nat) (w : World) (h : RF w B r p (xs ++ [x]) lv ts q cap tv) (hn : (xs ++ [x]).length < 64) (hM : ∀ z ∈ xs ++ [x], z.to_.length ≤ M) : Calls Try.prog 52 #[.pointer (some ⟨r, 0, none⟩), .int .i64 8, .int .i64 at_] w fun e w' => (∃ v, e = .returned v) ∧ TurnR w B r p (xs ++ [x]) lv ts q cap tv M (xs.map RT.kind ++ [1, x.kind]) w' := by
  have HH := Lib.hid h
  have HM := Lib.hid hM
  have hn2 : xs.length < 63 := by simp at hn; omega
  have HAP := Lib.hid h.last_apart
  obtain ⟨AJ, mj, cj, hj⟩ : ∃ AJ mj cj, x.tv = .slice AJ mj cj := by
    obtain ⟨_, A, c, e, _⟩ := own_src (h.js x (by simp)).1
    exact ⟨A, _, c, e⟩
  have HL := Lib.hid (h.js x (by simp)).2
  obtain ⟨xk, xp, xt, xv⟩ := x
  dsimp only at hj HL HAP ⊢
  subst hj
  clear h hM hn
  go_enter Try.func52, Try.ntmps52
  go_wp2_with fail
  go_at_call 75
  refine (pop_r _ _ HH.out).mono ?_
  rintro e w1 ⟨rfl, lv1, h1, o1, t1⟩
  have HA1 := Lib.hid h1
  have HT1 := Lib.hid t1
  have hf1 := (Fr.refl (fun _ => False) w1).alloc (.cells #[.int .i64 xk, .int .i64 xp, .slice AJ mj cj] 89)
  have HB1 := Lib.hid (Blk.new w1 89 #[.int .i64 xk, .int .i64 xp, .slice AJ mj cj])
  have HF1 := Lib.hid hf1
  have HA2 := Lib.hid (h1.fr0 hf1)
  have HO2 := Lib.hid (own_fr o1 hf1 (fun _ _ h => h))
  clear h1 o1 t1 hf1
  go_wp2_with fail
  go_at_call 72
  refine (push_r ⟨1, at_, [], .slice none 0 0⟩ _ HA2.out (HA2.out.plain _ rfl rfl).1 (HA2.out.plain _ rfl rfl).2 (by omega)).mono ?_
  rintro e w3 ⟨⟨v, rfl⟩, lv3, hq, fq, lq⟩
  have HQ3 := Lib.hid hq
  have HT3 := Lib.hid (RF.pushed (r := r) (p := p) (q := q) (tv := tv) (xs := xs) (x := ⟨1, at_, [], .slice none 0 0⟩) fq lq (fun k hk => by cases hk))
  have HB3 := Lib.hid (HB1.out.fr fq (fun e => by
    rcases e with e | e
    · exact Blk.ne_ HB1.out HA2.out.fo (by decide) e
    · have := (own_lo HA1.out.ls _ e).2
      omega))
  have HO3 := Lib.hid (own_fr HO2.out fq (fun k hk e => by
    obtain ⟨cs, hb⟩ := own_blk HO2.out hk
    rcases e with e | e
    · exact Blk.ne_ hb HA2.out.fo (by decide) e
    · obtain ⟨cs', hb'⟩ := own_blk HA2.out.ls e
      exact Blk.ne_ hb hb' (by decide) rfl))
  have z0 := HB3.out.cell 0
  have z1 := HB3.out.cell 1
  have z2 := HB3.out.cell 2
  clear hq fq lq
  go_wp2_with fail
  go_at_call 72
  refine (push_r ⟨xk, xp, xt, .slice AJ mj cj⟩ _ HQ3.out ⟨HO3.out, HL.out⟩ (fun y k hy h1 h2 => by
    rcases List.mem_append.1 hy with hy | hy
    · exact HAP.out y k hy h1 h2
    · rw [List.mem_singleton.1 hy] at h1
      cases h1) (by simp; omega)).mono ?_
  rintro e w4 ⟨⟨v, rfl⟩, lv4, hq, fq, lq⟩
  have HQ4 := Lib.hid hq
  have HF4 := Lib.hid fq
  have HL4 := Lib.hid lq
  clear hq fq lq
  go_wp2_with fail
  refine bodyPost_end (results_none rfl _ _ _) rfl ?_
  have hT13 := (HT1.out.trans (Turn.of0 HF1.out)).trans HT3.out
  have hmem : ∀ k, (Value.slice AJ mj cj).ownBlock = some k → RFIn r p q tv lv (xs ++ [⟨xk, xp, xt, .slice AJ mj cj⟩]) k := fun k hk => .inr (.inr (.inr ⟨⟨xk, xp, xt, .slice AJ mj cj⟩, by simp, hk⟩))
  refine ⟨⟨_, rfl⟩, _, _, _, HQ4.out, by simp, rfl, fun y hy => ?_, ?_, fun k hk => ?_⟩
  · rcases List.mem_append.1 hy with hy | hy
    · rcases List.mem_append.1 hy with hy | hy
      · exact Nat.le_succ_of_le (HM.out y (List.mem_append_left _ hy))
      · rw [List.mem_singleton.1 hy]; simp
    · rw [List.mem_singleton.1 hy]
      exact Nat.le_succ_of_le (HM.out _ (List.mem_append_right _ List.mem_cons_self))
  · refine hT13.1.then HF4.out (fun k hk he => ?_)
    have hin : RFIn r p q tv lv3 (xs ++ [⟨1, at_, [], .slice none 0 0⟩]) k := he.elim (fun e => .inr (.inl e)) (fun e => .inr (.inr (.inl e)))
    rcases hT13.2 k hin with h | h
    · exact h
    · omega
  · rcases hk with h | h | h | ⟨y, hy, h⟩
    · exact hT13.2 k (.inl h)
    · exact hT13.2 k (.inr (.inl h))
    · rcases HL4.out k h with h | h
      · exact hT13.2 k (.inr (.inr (.inl h)))
      · exact .inr (Nat.le_trans hT13.1.size h)
    · rcases List.mem_append.1 hy with hy | hy
      · exact hT13.2 k (.inr (.inr (.inr ⟨y, hy, h⟩)))
      · rw [List.mem_singleton.1 hy] at h
        exact .inl (hmem k h)
end
end Go.Proofs.Ytoldegajbonliaa
