/- Flow: a definition begun on both sides. -/
import Derived.Test.YtoldegajbonliaaFdoes
namespace Go.Proofs.Ytoldegajbonliaa
open Go Go.RowKit
set_option linter.unusedVariables false
attribute [local go_sem] Oper.semAt_some

section
variable {w w' : World} {B x p f q r : Nat}
theorem apart_of {g scap q1 cap1 q2 cap2 : Nat} {tv1 tv2 lv : Value} {ts us : List Tk} {st : List Th} {xs : List RT} (h : Fl w B f p st g scap ts q1 cap1 tv1) (h' : RF w B r q xs lv us q2 cap2 tv2) (hap : ∀ k, PlIn p q1 tv1 k → ¬ PlIn q q2 tv2 k) (hj : ∀ a ∈ st, ∀ b ∈ xs, ∀ k, a.jv.ownBlock = some k → b.tv.ownBlock ≠ some k) : ∀ k, FlIn f p q1 tv1 g st k → ¬ RFIn r q q2 tv2 lv xs k := fun k hk hr => by
  obtain ⟨cs, hg, _⟩ := h.sk
  rcases hr with hr | rfl | hr | ⟨b, hb, hr⟩
  · rcases hk with hk | rfl | rfl | ⟨a, ha, hk⟩
    · exact hap k hk hr
    · exact h'.pl.no h.fo (by decide) (by decide) (by decide) hr
    · exact h'.pl.no hg (by decide) (by decide) (by decide) hr
    · obtain ⟨_, cs', hb⟩ := (h.js a ha).2 k hk
      exact h'.pl.no hb (by decide) (by decide) (by decide) hr
  · exact h.no h'.fo (by decide) (by decide) (by decide) (by decide) (by decide) (by decide) hk
  · obtain ⟨cs', hb'⟩ := own_blk h'.ls hr
    exact h.no hb' (by decide) (by decide) (by decide) (by decide) (by decide) (by decide) hk
  · obtain ⟨cs', hb'⟩ := own_blk (h'.js b hb).1 hr
    rcases hk with hk | rfl | rfl | ⟨a, ha, hk⟩
    · exact h.pl.no hb' (by decide) (by decide) (by decide) hk
    · exact Blk.ne_ hb' h.fo (by decide) rfl
    · exact Blk.ne_ hb' hg (by decide) rfl
    · exact hj a ha b hb k hk hr
set_option maxRecDepth 100000 in
set_option maxHeartbeats 8000000 in
theorem does_5 (w : World) (hx : Blk w x 31 #[.pointer (some ⟨p, 0, none⟩), .pointer (some ⟨f, 0, none⟩), .pointer (some ⟨q, 0, none⟩), .pointer (some ⟨r, 0, none⟩)]) (hp : Blk w p PP #[.slice none 0 0, .int .i64 0]) (hf : Blk w f 67 #[.pointer (some ⟨p, 0, none⟩), .int .i64 0, .slice none 0 0]) (hq : Blk w q RP #[.slice none 0 0, .int .i64 0]) (hr : Blk w r 50 #[.pointer (some ⟨q, 0, none⟩), .int .i64 0, .slice none 0 0])
    (hB : B ≤ x ∧ B ≤ p ∧ B ≤ f ∧ B ≤ q ∧ B ≤ r) :
    Calls Try.prog 20 #[.pointer (some ⟨x, 0, none⟩), .agg #[.int .i64 5, .int .i64 0]] w fun e w' => e = .returned (.bool true) ∧ ∃ S R, Bo w' x p f q r (FlS B f p [6] []) (RFS B r q [6] []) S R ∧ Fr (fun k => B ≤ k) w w' := by
  obtain ⟨hBx, hBp, hBf, hBq, hBr⟩ := hB
  have hBw : B ≤ w.heap.size := Nat.le_of_lt (Nat.lt_of_le_of_lt hBx hx.lt)
  have ha := (Fr.refl (fun _ => False) w).alloc (.cells #[.int .i64 5, .int .i64 0] 47)
  have hbs := Blk.new w 47 #[.int .i64 5, .int .i64 0]
  have HA := Lib.hid (ha.of0 (S := fun k => B ≤ k))
  have hx1 := hx.fr0 ha
  have hp1 := hp.fr0 ha
  have hf1 := hf.fr0 ha
  have hq1 := hq.fr0 ha
  have hr1 := hr.fr0 ha
  have hB1 : B ≤ (w.alloc (.cells #[.int .i64 5, .int .i64 0] 47)).heap.size := Nat.le_trans hBw ha.size
  have s0 := hbs.cell 0
  have x0 := hx1.cell 0
  clear hx hp hf hq hr ha hbs
  go_enter Try.func20, Try.ntmps20
  go_wp2_with fail
  obtain ⟨W, hW⟩ : ∃ W, w.alloc (.cells #[.int .i64 5, .int .i64 0] 47) = W := ⟨_, rfl⟩
  obtain ⟨b, hb⟩ : ∃ b, w.heap.size = b := ⟨_, rfl⟩
  rw [hW] at HA hx1 hp1 hf1 hq1 hr1 s0 x0 hB1 ⊢
  rw [hb] at s0 ⊢
  clear hW hb
  go_at_call 9
  refine (Open_p (B := B) _ hp1 ⟨hBp, hB1⟩).mono ?_
  rintro e w1 ⟨rfl, q1, cap1, hpl, f1, hl1⟩
  have hx2 := hx1.fr f1 (fun e => Blk.ne_ hx1 hp1 (by decide) e)
  have hf2 := hf1.fr f1 (fun e => Blk.ne_ hf1 hp1 (by decide) e)
  have hq2 := hq1.fr f1 (fun e => Blk.ne_ hq1 hp1 (by decide) e)
  have hr2 := hr1.fr f1 (fun e => Blk.ne_ hr1 hp1 (by decide) e)
  have x2 := hx2.cell 2
  clear x0
  go_wp2_with fail
  go_at_call 40
  refine (Open_r (B := B) _ hq2 ⟨hBq, Nat.le_trans hB1 f1.size⟩).mono ?_
  rintro e w2 ⟨rfl, q2, cap2, hrl, f2, hl2⟩
  have hx3 := hx2.fr f2 (fun e => Blk.ne_ hx2 hq2 (by decide) e)
  have hf3 := hf2.fr f2 (fun e => Blk.ne_ hf2 hq2 (by decide) e)
  have hr3 := hr2.fr f2 (fun e => Blk.ne_ hr2 hq2 (by decide) e)
  have hpl3 := hpl.fr f2 (fun k hk he => hpl.no hq2 (by decide) (by decide) (by decide) (he ▸ hk))
  have hap : ∀ k, PlIn p q1 (.slice none 0 0) k → ¬ PlIn q q2 (.slice none 0 0) k := fun k hk hr => by
    rcases hr with rfl | rfl | h
    · exact hpl.no hq2 (by decide) (by decide) (by decide) hk
    · have := (hpl.in_lo hk).2
      omega
    · cases h
  have x1 := hx3.cell 1
  have x3 := hx3.cell 3
  have HAP := Lib.hid hap
  clear x2 hap hx1 hx2
  go_wp2_with fail
  have HST := Lib.hid (And.intro hf3 (And.intro hr3 (And.intro hpl3 (And.intro hrl hx3))))
  have HFF := Lib.hid ((HA.out.then f1 (fun k _ hk => by rw [hk]; exact hBp)).then f2 (fun k _ hk => by rw [hk]; exact hBq))
  clear hf1 hf2 hf3 hr1 hr2 hr3 hpl hpl3 hrl hq1 hq2 hp1 f1 f2 s0
  go_region_held3 (fun V => V.cell? ⟨x, 1, none⟩ = some (.pointer (some ⟨f, 0, none⟩)) ∧ V.cell? ⟨x, 3, none⟩ = some (.pointer (some ⟨r, 0, none⟩))) (first | exact ⟨x1, x3⟩ | exact kk2 | exact kk1) (first | (go_at_call 10; refine (Start_f _ HST.out.1.drew (HST.out.2.2.1.fr (Fr.refl (fun _ => False) w2).drew (fun _ _ h => h)) hBf).mono ?_; rintro e w3 ⟨rfl, g, a1, t1, l1⟩; have HA1 := Lib.hid a1; have HT1 := Lib.hid t1; have HX1 := Lib.hid (HST.out.2.2.2.2.drew.fr t1 (fun e => Blk.ne_ HST.out.2.2.2.2 HST.out.1 (by decide) e)); have HR1 := Lib.hid (HST.out.2.1.drew.fr t1 (fun e => Blk.ne_ HST.out.2.1 HST.out.1 (by decide) e)); have HP1 := Lib.hid ((HST.out.2.2.2.1.fr (Fr.refl (fun _ => False) w2).drew (fun _ _ h => h)).fr t1 (fun k hk he => HST.out.2.2.2.1.no HST.out.1 (by decide) (by decide) (by decide) (he ▸ hk))); have kk1 := (And.intro (HX1.out.cell 1) (HX1.out.cell 3))) | (go_at_call 41; refine (Start_r _ HR1.out HP1.out hBr).mono ?_; rintro e w4 ⟨rfl, lv, c2, t2, l2⟩; have HC2 := Lib.hid c2; have HA2 := Lib.hid (HA1.out.fr t2 (fun k hk he => HA1.out.no HR1.out (by decide) (by decide) (by decide) (by decide) (by decide) (by decide) (he ▸ hk))); have HX2 := Lib.hid (HX1.out.fr t2 (fun e => Blk.ne_ HX1.out HR1.out (by decide) e)); have HT2 := Lib.hid ((HFF.out.drew.then HT1.out (fun k _ hk => by rw [hk]; exact hBf)).then t2 (fun k _ hk => by rw [hk]; exact hBr)); have kk2 := (And.intro (HX2.out.cell 1) (HX2.out.cell 3))) | (go_at_call 41; refine (Start_r _ HST.out.2.1.drew (HST.out.2.2.2.1.fr (Fr.refl (fun _ => False) w2).drew (fun _ _ h => h)) hBr).mono ?_; rintro e w3 ⟨rfl, lv, c1, t1, l1⟩; have HC1 := Lib.hid c1; have HT1 := Lib.hid t1; have HX1 := Lib.hid (HST.out.2.2.2.2.drew.fr t1 (fun e => Blk.ne_ HST.out.2.2.2.2 HST.out.2.1 (by decide) e)); have HF1 := Lib.hid (HST.out.1.drew.fr t1 (fun e => Blk.ne_ HST.out.1 HST.out.2.1 (by decide) e)); have HP1 := Lib.hid ((HST.out.2.2.1.fr (Fr.refl (fun _ => False) w2).drew (fun _ _ h => h)).fr t1 (fun k hk he => HST.out.2.2.1.no HST.out.2.1 (by decide) (by decide) (by decide) (he ▸ hk))); have kk1 := (And.intro (HX1.out.cell 1) (HX1.out.cell 3))) | (go_at_call 10; refine (Start_f _ HF1.out HP1.out hBf).mono ?_; rintro e w4 ⟨rfl, g, a2, t2, l2⟩; have HA2 := Lib.hid a2; have HC2 := Lib.hid (HC1.out.fr t2 (fun k hk he => HC1.out.no HF1.out (by decide) (by decide) (by decide) (by decide) (by decide) (by decide) (he ▸ hk))); have HX2 := Lib.hid (HX1.out.fr t2 (fun e => Blk.ne_ HX1.out HF1.out (by decide) e)); have HT2 := Lib.hid ((HFF.out.drew.then HT1.out (fun k _ hk => by rw [hk]; exact hBr)).then t2 (fun k _ hk => by rw [hk]; exact hBf)); have kk2 := (And.intro (HX2.out.cell 1) (HX2.out.cell 3))))
  all_goals
    go_wp2_with fail
    go_ret
    exact ⟨rfl, _, _, ⟨HX2.out, ⟨_, _, _, _, _, _, HA2.out, rfl, rfl⟩, ⟨_, _, _, _, _, HC2.out, rfl, rfl⟩, apart_of HA2.out HC2.out HAP.out (fun a ha b hb k h1 h2 => by
      obtain rfl : a = colonT := by simpa using ha
      cases h1)⟩, HT2.out⟩
end
end Go.Proofs.Ytoldegajbonliaa
