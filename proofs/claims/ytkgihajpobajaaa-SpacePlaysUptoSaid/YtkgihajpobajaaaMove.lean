/- The program's data space: both, Move, Up, Down. -/
import Derived.Test.YtkgihajpobajaaaCopy
namespace Go.Proofs.Ytkgihajpobajaaa
open Go Go.RowKit

section
variable {p g : Nat} {bs : List Int} {dict here : Int}
/-- What a move throws. -/
def bothT (L : Nat) (f t n : Int) : Int := if reachT L f n 0 = 0 then putT L t n else reachT L f n 0
/-- The bytes that it reads; that it writes. -/
def bothF (g L : Nat) (f _t n : Int) : Value := if reachT L f n 0 = 0 then reachV g L f n 0 else .slice none 0 0
def bothV (g L : Nat) (f t n : Int) : Value := if reachT L f n 0 = 0 then reachV g L t n (openT t n) else .slice none 0 0

theorem results_tmp3' {fn : Func} {t u v : Tmp} (h : fn.results = #[.tmp t, .tmp u, .tmp v]) (tmps : Array Value) (P : Program) (w : World) :
    (results fn tmps).run P w = .ok (.tuple #[tmps.getD t undef, tmps.getD u undef, tmps.getD v undef]) w := by simp [results, h]

set_option maxHeartbeats 1000000 in
theorem both_any (f t n : Int) (w : World) (h : Sp w p g bs dict here) (hf : i64 f) (ht : i64 t) (hn : i64 n) :
    Calls Try.prog 37 #[.pointer (some ⟨p, 0, none⟩), .int .i64 f, .int .i64 t, .int .i64 n] w fun e w' => e = .returned (.tuple #[bothF g bs.length f t n, bothV g bs.length f t n, .int .i64 (bothT bs.length f t n)]) ∧ Fr0 w w' := by
  have hc0 := reach0 f n w h hf hn
  have hc1 := reach1 t n w.heap.size (w.alloc (.cells #[.func (.func 34) #[] #[]] 63)) (h.alloc _) ht hn (openRule w)
  unfold bothF bothV bothT putT
  by_cases h0 : reachT bs.length f n 0 = 0
  · rw [if_pos h0, if_pos h0, if_pos h0]
    rw [h0] at hc0
    generalize reachT bs.length t n (openT t n) = T at *
    generalize reachV g bs.length t n (openT t n) = V at *
    generalize reachV g bs.length f n 0 = U at *
    clear h0
    have H0 := Lib.hid hc0
    have H1 := Lib.hid hc1
    clear hc0 hc1
    go_enter Try.func37, Try.ntmps37
    go_wp2_with fail
    refine H0.out.mono ?_
    rintro e w' ⟨rfl, rfl⟩
    go_wp2_with fail
    refine H1.out.mono ?_
    rintro e w' ⟨rfl, rfl⟩
    go_wp2_with fail
    refine bodyPost_ret (results_tmp3' rfl _ _ _) rfl ?_
    exact ⟨rfl, (Fr.refl _ w).alloc _⟩
  · have e1 : reachV g bs.length f n 0 = .slice none 0 0 := reachV_bad h0
    rw [if_neg h0, if_neg h0, if_neg h0]
    rw [e1] at hc0
    have h0' : (reachT bs.length f n 0 != 0) = true := by simpa using h0
    clear h0 e1 hc1
    generalize reachT bs.length f n 0 = T at *
    have H0 := Lib.hid hc0
    clear hc0
    go_enter Try.func37, Try.ntmps37
    go_wp2_with fail
    refine H0.out.mono ?_
    rintro e w' ⟨rfl, rfl⟩
    go_wp2_with fail
    refine bodyPost_ret (results_tmp3' rfl _ _ _) rfl ?_
    exact ⟨rfl, Fr.refl _ w⟩

/-- Where a move is made, all its bytes are there. -/
theorem bothT_zero {L : Nat} {f t n : Int} (h : bothT L f t n = 0) (hn : 1 ≤ n) : 65536 ≤ f ∧ f + n ≤ 65536 + L ∧ 65536 ≤ t ∧ t + n ≤ 65536 + L ∧ openT t n = 0 ∧ reachT L f n 0 = 0 := by
  unfold bothT at h
  split at h
  · rename_i h0
    obtain ⟨k1, k2, _⟩ := reachT_zero h0 hn
    obtain ⟨k3, k4, k5⟩ := reachT_zero h hn
    exact ⟨k1, k2, k3, k4, k5, h0⟩
  · rename_i h0
    exact absurd h h0
theorem both_in {L : Nat} {f t n : Int} (h : bothT L f t n = 0) (hn : 1 ≤ n) : bothF g L f t n = .slice (some ⟨g, (f - 65536).toNat, none⟩) n.toNat n.toNat ∧ bothV g L f t n = .slice (some ⟨g, (t - 65536).toNat, none⟩) n.toNat n.toNat := by
  obtain ⟨k1, k2, k3, k4, k5, k6⟩ := bothT_zero h hn
  unfold bothF bothV
  rw [if_pos k6, if_pos k6, reachV_in ⟨hn, k1, k2⟩ rfl, reachV_in ⟨hn, k3, k4⟩ k5]
  exact ⟨rfl, rfl⟩
theorem reachV_form (L : Nat) (a n r : Int) : ∃ A m c, reachV g L a n r = .slice A m c := by
  unfold reachV
  split
  · exact ⟨_, _, _, rfl⟩
  · exact ⟨_, _, _, rfl⟩
theorem both_out {L : Nat} {f t n : Int} (h : ¬ (bothT L f t n = 0 ∧ 1 ≤ n)) : (∃ A m c, bothF g L f t n = .slice A m c) ∧ bothV g L f t n = .slice none 0 0 := by
  unfold bothF bothV
  unfold bothT at h
  split at h
  · rename_i h0
    rw [if_pos h0, if_pos h0]
    refine ⟨reachV_form _ _ _ _, ?_⟩
    unfold reachV
    rw [if_neg (fun x => h ⟨x.2, by omega⟩)]
  · rename_i h0
    rw [if_neg h0, if_neg h0]
    exact ⟨⟨_, _, _, rfl⟩, rfl⟩

/-- The row behind a move. -/
def moveB (bs : List Int) (f t n : Int) : List Int := if bothT bs.length f t n = 0 then poke bs (t - 65536).toNat ((bs.drop (f - 65536).toNat).take n.toNat) else bs

set_option maxRecDepth 100000 in
set_option maxHeartbeats 2000000 in
theorem Move_any (f t n : Int) (w : World) (h : Sp w p g bs dict here) (hf : i64 f) (ht : i64 t) (hn : i64 n) :
    Calls Try.prog 21 #[.pointer (some ⟨p, 0, none⟩), .int .i64 f, .int .i64 t, .int .i64 n] w fun e w' => e = .returned (.int .i64 (bothT bs.length f t n)) ∧ Fr1 g w w' ∧ Sp w' p g (moveB bs f t n) dict here := by
  have hB := both_any f t n w h hf ht hn
  have hfits : ∀ w1, Fr0 w w1 → CopyFits w1 g (t - 65536).toNat bs.length (bothV g bs.length f t n) (bothF g bs.length f t n) (if bothT bs.length f t n = 0 then (bs.drop (f - 65536).toNat).take n.toNat else []) := fun w1 hw => by
    by_cases h0 : bothT bs.length f t n = 0 ∧ 1 ≤ n
    · obtain ⟨k1, k2, k3, k4, k5, k6⟩ := bothT_zero h0.1 h0.2
      obtain ⟨e1, e2⟩ := both_in (g := g) h0.1 h0.2
      have hlen : ((bs.drop (f - 65536).toNat).take n.toNat).length = n.toNat := by simp; omega
      rw [e1, e2, if_pos h0.1]
      refine .inr ⟨n.toNat, ⟨g, (f - 65536).toNat, none⟩, n.toNat, by rw [hlen], by rw [hlen], by rw [hlen]; omega, fun j x hx => ?_⟩
      rw [List.getElem?_take] at hx
      split at hx
      · rw [List.getElem?_drop] at hx
        have := (h.row.fr0 hw).cell ((f - 65536).toNat + j)
        rw [cells8_at, hx] at this
        unfold Addr.add
        by_cases hj : j = 0
        · simpa [hj] using this
        · simpa [hj] using this
      · cases hx
    · obtain ⟨⟨A, m, c, e1⟩, e2⟩ := both_out (g := g) h0
      refine .inl ⟨e2, ?_, A, m, c, e1⟩
      by_cases h1 : bothT bs.length f t n = 0
      · rw [if_pos h1, show n.toNat = 0 by omega, List.take_zero]
      · rw [if_neg h1]
  have hres : moveB bs f t n = poke bs (t - 65536).toNat (if bothT bs.length f t n = 0 then (bs.drop (f - 65536).toNat).take n.toNat else []) := by
    unfold moveB
    split
    · rfl
    · rw [poke_nil]
  have hpl : (t - 65536).toNat + (if bothT bs.length f t n = 0 then (bs.drop (f - 65536).toNat).take n.toNat else []).length ≤ bs.length ∨ (if bothT bs.length f t n = 0 then (bs.drop (f - 65536).toNat).take n.toNat else []) = [] := by
    by_cases h0 : bothT bs.length f t n = 0 ∧ 1 ≤ n
    · obtain ⟨k1, k2, k3, k4, k5, k6⟩ := bothT_zero h0.1 h0.2
      rw [if_pos h0.1]
      exact .inl (by simp; omega)
    · refine .inr ?_
      by_cases h1 : bothT bs.length f t n = 0
      · rw [if_pos h1, show n.toNat = 0 by omega, List.take_zero]
      · rw [if_neg h1]
  have hbb : Bytes (if bothT bs.length f t n = 0 then (bs.drop (f - 65536).toNat).take n.toNat else []) := by
    split
    · exact (h.byt.drop _).take _
    · intro x hx; cases hx
  rw [hres]
  generalize (if bothT bs.length f t n = 0 then (bs.drop (f - 65536).toNat).take n.toNat else []) = cs at *
  generalize bothT bs.length f t n = T at *
  generalize bothV g bs.length f t n = V at *
  generalize bothF g bs.length f t n = U at *
  have HB := Lib.hid hB
  have Hf := Lib.hid hfits
  clear hB hfits hres
  go_enter Try.func21, Try.ntmps21
  go_wp2_with (first | (go_at_call 37; refine HB.out.mono ?_; rintro e w1 ⟨rfl, hw1⟩) | (refine wpList_copy8 rfl (.tmp 21) (.tmp 22) _ _ rfl _ Try.underlying32 (by kernel_rfl) _ _ rfl rfl g (t - 65536).toNat bs _ (h.row.fr0 hw1) cs (Hf.out w1 hw1) ?_; intro w2 hf2 hs2 hb2))
  go_ret
  have hfw : Fr1 g w w2 := hw1.of0.trans hf2
  refine ⟨rfl, hfw, ?_⟩
  rcases hpl with hpl | rfl
  · exact h.poke _ _ _ hbb hpl (h.obj.fr hfw h.ne) hb2
  · rw [poke_nil] at hb2 ⊢
    exact ⟨h.obj.fr hfw h.ne, hb2, h.byt, h.len⟩
end

end Go.Proofs.Ytkgihajpobajaaa
