/- The program's source: piece, Parse, Skip, Name. -/
import Derived.Test.YtmkpoemjikdoeaaSrcFind
import Derived.Laws.EntriesVeiled
namespace Go.Proofs.Ytmkpoemjikdoeaa
open Go Go.RowKit
set_option linter.unusedVariables false

/-- What stands behind a piece that ends at t. -/
def nextP (n t : Nat) : Nat := if t < n then t + 1 else t
section
variable {w w' : World} {c p g : Nat} {bs L : List Int} {inn : Nat} {vi : Int}
theorem Src.moved (h : Src w c p g bs L inn vi) (v : Nat) (hv : v ≤ L.length) (hf : Fr1 g w w') (hs : Sp w' p g (sysB bs 65552 (v : Int)) 4096 77824) : Src w' c p g (poke bs 16 (leB v 8)) L v vi := by
  have hn := h.nle
  rw [sys_toIn bs h.len] at hs
  refine ⟨hs, by rw [poke_length _ _ _ (by rw [leB_length, h.len]; omega)]; exact h.len, h.obj.fr hf h.apart.2, ?_, hn, get_toIn bs h.len v (by omega) (by omega), hv⟩
  rw [line_sys bs h.len]
  exact h.line

set_option maxHeartbeats 2000000 in
theorem piece_src (i : Nat) (d : Int) (w : World) (h : Src w c p g bs L inn vi) (hi : i ≤ L.length) :
    Calls Try.prog 27 #[.pointer (some ⟨c, 0, none⟩), .int .i64 i, .int .i64 d] w fun e w' =>
      e = .returned (.tuple #[.int .i64 (65792 + (i : Int)), .int .i64 ((findP (isD (d % 256)) L i : Int) - i)]) ∧ Fr1 g w w' ∧ ∃ bs', Src w' c p g bs' L (nextP L.length (findP (isD (d % 256)) L i)) vi := by
  obtain ⟨f1, f2⟩ := findP_le (isD (d % 256)) L i hi
  have HF := Lib.hid (fun x W (hW : Src W c p g bs L inn vi) (hx : Blk W x 5 #[.int .u8 (IntKind.u8.wrap d)]) => find_del (isD (d % 256)) i x W hW hi (fun W' hW' b => by
    have := delimits1_any (IntKind.u8.wrap d) b x W' (hx.fr0 hW')
    rw [wrap8] at this
    exact this))
  obtain ⟨t, ht⟩ : ∃ t, findP (isD (d % 256)) L i = t := ⟨_, rfl⟩
  rw [ht] at HF f1 f2 ⊢
  have hnx : nextP L.length t ≤ L.length ∧ nextP L.length t = if t < L.length then t + 1 else t := ⟨by unfold nextP; split <;> omega, rfl⟩
  obtain ⟨v, hv⟩ : ∃ v, nextP L.length t = v := ⟨_, rfl⟩
  rw [hv] at hnx ⊢
  have HS := Lib.hid (fun W (hW : Sp W p g bs 4096 77824) => System_any 65552 (v : Int) W hW ⟨by omega, by omega⟩)
  have HH := Lib.hid h
  have HVL := Lib.hid hnx.1
  have hn := h.nle
  have hcl := h.obj.lt
  obtain ⟨h0, _, h2, h3, _⟩ := h.cells
  obtain ⟨_, hvv⟩ := hnx
  have HVV := Lib.hid hvv
  obtain ⟨n, hnn⟩ : ∃ n, L.length = n := ⟨_, rfl⟩
  rw [hnn] at f2 hn h3 HVV
  clear ht hv hvv hnn h
  by_cases htn : t < n
  · have hvt : v = t + 1 := by rw [HVV.out, if_pos htn]
    subst hvt
    have htI : (t : Int) < (n : Int) := by omega
    have eq1 : ((t + 1 : Nat) : Int) = (t : Int) + 1 := by omega
    rw [eq1] at HS
    go_enter Try.func27, Try.ntmps27
    go_wp2_with (first | (go_at_call 33; refine (delimits_any d _).mono ?_; rintro e w' ⟨rfl, rfl⟩) | (go_at_call 34; refine (HF.out _ _ (HH.out.fr0 ((Fr.refl _ w).alloc _)) (Blk.new w _ _)).mono ?_; rintro e w1 ⟨rfl, hf1⟩; have hF1 : Fr0 w w1 := ((Fr.refl _ w).alloc _).trans hf1; have k0 := (hF1.cell (p := ⟨c, 0, none⟩) hcl (fun x => x)).trans h0; have k2 := (hF1.cell (p := ⟨c, 2, none⟩) hcl (fun x => x)).trans h2; have k3 := (hF1.cell (p := ⟨c, 3, none⟩) hcl (fun x => x)).trans h3) | (go_at_call 23; refine (HS.out _ (HH.out.fr0 hF1).sp).mono ?_; rintro e w2 ⟨rfl, hf2, hs2⟩; have q2 := (hf2.cell (p := ⟨c, 2, none⟩) (by have := hF1.size; dsimp only; omega) HH.out.apart.2).trans k2))
    go_ret2
    refine ⟨rfl, hF1.of0.trans hf2, _, (HH.out.fr0 hF1).moved (t + 1) HVL.out hf2 (by rw [eq1]; exact hs2)⟩
  · have hvt : v = t := by rw [HVV.out, if_neg htn]
    subst hvt
    have htI : (n : Int) ≤ (v : Int) := by omega
    go_enter Try.func27, Try.ntmps27
    go_wp2_with (first | (go_at_call 33; refine (delimits_any d _).mono ?_; rintro e w' ⟨rfl, rfl⟩) | (go_at_call 34; refine (HF.out _ _ (HH.out.fr0 ((Fr.refl _ w).alloc _)) (Blk.new w _ _)).mono ?_; rintro e w1 ⟨rfl, hf1⟩; have hF1 : Fr0 w w1 := ((Fr.refl _ w).alloc _).trans hf1; have k0 := (hF1.cell (p := ⟨c, 0, none⟩) hcl (fun x => x)).trans h0; have k2 := (hF1.cell (p := ⟨c, 2, none⟩) hcl (fun x => x)).trans h2; have k3 := (hF1.cell (p := ⟨c, 3, none⟩) hcl (fun x => x)).trans h3) | (go_at_call 23; refine (HS.out _ (HH.out.fr0 hF1).sp).mono ?_; rintro e w2 ⟨rfl, hf2, hs2⟩; have q2 := (hf2.cell (p := ⟨c, 2, none⟩) (by have := hF1.size; dsimp only; omega) HH.out.apart.2).trans k2))
    go_ret2
    refine ⟨rfl, hF1.of0.trans hf2, _, (HH.out.fr0 hF1).moved v HVL.out hf2 hs2⟩

set_option maxHeartbeats 1000000 in
theorem Parse_src (d : Int) (w : World) (h : Src w c p g bs L inn vi) :
    Calls Try.prog 13 #[.pointer (some ⟨c, 0, none⟩), .int .i64 d] w fun e w' =>
      e = .returned (.tuple #[.int .i64 (65792 + (inn : Int)), .int .i64 ((findP (isD (d % 256)) L inn : Int) - inn)]) ∧ Fr1 g w w' ∧ ∃ bs', Src w' c p g bs' L (nextP L.length (findP (isD (d % 256)) L inn)) vi := by
  have HN := Lib.hid (none_src w h)
  have HI := Lib.hid (in_src w h)
  have HP := Lib.hid (fun W (hW : Fr0 w W) => piece_src inn d W (h.fr0 hW) h.le)
  clear h
  generalize nextP L.length (findP (isD (d % 256)) L inn) = nx at *
  generalize findP (isD (d % 256)) L inn = t at *
  go_enter Try.func13, Try.ntmps13
  go_wp2_with (first | (go_at_call 20; refine HN.out.mono ?_; rintro e w' ⟨rfl, rfl⟩) | (go_at_call 28; refine HI.out.mono ?_; rintro e w1 ⟨rfl, hf1⟩) | (go_at_call 27; refine (HP.out _ hf1).mono ?_; rintro e w2 ⟨rfl, hf2, bs', hs2⟩))
  go_ret2
  exact ⟨rfl, hf1.of0.trans hf2, bs', hs2⟩

/-- Where the next word begins; where it ends. -/
def skipP (d : Int) (L : List Int) (i : Nat) : Nat := findP (fun b => !isD d b) L i
def wordP (d : Int) (L : List Int) (i : Nat) : Nat := findP (isD d) L (skipP d L i)

set_option maxHeartbeats 2000000 in
theorem Skip_src (d : Int) (w : World) (h : Src w c p g bs L inn vi) :
    Calls Try.prog 24 #[.pointer (some ⟨c, 0, none⟩), .int .i64 d] w fun e w' =>
      e = .returned (.tuple #[.int .i64 (65792 + (skipP (d % 256) L inn : Int)), .int .i64 ((wordP (d % 256) L inn : Int) - skipP (d % 256) L inn)]) ∧ Fr1 g w w' ∧ ∃ bs', Src w' c p g bs' L (nextP L.length (wordP (d % 256) L inn)) vi := by
  have HN := Lib.hid (none_src w h)
  have hsl := (findP_le (fun b => !isD (d % 256) b) L inn h.le).2
  have HI := Lib.hid (fun W (hW : Fr0 w W) => in_src W (h.fr0 hW))
  have HF := Lib.hid (fun x y W (hW : Fr0 w W) (hx : Blk W x 5 #[.int .u8 (d % 256)]) (hy : Blk W y 77 #[.func (.func 42) #[] #[.pointer (some ⟨x, 0, none⟩)]]) => find_skip (fun b => !isD (d % 256) b) inn y W (h.fr0 hW) h.le (fun W' hW' b => Skip1_any (d % 256) b x y W' (hx.fr0 hW') (hy.fr0 hW')))
  have HP := Lib.hid (fun W (hW : Fr0 w W) => piece_src (skipP (d % 256) L inn) d W (h.fr0 hW) hsl)
  have HW := Lib.hid (show wordP (d % 256) L inn = findP (isD (d % 256)) L (skipP (d % 256) L inn) from rfl)
  rw [← HW.out] at HP
  change Hid (∀ x y W, _ → _ → _ → Calls _ _ _ _ fun e w' => e = .returned (.int .i64 (skipP (d % 256) L inn : Int)) ∧ _) at HF
  clear h HW hsl
  generalize nextP L.length (wordP (d % 256) L inn) = nx at *
  generalize wordP (d % 256) L inn = t at *
  generalize skipP (d % 256) L inn = s at *
  have hX : Blk ((w.alloc (.cells #[.int .u8 (d % 256)] 5)).alloc (.cells #[.func (.func 42) #[] #[.pointer (some ⟨w.heap.size, 0, none⟩)]] 77)) w.heap.size 5 #[.int .u8 (d % 256)] := (Blk.new w _ _).alloc _
  have hY : Blk ((w.alloc (.cells #[.int .u8 (d % 256)] 5)).alloc (.cells #[.func (.func 42) #[] #[.pointer (some ⟨w.heap.size, 0, none⟩)]] 77)) (w.heap.size + 1) 77 #[.func (.func 42) #[] #[.pointer (some ⟨w.heap.size, 0, none⟩)]] := by
    have := Blk.new (w.alloc (.cells #[.int .u8 (d % 256)] 5)) 77 #[.func (.func 42) #[] #[.pointer (some ⟨w.heap.size, 0, none⟩)]]
    simpa using this
  have HX := Lib.hid hX
  have HY := Lib.hid hY
  clear hX hY
  go_enter Try.func24, Try.ntmps24
  go_wp2_with (first | (go_at_call 20; refine HN.out.mono ?_; rintro e w' ⟨rfl, rfl⟩) | (go_at_call 33; refine (delimits_any d _).mono ?_; rintro e w' ⟨rfl, rfl⟩) | (go_at_call 28; refine (HI.out _ (((Fr.refl _ w).alloc _).alloc _)).mono ?_; rintro e w1 ⟨rfl, hf1⟩; have HF1 := Lib.hid (((Fr.refl (fun _ => False) w).alloc _).alloc _ |>.trans hf1); have HX1 := Lib.hid (HX.out.fr0 hf1); have HY1 := Lib.hid (HY.out.fr0 hf1); clear hf1) | (go_at_call 34; refine (HF.out _ _ _ HF1.out HX1.out HY1.out).mono ?_; rintro e w2 ⟨rfl, hf2⟩; have HF2 := Lib.hid (HF1.out.trans hf2); clear hf2) | (go_at_call 27; refine (HP.out _ HF2.out).mono ?_; rintro e w3 ⟨rfl, hf3, bs', hs3⟩))
  go_ret2
  exact ⟨rfl, HF2.out.of0.trans hf3, bs', hs3⟩

set_option maxHeartbeats 1000000 in
theorem Name_src (w : World) (h : Src w c p g bs L inn vi) :
    Calls Try.prog 10 #[.pointer (some ⟨c, 0, none⟩)] w fun e w' =>
      e = .returned (.tuple #[.int .i64 (65792 + (skipP 32 L inn : Int)), .int .i64 ((wordP 32 L inn : Int) - skipP 32 L inn)]) ∧ Fr1 g w w' ∧ ∃ bs', Src w' c p g bs' L (nextP L.length (wordP 32 L inn)) vi := by
  have hS := Skip_src 32 w h
  rw [show (32 : Int) % 256 = 32 from rfl] at hS
  have HS := Lib.hid hS
  clear h hS
  generalize nextP L.length (wordP 32 L inn) = nx at *
  generalize wordP 32 L inn = t at *
  generalize skipP 32 L inn = s at *
  go_enter Try.func10, Try.ntmps10
  go_wp2_with (go_at_call 24; refine HS.out.mono ?_; rintro e w1 ⟨rfl, hf1, bs', hs1⟩)
  go_ret2
  exact ⟨rfl, hf1, bs', hs1⟩
end
end Go.Proofs.Ytmkpoemjikdoeaa
