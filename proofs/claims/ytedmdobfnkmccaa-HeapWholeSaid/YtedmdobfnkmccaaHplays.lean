/- The walk of HeapPlays. -/
import Derived.Test.YtedmdobfnkmccaaHdoes
namespace Go.Proofs.Ytedmdobfnkmccaa
open Go Go.RowKit

abbrev Stp := Int × Int × Int × Int
/-- A slice of steps that came in: its elements. -/
def RowS (w : World) (B : Nat) (sv : Value) (zs : List Stp) : Prop :=
  ∃ A cap, sv = .slice A zs.length cap ∧ zs.length ≤ cap ∧ cap ≤ 9223372036854775807 ∧ (∀ x ∈ zs, i64b x.1 ∧ i64b x.2.1 ∧ i64b x.2.2.1 ∧ i64b x.2.2.2) ∧
    (0 < zs.length → ∃ b off, A = some ⟨b, off, none⟩ ∧ b < B ∧ ∀ j x, zs[j]? = some x → w.cell? ⟨b, off + j * 4, none⟩ = some (.int .i64 x.1) ∧ w.cell? ⟨b, off + j * 4 + 1, none⟩ = some (.int .i64 x.2.1) ∧ w.cell? ⟨b, off + j * 4 + 2, none⟩ = some (.int .i64 x.2.2.1) ∧ w.cell? ⟨b, off + j * 4 + 3, none⟩ = some (.int .i64 x.2.2.2))

theorem RInv.mono {w : World} {rp base base' : Nat} {sv : Value} {c d : Int} {L : List Bk} (h : RInv w rp base sv c d L) (hb : base' ≤ base) : RInv w rp base' sv c d L :=
  ⟨⟨h.rep.obj, own_mono h.rep.row hb, Nat.le_trans hb h.rep.lo⟩, h.inv, h.c0, h.d0, h.cd, Nat.le_trans hb h.lt⟩

set_option maxHeartbeats 4000000 in
theorem plays_walk (a b : Int) (v : Value) (zs : List Stp) (w : World) (ha : i64b a) (hb : i64b b) (hv : RowS w w.heap.size v zs) :
    Calls Try.prog 3 #[.int .i64 a, .int .i64 b, v] w fun e w' => e = .returned (.bool true) ∧ Fr0 w w' := by
  obtain ⟨A0, cap, rfl, hcap, hmax, hz, hcell⟩ := hv
  obtain ⟨N, hN⟩ : ∃ N, zs.length = N := ⟨_, rfl⟩
  rw [hN] at hcap hcell ⊢
  have HAW := Lib.hid (fun W => awake11 W)
  by_cases hN2 : 200 < N
  · clear hcell hz
    go_enter Try.func3, Try.ntmps3
    go_wp2_with (go_at_call 8; refine (HAW.out _).mono ?_; rintro e w1 ⟨rfl, hf1⟩)
    go_ret
    exact ⟨rfl, hf1⟩
  have hN3 : N ≤ 200 := by omega
  clear hN2
  by_cases hok : newOk a b
  · have H1 := Lib.hid (New_ok a b w hok hb.2)
    have H2 := Lib.hid (fun W => NewR_ok a b W hok hb.2)
    have HZ := Lib.hid hz
    have HC := Lib.hid hcell
    clear hcell hz hok
    simp only [ptr] at H1 H2
    go_enter Try.func3, Try.ntmps3
    go_wp2_with (first | (go_at_call 9; refine H1.out.mono ?_; rintro e w1 ⟨rfl, hf1, L1, h1, e1⟩) | (go_at_call 10; refine (H2.out _).mono ?_; rintro e w2 ⟨rfl, hf2, sv2, h2⟩))
    have s1 : St w2 w.heap.size (w.heap.size + 1) w.heap.size w1.heap.size sv2 a b L1 (.slice none 0 0) [] :=
      ⟨h1.fr0 hf2, by rw [e1]; exact h2.mono hf1.size, World.ownsRow_nil _ _ _ _, by simp⟩
    have hF2 : Fr0 w w2 := hf1.trans hf2
    have HS1 := Lib.hid s1
    have HF2 := Lib.hid hF2
    clear s1 hF2 h1 h2 hf1 hf2 e1
    generalize w1.heap.size = rp at *
    go_loopw [11, 12] (fun lv i wr => ∃ (k : Nat) (sv : Value) (L : List Nd) (l : List Int), k ≤ N ∧ i = .int .i64 k ∧ l.length ≤ k ∧ St wr w.heap.size (w.heap.size + 1) w.heap.size rp sv a b L lv l ∧ Fr0 w wr) (fun _ i _ => N - (intOf i).toNat)
    case atStart => exact ⟨0, sv2, L1, [], by omega, rfl, by simp, HS1.out, HF2.out⟩
    case round =>
      obtain ⟨k, sv, L, l, hk, rfl, hl, hs, hfr⟩ := hrel
      by_cases hlt : k < N
      · obtain ⟨x, hx⟩ : ∃ x, zs[k]? = some x := ⟨zs[k]'(by omega), List.getElem?_eq_getElem (by omega)⟩
        obtain ⟨bb, off, rfl, hbb, hcs⟩ := HC.out (by omega)
        obtain ⟨c0, c1, c2, c3⟩ := hcs k x hx
        have hzx := HZ.out x (List.mem_of_getElem? hx)
        obtain ⟨x1, x2, x3, x4⟩ := x
        dsimp only at c0 c1 c2 c3 hzx
        have d0 := (hfr.cell (p := ⟨bb, off + k * 4, none⟩) hbb (fun x => x)).trans c0
        have d1 := (hfr.cell (p := ⟨bb, off + k * 4 + 1, none⟩) hbb (fun x => x)).trans c1
        have d2 := (hfr.cell (p := ⟨bb, off + k * 4 + 2, none⟩) hbb (fun x => x)).trans c2
        have d3 := (hfr.cell (p := ⟨bb, off + k * 4 + 3, none⟩) hbb (fun x => x)).trans c3
        have HD := Lib.hid (does_any wr hs x1 x2 x3 x4 hzx.2.1 hzx.2.2.1 (by omega) hfr.size)
        simp only [ptr] at HD
        have HFR := Lib.hid hfr
        have hkN : (k : Int) < (N : Int) := by omega
        clear c0 c1 c2 c3 hs hfr hx hzx hcs
        go_wp2_with (go_at_call 11; refine HD.out.mono ?_; rintro e wd ⟨sv', L', lv', l', rfl, hsd, hld, hfd⟩; obtain ⟨A5, cap5, rfl, _⟩ := hsd.r.rep.row.len_)
        have q0 := hsd.r.rep.obj.cell 0
        have hrl := hsd.r.rep.obj.lt
        have HSD := Lib.hid hsd
        have HBL := Lib.hid (fun W (hW : Fr0 wd W) => Blocks_any W (hsd.h.fr0 hW))
        simp only [ptr] at HBL
        have hln := hsd.r.len
        go_region_held3 (fun W => W.cell? ⟨rp, 0, none⟩ = some (.slice A5 (bks L').length cap5)) (first | exact q0 | exact ((hfb.cell (p := ⟨rp, 0, none⟩) hrl (fun x => x)).trans q0) | exact (((hfb.trans hfb2).cell (p := ⟨rp, 0, none⟩) hrl (fun x => x)).trans q0)) (first | (go_at_call 13; refine (HBL.out _ (Fr.refl (fun _ => False) wd).drew).mono ?_; rintro e wb ⟨vb, rfl, hob, hfb'⟩; have hfb : Fr0 wd wb := (Fr.refl (fun _ => False) wd).drew.trans hfb') | (go_at_call 12; refine (blocks_same _ hob (HSD.out.r.fr hfb (fun _ _ x => x)).rep.row (by omega)).mono ?_; rintro e wc ⟨rfl, hfb2⟩))
        go_wp2
        have hFd : Fr0 w wd := HFR.out.then hfd (fun k hk e => by omega)
        have hFc : Fr0 wd wc := hfb.trans hfb2
        exact ⟨⟨k + 1, _, L', l', by omega, by push_cast; rfl, by omega, HSD.out.fr0 hFc, hFd.trans hFc⟩, by simp [intOf]; omega⟩
      · obtain rfl : k = N := by omega
        have HFR := Lib.hid hfr
        clear hs hfr
        go_wp2_with (go_at_call 8; refine (HAW.out _).mono ?_; rintro e w1 ⟨rfl, hf1⟩)
        go_ret
        exact ⟨rfl, HFR.out.trans hf1⟩
  · have H1 := Lib.hid (New_err a b w hok ha hb)
    have H2 := Lib.hid (fun W => NewR_err a b W hok ha hb)
    clear hcell hz hok
    simp only [nil_] at H1 H2
    go_enter Try.func3, Try.ntmps3
    go_wp2_with (first | (go_at_call 9; refine H1.out.mono ?_; rintro e w1 ⟨rfl, rfl⟩) | (go_at_call 10; refine (H2.out _).mono ?_; rintro e w2 ⟨rfl, rfl⟩) | (go_at_call 8; refine (HAW.out _).mono ?_; rintro e w1 ⟨rfl, hf1⟩))
    go_ret
    exact ⟨rfl, hf1⟩
end Go.Proofs.Ytedmdobfnkmccaa
