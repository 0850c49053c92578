/- Flow: what words do: EndCase. -/
import Derived.Test.YtoldegajbonliaaFd4
namespace Go.Proofs.Ytoldegajbonliaa
open Go Go.RowKit
set_option linter.unusedVariables false
attribute [local go_sem] Oper.semAt_some

/-- Jumps that all lead here. -/
def joinsT (ts : List Tk) (js : List Int) : List Tk := js.foldl (fun t j => patchT t j t.length) ts
theorem joinsT_snoc (ts : List Tk) (js : List Int) (j : Int) : joinsT ts (js ++ [j]) = patchT (joinsT ts js) j (joinsT ts js).length := by
  unfold joinsT
  rw [List.foldl_append]
  rfl
section
variable {w w' : World} {B f p g scap q cap : Nat} {tv tv' lv : Value} {ts ts' : List Tk} {st l : List Th} {T : Nat → Prop}
/-- A row of ints, its k-th. -/
theorem JR.at_ {A : Option Addr} {n c k : Nat} {xs : List Int} {x : Int} (h : JR w B (.slice A n c) xs) (hx : xs[k]? = some x) : ∃ b off, A = some ⟨b, off, none⟩ ∧ w.cell? ⟨b, off + k, none⟩ = some (.int .i64 x) := by
  obtain ⟨⟨_, A', c', e, h2⟩, _⟩ := h
  injection e with e1
  subst e1
  obtain ⟨b, off, eb, hc⟩ := h2 (by have := (List.getElem?_eq_some_iff.1 hx).1; omega)
  exact ⟨b, off, eb, hc k _ (by rw [List.getElem?_map, hx]; rfl)⟩
set_option maxRecDepth 100000 in
set_option maxHeartbeats 4000000 in
theorem endCase_f (x : Th) (w : World) (h : Fl w B f p st g scap ts q cap tv) (hi : In_ w g st lv [x]) (hl : ts.length < 50000) (hxj : x.jumps.length ≤ 1000000) : Calls Try.prog 70 #[.pointer (some ⟨f, 0, none⟩), lv] w fun e w' => ∃ nv, e = .returned (.tuple #[nv, .int .i64 0]) ∧ Out w w' B st nv [] ∧ ∃ tv', Fl w' B f p st g scap (joinsT (ts ++ [⟨1, 8, 0⟩]) x.jumps) q cap tv' ∧ Turn (FlIn f p q tv g st) (FlIn f p q tv' g st) w w' := by
  have HLA := Lib.hid (lay_f 1 8 w h hl)
  have hxs := hi.sub x (List.mem_singleton.2 rfl)
  have hjx := h.js x hxs
  obtain ⟨_, AJ, cj, hjv, _⟩ := id hjx.1
  have hlv : ∃ off c, lv = .slice (some ⟨g, off, none⟩) 1 c := by
    obtain ⟨off, c, e, _⟩ := hi.at0 h
    exact ⟨off, c, e⟩
  obtain ⟨off, c, rfl⟩ := hlv
  have HI := Lib.hid hi
  obtain ⟨m, hm⟩ : ∃ m, x.jumps.length = m := ⟨_, rfl⟩
  rw [hm] at hjv hxj
  have HM := Lib.hid hm
  have HJV := Lib.hid hjv
  clear h hi hm hjx hjv
  go_enter Try.func70, Try.ntmps70
  go_wp2_with (go_at_call 35; refine HLA.out.mono ?_; rintro e w2 ⟨rfl, tv2, h2, t2⟩; have H2 := Lib.hid h2; have T2 := Lib.hid t2; obtain ⟨off', c', e', d0, d1, d2⟩ := HI.out.at0 h2; injection e' with e'; injection e' with e'; injection e' with _ e'; subst e'; rw [HJV.out] at d2; clear h2 t2)
  go_loopw [20] (fun i wr => ∃ k : Nat, k ≤ m ∧ i = .int .i64 k ∧ Fl wr B f p st g scap (joinsT (ts ++ [⟨1, 8, 0⟩]) (x.jumps.take k)) q cap tv2 ∧ Turn (FlIn f p q tv2 g st) (FlIn f p q tv2 g st) w2 wr) (fun i _ => m - (intOf i).toNat)
  case atStart => exact ⟨0, by omega, rfl, H2.out, Turn.refl _ _⟩
  case round =>
    obtain ⟨k, hk, rfl, hfl, htu⟩ := hrel
    by_cases hkm : k < m
    · have hkI : (k : Int) < (m : Int) := by omega
      obtain ⟨j, hj⟩ : ∃ j, x.jumps[k]? = some j := ⟨_, List.getElem?_eq_getElem (by rw [HM.out]; exact hkm)⟩
      have hjr := hfl.js x hxs
      rw [HJV.out] at hjr
      obtain ⟨jb, joff, rfl, hc⟩ := hjr.at_ hj
      have HFL := Lib.hid hfl
      have HTU := Lib.hid htu
      have HJ := Lib.hid hj
      clear hfl htu hjr hj
      go_wp2_with (go_at_call 79; refine (join_f _ _ HFL.out).mono ?_; rintro e w3 ⟨⟨v, rfl⟩, h3, t3⟩; have H3 := Lib.hid h3; have T3 := Lib.hid (HTU.out.trans t3); clear h3 t3)
      refine ⟨⟨k + 1, by omega, by push_cast; rfl, ?_, T3.out⟩, by simp [intOf]; omega⟩
      have e1 : x.jumps.take (k + 1) = x.jumps.take k ++ [j] := by rw [List.take_add_one, HJ.out]; rfl
      rw [e1, joinsT_snoc]
      exact H3.out
    · obtain rfl : k = m := by omega
      have hall : x.jumps.take k = x.jumps := by rw [← HM.out, List.take_length]
      rw [hall] at hfl
      have HFL := Lib.hid hfl
      have HTU := Lib.hid htu
      clear hfl htu hall
      go_wp2_with fail
      go_ret2
      exact ⟨_, rfl, Out.nil _ _ _ _, _, HFL.out, T2.out.trans HTU.out⟩
end
end Go.Proofs.Ytoldegajbonliaa
