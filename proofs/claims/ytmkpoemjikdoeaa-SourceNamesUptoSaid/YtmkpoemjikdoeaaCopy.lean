/- The program's data space: bytes put in and told (copy, slices.Clone). -/
import Derived.Test.YtmkpoemjikdoeaaPure9
import Derived.Test.YtmkpoemjikdoeaaPut
import Derived.Laws.CopyOwn
import Derived.Deep.AppendLies
import Derived.Maps.AppendAt
import Derived.RegionTactic
import Derived.OwnWalk
namespace Go.Proofs.Ytmkpoemjikdoeaa
open Go Go.RowKit

/-- The slice value sv holds the bytes zs, in a block below B where there are any. -/
def Row8 (w : World) (B : Nat) (sv : Value) (zs : List Int) : Prop :=
  ∃ A cap, sv = .slice A zs.length cap ∧ zs.length ≤ cap ∧ (cap ≤ 9223372036854775807 ∧ zs.length ≤ 9223372036854775807) ∧ Bytes zs ∧ (0 < zs.length → ∃ b off, A = some ⟨b, off, none⟩ ∧ b < B ∧ ∀ j x, zs[j]? = some x → w.cell? ⟨b, off + j, none⟩ = some (.int .u8 x))
section
variable {w w' : World} {B B' : Nat} {sv : Value} {zs : List Int}
theorem Row8.bytes (h : Row8 w B sv zs) : Bytes zs := by obtain ⟨_, _, _, _, _, hb, _⟩ := h; exact hb
theorem Row8.len (h : Row8 w B sv zs) : zs.length ≤ 9223372036854775807 := by obtain ⟨_, _, _, h1, h2, _⟩ := h; exact h2.2
theorem Row8.keep (h : Row8 w B sv zs) (hk : ∀ p : Addr, p.block < B → w'.cell? p = w.cell? p) : Row8 w' B sv zs := by
  obtain ⟨A, cap, e, h1, h2, h3, h4⟩ := h
  refine ⟨A, cap, e, h1, h2, h3, fun hn => ?_⟩
  obtain ⟨b, off, e, hb, hc⟩ := h4 hn
  exact ⟨b, off, e, hb, fun j x hx => (hk ⟨b, off + j, none⟩ hb).trans (hc j x hx)⟩
theorem Row8.below (h : Row8 w B sv zs) (hb : Below B w w') : Row8 w' B sv zs := h.keep fun _ hp => hb.cell hp
theorem Row8.fr {S : Nat → Prop} (h : Row8 w B sv zs) (hb : Fr S w w') (hB : B ≤ w.heap.size) (hS : ∀ k, k < B → ¬ S k) : Row8 w' B sv zs :=
  h.keep fun p hp => hb.cell (by omega) (hS _ hp)
theorem Row8.more (h : Row8 w B sv zs) (hB : B ≤ B') : Row8 w B' sv zs := by
  obtain ⟨A, cap, e, h1, h2, h3, h4⟩ := h
  refine ⟨A, cap, e, h1, h2, h3, fun hn => ?_⟩
  obtain ⟨b, off, e, hb, hc⟩ := h4 hn
  exact ⟨b, off, e, by omega, hc⟩
end

/-- What a copy of as many bytes as the target holds asks. -/
def CopyFits (w : World) (g off L : Nat) (dv sv : Value) (cs : List Int) : Prop :=
  (dv = .slice none 0 0 ∧ cs = [] ∧ ∃ A n c, sv = .slice A n c) ∨
  (∃ dc ad sc, dv = .slice (some ⟨g, off, none⟩) cs.length dc ∧ sv = .slice (some ad) cs.length sc ∧ off + cs.length ≤ L ∧ ∀ j x, cs[j]? = some x → w.cell? (ad.add j) = some (.int .u8 x))

theorem fr_setRow (w : World) (g : Nat) (cs : Array Value) : Fr1 g w (w.setRow g cs) := ⟨rfl, rfl, rfl, by simp, fun k _ hk => setRow_other w g k cs hk⟩

theorem wpList_copy8 {P : Program} {w : World} {ops : Array Oper} {rest : List Oper} {o : Oper} {a : Act} {Q : Exit → Act → World → Prop} (hgd : o.guard = none) (d s : Operand) (dT sT : TypeId)
    (ho : o.op = .call { callee := .builtin .copy, args := #[d, s], argTypes := #[dT, sT] }) (elem : TypeId) (hu : P.underlying dT = some (.slice elem)) (hsz : (P.info? elem).map (·.size) = some 1)
    (dv sv : Value) (hd : a.eval d = dv) (hs : a.eval s = sv) (g off : Nat) (cur : List Int) (t : TypeId) (hg : Blk w g t (cells8 cur)) (cs : List Int) (hc : CopyFits w g off cur.length dv sv cs)
    (h : ∀ w', Fr1 g w w' → w'.heap.size = w.heap.size → Blk w' g t (cells8 (poke cur off cs)) → wpList P ops Q rest (a.put o.dst (goInt cs.length)) w') : wpList P ops Q (o :: rest) a w := by
  rcases hc with ⟨rfl, rfl, A, n, c, rfl⟩ | ⟨dc, ad, sc, rfl, rfl, hfit, hsrc⟩
  · refine wpList_copy_nothing hgd d s dT sT ho elem hu hsz none A 0 0 n c hd hs (by simp) ?_
    exact h w (Fr.refl _ _) rfl (by rw [poke_nil]; exact hg)
  · refine wpList_copy_own hgd d s dT sT ho elem hu hsz g off cs.length dc ad cs.length sc hd hs (cells8 cur) t hg (cs.map (Value.int .u8)) (by simp) (fun j v hv => ?_) (by simpa using hfit) (fun v hv => ?_) ?_
    · rw [List.getElem?_map] at hv
      obtain ⟨x, hx, rfl⟩ := Option.map_eq_some_iff.1 hv
      exact hsrc j x hx
    · obtain ⟨x, _, rfl⟩ := List.mem_map.1 hv
      rfl
    · have hb := setRow_heap w g (cells8 cur) ((cells8 cur).toList.take off ++ (cs.map (Value.int .u8) ++ (cells8 cur).toList.drop (off + (cs.map (Value.int .u8)).length))).toArray t (0, 0) hg
      have e : ((cells8 cur).toList.take off ++ (cs.map (Value.int .u8) ++ (cells8 cur).toList.drop (off + (cs.map (Value.int .u8)).length))).toArray = cells8 (poke cur off cs) := by
        simp [cells8, poke, List.map_take, List.map_drop]
      rw [e] at hb ⊢
      rw [List.length_map]
      exact h _ (fr_setRow w g _) (by simp) hb

section
variable {p g : Nat} {bs : List Int} {dict here : Int}
/-- What a call that stores n bytes throws. -/
def putT (L : Nat) (a n : Int) : Int := reachT L a n (openT a n)

theorem openRule (w : World) : Blk (w.alloc (.cells #[.func (.func 31) #[] #[]] 75)) w.heap.size 75 #[.func (.func 31) #[] #[]] := Blk.new w _ _

set_option maxRecDepth 100000 in
set_option maxHeartbeats 2000000 in
theorem Put_any (a : Int) (sv : Value) (zs : List Int) (w : World) (h : Sp w p g bs dict here) (ha : i64 a) (B : Nat) (hs : Row8 w B sv zs) (hB : B ≤ w.heap.size) :
    Calls Try.prog 22 #[.pointer (some ⟨p, 0, none⟩), .int .i64 a, sv] w fun e w' => e = .returned (.int .i64 (putT bs.length a zs.length)) ∧ Fr1 g w w' ∧ Sp w' p g (if putT bs.length a zs.length = 0 then poke bs (a - 65536).toNat zs else bs) dict here := by
  have hlen := hs.len
  have hz8 := hs.bytes
  obtain ⟨A, cap, rfl, hcap, hcap2, _, hcells⟩ := hs
  have hc := reach1 a zs.length w.heap.size (w.alloc (.cells #[.func (.func 31) #[] #[]] 75)) (h.alloc _) ha ⟨by omega, by omega⟩ (openRule w)
  have hg := (h.row.alloc (.cells #[.func (.func 31) #[] #[]] 75))
  have hfits : CopyFits (w.alloc (.cells #[.func (.func 31) #[] #[]] 75)) g (a - 65536).toNat bs.length (reachV g bs.length a zs.length (openT a zs.length)) (.slice A zs.length cap) (if putT bs.length a zs.length = 0 then zs else []) := by
    by_cases h0 : putT bs.length a zs.length = 0 ∧ 0 < zs.length
    · obtain ⟨k1, k2, k3⟩ := reachT_zero h0.1 (by omega)
      obtain ⟨b, off, rfl, hb, hcc⟩ := hcells h0.2
      rw [if_pos h0.1, reachV_in ⟨by omega, k1, k2⟩ k3]
      refine .inr ⟨zs.length, ⟨b, off, none⟩, cap, by simp, rfl, by omega, fun j x hx => ?_⟩
      rw [World.cell?_alloc_lt]
      · have := hcc j x hx
        unfold Addr.add
        by_cases hj : j = 0
        · simpa [hj] using this
        · simpa [hj] using this
      · unfold Addr.add; split <;> (simp; omega)
    · refine .inl ⟨?_, ?_, _, _, _, rfl⟩
      · unfold reachV
        rw [if_neg (fun x => h0 ⟨x.2, by omega⟩)]
      · by_cases h1 : putT bs.length a zs.length = 0
        · rw [if_pos h1]
          exact List.eq_nil_of_length_eq_zero (by omega)
        · rw [if_neg h1]
  have hres : (if putT bs.length a zs.length = 0 then poke bs (a - 65536).toNat zs else bs) = poke bs (a - 65536).toNat (if putT bs.length a zs.length = 0 then zs else []) := by
    split
    · rfl
    · rw [poke_nil]
  have hpl : (a - 65536).toNat + (if putT bs.length a zs.length = 0 then zs else []).length ≤ bs.length ∨ (if putT bs.length a zs.length = 0 then zs else []) = [] := by
    by_cases h0 : putT bs.length a zs.length = 0 ∧ 0 < zs.length
    · obtain ⟨k1, k2, k3⟩ := reachT_zero h0.1 (by omega)
      rw [if_pos h0.1]
      exact .inl (by omega)
    · refine .inr ?_
      by_cases h1 : putT bs.length a zs.length = 0
      · rw [if_pos h1]
        exact List.eq_nil_of_length_eq_zero (by omega)
      · rw [if_neg h1]
  have hbb : Bytes (if putT bs.length a zs.length = 0 then zs else []) := by
    split
    · exact hz8
    · intro x hx; cases hx
  rw [hres]
  generalize (if putT bs.length a zs.length = 0 then zs else []) = cs at *
  show Calls _ _ _ _ fun e w' => e = .returned (.int .i64 (reachT bs.length a zs.length (openT a zs.length))) ∧ _
  generalize reachT bs.length a zs.length (openT a zs.length) = T at *
  generalize reachV g bs.length a zs.length (openT a zs.length) = V at *
  have Hc := Lib.hid hc
  have Hf := Lib.hid hfits
  clear hc hfits hres hcells
  go_enter Try.func22, Try.ntmps22
  go_wp2_with (first | (go_at_call 25; refine Hc.out.mono ?_; rintro e w' ⟨rfl, rfl⟩) | (refine wpList_copy8 rfl (.tmp 18) (.tmp 19) _ _ rfl _ Try.underlying25 (by kernel_rfl) _ _ rfl rfl g (a - 65536).toNat bs _ hg cs Hf.out ?_; intro w2 hf2 hs2 hb2))
  go_ret
  have hfw : Fr1 g w w2 := ((Fr.refl _ w).alloc _).trans hf2
  refine ⟨rfl, hfw, ?_⟩
  rcases hpl with hpl | rfl
  · exact h.poke _ _ _ hbb hpl (h.obj.fr hfw h.ne) hb2
  · rw [poke_nil] at hb2 ⊢
    exact ⟨h.obj.fr hfw h.ne, hb2, h.byt, h.len⟩
end

theorem info8 : (Try.prog.info? 5).map (fun i => (i.zero, i.size, i.bytes)) = some (some (.int .u8 0), 1, 1) := by kernel_rfl

/-- The slice value v is a row of the bytes zs in a block of its own, from base on. -/
def Own8 (w : World) (base : Nat) (v : Value) (zs : List Int) : Prop := w.ownsRow base 5 1 v zs.length (zs.map (Value.int .u8))

set_option maxHeartbeats 1000000 in
theorem Clone_nil (w : World) (n c : Nat) :
    Calls Try.prog 26 #[.slice none n c] w fun e w' => e = .returned (.slice none 0 0) ∧ w = w' := by
  have qT : ∀ (w : World) (a : Option Addr) (n c : Nat), (binOp .eql 25 (.slice a n c) (.slice none 0 0)).run Try.prog w = .ok (.bool a.isNone) w := fun w a n c => Lib.run_eql_slice_nil w _ _ a n c 0 0 Try.underlying25
  go_enter Try.func26, Try.ntmps26
  go_wp2
  go_ret
  exact ⟨rfl, rfl⟩

/-- SOME value of which P holds is returned. -/
def Gives (P : Value → World → Prop) (e : Ending) (w' : World) : Prop := ∃ v, e = .returned v ∧ P v w'

set_option maxHeartbeats 1000000 in
theorem Clone_some (w : World) (b off n c : Nat) (zs : List Int) (hn : zs.length = n) (hl : n ≤ 140737488351232) (hblk : 0 < n → b < w.heap.size) (hc : ∀ j x, zs[j]? = some x → w.cell? ⟨b, off + j, none⟩ = some (.int .u8 x)) :
    Calls Try.prog 26 #[.slice (some ⟨b, off, none⟩) n c] w fun e w' => Gives (fun v w' => Own8 w' w.heap.size v zs ∧ Fr0 w w') e w' := by
  obtain ⟨i0, hi, hz0, hz1, hz2⟩ := info_parts info8
  have qT : ∀ (w : World) (a : Option Addr) (n c : Nat), (binOp .eql 25 (.slice a n c) (.slice none 0 0)).run Try.prog w = .ok (.bool a.isNone) w := fun w a n c => Lib.run_eql_slice_nil w _ _ a n c 0 0 Try.underlying25
  have h0 : (w.alloc (.cells #[] 5)).ownsRow w.heap.size 5 1 (.slice (some ⟨w.heap.size, 0, none⟩) 0 0) 0 [] := World.ownsRow_made w #[] 0 (Nat.le_refl _) (by unfold maxLen; omega) rfl
  go_enter Try.func26, Try.ntmps26
  go_wp2_with (at_builtin; refine wpList_append_own _ rfl _ _ 25 rfl w.heap.size 5 i0 (.int .u8 0) 1 1 Try.underlying25 hi hz0 hz1 hz2 rfl (by decide) _ _ _ rfl h0 ⟨b, off, none⟩ n c (zs.map (Value.int .u8)) rfl ?c0 ?c1 ?c2 ?c3 ?c4 ?c5 ?_)
  case c0 => simp [hn]
  case c1 =>
    intro j u hu
    rw [List.getElem?_map] at hu
    obtain ⟨x, hx, rfl⟩ := Option.map_eq_some_iff.1 hu
    have hj : j < zs.length := (List.getElem?_eq_some_iff.1 hx).1
    have hlt := hblk (by omega)
    have := hc j x hx
    rw [World.cell?_alloc_lt]
    · unfold Addr.add
      by_cases h : j = 0
      · simpa [h] using this
      · simpa [h] using this
    · unfold Addr.add; split <;> (simp; omega)
  case c2 =>
    intro u hu
    obtain ⟨x, _, rfl⟩ := List.mem_map.1 hu
    rfl
  case c3 => unfold maxLen; omega
  case c4 => omega
  case c5 => simp
  intro v' w1 hown hgrow _
  go_wp2
  go_ret
  refine ⟨_, rfl, ?_, ((Fr.refl _ w).alloc _).grown hgrow (fun k hk => .inr (by cases hk; exact Nat.le_refl _))⟩
  unfold Own8
  rw [hn]
  simpa using hown

section
variable {p g : Nat} {bs : List Int} {dict here : Int}
/-- The bytes that are told. -/
def bytesV (bs : List Int) (a n : Int) : List Int := if reachT bs.length a n 0 = 0 then (bs.drop (a - 65536).toNat).take n.toNat else []
theorem bytesV_bytes (h : Bytes bs) (a n : Int) : Bytes (bytesV bs a n) := by
  unfold bytesV
  split
  · exact (h.drop _).take _
  · intro x hx; cases hx

set_option maxRecDepth 100000 in
set_option maxHeartbeats 2000000 in
theorem Bytes_any (a n : Int) (w : World) (h : Sp w p g bs dict here) (ha : i64 a) (hn : i64 n) :
    Calls Try.prog 11 #[.pointer (some ⟨p, 0, none⟩), .int .i64 a, .int .i64 n] w fun e w' => Gives (fun v w' => ∃ u, v = .tuple #[u, .int .i64 (reachT bs.length a n 0)] ∧ Own8 w' w.heap.size u (bytesV bs a n) ∧ Fr0 w w') e w' := by
  have hc := reach0 a n w h ha hn
  by_cases h0 : reachT bs.length a n 0 = 0 ∧ 0 < n
  · obtain ⟨k1, k2, _⟩ := reachT_zero h0.1 (by omega)
    rw [reachV_in ⟨by omega, k1, k2⟩ rfl, h0.1] at hc
    rw [h0.1]
    have hlen : (bytesV bs a n).length = n.toNat := by unfold bytesV; rw [if_pos h0.1]; simp; omega
    have hl := h.len
    have hC := Clone_some w g (a - 65536).toNat n.toNat n.toNat (bytesV bs a n) hlen (by omega) (fun _ => h.row.lt) (fun j x hx => by
      rw [h.row.cell, cells8_at]
      unfold bytesV at hx
      rw [if_pos h0.1, List.getElem?_take] at hx
      split at hx
      · rw [List.getElem?_drop] at hx; rw [hx]; rfl
      · cases hx)
    have Hc := Lib.hid hc
    have HC := Lib.hid hC
    clear hc hC hlen
    generalize (a - 65536).toNat = off at *
    go_enter Try.func11, Try.ntmps11
    go_wp2_with (first | (go_at_call 25; refine Hc.out.mono ?_; rintro e w' ⟨rfl, rfl⟩) | (go_at_call 26; refine HC.out.mono ?_; rintro e w1 ⟨u, rfl, ho, hf⟩))
    go_ret2
    exact ⟨_, rfl, u, rfl, ho, hf⟩
  · have e1 : reachV g bs.length a n 0 = .slice none 0 0 := by unfold reachV; rw [if_neg (fun x => h0 ⟨x.2, x.1⟩)]
    have e2 : bytesV bs a n = [] := by
      unfold bytesV
      by_cases h1 : reachT bs.length a n 0 = 0
      · rw [if_pos h1, show n.toNat = 0 by omega, List.take_zero]
      · rw [if_neg h1]
    rw [e1] at hc
    rw [e2]
    clear e1 e2 h0
    generalize reachT bs.length a n 0 = T at *
    have Hc := Lib.hid hc
    clear hc
    go_enter Try.func11, Try.ntmps11
    go_wp2_with (first | (go_at_call 25; refine Hc.out.mono ?_; rintro e w' ⟨rfl, rfl⟩) | (go_at_call 26; refine (Clone_nil _ _ _).mono ?_; rintro e w1 ⟨rfl, rfl⟩))
    go_ret2
    exact ⟨_, rfl, _, rfl, World.ownsRow_nil _ _ _ _, Fr.refl _ _⟩
end

end Go.Proofs.Ytmkpoemjikdoeaa
