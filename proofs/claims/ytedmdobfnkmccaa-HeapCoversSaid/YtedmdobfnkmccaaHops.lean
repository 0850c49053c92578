/- The heap's functions: what they answer, what they leave. -/
import Derived.Test.YtedmdobfnkmccaaHlink
namespace Go.Proofs.Ytedmdobfnkmccaa
open Go Go.RowKit

theorem andNot7_nat (x : Nat) (hx : x < 18446744073709551616) : x &&& (18446744073709551608) = x / 8 * 8 := by
  have e1 : x / 8 * 8 = (x >>> 3) <<< 3 := by rw [Nat.shiftRight_eq_div_pow, Nat.shiftLeft_eq]
  have e2 : 18446744073709551608 = (2 ^ 61 - 1) <<< 3 := by decide
  rw [e1, e2]
  apply Nat.eq_of_testBit_eq
  intro i
  rw [Nat.testBit_and, Nat.testBit_shiftLeft, Nat.testBit_shiftLeft, Nat.testBit_shiftRight, Nat.testBit_two_pow_sub_one]
  by_cases hi : 3 ≤ i
  · rw [show 3 + (i - 3) = i by omega]
    by_cases h2 : i - 3 < 61
    · simp [hi, h2]
    · have : x.testBit i = false := Nat.testBit_lt_two_pow (Nat.lt_of_lt_of_le hx (by
        have : 2 ^ 64 ≤ 2 ^ i := Nat.pow_le_pow_right (by omega) (by omega)
        simpa using this))
      simp [this]
  · simp [hi]
theorem andNot7 (x : Int) (h0 : 0 ≤ x) (h1 : x < 9223372036854775808) : bits .andNot .i64 x 7 = x / 8 * 8 := by
  obtain ⟨a, rfl⟩ := Int.eq_ofNat_of_zero_le h0
  show IntKind.i64.wrap ((BitVec.ofInt 64 (a : Int) &&& ~~~BitVec.ofInt 64 7).toNat : Int) = _
  have e1 : (BitVec.ofInt 64 (a : Int)).toNat = a := by
    rw [BitVec.ofInt_natCast, BitVec.toNat_ofNat]; exact Nat.mod_eq_of_lt (by omega)
  have e2 : (BitVec.ofInt 64 7).toNat = 7 := by decide
  rw [BitVec.toNat_and, BitVec.toNat_not, e1, e2, show 2 ^ 64 - 1 - 7 = 18446744073709551608 by decide, andNot7_nat a (by omega)]
  have e3 : ((a / 8 * 8 : Nat) : Int) = (a : Int) / 8 * 8 := by omega
  rw [e3]
  simp [IntKind.wrap, IntKind.bits, IntKind.signed]
  omega

set_option maxHeartbeats 1000000 in
theorem rounded_ok (n : Int) (w : World) (h0 : 0 ≤ n) (h1 : n ≤ 1048576) :
    Calls Try.prog 22 #[.int .i64 n] w fun e w' => e = .returned (.tuple #[.int .i64 (rnd n), .bool true]) ∧ w = w' := by
  go_enter Try.func22, Try.ntmps22
  go_wp2
  · go_ret2
    refine ⟨?_, rfl⟩
    rw [show rnd n = 8 by unfold rnd; omega]
    rfl
  · go_ret2
    refine ⟨?_, rfl⟩
    have e := andNot7 (n + 8 - 1) (by omega) (by omega)
    have e2 : rnd n = (n + 8 - 1) / 8 * 8 := by unfold rnd; omega
    rw [e2, ← e]
    rfl
set_option maxHeartbeats 1000000 in
theorem rounded_err (n : Int) (w : World) (h0 : n < 0 ∨ 1048576 < n) :
    Calls Try.prog 22 #[.int .i64 n] w fun e w' => e = .returned (.tuple #[.int .i64 0, .bool false]) ∧ w = w' := by
  rcases h0 with h0 | h0
  · go_enter Try.func22, Try.ntmps22
    go_wp2
    go_ret2
    exact ⟨rfl, rfl⟩
  · go_enter Try.func22, Try.ntmps22
    go_wp2
    go_ret2
    exact ⟨rfl, rfl⟩

/-- Block hp is a heap whose blocks are L. -/
structure HRep (w : World) (hp mp : Nat) (c d : Int) (B : Nat) (L : List Nd) : Prop where
  obj : Blk w hp 46 #[hdp nil_ L, .map (some mp)]
  ch : Chain w nil_ L nil_
  nd : (ids L).Nodup
  map : ∃ f, MapI w mp f ∧ MapOk f (tkn L)
  inv : Inv c d (bks L)
  c0 : 0 ≤ c
  d0 : d ≤ 9223372036854775807
  cd : d - c ≤ 1048576
  lo : B ≤ hp ∧ B ≤ mp ∧ ∀ k ∈ ids L, B ≤ k
/-- The blocks of a heap. -/
def HIn (hp mp : Nat) (L : List Nd) (k : Nat) : Prop := k = hp ∨ k = mp ∨ k ∈ ids L

section
variable {w w' : World} {hp mp B : Nat} {c d : Int} {L : List Nd}
theorem Chain.ne_ {pv nx : Value} {g : Nat} {t : TypeId} {cs : Array Value} (h : Chain w pv L nx) (hb : Blk w g t cs) (ht : t ≠ 61) : g ∉ ids L := by
  intro hg
  induction L generalizing pv with
  | nil => cases hg
  | cons x L ih =>
    simp only [ids, List.map_cons, List.mem_cons] at hg
    rcases hg with rfl | hg
    · exact hb.ne_ h.1 ht rfl
    · exact ih h.2 hg
theorem Chain.neM {pv nx : Value} {m : Nat} {f : Int → Option Value} (h : Chain w pv L nx) (hm : MapI w m f) : m ∉ ids L := by
  intro hg
  induction L generalizing pv with
  | nil => cases hg
  | cons x L ih =>
    simp only [ids, List.map_cons, List.mem_cons] at hg
    rcases hg with rfl | hg
    · exact hm.ne_ h.1 rfl
    · exact ih h.2 hg
theorem HRep.hp_ne (h : HRep w hp mp c d B L) : hp ∉ ids L ∧ mp ∉ ids L ∧ hp ≠ mp := by
  obtain ⟨f, hm, _⟩ := h.map
  exact ⟨h.ch.ne_ h.obj (by decide), h.ch.neM hm, (hm.ne_ h.obj).symm⟩
theorem HRep.fr {S : Nat → Prop} (h : HRep w hp mp c d B L) (hf : Fr S w w') (hs : ∀ k, HIn hp mp L k → ¬ S k) : HRep w' hp mp c d B L := by
  obtain ⟨f, hm, hk⟩ := h.map
  exact ⟨h.obj.fr hf (hs _ (.inl rfl)), h.ch.fr hf (fun k hk => hs k (.inr (.inr hk))), h.nd, ⟨f, hm.fr hf (hs _ (.inr (.inl rfl))), hk⟩, h.inv, h.c0, h.d0, h.cd, h.lo⟩
theorem HRep.fr0 (h : HRep w hp mp c d B L) (hf : Fr0 w w') : HRep w' hp mp c d B L := h.fr hf fun _ _ x => x

theorem HRep.mid {A R R' : List Nd} {x x' : Nd} (h : HRep w hp mp c d B (A ++ x :: R)) (hf : Fr (fun k => k = mp ∨ k ∈ ids (x :: R)) w w') (hc : Chain w' (lst nil_ A) (x' :: R') nil_) (he : x'.1 = x.1)
    (hn : (ids (x' :: R')).Nodup) (hi : ∀ k ∈ ids (x' :: R'), k ∈ ids (x :: R) ∨ w.heap.size ≤ k) {f : Int → Option Value} (hm : MapI w' mp f) (hk : MapOk f (tkn (A ++ x' :: R'))) (hv : Inv c d (bks (A ++ x' :: R'))) : HRep w' hp mp c d B (A ++ x' :: R') := by
  obtain ⟨n1, n2, n3⟩ := h.hp_ne
  have hch := Chain.app.1 h.ch
  have hnd := h.nd
  simp only [ids, List.map_append] at hnd n1 n2
  rw [List.nodup_append] at hnd
  have hA : ∀ k ∈ ids A, ¬ (k = mp ∨ k ∈ ids (x :: R)) := fun k hk e => by
    rcases e with rfl | e
    · exact n2 (List.mem_append_left _ hk)
    · exact hnd.2.2 k hk k e rfl
  refine ⟨?_, ?_, ?_, ⟨f, hm, hk⟩, hv, h.c0, h.d0, h.cd, h.lo.1, h.lo.2.1, ?_⟩
  · have := h.obj.fr hf (fun e => by
      rcases e with e | e
      · exact n3 e
      · exact n1 (List.mem_append_right _ e))
    rw [hdp_app] at this ⊢
    simp only [hdp] at this ⊢
    rw [he]
    exact this
  · refine Chain.app.2 ⟨?_, hc⟩
    have := hch.1.fr hf hA
    simp only [hdp] at this ⊢
    rw [he]
    exact this
  · simp only [ids, List.map_append]
    rw [List.nodup_append]
    refine ⟨hnd.1, hn, fun a ha b hb e => ?_⟩
    subst e
    rcases hi a hb with h2 | h2
    · exact hnd.2.2 a ha a h2 rfl
    · have := hch.1.lt a ha
      omega
  · intro k hk
    simp only [ids, List.map_append, List.mem_append] at hk
    rcases hk with hk | hk
    · exact h.lo.2.2 k (by simp only [ids, List.map_append, List.mem_append]; exact .inl hk)
    · rcases hi k hk with h2 | h2
      · exact h.lo.2.2 k (by simp only [ids, List.map_append, List.mem_append]; exact .inr h2)
      · have := h.obj.lt
        have := h.lo.1
        omega
end

/-- The nodes that are new lie in new blocks. -/
def Newer (w : World) (L L' : List Nd) : Prop := ∀ k ∈ ids L', k ∈ ids L ∨ w.heap.size ≤ k
theorem Newer.same (w : World) (L : List Nd) : Newer w L L := fun _ h => .inl h
theorem Newer.mid {w : World} {A R R' : List Nd} {x x' : Nd} (h : ∀ k ∈ ids (x' :: R'), k ∈ ids (x :: R) ∨ w.heap.size ≤ k) : Newer w (A ++ x :: R) (A ++ x' :: R') := fun k hk => by
  simp only [ids, List.map_append] at hk ⊢
  rcases List.mem_append.1 hk with hk | hk
  · exact .inl (List.mem_append_left _ hk)
  · rcases h k hk with e | e
    · exact .inl (List.mem_append_right _ e)
    · exact .inr e
theorem Newer.trans {w w' : World} {L L' L'' : List Nd} (h : Newer w L L') (h' : Newer w' L' L'') (hz : w.heap.size ≤ w'.heap.size) : Newer w L L'' := fun k hk => by
  rcases h' k hk with e | e
  · exact h k e
  · exact .inr (by omega)
theorem Fr.thenH {w w' w'' : World} {hp mp : Nat} {L L' : List Nd} (h : Fr (HIn hp mp L) w w') (h' : Fr (HIn hp mp L') w' w'') (hn : Newer w L L') : Fr (HIn hp mp L) w w'' := h.then h' fun k hk e => by
  rcases e with e | e | e
  · exact .inl e
  · exact .inr (.inl e)
  · rcases hn k e with e | e
    · exact .inr (.inr e)
    · omega

/-- What a heap may be made of. -/
def newOk (a b : Int) : Prop := 0 ≤ a ∧ a ≤ b ∧ a % 8 = 0 ∧ b % 8 = 0 ∧ b - a ≤ 1048576
def newL (a b : Int) : List Bk := if a < b then [⟨a, b - a, true⟩] else []

set_option maxHeartbeats 1000000 in
theorem New_ok (a b : Int) (w : World) (h : newOk a b) (hb : b ≤ 9223372036854775807) :
    Calls Try.prog 9 #[.int .i64 a, .int .i64 b] w fun e w' => e = .returned (.tuple #[ptr (w.heap.size + 1), .int .i64 0]) ∧ Fr0 w w' ∧ ∃ L, HRep w' (w.heap.size + 1) w.heap.size a b w.heap.size L ∧ bks L = newL a b := by
  obtain ⟨h1, h2, h3, h4, h5⟩ := h
  have e3 : (a % 8 != 0) = false := by simp [h3]
  have e4 : (b % 8 != 0) = false := by simp [h4]
  have hmm : ∀ W : World, (Instr.makeMap 44 none).run Try.prog W = .ok (.map (some W.heap.size)) (W.alloc (.map #[] 0)) := fun W => rfl
  by_cases hab : a < b
  · have H3 := Lib.hid h3
    have H4 := Lib.hid h4
    clear h3 h4
    go_enter Try.func9, Try.ntmps9
    go_wp2
    go_ret2
    have hB1 := (Blk.new (w.alloc (.map #[] 0)) 46 #[ptr (w.heap.size + 2), .map (some w.heap.size)]).alloc (.cells (node ⟨a, b - a, true⟩ nil_ nil_) 61)
    have hB2 := Blk.new ((w.alloc (.map #[] 0)).alloc (.cells #[ptr (w.heap.size + 2), .map (some w.heap.size)] 46)) 61 (node ⟨a, b - a, true⟩ nil_ nil_)
    have hM := ((MapI.made w).alloc (.cells #[ptr (w.heap.size + 2), .map (some w.heap.size)] 46)).alloc (.cells (node ⟨a, b - a, true⟩ nil_ nil_) 61)
    have e1 : (w.alloc (.map #[] 0)).heap.size = w.heap.size + 1 := by simp
    have e2 : ((w.alloc (.map #[] 0)).alloc (.cells #[ptr (w.heap.size + 2), .map (some w.heap.size)] 46)).heap.size = w.heap.size + 2 := by simp
    rw [e1] at hB1
    rw [e2] at hB2
    refine ⟨rfl, (((Fr.refl _ w).alloc _).alloc _).alloc _, [(w.heap.size + 2, ⟨a, b - a, true⟩)], ⟨hB1, ⟨hB2, trivial⟩, by simp [ids], ⟨_, hM, fun x v => by simp [tkn]⟩, ⟨⟨rfl, by dsimp only; omega, by have := H3.out; have := H4.out; dsimp only; omega, by show a + (b - a) = b; omega⟩, (fun x hx => by simp [bks] at hx; subst hx; dsimp only; omega), trivial⟩, h1, by omega, h5, by omega, Nat.le_refl _, fun k hk => by simp [ids] at hk; omega⟩, ?_⟩
    simp [newL, hab, bks]
  · have H3 := Lib.hid h3
    have H4 := Lib.hid h4
    clear h3 h4
    go_enter Try.func9, Try.ntmps9
    go_wp2
    go_ret2
    have hB1 := Blk.new (w.alloc (.map #[] 0)) 46 #[nil_, .map (some w.heap.size)]
    have hM := (MapI.made w).alloc (.cells #[nil_, .map (some w.heap.size)] 46)
    have e1 : (w.alloc (.map #[] 0)).heap.size = w.heap.size + 1 := by simp
    rw [e1] at hB1
    refine ⟨rfl, ((Fr.refl _ w).alloc _).alloc _, [], ⟨hB1, trivial, by simp [ids], ⟨_, hM, fun x v => by simp [tkn]⟩, ⟨by simp only [bks, List.map_nil, Cov0]; omega, (fun x hx => by simp [bks] at hx), trivial⟩, h1, by omega, h5, by omega, Nat.le_refl _, fun k hk => by simp [ids] at hk⟩, ?_⟩
    rw [newL, if_neg (by omega)]
    rfl

set_option maxHeartbeats 1000000 in
theorem New_err (a b : Int) (w : World) (h : ¬ newOk a b) (ha : -9223372036854775808 ≤ a ∧ a ≤ 9223372036854775807) (hb : -9223372036854775808 ≤ b ∧ b ≤ 9223372036854775807) :
    Calls Try.prog 9 #[.int .i64 a, .int .i64 b] w fun e w' => e = .returned (.tuple #[nil_, .int .i64 1]) ∧ w' = w := by
  obtain ⟨a1, a2⟩ := ha
  obtain ⟨b1, b2⟩ := hb
  by_cases h1 : a < 0
  · go_enter Try.func9, Try.ntmps9
    go_wp2
    go_ret2
    exact ⟨rfl, rfl⟩
  have h1' : 0 ≤ a := by omega
  clear h1
  by_cases h2 : b < a
  · go_enter Try.func9, Try.ntmps9
    go_wp2
    go_ret2
    exact ⟨rfl, rfl⟩
  have h2' : a ≤ b := by omega
  clear h2
  by_cases h3 : a % 8 = 0
  · by_cases h4 : b % 8 = 0
    · have h5 : 1048576 < b - a := by
        unfold newOk at h
        omega
      have e3 : (a % 8 != 0) = false := by simp [h3]
      have e4 : (b % 8 != 0) = false := by simp [h4]
      clear h3 h4 h
      go_enter Try.func9, Try.ntmps9
      go_wp2
      go_ret2
      exact ⟨rfl, rfl⟩
    · have e3 : (a % 8 != 0) = false := by simp [h3]
      have e4 : (b % 8 != 0) = true := by simp [h4]
      clear h3 h4 h
      go_enter Try.func9, Try.ntmps9
      go_wp2
      go_ret2
      exact ⟨rfl, rfl⟩
  · have e3 : (a % 8 != 0) = true := by simp [h3]
    clear h3 h
    go_enter Try.func9, Try.ntmps9
    go_wp2
    go_ret2
    exact ⟨rfl, rfl⟩

section
variable {hp mp B : Nat} {c d : Int} {L : List Nd}
/-- The node of a taken block. -/
def takenP (a : Int) (L : List Nd) : Value := match pick (takenAt a) (bks L) with
  | none => nil_
  | some (A, _, _) => ptr ((ids L).getD A.length 0)
theorem takenP_some {a : Int} {A R : List Nd} {x : Nd} (h : pick (takenAt a) (bks (A ++ x :: R)) = some (bks A, x.2, bks R)) : takenP a (A ++ x :: R) = ptr x.1 := by
  unfold takenP
  rw [h]
  simp [ids, bks]
theorem HRep.taken_ {w : World} (h : HRep w hp mp c d B L) (a : Int) : ∃ f, MapI w mp f ∧ MapOk f (tkn L) ∧ (f a).getD nil_ = takenP a L := by
  obtain ⟨f, hm, hk⟩ := h.map
  refine ⟨f, hm, hk, ?_⟩
  cases hp : pick (takenAt a) (bks L) with
  | none =>
    have h1 := pick_none_spec hp
    have h2 : f a = none := by
      cases hf : f a with
      | none => rfl
      | some v =>
        obtain ⟨i, hi, _⟩ := (hk a v).1 hf
        simp only [tkn, List.mem_map, List.mem_filter] at hi
        obtain ⟨y, ⟨hy, hyf⟩, e⟩ := hi
        injection e with e1 e2
        have := h1 y.2 (List.mem_map.2 ⟨y, hy, rfl⟩)
        simp [takenAt, e1] at this
        simp [this] at hyf
    rw [h2]
    simp [takenP, hp]
  | some t =>
    obtain ⟨A, x, R⟩ := t
    obtain ⟨h1, h2, _⟩ := pick_spec hp
    obtain ⟨A', i, R', rfl, rfl, rfl⟩ := bks_split h1
    rw [takenP_some (x := (i, x)) hp]
    simp [takenAt] at h2
    have : f a = some (ptr i) := (hk a _).2 ⟨i, by rw [tkn_app, tkn_taken (by exact h2.2)]; simp [h2.1], rfl⟩
    rw [this]
    rfl

set_option maxHeartbeats 1000000 in
theorem taken_any (a : Int) (w : World) (h : HRep w hp mp c d B L) :
    Calls Try.prog 24 #[ptr hp, .int .i64 a] w fun e w' => e = .returned (takenP a L) ∧ w' = w := by
  obtain ⟨f, hm, _, he⟩ := h.taken_ a
  have hl := fun k => run_lookupI (P := Try.prog) (V := 43) Try.underlying44 Try.underlying3 hm (z := nil_) (fun W => rfl) k
  have c1 := h.obj.cell 1
  have hla := hl a
  rw [he] at hla
  have HH := Lib.hid h
  clear hl hm he h
  generalize takenP a L = T at *
  simp only [ptr, nil_] at *
  go_enter Try.func24, Try.ntmps24
  go_wp2
  go_ret
  exact ⟨rfl, rfl⟩
end

end Go.Proofs.Ytedmdobfnkmccaa
