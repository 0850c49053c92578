/- Flow: jumps lead to places of the definition (plain). -/
import Derived.Test.YtoldegajbonliaaFstep
namespace Go.Proofs.Ytoldegajbonliaa
open Go Go.RowKit
set_option linter.unusedVariables false

def jumpOp (op : Int) : Bool := op == 6 || op == 7 || op == 9 || op == 10 || op == 11 || op == 13
/-- Tokens whose jumps lead to places up to N; U: the leaves that lead nowhere yet. -/
def TG (U : Int → Prop) (N : Int) (ts : List Tk) : Prop := ∀ (i : Nat) (t : Tk), ts[i]? = some t → t.op ≠ 14 ∧ (jumpOp t.op = true → 0 ≤ t.a ∧ t.a ≤ N) ∧ (t.op = 12 → ((i : Int) < t.a ∧ t.a ≤ N) ∨ U i)
section
variable {U U' : Int → Prop} {N N' : Int} {ts : List Tk}
theorem TG.mono (h : TG U N ts) (hN : N ≤ N') (hU : ∀ i, U i → U' i) : TG U' N' ts := fun i t ht => by
  obtain ⟨h1, h2, h3⟩ := h i t ht
  exact ⟨h1, fun hj => ⟨(h2 hj).1, by have := (h2 hj).2; omega⟩, fun h12 => (h3 h12).imp (fun h => ⟨h.1, by omega⟩) (hU _)⟩
theorem TG.snoc (h : TG U N ts) (t : Tk) (h14 : t.op ≠ 14) (hj : jumpOp t.op = true → 0 ≤ t.a ∧ t.a ≤ N) (h12 : t.op = 12 → U ts.length) : TG U N (ts ++ [t]) := fun i u hu => by
  rw [List.getElem?_append] at hu
  split at hu
  · exact h i u hu
  · rename_i hlt
    rw [List.getElem?_singleton] at hu
    split at hu
    · obtain rfl := Option.some.inj hu
      have : i = ts.length := by omega
      subst this
      exact ⟨h14, hj, fun h => .inr (h12 h)⟩
    · cases hu
theorem patchT_len (ts : List Tk) (j a : Int) : (patchT ts j a).length = ts.length := by
  unfold patchT
  split
  · rw [List.length_set]
  · rfl
theorem TG.resolve (h : TG U N ts) {j a : Int} (hj : j < ts.length → j < a) (ha : a ≤ N) : TG (fun i => U i ∧ (i = j → ¬ (0 ≤ j ∧ j < ts.length))) N (patchT ts j a) := by
  unfold patchT
  split
  · rename_i hc
    obtain ⟨h0, h1, h2⟩ := hc
    obtain ⟨m, rfl⟩ : ∃ m : Nat, j = (m : Int) := ⟨j.toNat, by omega⟩
    intro i t ht
    rw [List.getElem?_set] at ht
    split at ht
    · rename_i hm
      split at ht
      · rename_i hml
        obtain rfl := Option.some.inj ht
        obtain ⟨x, hx⟩ : ∃ x, ts[m]? = some x := ⟨_, List.getElem?_eq_getElem (by omega)⟩
        have hat : atT ts m = x := by unfold atT; rw [if_pos (by omega), Int.toNat_natCast, hx]; rfl
        obtain ⟨g1, g2, g3⟩ := h m x hx
        rw [hat]
        refine ⟨g1, fun _ => ⟨h2, ha⟩, fun _ => .inl ⟨?_, ha⟩⟩
        have := hj h1
        dsimp only
        omega
      · cases ht
    · rename_i hm
      obtain ⟨g1, g2, g3⟩ := h i t ht
      refine ⟨g1, g2, fun h12 => (g3 h12).imp id (fun hu => ⟨hu, fun e => ?_⟩)⟩
      omega
  · rename_i hc
    intro i t ht
    obtain ⟨g1, g2, g3⟩ := h i t ht
    have hil := (List.getElem?_eq_some_iff.1 ht).1
    refine ⟨g1, g2, fun h12 => ?_⟩
    rcases g3 h12 with g | g
    · exact .inl g
    · refine .inr ⟨g, fun e hb => hc ⟨hb.1, hb.2, ?_⟩⟩
      have := hj hb.2
      omega
theorem TG.patch (h : TG U N ts) {j a : Int} (hj : j < ts.length → j < a) (ha : a ≤ N) : TG U N (patchT ts j a) := (h.resolve hj ha).mono (Int.le_refl _) (fun _ h => h.1)
theorem joins_good (js : List Int) : ∀ (ts : List Tk), TG U N ts → (ts.length : Int) ≤ N → TG U N (joinsT ts js) ∧ (joinsT ts js).length = ts.length := by
  induction js with
  | nil => intro ts h _; exact ⟨h, rfl⟩
  | cons j js ih =>
    intro ts h hN
    have h1 := ih (patchT ts j ts.length) (h.patch (fun h => h) hN) (by rw [patchT_len]; exact hN)
    rw [patchT_len] at h1
    exact h1
theorem leads_good (a : Int) (js : List Int) : ∀ (ts : List Tk) (U : Int → Prop), TG U N ts → (ts.length : Int) ≤ N → a < ts.length → (∀ j ∈ js, 0 ≤ j ∧ j < a) → TG (fun i => U i ∧ i ∉ js) N (leadsT a ts js) ∧ (leadsT a ts js).length = ts.length := by
  induction js with
  | nil => intro ts U h _ _ _; exact ⟨h.mono (Int.le_refl _) (fun i h => ⟨h, List.not_mem_nil⟩), rfl⟩
  | cons j js ih =>
    intro ts U h hN ha hjs
    have hj := hjs j List.mem_cons_self
    have hjs' : ∀ k ∈ js, 0 ≤ k ∧ k < a := fun k hk => hjs k (List.mem_cons_of_mem _ hk)
    show TG _ N (leadsT a (if (atT ts j).op = 12 then patchT ts j a else patchT ts j ts.length) js) ∧ (leadsT a (if (atT ts j).op = 12 then patchT ts j a else patchT ts j ts.length) js).length = ts.length
    have hfin : ∀ ts', TG (fun i => U i ∧ (i = j → ¬ (0 ≤ j ∧ j < ts.length))) N ts' → ts'.length = ts.length → TG (fun i => U i ∧ i ∉ j :: js) N (leadsT a ts' js) ∧ (leadsT a ts' js).length = ts.length := fun ts' ht hl => by
      obtain ⟨h1, h2⟩ := ih ts' _ ht (by rw [hl]; exact hN) (by rw [hl]; exact ha) hjs'
      refine ⟨h1.mono (Int.le_refl _) (fun i hi => ⟨hi.1.1, fun hm => ?_⟩), h2.trans hl⟩
      rcases List.mem_cons.1 hm with e | e
      · exact hi.1.2 e ⟨hj.1, by omega⟩
      · exact hi.2 e
    split
    · exact hfin _ (h.resolve (fun _ => hj.2) (by omega)) (patchT_len _ _ _)
    · exact hfin _ (h.resolve (fun h => h) hN) (patchT_len _ _ _)
end
/-- A thing whose places are places of the definition. -/
def ThG (n : Int) (x : Th) : Prop := 0 ≤ x.place ∧ x.place ≤ n ∧ (x.jumps.length : Int) ≤ n ∧ ∀ j ∈ x.jumps, 0 ≤ j ∧ j < n
/-- A leave that leads nowhere yet. -/
def Un (st : List Th) (i : Int) : Prop := ∃ x ∈ st, x.kind = 3 ∧ i ∈ x.jumps
def Good (st : List Th) (ts : List Tk) : Prop := (∀ x ∈ st, ThG ts.length x) ∧ TG (Un st) ts.length ts
theorem ThG.mono {n m : Int} {x : Th} (h : ThG n x) (hm : n ≤ m) : ThG m x := ⟨h.1, by have := h.2.1; omega, by have := h.2.2.1; omega, fun j hj => ⟨(h.2.2.2 j hj).1, by have := (h.2.2.2 j hj).2; omega⟩⟩
theorem Un.grow {st : List Th} (x : Th) {i : Int} (h : Un st i) : Un (st ++ [x]) i := by
  obtain ⟨y, hy, h1, h2⟩ := h
  exact ⟨y, List.mem_append_left _ hy, h1, h2⟩
/-- What is taken off holds no leave, if it is no loop. -/
theorem Un.drop {pre l : List Th} {i : Int} (h : Un (pre ++ l) i) (hl : ∀ x ∈ l, x.kind ≠ 3) : Un pre i := by
  obtain ⟨y, hy, h1, h2⟩ := h
  rcases List.mem_append.1 hy with hy | hy
  · exact ⟨y, hy, h1, h2⟩
  · exact absurd h1 (hl y hy)
theorem Good.lit {st : List Th} {ts : List Tk} (h : Good st ts) (a : Int) : Good st (ts ++ [⟨2, a, 0⟩]) := by
  have hlen : ((ts ++ [(⟨2, a, 0⟩ : Tk)]).length : Int) = ts.length + 1 := by simp
  refine ⟨fun x hx => (h.1 x hx).mono (by omega), ?_⟩
  rw [hlen]
  exact (h.2.mono (by omega) (fun _ h => h)).snoc ⟨2, a, 0⟩ (fun e => by cases e) (fun e => by cases e) (fun e => by cases e)
/-- A word that lays a token and no patch; a thing or two. -/
theorem good_step {k : Int} {pre l pre' news : List Th} {ts ts' : List Tk} (h : St k pre l ts pre' news ts') (K N : List Int) (hr : rowOf k = some (K, N)) (hK : l.map Th.kind = K) (hg : Good (pre ++ l) ts) : Good (pre' ++ news) ts' ∧ ts.length ≤ ts'.length ∧ ts'.length ≤ ts.length + 1 := by
  obtain ⟨hth, htg⟩ := hg
  have hpre : ∀ x ∈ pre, ThG ts.length x := fun x hx => hth x (List.mem_append_left _ hx)
  have hlth : ∀ x ∈ l, ThG ts.length x := fun x hx => hth x (List.mem_append_right _ hx)
  have nl0 : (0 : Int) ≤ ts.length := by omega
  have snocN : ∀ (t : Tk) (U : Int → Prop), TG U ts.length ts → t.op ≠ 14 → (jumpOp t.op = true → 0 ≤ t.a ∧ t.a ≤ ts.length) → t.op ≠ 12 → TG U (ts.length + 1) (ts ++ [t]) := fun t U h h14 hj h12 => (h.mono (by omega) (fun _ h => h)).snoc t h14 (fun e => ⟨(hj e).1, by have := (hj e).2; omega⟩) (fun e => absurd e h12)
  have len1 : ∀ t : Tk, (ts ++ [t]).length = ts.length + 1 := fun t => by simp
  have key : ∀ (news : List Th) (ts' : List Tk), ts'.length ≤ ts.length + 1 → ts.length ≤ ts'.length → (∀ x ∈ news, ThG ts'.length x) → TG (Un (pre ++ news)) ts'.length ts' → Good (pre ++ news) ts' ∧ ts.length ≤ ts'.length ∧ ts'.length ≤ ts.length + 1 := fun news ts' h1 h2 h3 h4 =>
    ⟨⟨fun x hx => (List.mem_append.1 hx).elim (fun hx => (hpre x hx).mono (by omega)) (h3 x), h4⟩, h2, h1⟩
  have un0 : ∀ news, (∀ x ∈ l, x.kind ≠ 3) → ∀ i, Un (pre ++ l) i → Un (pre ++ news) i := fun news hl i hu => by
    obtain ⟨y, hy, h1, h2⟩ := hu.drop hl
    exact ⟨y, List.mem_append_left _ hy, h1, h2⟩
  have mk : ∀ (m k p : Int) (v : Value), 0 ≤ p → p ≤ m → ThG m ⟨k, p, [], v⟩ := fun m k p v h1 h2 => ⟨h1, h2, by simp; omega, fun j hj => by cases hj⟩
  have c1 : ∀ t : Tk, ((ts ++ [t]).length : Int) = ts.length + 1 := fun t => by simp
  have sn : ∀ (t : Tk) (news : List Th), (∀ x ∈ l, x.kind ≠ 3) → t.op ≠ 14 → (jumpOp t.op = true → 0 ≤ t.a ∧ t.a ≤ ts.length) → t.op ≠ 12 → TG (Un (pre ++ news)) (ts ++ [t]).length (ts ++ [t]) := fun t news hl h14 hj h12 => by
    rw [c1]
    exact snocN t _ (htg.mono (Int.le_refl _) (un0 news hl)) h14 hj h12
  cases h with
  | if_ =>
    exact key _ _ (by rw [len1]; omega) (by rw [len1]; omega) (fun x hx => by rw [List.mem_singleton.1 hx]; exact mk _ _ _ _ nl0 (by rw [c1]; omega)) (sn _ _ (fun x hx => by cases hx) (by decide) (fun e => ⟨Int.le_refl 0, nl0⟩) (by decide))
  | ahead =>
    exact key _ _ (by rw [len1]; omega) (by rw [len1]; omega) (fun x hx => by rw [List.mem_singleton.1 hx]; exact mk _ _ _ _ nl0 (by rw [c1]; omega)) (sn _ _ (fun x hx => by cases hx) (by decide) (fun e => ⟨Int.le_refl 0, nl0⟩) (by decide))
  | then_ _ x =>
    have hx3 : ∀ z ∈ [x], z.kind ≠ 3 := fun z hz => by
      simp [rowOf] at hr
      rw [List.mem_singleton.1 hz]
      rw [← hr.1] at hK
      simp at hK
      omega
    exact key _ _ (by rw [patchT_len]; omega) (by rw [patchT_len]; omega) (fun x hx => by cases hx) (by rw [patchT_len]; exact (htg.mono (Int.le_refl _) (un0 _ hx3)).patch (fun h => h) (Int.le_refl _))
  | else_ _ x =>
    have hx3 : ∀ z ∈ [x], z.kind ≠ 3 := fun z hz => by
      simp [rowOf] at hr
      rw [List.mem_singleton.1 hz]
      rw [← hr.1] at hK
      simp at hK
      omega
    exact key _ _ (by rw [patchT_len, len1]; omega) (by rw [patchT_len, len1]; omega) (fun x hx => by rw [List.mem_singleton.1 hx, patchT_len]; exact mk _ _ _ _ nl0 (by rw [c1]; omega)) (by rw [patchT_len]; exact (sn _ _ hx3 (by decide) (fun e => ⟨Int.le_refl 0, nl0⟩) (by decide)).patch (fun h => h) (Int.le_refl _))
  | begin_ =>
    exact key _ _ (by omega) (by omega) (fun x hx => by rw [List.mem_singleton.1 hx]; exact mk _ _ _ _ nl0 (Int.le_refl _)) (htg.mono (Int.le_refl _) (un0 _ (fun x hx => by cases hx)))
  | again _ x =>
    have hx3 : ∀ z ∈ [x], z.kind ≠ 3 := fun z hz => by
      simp [rowOf] at hr
      rw [List.mem_singleton.1 hz]
      rw [← hr.1] at hK
      simp at hK
      omega
    have hx := hlth x List.mem_cons_self
    exact key _ _ (by rw [len1]; omega) (by rw [len1]; omega) (fun x hx => by cases hx) (sn _ _ hx3 (fun e => by cases e) (fun e => ⟨hx.1, hx.2.1⟩) (fun e => by cases e))
  | until_ _ x =>
    have hx3 : ∀ z ∈ [x], z.kind ≠ 3 := fun z hz => by
      simp [rowOf] at hr
      rw [List.mem_singleton.1 hz]
      rw [← hr.1] at hK
      simp at hK
      omega
    have hx := hlth x List.mem_cons_self
    exact key _ _ (by rw [len1]; omega) (by rw [len1]; omega) (fun x hx => by cases hx) (sn _ _ hx3 (fun e => by cases e) (fun e => ⟨hx.1, hx.2.1⟩) (fun e => by cases e))
  | while_ _ x =>
    have hx3 : ∀ z ∈ [x], z.kind ≠ 3 := fun z hz => by
      simp [rowOf] at hr
      rw [List.mem_singleton.1 hz]
      rw [← hr.1] at hK
      simp at hK
      omega
    have hx := hlth x List.mem_cons_self
    exact key _ _ (by rw [len1]; omega) (by rw [len1]; omega) (fun z hz => by
      rcases List.mem_cons.1 hz with rfl | hz
      · exact mk _ _ _ _ nl0 (by rw [c1]; omega)
      · rw [List.mem_singleton.1 hz]
        exact hx.mono (by rw [c1]; omega)) (sn _ _ hx3 (by decide) (fun e => ⟨Int.le_refl 0, nl0⟩) (by decide))
  | repeat_ _ x y =>
    have hx3 : ∀ z ∈ [x, y], z.kind ≠ 3 := fun z hz => by
      simp [rowOf] at hr
      rw [← hr.1] at hK
      simp at hK
      rcases List.mem_cons.1 hz with rfl | hz
      · omega
      · rw [List.mem_singleton.1 hz]
        omega
    have hy := hlth y (List.mem_cons_of_mem _ List.mem_cons_self)
    exact key _ _ (by rw [patchT_len, len1]; omega) (by rw [patchT_len, len1]; omega) (fun x hx => by cases hx) (by rw [patchT_len]; exact (sn _ _ hx3 (fun e => by cases e) (fun e => ⟨hy.1, hy.2.1⟩) (fun e => by cases e)).patch (fun h => h) (Int.le_refl _))
  | do_ =>
    exact key _ _ (by rw [len1]; omega) (by rw [len1]; omega) (fun x hx => by rw [List.mem_singleton.1 hx]; exact mk _ _ _ _ (by omega) (Int.le_refl _)) (sn _ _ (fun x hx => by cases hx) (by decide) (fun e => by cases e) (by decide))
  | qdo =>
    exact key _ _ (by rw [len1]; omega) (by rw [len1]; omega) (fun x hx => by
      rw [List.mem_singleton.1 hx]
      refine ⟨by dsimp only; omega, Int.le_refl _, by simp; omega, fun j hj => ?_⟩
      rw [List.mem_singleton.1 hj, c1]
      omega) (sn _ _ (fun x hx => by cases hx) (by decide) (fun e => ⟨Int.le_refl 0, nl0⟩) (by decide))
  | loop _ x =>
    have hx := hlth x List.mem_cons_self
    have h1 : TG (Un (pre ++ [x])) (ts ++ [(⟨10, x.place, 0⟩ : Tk)]).length (ts ++ [⟨10, x.place, 0⟩]) := by
      rw [c1]
      exact snocN _ _ htg (fun e => by cases e) (fun e => ⟨hx.1, hx.2.1⟩) (fun e => by cases e)
    obtain ⟨h2, h3⟩ := leads_good ts.length x.jumps _ _ h1 (Int.le_refl _) (by rw [c1]; omega) hx.2.2.2
    exact key _ _ (by rw [h3, len1]; omega) (by rw [h3, len1]; omega) (fun x hx => by cases hx) (by
      rw [h3]
      refine h2.mono (Int.le_refl _) (fun i hi => ?_)
      obtain ⟨⟨y, hy, e1, e2⟩, hn⟩ := hi
      rcases List.mem_append.1 hy with hy | hy
      · exact ⟨y, List.mem_append_left _ hy, e1, e2⟩
      · rw [List.mem_singleton.1 hy] at e2
        exact absurd e2 hn)
  | plus _ x =>
    have hx := hlth x List.mem_cons_self
    have h1 : TG (Un (pre ++ [x])) (ts ++ [(⟨11, x.place, 0⟩ : Tk)]).length (ts ++ [⟨11, x.place, 0⟩]) := by
      rw [c1]
      exact snocN _ _ htg (fun e => by cases e) (fun e => ⟨hx.1, hx.2.1⟩) (fun e => by cases e)
    obtain ⟨h2, h3⟩ := leads_good ts.length x.jumps _ _ h1 (Int.le_refl _) (by rw [c1]; omega) hx.2.2.2
    exact key _ _ (by rw [h3, len1]; omega) (by rw [h3, len1]; omega) (fun x hx => by cases hx) (by
      rw [h3]
      refine h2.mono (Int.le_refl _) (fun i hi => ?_)
      obtain ⟨⟨y, hy, e1, e2⟩, hn⟩ := hi
      rcases List.mem_append.1 hy with hy | hy
      · exact ⟨y, List.mem_append_left _ hy, e1, e2⟩
      · rw [List.mem_singleton.1 hy] at e2
        exact absurd e2 hn)
  | case_ =>
    exact key _ _ (by omega) (by omega) (fun x hx => by rw [List.mem_singleton.1 hx]; exact mk _ _ _ _ (Int.le_refl _) nl0) (htg.mono (Int.le_refl _) (un0 _ (fun x hx => by cases hx)))
  | of_ _ x =>
    have hx3 : ∀ z ∈ [x], z.kind ≠ 3 := fun z hz => by
      simp [rowOf] at hr
      rw [List.mem_singleton.1 hz]
      rw [← hr.1] at hK
      simp at hK
      omega
    have hx := hlth x List.mem_cons_self
    exact key _ _ (by rw [len1]; omega) (by rw [len1]; omega) (fun z hz => by
      rcases List.mem_cons.1 hz with rfl | hz
      · exact hx.mono (by rw [c1]; omega)
      · rw [List.mem_singleton.1 hz]
        exact mk _ _ _ _ nl0 (by rw [c1]; omega)) (sn _ _ hx3 (by decide) (fun e => ⟨Int.le_refl 0, nl0⟩) (by decide))
  | endof _ x y =>
    have hx3 : ∀ z ∈ [x, y], z.kind ≠ 3 := fun z hz => by
      simp [rowOf] at hr
      rw [← hr.1] at hK
      simp at hK
      rcases List.mem_cons.1 hz with rfl | hz
      · omega
      · rw [List.mem_singleton.1 hz]
        omega
    have hx := hlth x List.mem_cons_self
    exact key _ _ (by rw [patchT_len, len1]; omega) (by rw [patchT_len, len1]; omega) (fun z hz => by
      rw [List.mem_singleton.1 hz, patchT_len, c1]
      refine ⟨Int.le_refl 0, by dsimp only; omega, ?_, fun j hj => ?_⟩
      · have := hx.2.2.1
        simp
        omega
      · rcases List.mem_append.1 hj with hj | hj
        · have := hx.2.2.2 j hj
          omega
        · rw [List.mem_singleton.1 hj]
          omega) (by rw [patchT_len]; exact (sn _ _ hx3 (by decide) (fun e => ⟨Int.le_refl 0, nl0⟩) (by decide)).patch (fun h => h) (Int.le_refl _))
  | endcase _ x =>
    have hx3 : ∀ z ∈ [x], z.kind ≠ 3 := fun z hz => by
      simp [rowOf] at hr
      rw [List.mem_singleton.1 hz]
      rw [← hr.1] at hK
      simp at hK
      omega
    obtain ⟨h2, h3⟩ := joins_good x.jumps _ (sn ⟨1, 8, 0⟩ [] hx3 (by decide) (fun e => by cases e) (by decide)) (Int.le_refl _)
    exact key _ _ (by rw [h3, len1]; omega) (by rw [h3, len1]; omega) (fun x hx => by cases hx) (by rw [h3]; exact h2)
  | leave pre suf x _ jv hx3 hs =>
    have hx := hpre x (by simp)
    rw [List.append_nil] at htg ⊢
    refine ⟨⟨fun z hz => ?_, ?_⟩, by rw [len1]; omega, by rw [len1]; omega⟩
    · rcases List.mem_append.1 hz with hz | hz
      · exact (hpre z (List.mem_append_left _ hz)).mono (by rw [c1]; omega)
      · rcases List.mem_cons.1 hz with rfl | hz
        · rw [c1]
          refine ⟨hx.1, by have := hx.2.1; dsimp only; omega, by have := hx.2.2.1; simp; omega, fun j hj => ?_⟩
          rcases List.mem_append.1 hj with hj | hj
          · have := hx.2.2.2 j hj
            omega
          · rw [List.mem_singleton.1 hj]
            omega
        · exact (hpre z (List.mem_append_right _ (List.mem_cons_of_mem _ hz))).mono (by rw [c1]; omega)
    · rw [c1]
      refine (htg.mono (by omega) (fun i hi => ?_)).snoc _ (fun e => by cases e) (fun e => by cases e) (fun _ => ⟨_, List.mem_append_right _ List.mem_cons_self, rfl, by simp⟩)
      obtain ⟨y, hy, e1, e2⟩ := hi
      rcases List.mem_append.1 hy with hy | hy
      · exact ⟨y, List.mem_append_left _ hy, e1, e2⟩
      · rcases List.mem_cons.1 hy with rfl | hy
        · exact ⟨_, List.mem_append_right _ List.mem_cons_self, rfl, List.mem_append_left _ e2⟩
        · exact ⟨y, List.mem_append_right _ (List.mem_cons_of_mem _ hy), e1, e2⟩
end Go.Proofs.Ytoldegajbonliaa
