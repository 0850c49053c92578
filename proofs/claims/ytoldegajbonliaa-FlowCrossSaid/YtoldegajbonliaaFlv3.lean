/- Flow: what words do: Leave. -/
import Derived.Test.YtoldegajbonliaaFlv
import Derived.Test.YtoldegajbonliaaFbrg
import Derived.Test.YtoldegajbonliaaFd6
namespace Go.Proofs.Ytoldegajbonliaa
open Go Go.RowKit Go.Shelf
set_option linter.unusedVariables false
set_option linter.unusedSimpArgs false
attribute [local go_sem] Oper.semAt_some

section
variable {w w' : World} {B f p g scap q cap : Nat} {tv tv' lv : Value} {ts ts' : List Tk} {st l : List Th} {T : Nat → Prop}
theorem Pl.blk {tp : TypeId} (h : Pl tp w B p q cap tv ts) {k : Nat} (hk : PlIn p q tv k) : ∃ t cs, Blk w k t cs := by
  rcases hk with rfl | rfl | hk
  · exact ⟨_, _, h.po⟩
  · obtain ⟨cur, hq, _⟩ := h.dr
    exact ⟨_, _, hq⟩
  · rcases h.tr.2 with ⟨e, _⟩ | ⟨g', cap', cs, e, _, hg, _⟩
    · rw [e] at hk; cases hk
    · rw [e] at hk
      injection hk with hk
      subst hk
      exact ⟨_, _, hg⟩
theorem Fl.blk (h : Fl w B f p st g scap ts q cap tv) {k : Nat} (hk : FlIn f p q tv g st k) : ∃ t cs, Blk w k t cs := by
  rcases hk with hk | rfl | rfl | ⟨x, hx, hk⟩
  · exact h.pl.blk hk
  · exact ⟨_, _, h.fo⟩
  · obtain ⟨cs, hg, _⟩ := h.sk
    exact ⟨_, _, hg⟩
  · obtain ⟨_, cs, hb⟩ := (h.js x hx).2 k hk
    exact ⟨_, _, hb⟩
/-- What holds no block is laid over. -/
theorem Fl.grown (h : Fl w B f p st g scap ts q cap tv) {row : Option Nat} (hg : w.grownBy w' row) (hr : ∀ k, row = some k → ∃ o, w.heap[k]? = some o ∧ o.isCells = false) : Fl w' B f p st g scap ts q cap tv := by
  refine h.fr ((Fr.refl (fun k => row = some k) w).grown hg (fun k hk => .inl hk)) (fun k hk he => ?_)
  obtain ⟨t, cs, hb⟩ := h.blk hk
  obtain ⟨o, ho, hc⟩ := hr k he
  unfold Blk at hb
  rw [hb] at ho
  injection ho with ho
  subst ho
  cases hc
theorem Fl.grown_put {D n : Nat} {o' : Obj} (h : Fl w B f p st g scap ts q cap tv) {S : Nat → Prop} (hp : Fr S w (w.putObj D o')) (hD : n ≤ D) (hK : w.heap[D]? = some (.deferred (some []))) : Fl (w.putObj D o') B f p st g scap ts q cap tv := by
  refine h.fr (fr_put (W := w) (S := fun k => k = D) o' rfl) (fun k hk he => ?_)
  subst he
  obtain ⟨t, cs, hb⟩ := h.blk hk
  unfold Blk at hb
  rw [hb] at hK
  cases hK
/-- How Leave leaves the stack: the jumps of one loop more. -/
def leftSt (st : List Th) (i : Nat) (y : Th) (n : Int) (jv : Value) : List Th := st.set i ⟨3, y.place, y.jumps ++ [n], jv⟩
/-- No loop among what has come. -/
def NoDo (pre : List (TA st)) : Prop := ∀ z ∈ pre, z.1.2.kind ≠ 3
theorem NoDo.nil : NoDo ([] : List (TA st)) := fun z hz => by cases hz
/-- What Leave has left behind the round that found a loop. -/
def LeftQ (w : World) (B f p : Nat) (st : List Th) (g scap : Nat) (ts : List Tk) (q cap : Nat) (tv : Value) (pre : List (TA st)) (W : World) : Prop :=
  ∃ pp y jv tv', pre = pp ++ [y] ∧ NoDo pp ∧ y.1.2.kind = 3 ∧ Fl W B f p (leftSt st y.1.1 y.1.2 ts.length jv) g scap (ts ++ [⟨12, 0, 0⟩]) q cap tv' ∧ Turn (FlIn f p q tv g st) (FlIn f p q tv' g (leftSt st y.1.1 y.1.2 ts.length jv)) w W ∧ Blk W (w.heap.size + 1) 65 #[.slice none 0 0] ∧ Blk W (w.heap.size + 2) 3 #[.int .i64 0]
theorem Fl.left {i : Nat} {y : Th} {v : Value} {js : List Int} {b : Nat} (h : Fl w B f p st g scap ts q cap tv) (hi : st[i]? = some y) (hy : y.kind = 3) (hb : B ≤ b) (hJ : OwnI w b v js) (n : Int) (hjs : js = y.jumps ++ [n]) :
    Fl (w.setCell ⟨g, i * 3 + 2, none⟩ v) B f p (leftSt st i y n v) g scap ts q cap tv ∧ Fr (fun k => k = g) w (w.setCell ⟨g, i * 3 + 2, none⟩ v) ∧ ∀ k, FlIn f p q tv g (leftSt st i y n v) k → FlIn f p q tv g st k ∨ v.ownBlock = some k := by
  subst hjs
  have hf := (Fr.refl (fun k => k = g) w).setCell (p := ⟨g, i * 3 + 2, none⟩) (.inl rfl) v
  obtain ⟨cs, hg, h1, h2, h3⟩ := h.sk
  have hfg : f ≠ g := fun e => Blk.ne_ h.fo hg (by decide) e
  have hlen : (leftSt st i y n v).length = st.length := by unfold leftSt; rw [List.length_set]
  have hmem : ∀ x ∈ leftSt st i y n v, x ∈ st ∨ x = ⟨3, y.place, y.jumps ++ [n], v⟩ := fun x hx => List.mem_or_eq_of_mem_set hx
  have hgi : ∀ k, (∃ cs', Blk w k 3 cs') → k ≠ g := fun k ⟨cs', hb'⟩ => Blk.ne_ hb' hg (by decide)
  refine ⟨⟨?_, h.pl.fr hf (fun k hk he => h.pl.no hg (by decide) (by decide) (by decide) (he ▸ hk)), ⟨_, hg.set_ _ _, by rw [hlen]; exact h1, by rw [Array.size_setIfInBounds]; exact h2, ?_⟩, fun x hx => ?_, h.lo, by rw [hlen]; exact h.deep⟩, hf, fun k hk => ?_⟩
  · rw [hlen]
    exact h.fo.far (p := ⟨g, i * 3 + 2, none⟩) hfg _
  · rw [hlen]
    unfold leftSt
    rw [flatZ_set thz hi (by omega : 2 < 3) (x' := ⟨3, y.place, y.jumps ++ [n], v⟩) (u := v) (by unfold Th.cells; rw [hy]; rfl), ← h3, Array.toList_setIfInBounds, List.take_set]
  · rcases hmem x hx with hx | rfl
    · exact (h.js x hx).fr hf (fun k hk => hgi k ((h.js x hx).2 k hk).2)
    · have hj := hJ.jr hb
      exact hj.fr hf (fun k hk => hgi k (hj.2 k hk).2)
  · rcases hk with h1 | h1 | h1 | ⟨x, hx, h1⟩
    · exact .inl (.inl h1)
    · exact .inl (.inr (.inl h1))
    · exact .inl (.inr (.inr (.inl h1)))
    · rcases hmem x hx with hx | rfl
      · exact .inl (.inr (.inr (.inr ⟨x, hx, h1⟩)))
      · exact .inr h1
set_option maxRecDepth 100000 in
set_option maxHeartbeats 4000000 in
theorem leave_some (w : World) (h : Fl w B f p st g scap ts q cap tv) (hne : st ≠ []) (hl : ts.length < 50000) (hj : ∀ x ∈ st, x.jumps.length ≤ 900000) (hsome : ∃ x ∈ st, x.kind = 3) : Calls Try.prog 66 #[.pointer (some ⟨f, 0, none⟩), lv] w fun e w' => e = .returned (.tuple #[.slice none 0 0, .int .i64 0]) ∧ ∃ k y jv tv', k < st.length ∧ (bwT st k).1 = (st.length - 1 - k, y) ∧ y.kind = 3 ∧ (∀ i < k, (bwT st i).1.2.kind ≠ 3) ∧ Fl w' B f p (leftSt st (st.length - 1 - k) y ts.length jv) g scap (ts ++ [⟨12, 0, 0⟩]) q cap tv' ∧ Turn (FlIn f p q tv g st) (FlIn f p q tv' g (leftSt st (st.length - 1 - k) y ts.length jv)) w w' := by
  refine (callsIn_wide (n := 4)).1 ?_
  refine callsIn_of_wp_marks Try.func66 rfl trivial ?_ rfl
  simp only [Try.ntmps66, List.size_toArray, List.length_cons, List.length_nil, Nat.reduceAdd, Nat.reduceSub, Array.replicate_succ, Array.replicate_zero, List.push_toArray, List.append_toArray, List.nil_append, List.cons_append]
  obtain ⟨_, _, c2⟩ := h.cells
  have HR := Lib.hid h.thRow
  have HSL := Lib.hid h.sl
  have HNE := Lib.hid hne
  have hdeep := h.deep
  have hfl := h.fo.lt
  have hgl := h.glt
  obtain ⟨n, hn⟩ : ∃ n, st.length = n := ⟨_, rfl⟩
  rw [hn] at c2 hdeep
  have HN := Lib.hid hn
  have HSO := Lib.hid hsome
  have HLJ := Lib.hid (And.intro hl hj)
  have HH := Lib.hid h
  clear h hn hsome hne hl hj
  have c2x : ((((w.alloc (.cells #[.pointer (some ⟨f, 0, none⟩)] 27)).alloc (.cells #[.slice none 0 0] 65)).alloc (.cells #[.int .i64 0] 3))).cell? ⟨f, 2, none⟩ = some (.slice (some ⟨g, 0, none⟩) n scap) :=
    (((((Fr.refl (fun _ => False) w).alloc _).alloc _).alloc _).cell (p := ⟨f, 2, none⟩) hfl (fun x => x)).trans c2
  gi_wp2_with (refine ⟨trivial, ?_⟩; gi_at_call 83; refine (callsIn_wide.2 (backt_any _ _ (some ⟨g, 0, none⟩) n scap rfl)).mono ?_; rintro e w' ⟨rfl, rfl⟩)
  obtain ⟨W0, hW0⟩ : ∃ W0, ((((w.alloc (.cells #[.pointer (some ⟨f, 0, none⟩)] 27)).alloc (.cells #[.slice none 0 0] 65)).alloc (.cells #[.int .i64 0] 3)).alloc (.cells #[.slice (some ⟨g, 0, none⟩) n scap] 65)) = W0 := ⟨_, rfl⟩
  rw [hW0]
  have hsz : W0.heap.size = w.heap.size + 4 := by rw [← hW0]; simp
  have hF0 : Fr0 w W0 := by
    rw [← hW0]
    exact ((((Fr.refl _ w).alloc _).alloc _).alloc _).alloc _
  have b2 : Blk W0 w.heap.size 27 #[.pointer (some ⟨f, 0, none⟩)] := by
    rw [← hW0]
    exact (((Blk.new w _ _).alloc _).alloc _).alloc _
  have b4 : Blk W0 (w.heap.size + 1) 65 #[.slice none 0 0] := by
    rw [← hW0]
    have := ((Blk.new (w.alloc (.cells #[.pointer (some ⟨f, 0, none⟩)] 27)) 65 #[.slice none 0 0]).alloc (.cells #[.int .i64 0] 3)).alloc (.cells #[.slice (some ⟨g, 0, none⟩) n scap] 65)
    simpa using this
  have b5 : Blk W0 (w.heap.size + 2) 3 #[.int .i64 0] := by
    rw [← hW0]
    have := (Blk.new ((w.alloc (.cells #[.pointer (some ⟨f, 0, none⟩)] 27)).alloc (.cells #[.slice none 0 0] 65)) 3 #[.int .i64 0]).alloc (.cells #[.slice (some ⟨g, 0, none⟩) n scap] 65)
    simpa using this
  have bB : Blk W0 (w.heap.size + 3) 65 #[.slice (some ⟨g, 0, none⟩) n scap] := by
    rw [← hW0]
    have := Blk.new (((w.alloc (.cells #[.pointer (some ⟨f, 0, none⟩)] 27)).alloc (.cells #[.slice none 0 0] 65)).alloc (.cells #[.int .i64 0] 3)) 65 #[.slice (some ⟨g, 0, none⟩) n scap]
    simpa using this
  clear hW0
  have hrow : ThSl (fun _ => False) w.heap.size W0 (.slice (some ⟨g, 0, none⟩) n scap) st := ⟨_, scap, by rw [HN.out], fun _ => ⟨g, rfl, hgl, fun x => x, HR.out.fr hF0 hgl (fun x => x)⟩⟩
  refine wpIn_rangeFunc_ownH rfl (by omega) (gf := 87) (lb := #[.pointer (some ⟨w.heap.size + 3, 0, none⟩)]) rfl trivial (enters_of Try.func87 (by kernel_rfl) rfl)
    (backt_stops (fun _ => False) (w.heap.size + 3) w.heap.size _ st (by rw [HN.out]; omega) W0 (by omega) (by omega) (bB.cell 0) hrow) kpS_t (kpS_b (by omega) (by omega)) (Below.refl _ _) (fun _ => rfl)
    (fun (pre : List (TA st)) W => Fr (fun k => w.heap.size ≤ k) w W ∧ Blk W w.heap.size 27 #[.pointer (some ⟨f, 0, none⟩)] ∧ Blk W (w.heap.size + 1) 65 #[.slice none 0 0] ∧ Blk W (w.heap.size + 2) 3 #[.int .i64 0] ∧ w.heap.size + 4 ≤ W.heap.size ∧ NoDo pre)
    (fun c (pre : List (TA st)) W => c = .ret ∧ LeftQ w B f p st g scap ts q cap tv pre W)
    (fun pre W W' row ⟨h1, h0, h2, h3, h4, h5⟩ hg hr => ⟨h1.grown hg (fun k hk => .inl (by have := (hr k hk).1; omega)), h0.grown hg (fun e => by have := (hr _ e.symm).1; omega), h2.grown hg (fun e => by have := (hr _ e.symm).1; omega), h3.grown hg (fun e => by have := (hr _ e.symm).1; omega), Nat.le_trans h4 hg.size, h5⟩)
    (fun c pre W W' row ⟨h0, pp, y, jv, tv', h1, h2, h3, h4, h5, h6, h7⟩ hg hr => ⟨h0, pp, y, jv, tv', h1, h2, h3, h4.grown hg (fun k hk => (hr k hk).2), h5.after (T := fun k => row = some k) ((Fr.refl _ W).grown hg (fun k hk => .inl hk)) (fun k hk => by have := (hr k hk).1; omega), h6.grown hg (fun e => by have := (hr _ e.symm).1; omega), h7.grown hg (fun e => by have := (hr _ e.symm).1; omega)⟩)
    ⟨hF0.of0, b2, b4, b5, Nat.le_of_eq hsz.symm, NoDo.nil⟩
    (fun (x : TA st) a' W => ∃ g0 : Nat, w.heap.size + 4 ≤ g0 ∧ Blk W g0 64 #[.int .i64 x.1.2.kind, .int .i64 x.1.2.place, x.1.2.jv] ∧
      a' = { tmps := #[.pointer (some ⟨f, 0, none⟩), lv, .pointer (some ⟨w.heap.size, 0, none⟩), undef, .pointer (some ⟨w.heap.size + 1, 0, none⟩), .pointer (some ⟨w.heap.size + 1 + 1, 0, none⟩), .int .i64 (x.1.1 : Int), .pointer (some ⟨g0, 0, none⟩), undef, undef, .pointer (some ⟨f, 0, none⟩), .pointer (some ⟨f, 0, none⟩), .pointer (some ⟨f, 2, none⟩), .slice (some ⟨g, 0, none⟩) n scap, .func (.func 87) #[] #[.pointer (some ⟨w.heap.size + 1 + 1 + 1, 0, none⟩)],
        .int .i64 (x.1.1 : Int), .agg #[.int .i64 x.1.2.kind, .int .i64 x.1.2.place, x.1.2.jv], undef, undef, undef, undef, undef, undef, undef, undef, undef, undef, undef, undef, undef, undef, undef, undef, undef, undef, undef, undef, undef, undef, undef, undef], defers := [] })
    (fun x a' _ W W' row ⟨g, hg0, hgb, e⟩ hg hr => ⟨g, hg0, hgb.grown hg (fun e => by obtain ⟨_, o, ho, hc⟩ := hr _ e.symm; unfold Blk at hgb; rw [hgb] at ho; injection ho with ho; subst ho; cases hc), e⟩) ?assign ?body ?done ?stop
  case assign =>
    rintro l0 pre x W K ⟨h1, h0, h2, h3, h4, h5⟩ hK
    obtain ⟨A, m, c, hsx⟩ : ∃ A m c, x.1.2.jv = .slice A m c := HSL.out _ (List.mem_of_getElem? (x.2 HNE.out))
    obtain ⟨⟨i, ⟨xk, xp, xs, xj⟩⟩, hi⟩ := x
    dsimp only at hsx
    subst hsx
    gi_wp2
    have hfa := (Fr.refl (fun _ => False) W).alloc (.cells #[.int .i64 xk, .int .i64 xp, .slice A m c] 64)
    exact hK _ _ (keepsFrom_alloc _ _ _) ⟨hfa.of0, hfa.block _ (by omega) (fun x => x)⟩ ⟨h1.trans hfa.of0, h0.fr0 hfa, h2.fr0 hfa, h3.fr0 hfa, Nat.le_trans h4 hfa.size, h5⟩ ⟨W.heap.size, h4, Blk.new W _ _, rfl⟩
  case body =>
    rintro l0 pre x a' W hl0 hr ⟨h1, h0, h2, h3, h4, h5⟩ ⟨g0, hg0, hgb, rfl⟩ hlen
    have z0 := hgb.cell 0
    have hxe := x.2 HNE.out
    obtain ⟨i, hie⟩ : ∃ i, x.1.1 = i := ⟨_, rfl⟩
    by_cases hxk : x.1.2.kind = 3
    · rw [hxk] at z0
      have k0 := h0.cell 0
      have hFW : Fl W B f p st g scap ts q cap tv := HH.out.fr h1 (fun k hk he => by have := (HH.out.in_lo hk).2; omega)
      have HLA := Lib.hid (lay_f 12 0 W hFW HLJ.out.1)
      rw [hie] at hxe ⊢
      have hil : i < n := by rw [← HN.out]; exact (List.getElem?_eq_some_iff.1 hxe).1
      have HX := Lib.hid (And.intro hie (And.intro hxk hxe))
      have H2 := Lib.hid (And.intro h1 (And.intro h0 (And.intro h2 (And.intro h3 (And.intro h4 (And.intro h5 (And.intro hgb hFW)))))))
      clear h1 h0 h2 h3 h4 h5 hxe hie hxk hFW
      gi_wp2_with (refine ⟨trivial, ?_⟩; refine (CallsIn.inRound l0 (callsIn_wide.2 HLA.out)).mono ?_; rintro e w2 ⟨rfl, tv2, a2, t2⟩)
      have HSZ := Lib.hid hsz
      clear hsz
      obtain ⟨W2, hW2⟩ : ∃ W2, w2 = W2 := ⟨_, rfl⟩
      obtain ⟨jn, hjn⟩ : ∃ jn, x.1.2.jumps.length = jn := ⟨_, rfl⟩
      obtain ⟨AJ, cj, hjv⟩ : ∃ AJ cj, x.1.2.jv = .slice AJ jn cj := by
        obtain ⟨_, A, c, e, _⟩ := (a2.js x.1.2 (List.mem_of_getElem? HX.out.2.2)).1
        exact ⟨A, c, by rw [← hjn]; exact e⟩
      have HJV := Lib.hid (And.intro hjn hjv)
      obtain ⟨h1, h0, h2, h3, h4, h5, hgb, hFW⟩ := H2.out
      have hinw : ∀ k, FlIn f p q tv g st k → k < w.heap.size := fun k hk => (HH.out.in_lo hk).2
      have hb2 := h0.fr t2.1 (fun e => by have := hinw _ e; omega)
      have hb4 := h2.fr t2.1 (fun e => by have := hinw _ e; omega)
      have hb5 := h3.fr t2.1 (fun e => by have := hinw _ e; omega)
      have hg2 := hgb.fr t2.1 (fun e => by have := hinw _ e; omega)
      rw [hjv] at hg2
      have hcc := a2.cells
      rw [HN.out] at hcc
      have hs : W2.drew.cell? ⟨w.heap.size, 0, none⟩ = some (.pointer (some ⟨f, 0, none⟩)) ∧ W2.drew.cell? ⟨f, 2, none⟩ = some (.slice (some ⟨g, 0, none⟩) n scap) ∧ W2.drew.cell? ⟨g0, 2, none⟩ = some (.slice AJ jn cj) := by
        subst hW2
        exact ⟨hb2.cell 0, hcc.2.2, hg2.cell 2⟩
      subst hW2
      have HS := Lib.hid hs
      have HB := Lib.hid (And.intro hb2 (And.intro hb4 (And.intro hb5 (And.intro hg2 (And.intro a2 t2)))))
      have hil2 : (i : Int) < (n : Int) := by omega
      have hi0 : (0 : Int) ≤ (i : Int) := by omega
      clear hb2 hb4 hb5 hg2 a2 t2 hs h1 h0 h2 h3 h4 h5 hgb hFW z0 k0 hcc hjn
      have HCL := Lib.hid (show ∀ V, Fr0 w2 V → Calls Try.prog 84 #[.slice AJ jn cj] V fun e w' => ∃ u, e = .returned u ∧ w'.ownsRow w2.heap.size 3 1 u jn (x.1.2.jumps.map (Value.int .i64)) ∧ Fr0 w2 w' from fun V hV => by
        have hjr := (HB.out.2.2.2.2.1.fr0 hV).js x.1.2 (List.mem_of_getElem? HX.out.2.2)
        have h := Clone_ints x.1.2.jv x.1.2.jumps V hjr.1 (Nat.le_trans (HLJ.out.2 x.1.2 (List.mem_of_getElem? HX.out.2.2)) (by decide))
        rw [HJV.out.2] at h
        refine h.mono ?_
        rintro e w' ⟨u, rfl, hu, hf⟩
        unfold OwnI at hu
        rw [HJV.out.1] at hu
        exact ⟨u, rfl, own_mono hu hV.size, hV.trans hf⟩)
      have HSV := Lib.hid (show ∀ V, Fr0 w2 V → V.cell? ⟨w.heap.size, 0, none⟩ = some (.pointer (some ⟨f, 0, none⟩)) ∧ V.cell? ⟨f, 2, none⟩ = some (.slice (some ⟨g, 0, none⟩) n scap) ∧ V.cell? ⟨g0, 2, none⟩ = some (.slice AJ jn cj) from fun V hV => by
        have h2 := (HB.out.2.2.2.2.1.fr0 hV).cells.2.2
        rw [HN.out] at h2
        exact ⟨(HB.out.1.fr0 hV).cell 0, h2, (HB.out.2.2.2.1.fr0 hV).cell 2⟩)
      have HCL2 := Lib.hid (show ∀ V, Fr0 w2 V → Calls Try.prog 84 #[.slice AJ jn cj] V fun e w' => ∃ u, e = .returned u ∧ w'.ownsRow w2.heap.size 3 1 u jn (x.1.2.jumps.map (Value.int .i64)) ∧ Fr0 w2 w' ∧ Fr0 V w' from fun V hV => by
        have hjr := (HB.out.2.2.2.2.1.fr0 hV).js x.1.2 (List.mem_of_getElem? HX.out.2.2)
        have h := Clone_ints x.1.2.jv x.1.2.jumps V hjr.1 (Nat.le_trans (HLJ.out.2 x.1.2 (List.mem_of_getElem? HX.out.2.2)) (by decide))
        rw [HJV.out.2] at h
        refine h.mono ?_
        rintro e w' ⟨u, rfl, hu, hf⟩
        unfold OwnI at hu
        rw [HJV.out.1] at hu
        exact ⟨u, rfl, own_mono hu hV.size, hV.trans hf, hf⟩)
      have HFIN := Lib.hid (show ∀ (w6 : World) (A6 : Option Addr) (c6 : Nat), Fr0 w2 w6 → w6.ownsRow w2.heap.size 3 1 (.slice A6 (jn + 1) c6) (jn + 1) (x.1.2.jumps.map (Value.int .i64) ++ [.int .i64 (ts.length : Int)]) →
          ((w6.setCell ⟨g, i * 3 + 2, none⟩ (.slice A6 (jn + 1) c6)).cell? ⟨w.heap.size, 0, none⟩ = some (.pointer (some ⟨f, 0, none⟩)) ∧ (w6.setCell ⟨g, i * 3 + 2, none⟩ (.slice A6 (jn + 1) c6)).cell? ⟨f, 2, none⟩ = some (.slice (some ⟨g, 0, none⟩) n scap) ∧ (w6.setCell ⟨g, i * 3 + 2, none⟩ (.slice A6 (jn + 1) c6)).cell? ⟨g0, 2, none⟩ = some (.slice AJ jn cj)) ∧
          Fl (w6.setCell ⟨g, i * 3 + 2, none⟩ (.slice A6 (jn + 1) c6)) B f p (leftSt st i x.1.2 ts.length (.slice A6 (jn + 1) c6)) g scap (ts ++ [⟨12, 0, 0⟩]) q cap tv2 ∧
          Turn (FlIn f p q tv g st) (FlIn f p q tv2 g (leftSt st i x.1.2 ts.length (.slice A6 (jn + 1) c6))) W (w6.setCell ⟨g, i * 3 + 2, none⟩ (.slice A6 (jn + 1) c6)) ∧
          Blk (w6.setCell ⟨g, i * 3 + 2, none⟩ (.slice A6 (jn + 1) c6)) (w.heap.size + 1) 65 #[.slice none 0 0] ∧ Blk (w6.setCell ⟨g, i * 3 + 2, none⟩ (.slice A6 (jn + 1) c6)) (w.heap.size + 2) 3 #[.int .i64 0] from fun w6 A6 c6 hf6 ho6 => by
        obtain ⟨hb2, hb4, hb5, hg2, a2, t2⟩ := HB.out
        have hO : OwnI w6 w2.heap.size (.slice A6 (jn + 1) c6) (x.1.2.jumps ++ [(ts.length : Int)]) := by
          unfold OwnI
          rw [List.length_append, List.map_append, HJV.out.1]
          exact ho6
        obtain ⟨l1, l2, l3⟩ := (a2.fr0 hf6).left HX.out.2.2 HX.out.2.1 a2.pl.lo.2.2 hO (ts.length : Int) rfl
        have ne : ∀ k, w.heap.size ≤ k → k ≠ g := fun k hk he => by omega
        have c2' := l1.cells.2.2
        rw [show (leftSt st i x.1.2 (ts.length : Int) (.slice A6 (jn + 1) c6)).length = n from by unfold leftSt; rw [List.length_set, HN.out]] at c2'
        refine ⟨⟨((hb2.fr0 hf6).fr l2 (ne _ (Nat.le_refl _))).cell 0, c2', ((hg2.fr0 hf6).fr l2 (ne _ (by omega))).cell 2⟩, l1, ⟨(t2.1.then hf6 (fun _ _ h => h.elim)).then l2 (fun k _ hk => hk ▸ .inr (.inr (.inl rfl))), fun k hk => ?_⟩, (hb4.fr0 hf6).fr l2 (ne _ (by omega)), (hb5.fr0 hf6).fr l2 (ne _ (by omega))⟩
        rcases l3 k hk with h | h
        · exact t2.2 k h
        · exact .inr (Nat.le_trans t2.1.size (own_lo ho6 k h).1))
      have HPF := Lib.hid (show ∀ (W9 : World) (jv : Value), Fl W9 B f p (leftSt st i x.1.2 ts.length jv) g scap (ts ++ [⟨12, 0, 0⟩]) q cap tv2 → Turn (FlIn f p q tv g st) (FlIn f p q tv2 g (leftSt st i x.1.2 ts.length jv)) W W9 → Blk W9 (w.heap.size + 1) 65 #[.slice none 0 0] → Blk W9 (w.heap.size + 2) 3 #[.int .i64 0] →
          KeepsFrom W0.heap.size W ((W9.setCell ⟨w.heap.size + 1, 0, none⟩ (.slice none 0 0)).setCell ⟨w.heap.size + 2, 0, none⟩ (.int .i64 0)) ∧ LeftQ w B f p st g scap ts q cap tv (pre ++ [x]) ((W9.setCell ⟨w.heap.size + 1, 0, none⟩ (.slice none 0 0)).setCell ⟨w.heap.size + 2, 0, none⟩ (.int .i64 0)) from fun W9 jv fl ft fb4 fb5 => by
        have hsz := HSZ.out
        obtain ⟨h1, h0, h2, h3, h4, h5, hgb, hFW⟩ := H2.out
        have f4 := (Fr.refl (fun k => k = w.heap.size + 1 ∨ k = w.heap.size + 2) W9).setCell (p := ⟨w.heap.size + 1, 0, none⟩) (.inl (.inl rfl)) (.slice none 0 0)
        have f5 := f4.setCell (p := ⟨w.heap.size + 2, 0, none⟩) (.inl (.inr rfl)) (.int .i64 0)
        have hzz := ft.1.size
        have hnl : ∀ k, FlIn f p q tv2 g (leftSt st i x.1.2 ts.length jv) k → ¬ (k = w.heap.size + 1 ∨ k = w.heap.size + 2) := fun k hk he => by
          rcases ft.2 k hk with h | h
          · have := hinw k h
            omega
          · omega
        have g4 := ((fb4.set_ 0 (.slice none 0 0)).far (p := ⟨w.heap.size + 2, 0, none⟩) (by dsimp only; omega) (.int .i64 0))
        have g5 := ((fb5.far (p := ⟨w.heap.size + 1, 0, none⟩) (by dsimp only; omega) (.slice none 0 0)).set_ 0 (.int .i64 0))
        simp only [List.setIfInBounds_toArray, List.set_cons_zero] at g4 g5
        have hall := (ft.1.mono (S' := fun k => k < w.heap.size ∨ k = w.heap.size + 1 ∨ k = w.heap.size + 2) (fun k _ hk => .inl (hinw k hk))).trans (f5.mono (fun k _ hk => .inr hk))
        refine ⟨keepsFrom_of hall (fun k hk => by omega), pre, x, jv, tv2, rfl, h5, HX.out.2.1, by rw [HX.out.1]; exact fl.fr f5 hnl, ?_, g4, g5⟩
        rw [HX.out.1]
        refine ⟨?_, fun k hk => ?_⟩
        · refine ⟨hall.os.trans h1.os, hall.tape.trans h1.tape, hall.output.trans h1.output, Nat.le_trans h1.size hall.size, fun k hk hn => ?_⟩
          have e1 := f5.block k (Nat.lt_of_lt_of_le (Nat.lt_of_lt_of_le hk h1.size) hzz) (by omega)
          have e2 := ft.1.block k (Nat.lt_of_lt_of_le hk h1.size) hn
          exact e1.trans (e2.trans (h1.block k hk (by omega)))
        · rcases ft.2 k hk with h | h
          · exact .inl h
          · exact .inr (Nat.le_trans h1.size h))
      obtain ⟨i0, hi0'⟩ := info_parts3 infoI
      have HI0 := Lib.hid hi0'
      clear hi0'
      have HJN := Lib.hid (show jn + 1 ≤ maxLen ∧ (jn + 1) * 8 ≤ 140737488355328 from by
        have h := HLJ.out.2 x.1.2 (List.mem_of_getElem? HX.out.2.2)
        rw [HJV.out.1] at h
        unfold maxLen
        exact ⟨by omega, by omega⟩)
      refine regionIn_of (S := fun V => V.cell? ⟨w.heap.size, 0, none⟩ = some (.pointer (some ⟨f, 0, none⟩)) ∧ V.cell? ⟨f, 2, none⟩ = some (.slice (some ⟨g, 0, none⟩) n scap) ∧ V.cell? ⟨g0, 2, none⟩ = some (.slice AJ jn cj)) (by kernel_rfl) ?_ ?_ ?_
      · intro j o c ho
        have := List.mem_of_getElem? (Array.getElem?_toList ▸ ho)
        simp only [List.mem_cons, List.not_mem_nil, or_false] at this
        rcases this with rfl | rfl | rfl | rfl | rfl | rfl | rfl | rfl | rfl | rfl | rfl | rfl | rfl | rfl <;> (intro h; cases h)
      · rintro ⟨a, w, h⟩
        exact h
      refine wpAnyH_take (i := 0) (v := .pointer (some ⟨f, 0, none⟩)) rfl (by kernel_rfl) (by kernel_rfl) (by kernel_rfl) (fun _ _ _ h => h) (Or.inl ⟨by rfl, ?_⟩) HS.out ?_
      · intro V hV
        obtain ⟨s0, s1, s2⟩ := hV
        go_simp
      simp only [Act.put, List.setIfInBounds_toArray, List.set_cons_zero, List.set_cons_succ]
      refine wpAnyH_take (i := 1) (v := .pointer (some ⟨f, 0, none⟩)) rfl (by kernel_rfl) (by kernel_rfl) (by kernel_rfl) (fun _ _ _ h => h) (Or.inl ⟨by rfl, ?_⟩) HS.out ?_
      · intro V hV
        obtain ⟨s0, s1, s2⟩ := hV
        go_simp
      simp only [Act.put, List.setIfInBounds_toArray, List.set_cons_zero, List.set_cons_succ]
      refine wpAnyH_take (i := 2) (v := .pointer (some ⟨f, 2, none⟩)) rfl (by kernel_rfl) (by kernel_rfl) (by kernel_rfl) (fun _ _ _ h => h) (Or.inl ⟨by rfl, ?_⟩) HS.out ?_
      · intro V hV
        obtain ⟨s0, s1, s2⟩ := hV
        go_simp
      simp only [Act.put, List.setIfInBounds_toArray, List.set_cons_zero, List.set_cons_succ]
      refine wpAnyH_take (i := 3) (v := .slice (some ⟨g, 0, none⟩) n scap) rfl (by kernel_rfl) (by kernel_rfl) (by kernel_rfl) (fun _ _ _ h => h) (Or.inl ⟨by rfl, ?_⟩) HS.out ?_
      · intro V hV
        obtain ⟨s0, s1, s2⟩ := hV
        go_simp
      simp only [Act.put, List.setIfInBounds_toArray, List.set_cons_zero, List.set_cons_succ]
      refine wpAnyH_take (i := 4) (v := .int .i64 (i : Int)) rfl (by kernel_rfl) (by kernel_rfl) (by kernel_rfl) (fun _ _ _ h => h) (Or.inl ⟨by rfl, ?_⟩) HS.out ?_
      · intro V hV
        obtain ⟨s0, s1, s2⟩ := hV
        go_simp
      simp only [Act.put, List.setIfInBounds_toArray, List.set_cons_zero, List.set_cons_succ]
      refine wpAnyH_take (i := 5) (v := .pointer (some ⟨g0, 2, none⟩)) rfl (by kernel_rfl) (by kernel_rfl) (by kernel_rfl) (fun _ _ _ h => h) (Or.inl ⟨by rfl, ?_⟩) HS.out ?_
      · intro V hV
        obtain ⟨s0, s1, s2⟩ := hV
        go_simp
      simp only [Act.put, List.setIfInBounds_toArray, List.set_cons_zero, List.set_cons_succ]
      refine wpAnyH_take (i := 6) (v := .slice AJ jn cj) rfl (by kernel_rfl) (by kernel_rfl) (by kernel_rfl) (fun _ _ _ h => h) (Or.inl ⟨by rfl, ?_⟩) HS.out ?_
      · intro V hV
        obtain ⟨s0, s1, s2⟩ := hV
        go_simp
      simp only [Act.put, List.setIfInBounds_toArray, List.set_cons_zero, List.set_cons_succ]
      refine wpAnyH_take (i := 8) (v := .int .i64 (ts.length : Int)) rfl (by kernel_rfl) (by kernel_rfl) (by kernel_rfl) (fun _ _ _ h => h) (Or.inl ⟨by rfl, ?_⟩) HS.out ?_
      · intro V hV
        obtain ⟨s0, s1, s2⟩ := hV
        go_simp
      simp only [Act.put, List.setIfInBounds_toArray, List.set_cons_zero, List.set_cons_succ]
      refine wpAnyH_ready (rs := [7, 9]) (by kernel_rfl) (by simp) ?_
      refine AllReadyH.cons rfl (fun K hK => ?_) (AllReadyH.cons rfl (fun K hK => ?_) AllReadyH.nil)
      · go_simp
        go_at_call 84
        refine (HCL.out _ (Fr.refl (fun _ => False) w2).drew).mono ?_
        rintro e w4 ⟨u, rfl, hu, hf4⟩
        obtain ⟨_, A4, c4, rfl, _⟩ := own_src hu
        refine hK.out _ _ (HSV.out _ hf4) (fun _ => ?_)
        clear hK K
        try simp only [Act.put, List.setIfInBounds_toArray, List.set_cons_zero, List.set_cons_succ]
        refine wpAnyH_ready (rs := [9]) (by kernel_rfl) (by simp) ?_
        refine AllReadyH.cons rfl (fun K hK => ?_) AllReadyH.nil
        go_simp
        refine hK.out _ _ (HSV.out _ (hf4.alloc _)) (fun _ => ?_)
        clear hK K
        try simp only [Act.put, List.setIfInBounds_toArray, List.set_cons_zero, List.set_cons_succ]
        have hu5 := own_fr hu ((Fr.refl (fun _ => False) w4).alloc (.cells #[.int .i64 (ts.length : Int)] 3)) (fun _ _ h => h)
        have hr5 := Rd.new w4 (e := 3) (size := 1) (m := 1) #[.int .i64 (ts.length : Int)] rfl 1
        have hf5 := hf4.alloc (.cells #[.int .i64 (ts.length : Int)] 3)
        obtain ⟨W5, hW5⟩ : ∃ W5, w4.alloc (.cells #[.int .i64 (ts.length : Int)] 3) = W5 := ⟨_, rfl⟩
        obtain ⟨b5, hb5⟩ : ∃ b5, w4.heap.size = b5 := ⟨_, rfl⟩
        rw [hW5] at hu5 hr5 hf5 ⊢
        rw [hb5] at hr5 ⊢
        refine wpAnyH_ready (rs := [10]) (by kernel_rfl) (by simp) ?_
        refine AllReadyH.cons rfl (fun K hK => ?_) AllReadyH.nil
        refine step_append_src (P := Try.prog) (t := 22) (e := 3) (size := 1) (n := jn) (m := 1) (base := w2.heap.size) (i := i0) (bytes := 8) (v := .slice A4 jn c4) (xs := x.1.2.jumps.map (Value.int .i64)) (news := [.int .i64 (ts.length : Int)]) rfl (.tmp 34) (.tmp 36) rfl Try.underlying22 HI0.out.1 HI0.out.2.1 HI0.out.2.2.1 HI0.out.2.2.2 rfl (by decide) rfl rfl hu5 hr5 (fun u hu => by simp at hu; subst hu; rfl) HJN.out.1 HJN.out.2 hf5.size ?_
        intro v6 w6 ho6 hg6 hk6
        have hf6 := hf5.grown hg6 (fun j hj => .inr (own_lo hu5 j hj).1)
        obtain ⟨_, A6, c6, rfl, _⟩ := own_src ho6
        refine hK.out _ _ (HSV.out _ hf6) (fun _ => ?_)
        clear hK K
        try simp only [Act.put, List.setIfInBounds_toArray, List.set_cons_zero, List.set_cons_succ]
        refine wpAnyH_take (i := 11) (v := .pointer (some ⟨g, i * 3, none⟩)) rfl (by kernel_rfl) (by kernel_rfl) (by kernel_rfl) (fun _ _ _ h => h) (Or.inl ⟨by rfl, ?_⟩) (HSV.out _ hf6) ?_
        · intro V hV
          obtain ⟨s0, s1, s2⟩ := hV
          go_simp
        try simp only [Act.put, List.setIfInBounds_toArray, List.set_cons_zero, List.set_cons_succ]
        refine wpAnyH_take (i := 12) (v := .pointer (some ⟨g, i * 3 + 2, none⟩)) rfl (by kernel_rfl) (by kernel_rfl) (by kernel_rfl) (fun _ _ _ h => h) (Or.inl ⟨by rfl, ?_⟩) (HSV.out _ hf6) ?_
        · intro V hV
          obtain ⟨s0, s1, s2⟩ := hV
          go_simp
        try simp only [Act.put, List.setIfInBounds_toArray, List.set_cons_zero, List.set_cons_succ]
        have a6 := HB.out.2.2.2.2.1.fr0 hf6
        have y6 := (a6.things HX.out.2.2).2.2
        have q6 : w6.frozen? ⟨g, i * 3 + 2, none⟩ = false := by
          obtain ⟨cs, hg, _⟩ := a6.sk
          exact hg.frozen _
        refine wpAnyH_ready (rs := [13]) (by kernel_rfl) (by simp) ?_
        refine AllReadyH.cons rfl (fun K hK => ?_) AllReadyH.nil
        go_simp
        obtain ⟨fs, fl, ft, fb4, fb5⟩ := HFIN.out w6 A6 c6 hf6 ho6
        refine hK.out _ _ fs (fun _ => ?_)
        clear hK K
        try simp only [Act.put, List.setIfInBounds_toArray, List.set_cons_zero, List.set_cons_succ]
        refine wpAnyH_done (by kernel_rfl) ?_ _
        obtain ⟨W9, hW9⟩ : ∃ W9, w6.setCell ⟨g, i * 3 + 2, none⟩ (.slice A6 (jn + 1) c6) = W9 := ⟨_, rfl⟩
        rw [hW9] at fl ft fb4 fb5 ⊢
        have y4 := fb4.frozen 0
        have y5 := fb5.frozen 0
        have z4 := fb4.cell 0
        have z5 := fb5.cell 0
        have HFL := Lib.hid (And.intro fl (And.intro ft (And.intro fb4 fb5)))
        clear fl ft fb4 fb5 hf6 ho6 hg6 hk6 y6 q6 a6 fs hf5 hu5 hr5 hW9
        gi_wp2
        have PF := HPF.out W9 _ HFL.out.1 HFL.out.2.1 HFL.out.2.2.1 HFL.out.2.2.2
        exact ⟨PF.1, rfl, PF.2⟩
      · go_simp
        refine hK.out _ _ (HSV.out _ ((Fr.refl (fun _ => False) w2).drew.alloc _)) (fun _ => ?_)
        clear hK K
        try simp only [Act.put, List.setIfInBounds_toArray, List.set_cons_zero, List.set_cons_succ]
        have hr4 := (Rd.new w2 (e := 3) (size := 1) (m := 1) #[.int .i64 (ts.length : Int)] rfl 1).fr0 (Fr.refl (fun _ => False) _).drew
        have hf3 := ((Fr.refl (fun _ => False) w2).alloc (.cells #[.int .i64 (ts.length : Int)] 3)).drew
        obtain ⟨W3, hW3⟩ : ∃ W3, (w2.alloc (.cells #[.int .i64 (ts.length : Int)] 3)).drew = W3 := ⟨_, rfl⟩
        obtain ⟨b5, hb5⟩ : ∃ b5, w2.heap.size = b5 := ⟨_, rfl⟩
        rw [hW3] at hr4 hf3 ⊢
        rw [hb5] at hr4 ⊢
        refine wpAnyH_ready (rs := [7]) (by kernel_rfl) (by simp) ?_
        refine AllReadyH.cons rfl (fun K hK => ?_) AllReadyH.nil
        go_simp
        go_at_call 84
        refine (HCL2.out _ hf3).mono ?_
        rintro e W5 ⟨u, rfl, hu5, hf5, hf5w⟩
        have hr5 := hr4.fr0 hf5w
        obtain ⟨_, A4, c4, rfl, _⟩ := own_src hu5
        refine hK.out _ _ (HSV.out _ hf5) (fun _ => ?_)
        clear hK K
        try simp only [Act.put, List.setIfInBounds_toArray, List.set_cons_zero, List.set_cons_succ]
        refine wpAnyH_ready (rs := [10]) (by kernel_rfl) (by simp) ?_
        refine AllReadyH.cons rfl (fun K hK => ?_) AllReadyH.nil
        refine step_append_src (P := Try.prog) (t := 22) (e := 3) (size := 1) (n := jn) (m := 1) (base := w2.heap.size) (i := i0) (bytes := 8) (v := .slice A4 jn c4) (xs := x.1.2.jumps.map (Value.int .i64)) (news := [.int .i64 (ts.length : Int)]) rfl (.tmp 34) (.tmp 36) rfl Try.underlying22 HI0.out.1 HI0.out.2.1 HI0.out.2.2.1 HI0.out.2.2.2 rfl (by decide) rfl rfl hu5 hr5 (fun u hu => by simp at hu; subst hu; rfl) HJN.out.1 HJN.out.2 hf5.size ?_
        intro v6 w6 ho6 hg6 hk6
        have hf6 := hf5.grown hg6 (fun j hj => .inr (own_lo hu5 j hj).1)
        obtain ⟨_, A6, c6, rfl, _⟩ := own_src ho6
        refine hK.out _ _ (HSV.out _ hf6) (fun _ => ?_)
        clear hK K
        try simp only [Act.put, List.setIfInBounds_toArray, List.set_cons_zero, List.set_cons_succ]
        refine wpAnyH_take (i := 11) (v := .pointer (some ⟨g, i * 3, none⟩)) rfl (by kernel_rfl) (by kernel_rfl) (by kernel_rfl) (fun _ _ _ h => h) (Or.inl ⟨by rfl, ?_⟩) (HSV.out _ hf6) ?_
        · intro V hV
          obtain ⟨s0, s1, s2⟩ := hV
          go_simp
        try simp only [Act.put, List.setIfInBounds_toArray, List.set_cons_zero, List.set_cons_succ]
        refine wpAnyH_take (i := 12) (v := .pointer (some ⟨g, i * 3 + 2, none⟩)) rfl (by kernel_rfl) (by kernel_rfl) (by kernel_rfl) (fun _ _ _ h => h) (Or.inl ⟨by rfl, ?_⟩) (HSV.out _ hf6) ?_
        · intro V hV
          obtain ⟨s0, s1, s2⟩ := hV
          go_simp
        try simp only [Act.put, List.setIfInBounds_toArray, List.set_cons_zero, List.set_cons_succ]
        have a6 := HB.out.2.2.2.2.1.fr0 hf6
        have y6 := (a6.things HX.out.2.2).2.2
        have q6 : w6.frozen? ⟨g, i * 3 + 2, none⟩ = false := by
          obtain ⟨cs, hg, _⟩ := a6.sk
          exact hg.frozen _
        refine wpAnyH_ready (rs := [13]) (by kernel_rfl) (by simp) ?_
        refine AllReadyH.cons rfl (fun K hK => ?_) AllReadyH.nil
        go_simp
        obtain ⟨fs, fl, ft, fb4, fb5⟩ := HFIN.out w6 A6 c6 hf6 ho6
        refine hK.out _ _ fs (fun _ => ?_)
        clear hK K
        try simp only [Act.put, List.setIfInBounds_toArray, List.set_cons_zero, List.set_cons_succ]
        refine wpAnyH_done (by kernel_rfl) ?_ _
        obtain ⟨W9, hW9⟩ : ∃ W9, w6.setCell ⟨g, i * 3 + 2, none⟩ (.slice A6 (jn + 1) c6) = W9 := ⟨_, rfl⟩
        rw [hW9] at fl ft fb4 fb5 ⊢
        have y4 := fb4.frozen 0
        have y5 := fb5.frozen 0
        have z4 := fb4.cell 0
        have z5 := fb5.cell 0
        have HFL := Lib.hid (And.intro fl (And.intro ft (And.intro fb4 fb5)))
        clear fl ft fb4 fb5 hf6 ho6 hg6 hk6 y6 q6 a6 fs hf5 hu5 hr5 hW9
        gi_wp2
        have PF := HPF.out W9 _ HFL.out.1 HFL.out.2.1 HFL.out.2.2.1 HFL.out.2.2.2
        exact ⟨PF.1, rfl, PF.2⟩
    · have hxb : (x.1.2.kind == (3 : Int)) = false := by simpa using hxk
      gi_wp2
      exact ⟨KeepsFrom.refl _ _, ⟨Fr.refl _ _, rfl⟩, h1, h0, h2, h3, h4, fun z hz => by
        rcases List.mem_append.1 hz with hz | hz
        · exact h5 z hz
        · rw [List.mem_singleton.1 hz]
          exact hxk⟩
  case done =>
    rintro D ys W hD rfl ⟨h1, h0, h2, h3, h4, h5⟩ hK
    exfalso
    obtain ⟨x, hx, hx3⟩ := HSO.out
    obtain ⟨i, hi⟩ := List.getElem?_of_mem hx
    have hil := (List.getElem?_eq_some_iff.1 hi).1
    have hb := bwT_eq (k := st.length - 1 - i) (j := i) (by omega) hi
    refine h5 (bwT st (st.length - 1 - i)) ?_ (by rw [hb]; exact hx3)
    unfold upto
    exact List.mem_map.2 ⟨_, List.mem_range.2 (by omega), rfl⟩
  case stop =>
    rintro D c pre W hD ⟨k, hk, rfl⟩ ⟨rfl, pp, y, jv, tv', h1, h2, h3, h4, h5, h6, h7⟩ hK
    gi_wp2
    obtain ⟨j, rfl⟩ : ∃ j, k = j + 1 := by
      cases k with
      | zero =>
        have := congrArg List.length h1
        simp [upto] at this
      | succ j => exact ⟨j, rfl⟩
    rw [upto_succ] at h1
    obtain ⟨e1, e2⟩ := List.append_inj' h1 rfl
    have e3 : bwT st j = y := by simpa using e2
    subst e3
    subst e1
    have hjl : j < st.length := by omega
    obtain ⟨x, hx⟩ : ∃ x, st[st.length - 1 - j]? = some x := ⟨_, List.getElem?_eq_getElem (by omega)⟩
    have hb := bwT_eq (k := j) (j := st.length - 1 - j) (by omega) hx
    rw [hb] at h3 h4 h5
    have hp := fr_put (W := W) (S := fun k => w.heap.size + 4 ≤ k) (.deferred none) (show w.heap.size + 4 ≤ D by omega)
    have r4 := (h6.fr hp (by omega)).cell 0
    have r5 := (h7.fr hp (by omega)).cell 0
    refine ⟨by simp, .inl ⟨_, _, rfl, run_takeDeferred hK, ?_⟩⟩
    refine ⟨.tuple #[.slice none 0 0, .int .i64 0], by simp [results, Try.results66, go_sem, r4, r5], rfl, j, x, jv, tv', hjl, hb, h3, fun i hi => ?_, h4.grown_put hp hD hK, h5.after hp (fun k hk => by omega)⟩
    have := h2 (bwT st i) (by unfold upto; exact List.mem_map.2 ⟨_, List.mem_range.2 hi, rfl⟩)
    exact this
end
end Go.Proofs.Ytoldegajbonliaa
