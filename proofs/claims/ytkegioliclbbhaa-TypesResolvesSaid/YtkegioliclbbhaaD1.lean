/- The abstract layer: contracts. -/
import Derived.Test.YtkegioliclbbhaaA15
set_option linter.unusedVariables false
set_option linter.unusedSimpArgs false
namespace Go.AL
variable {P : Program} {f : FuncId} {args : List AV} {s : St} {K K' : AV → St → Prop} {ι : Nat → Option Nat} {F : Nat → Nat → Prop} {w : World}

theorem ACalls.mono (h : ACalls P f args s K) (hk : ∀ r s', s.nx ≤ s'.nx → K r s' → K' r s') : ACalls P f args s K' :=
  ⟨h.1, fun ι w vs h1 h2 h3 => Calls.mono (h.2 ι w vs h1 h2 h3) fun e w' ⟨v, r, s', ι', k1, k2, k3, k4, k5, k6, k7⟩ => ⟨v, r, s', ι', k1, k2, k3, k4, k5, k6, hk r s' k5.1 k7⟩⟩

/-- All that is named has a number below the next one. -/
theorem ACalls.bnd (hc : Callable P f) (h : (∀ q ob, s.m q = some ob → q < s.nx) → ACalls P f args s K) : ACalls P f args s K :=
  ⟨hc, fun ι w vs h1 h2 h3 => (h h2.lt).2 ι w vs h1 h2 h3⟩

/-- Objects may be forgotten. -/
theorem ACalls.norm (h : ACalls P f args s fun r s' => ∃ S, (∀ q ob, S q = some ob → s'.m q = some ob) ∧ K r ⟨S, s'.nx⟩) : ACalls P f args s K := by
  refine ⟨h.1, fun ι w vs h1 h2 h3 => Calls.mono (h.2 ι w vs h1 h2 h3) ?_⟩
  rintro e w' ⟨v, r, s', ι', k1, k2, k3, k4, k5, k6, S, hS, hk⟩
  exact ⟨v, r, ⟨S, s'.nx⟩, ι', k1, k2.trans (drop_step s'.m S hS ι' w'), k3.drop hS, ⟨fun q ob hq => k4.lt q ob (hS q ob hq), k4.ilt⟩, k5, k6.step (drop_step s'.m S hS ι' w'), hk⟩

/-- A call that only computes, at any state. -/
theorem PureC.calls {r : AV} (h : PureC P f args r) (hk : ∀ m, s.nx ≤ m → K r (s.bump m)) : ACalls P f args s K := by
  refine ACalls.bnd (h s).1 fun hb => ACalls.norm (ACalls.mono (h s) fun r' s' hn hr => ?_)
  obtain ⟨rfl, hm⟩ := hr
  exact ⟨s.m, fun q ob hq => by rw [hm q (hb q ob hq)]; exact hq, hk _ hn⟩

theorem PureC.cpV {r : AV} (h : PureC P f args r) (hk : K r s) : ∃ r, PureC P f args r ∧ K r s := ⟨r, h, hk⟩

@[simp] theorem St.new_at (s : St) (o : AObj) (q : Nat) (h : q ≤ s.nx ∧ s.nx ≤ q) : (s.new o).m q = some o := by
  have e : q = s.nx := by omega
  rw [e]; simp

/-! ## Weaker values -/

mutual
/-- The second says no more than the first. -/
def wk : AV → AV → Prop
  | .list sz t xs, .list sz' t' ys => (t' = .none ∨ t' = t) ∧ (sz = sz' ∨ (xs = [] ∧ t' = .none)) ∧ wkL xs ys
  | .agg xs, .agg ys => wkL xs ys
  | .tup xs, .tup ys => wkL xs ys
  | .cptr xs, .cptr ys => wkL xs ys
  | .fn f a b, .fn f' a' b' => f = f' ∧ wkL a a' ∧ wkL b b'
  | v, v' => v = v'
def wkL : List AV → List AV → Prop
  | [], [] => True
  | x :: xs, y :: ys => wk x y ∧ wkL xs ys
  | _, _ => False
end

mutual
theorem wk_refl : ∀ v, wk v v
  | .list sz t xs => by simp only [wk]; exact ⟨.inr trivial, .inl trivial, wkL_refl xs⟩
  | .agg xs => by simp only [wk]; exact wkL_refl xs
  | .tup xs => by simp only [wk]; exact wkL_refl xs
  | .cptr xs => by simp only [wk]; exact wkL_refl xs
  | .fn f a b => by simp only [wk]; exact ⟨trivial, wkL_refl a, wkL_refl b⟩
  | .any | .bool _ | .int .. | .str _ | .ptr .. | .nilptr | .nilfn | .map _ | .nilmap | .mref .. | .aptr .. => by simp [wk]
theorem wkL_refl : ∀ v, wkL v v
  | [] => by simp [wkL]
  | x :: xs => by simp only [wkL]; exact ⟨wk_refl x, wkL_refl xs⟩
end

theorem wkL_get : ∀ {xs ys : List AV}, wkL xs ys → xs.length = ys.length ∧ ∀ (i : Nat) x y, xs[i]? = some x → ys[i]? = some y → wk x y
  | [], [], _ => ⟨rfl, by simp⟩
  | x :: xs, y :: ys, h => by
    simp only [wkL] at h
    obtain ⟨h1, h2⟩ := wkL_get h.2
    refine ⟨by simp [h1], fun i a b ha hb => ?_⟩
    cases i with
    | zero => simp at ha hb; subst ha hb; exact h.1
    | succ i => simp at ha hb; exact h2 i a b ha hb
  | [], _ :: _, h => by simp [wkL] at h
  | _ :: _, [], h => by simp [wkL] at h

theorem wkL_append : ∀ {xs ys xs' ys' : List AV}, wkL xs ys → wkL xs' ys' → wkL (xs ++ xs') (ys ++ ys')
  | [], [], _, _, _, h => h
  | x :: xs, y :: ys, _, _, h, h' => by
    simp only [wkL] at h
    simp only [List.cons_append, wkL]
    exact ⟨h.1, wkL_append h.2 h'⟩
  | [], _ :: _, _, _, h, _ => by simp [wkL] at h
  | _ :: _, [], _, _, h, _ => by simp [wkL] at h

theorem wk_cells {x y : AV} (h : wk x y) : wkL x.cells y.cells := by
  cases x <;> cases y <;> simp only [wk] at h <;> first
    | (cases h; done)
    | (cases h; exact wkL_refl _)
    | exact h
    | exact ⟨by simpa only [wk] using h, trivial⟩

theorem wkL_flat : ∀ {xs ys : List AV}, wkL xs ys → wkL (flat xs) (flat ys)
  | [], [], _ => by simp [wkL]
  | x :: xs, y :: ys, h => by
    simp only [wkL] at h
    simp only [flat_cons]
    exact wkL_append (wk_cells h.1) (wkL_flat h.2)
  | [], _ :: _, h => by simp [wkL] at h
  | _ :: _, [], h => by simp [wkL] at h

theorem wkL_some {xs ys : List AV} (h : wkL xs ys) {i : Nat} {y : AV} (hy : ys[i]? = some y) : ∃ x, xs[i]? = some x ∧ wk x y := by
  obtain ⟨h1, h2⟩ := wkL_get h
  have hi : i < xs.length := by rw [h1]; exact (List.getElem?_eq_some_iff.1 hy).1
  exact ⟨xs[i], by simp [hi], h2 i _ y (by simp [hi]) hy⟩

theorem Rep.wk {v : Value} {x : AV} (h : Rep ι F w v x) : ∀ {y : AV}, AL.wk x y → Rep ι F w v y := by
  induction h with
  | @list a len cap sz t xs cs hlen hcap hsz ht hnone hc hr ih =>
    intro y hy
    cases y <;> simp only [AL.wk] at hy <;> try (cases hy; done)
    rename_i sz' t' ys
    obtain ⟨h1, h2, h3⟩ := hy
    have hl := (wkL_get h3).1
    have key : ∀ j y, (flat ys)[j]? = some y → Rep ι F w (cs j) y := by
      intro j y hj
      obtain ⟨x, hx, hxy⟩ := wkL_some (wkL_flat h3) hj
      exact ih j x hx hxy
    rcases h2 with rfl | ⟨rfl, rfl⟩
    · refine .list cs (hlen.trans hl) hcap (fun y hy => ?_) ?_ hnone hc key
      · obtain ⟨i, hi⟩ := List.mem_iff_getElem?.1 hy
        obtain ⟨x, hx, hxy⟩ := wkL_some h3 hi
        rw [← (wkL_get (wk_cells hxy)).1]
        exact hsz x (List.mem_of_getElem? hx)
      · rcases h1 with rfl | rfl
        · trivial
        · exact ht
    · have : ys = [] := List.length_eq_zero_iff.1 (by rw [← hl]; rfl)
      subst this
      simp only [List.length_nil] at hlen
      subst hlen
      exact .list cs rfl hcap (by simp) trivial hnone (fun j hj => by omega) (by simp)
  | agg hl hc hr ih =>
    intro y hy
    cases y <;> simp only [AL.wk] at hy <;> try (cases hy; done)
    have h1 := (wkL_get hy).1
    refine .agg (hl.trans h1) hc fun j v y hv hj => ?_
    obtain ⟨x, hx, hxy⟩ := wkL_some hy hj
    exact ih j v x hv hx hxy
  | tup hl hr ih =>
    intro y hy
    cases y <;> simp only [AL.wk] at hy <;> try (cases hy; done)
    have h1 := (wkL_get hy).1
    refine .tup (hl.trans h1) fun j v y hv hj => ?_
    obtain ⟨x, hx, hxy⟩ := wkL_some hy hj
    exact ih j v x hv hx hxy
  | cptr cs ha hc hr ih =>
    intro y hy
    cases y <;> simp only [AL.wk] at hy <;> try (cases hy; done)
    have h1 := (wkL_get hy).1
    refine .cptr cs ha (fun j hj => hc j (by omega)) fun j y hj => ?_
    obtain ⟨x, hx, hxy⟩ := wkL_some hy hj
    exact ih j x hx hxy
  | fn f hl hl' hf hr ih1 ih2 =>
    intro y hy
    cases y <;> simp only [AL.wk] at hy <;> try (cases hy; done)
    obtain ⟨rfl, h1, h2⟩ := hy
    refine .fn _ (hl.trans (wkL_get h1).1) (hl'.trans (wkL_get h2).1) (fun j v y hv hj => ?_) fun j v y hv hj => ?_
    · obtain ⟨x, hx, hxy⟩ := wkL_some h1 hj
      exact ih1 j v x hv hx hxy
    · obtain ⟨x, hx, hxy⟩ := wkL_some h2 hj
      exact ih2 j v x hv hx hxy
  | any v => intro y hy; simp only [AL.wk] at hy; subst hy; exact .any v
  | bool b => intro y hy; simp only [AL.wk] at hy; subst hy; exact .bool b
  | int k n => intro y hy; simp only [AL.wk] at hy; subst hy; exact .int k n
  | str s => intro y hy; simp only [AL.wk] at hy; subst hy; exact .str s
  | ptr off h => intro y hy; simp only [AL.wk] at hy; subst hy; exact .ptr off h
  | nilptr => intro y hy; simp only [AL.wk] at hy; subst hy; exact .nilptr
  | nilfn => intro y hy; simp only [AL.wk] at hy; subst hy; exact .nilfn
  | map h => intro y hy; simp only [AL.wk] at hy; subst hy; exact .map h
  | nilmap => intro y hy; simp only [AL.wk] at hy; subst hy; exact .nilmap
  | mref h hcap hb => intro y hy; simp only [AL.wk] at hy; subst hy; exact .mref h hcap hb
  | mnil => intro y hy; simp only [AL.wk] at hy; subst hy; exact .mnil
  | aptr h => intro y hy; simp only [AL.wk] at hy; subst hy; exact .aptr h

theorem RepL.wk {vs : Array Value} {xs ys : List AV} (h : RepL ι F w vs xs) (hw : wkL xs ys) : RepL ι F w vs ys := by
  refine ⟨h.1.trans (wkL_get hw).1, fun j v y hv hy => ?_⟩
  obtain ⟨x, hx, hxy⟩ := wkL_some hw hy
  exact (h.2 j v x hv hx).wk hxy

theorem ACalls.argw {args' : List AV} (h : ACalls P f args' s K) (hw : wkL args args') : ACalls P f args s K :=
  ⟨h.1, fun ι w vs h1 h2 h3 => h.2 ι w vs h1 h2 (h3.wk hw)⟩
theorem PureC.argw {args' : List AV} {r : AV} (h : PureC P f args' r) (hw : wkL args args') : PureC P f args r := fun s => (h s).argw hw

/-- Results may be said in weaker words. -/
theorem ACalls.res (h : ACalls P f args s fun r s' => ∃ r', AL.wk r r' ∧ K r' s') : ACalls P f args s K :=
  ⟨h.1, fun ι w vs h1 h2 h3 => Calls.mono (h.2 ι w vs h1 h2 h3) fun e w' ⟨v, r, s', ι', k1, k2, k3, k4, k5, k6, r', hw, k7⟩ => ⟨v, r', s', ι', k1, k2, k3, k4, k5, k6.wk hw, k7⟩⟩

/-- What is below is as it was. -/
def Kept (s s' : St) : Prop := ∀ q, q < s.nx → s'.m q = s.m q
@[simp] theorem kept_refl (s : St) : Kept s s := fun _ _ => rfl
@[simp] theorem kept_bump (s s' : St) (n : Nat) : Kept s (s'.bump n) = Kept s s' := rfl
@[simp] theorem kept_new (s s' : St) (ob : AObj) (h : s.nx ≤ s'.nx) : Kept s (s'.new ob) = Kept s s' := by
  have : ∀ q, q < s.nx → (s'.new ob).m q = s'.m q := fun q hq => St.new_ne _ _ _ (by omega)
  simp only [Kept]
  exact propext ⟨fun k q hq => by rw [← this q hq]; exact k q hq, fun k q hq => by rw [this q hq]; exact k q hq⟩
@[simp] theorem kept_set (s s' : St) (o : Nat) (ob : AObj) (h : s.nx ≤ o) : Kept s (s'.set o ob) = Kept s s' := by
  have : ∀ q, q < s.nx → (s'.set o ob).m q = s'.m q := fun q hq => St.set_ne _ _ _ _ (by omega)
  simp only [Kept]
  exact propext ⟨fun k q hq => by rw [← this q hq]; exact k q hq, fun k q hq => by rw [this q hq]; exact k q hq⟩
@[simp] theorem kept_del (s s' : St) (o : Nat) (h : s.nx ≤ o) : Kept s (s'.del o) = Kept s s' := by
  have : ∀ q, q < s.nx → (s'.del o).m q = s'.m q := fun q hq => St.del_ne _ _ _ (by omega)
  simp only [Kept]
  exact propext ⟨fun k q hq => by rw [← this q hq]; exact k q hq, fun k q hq => by rw [this q hq]; exact k q hq⟩

/-- How a pure contract is shown: what is below is as it was, the result is no weaker. -/
theorem PureC.intro {r : AV} (h : ∀ s, ACalls P f args s fun r' s' => AL.wk r' r ∧ Kept s s') : PureC P f args r :=
  fun s => ACalls.res (ACalls.mono (h s) fun r' s' _ h => ⟨r, h.1, rfl, h.2⟩)

/-- A slice that is written is a list, once it is written no more. -/
theorem Rep.freeze {ι : Nat → Option Nat} {S : Store} {v : Value} {sz o len : Nat} {xs : List AV} (hwf : WF ι S w) (h : Rep ι (Foot ι S) w v (.mref sz o 0 len)) (ho : S o = some (.box (flat xs)))
    (hsz : ∀ x ∈ xs, x.cells.length = sz) (hlen : xs.length = len) : Rep ι (Foot ι (delS S o)) w v (.list sz .none xs) := by
  have hfl := flat_length hsz
  cases h with
  | @mref _ _ b _ _ cap h hcap hb =>
    obtain ⟨vs, e, h1, h2, h3, h4⟩ := hwf.rep o _ b ho h
    have hst := drop_step S (delS S o) (delS_sub S o) ι w
    simp only [Nat.zero_mul]
    refine Rep.list_of_block (vs := vs) (e := e) hlen.symm hcap hsz trivial h1 (fun j hj hf => ?_) (fun j v x hv hx => (h3 j v x hv hx).step hst) (fun j v hj hv => h4 j v (by rw [hfl, hlen]; exact hj) hv) (by rw [← hlen, ← hfl]; exact h2)
    obtain ⟨q, ob, k1, k2, k3⟩ := hf
    have hq : q ≠ o := by
      intro e
      simp [delS, e] at k1
    exact hq (hwf.inj q o ob _ b (delS_sub S o q ob k1) ho k2 h)
  | mnil =>
    have : xs = [] := List.length_eq_zero_iff.1 hlen
    subst this
    exact .list (fun _ => undef) rfl (Nat.le_refl _) (by simp) trivial (by simp) (by simp) (by simp)

/-- A result with a slice that is written no more. -/
theorem ACalls.freeze {i : Nat} (h : ACalls P f args s fun r s' => ∃ vs sz o len xs, r = .tup vs ∧ vs[i]? = some (.mref sz o 0 len) ∧ s'.m o = some (.box (flat xs)) ∧ (∀ x ∈ xs, x.cells.length = sz) ∧ xs.length = len ∧
    K (.tup (vs.set i (.list sz .none xs))) (s'.del o)) : ACalls P f args s K := by
  refine ⟨h.1, fun ι w ws h1 h2 h3 => Calls.mono (h.2 ι w ws h1 h2 h3) ?_⟩
  rintro e w' ⟨v, r, s', ι', k1, k2, k3, k4, k5, k6, vs, sz, o, len, xs, rfl, hi, ho, hsz, hlen, hk⟩
  have hst : Step ι' s'.m w' ι' (s'.del o).m w' := drop_step s'.m (delS s'.m o) (delS_sub s'.m o) ι' w'
  refine ⟨v, _, _, ι', k1, k2.trans hst, k3.drop (delS_sub s'.m o), ⟨fun q ob hq => k4.lt q ob (delS_sub s'.m o q ob hq), k4.ilt⟩, k5, ?_, hk⟩
  obtain ⟨us, rfl, hl, hr⟩ := rep_tup k6
  refine .tup (by simpa using hl) fun j v x hv hx => ?_
  by_cases e : i = j
  · subst e
    have hj : i < vs.length := (List.getElem?_eq_some_iff.1 hi).1
    simp [hj] at hx
    subst hx
    exact (hr i v _ hv hi).freeze k3 ho hsz hlen
  · rw [List.getElem?_set_ne e] at hx
    exact (hr j v x hv hx).step hst

/-! ## Weaker values, by simp -/
section
variable (k k' : IntKind) (a b : Int) (x y : Bool) (u v : ByteArray) (xs ys us vs : List AV) (sz sz' : Nat) (t t' : Tok) (f g : FuncId)
@[simp] theorem wk_rfl (v : AV) : wk v v := wk_refl v
@[simp] theorem wkL_rfl : wkL xs xs := wkL_refl xs
@[simp] theorem wk_int : wk (.int k a) (.int k' b) = (k = k' ∧ a = b) := by simp [wk]
@[simp] theorem wk_bool : wk (.bool x) (.bool y) = (x = y) := by simp [wk]
@[simp] theorem wk_str : wk (.str u) (.str v) = (u = v) := by simp [wk]
@[simp] theorem wk_agg : wk (.agg xs) (.agg ys) = wkL xs ys := by simp [wk]
@[simp] theorem wk_tup : wk (.tup xs) (.tup ys) = wkL xs ys := by simp [wk]
@[simp] theorem wk_cptr : wk (.cptr xs) (.cptr ys) = wkL xs ys := by simp [wk]
@[simp] theorem wk_list : wk (.list sz t xs) (.list sz' .none ys) = ((sz = sz' ∨ xs = []) ∧ wkL xs ys) := by simp [wk]
@[simp] theorem wk_fn : wk (.fn f xs ys) (.fn g us vs) = (f = g ∧ wkL xs us ∧ wkL ys vs) := by simp [wk]
@[simp] theorem wkL_nil : wkL [] [] = True := by simp [wkL]
@[simp] theorem wkL_cons (x y : AV) : wkL (x :: xs) (y :: ys) = (wk x y ∧ wkL xs ys) := by simp [wkL]
end

/-- A call that only computes, where the walk is. -/
theorem go_pure {r : AV} (h : PureC P f args r) (hk : ∀ m, s.nx ≤ m → go (K r (s.bump m))) : go (ACalls P f args s K) := h.calls hk
theorem go_next {n : Nat} {I : Nat → Env → St → Prop} {Q : AExit → Env → St → Prop} {g : Env} {s : St} (m : Nat) (h : m < n) (hI : I m g s) : go (loopQ n I Q .normal g s) := ⟨m, h, hI⟩
theorem go_calls (h : ACalls P f args s K) : go (ACalls P f args s K) := h

/-- What is below is as it was, but for one object. -/
def KeptX (s : St) (o : Nat) (s' : St) : Prop := ∀ q, q < s.nx → q ≠ o → s'.m q = s.m q
@[simp] theorem keptX_refl (s : St) (o : Nat) : KeptX s o s := fun _ _ _ => rfl
@[simp] theorem keptX_bump (s s' : St) (o n : Nat) : KeptX s o (s'.bump n) = KeptX s o s' := rfl
@[simp] theorem keptX_new (s s' : St) (o : Nat) (ob : AObj) (h : s.nx ≤ s'.nx) : KeptX s o (s'.new ob) = KeptX s o s' := by
  have : ∀ q, q < s.nx → (s'.new ob).m q = s'.m q := fun q hq => St.new_ne _ _ _ (by omega)
  simp only [KeptX]
  exact propext ⟨fun k q hq => by rw [← this q hq]; exact k q hq, fun k q hq => by rw [this q hq]; exact k q hq⟩
@[simp] theorem keptX_self (s s' : St) (o : Nat) (ob : AObj) : KeptX s o (s'.set o ob) = KeptX s o s' := by
  have : ∀ q, q ≠ o → (s'.set o ob).m q = s'.m q := fun q hq => St.set_ne _ _ _ _ hq
  simp only [KeptX]
  exact propext ⟨fun k q hq h => by rw [← this q h]; exact k q hq h, fun k q hq h => by rw [this q h]; exact k q hq h⟩
@[simp] theorem keptX_set (s s' : St) (o p : Nat) (ob : AObj) (h : s.nx ≤ p) : KeptX s o (s'.set p ob) = KeptX s o s' := by
  have : ∀ q, q < s.nx → (s'.set p ob).m q = s'.m q := fun q hq => St.set_ne _ _ _ _ (by omega)
  simp only [KeptX]
  exact propext ⟨fun k q hq => by rw [← this q hq]; exact k q hq, fun k q hq => by rw [this q hq]; exact k q hq⟩
@[simp] theorem keptX_del (s s' : St) (o p : Nat) (h : s.nx ≤ p) : KeptX s o (s'.del p) = KeptX s o s' := by
  have : ∀ q, q < s.nx → (s'.del p).m q = s'.m q := fun q hq => St.del_ne _ _ _ (by omega)
  simp only [KeptX]
  exact propext ⟨fun k q hq => by rw [← this q hq]; exact k q hq, fun k q hq => by rw [this q hq]; exact k q hq⟩

/-- A call that changes one object. -/
theorem ACalls.upd {o : Nat} {ob : AObj} {r : AV} (ho : o < s.nx) (h : ACalls P f args s fun r' s' => wk r' r ∧ s'.m o = some ob ∧ KeptX s o s') (hK : ∀ m, s.nx ≤ m → K r ((s.set o ob).bump m)) : ACalls P f args s K := by
  refine ACalls.bnd h.1 fun hb => ACalls.res (ACalls.norm (ACalls.mono h fun r' s' hn ⟨h1, h2, h3⟩ => ⟨(s.set o ob).m, fun q b hq => ?_, r, h1, hK _ hn⟩))
  by_cases e : q = o
  · subst e
    rw [St.set_eq] at hq
    rw [h2, hq]
  · rw [St.set_ne _ _ _ _ e] at hq
    rw [h3 q (hb q b hq) e, hq]

end Go.AL
/- Types as data, and what walks over them need. -/
set_option linter.unusedVariables false
set_option linter.unusedSimpArgs false
namespace Go.AL

inductive Ty where
  | mk (op n : Int) (s : ByteArray) (args : List Ty)
namespace Ty
def op : Ty → Int | mk o _ _ _ => o
def n : Ty → Int | mk _ o _ _ => o
def s : Ty → ByteArray | mk _ _ s _ => s
def args : Ty → List Ty | mk _ _ _ a => a
@[simp] theorem op_mk (o n : Int) (s : ByteArray) (a : List Ty) : (mk o n s a).op = o := rfl
@[simp] theorem n_mk (o n : Int) (s : ByteArray) (a : List Ty) : (mk o n s a).n = n := rfl
@[simp] theorem s_mk (o n : Int) (s : ByteArray) (a : List Ty) : (mk o n s a).s = s := rfl
@[simp] theorem args_mk (o n : Int) (s : ByteArray) (a : List Ty) : (mk o n s a).args = a := rfl
theorem eta (t : Ty) : mk t.op t.n t.s t.args = t := by cases t; rfl

mutual
def av : Ty → AV
  | mk op n s args => .agg [.int .i64 op, .int .i64 n, .str s, .list 4 .none (avs args)]
def avs : List Ty → List AV
  | [] => []
  | t :: ts => av t :: avs ts
end
theorem avs_eq : ∀ ts, avs ts = ts.map av
  | [] => rfl
  | t :: ts => by simp [avs, avs_eq ts]
theorem av_mk (op n : Int) (s : ByteArray) (a : List Ty) : av (mk op n s a) = .agg [.int .i64 op, .int .i64 n, .str s, .list 4 .none (a.map av)] := by simp [av, avs_eq]
@[simp] theorem av_cells (t : Ty) : t.av.cells = [.int .i64 t.op, .int .i64 t.n, .str t.s, .list 4 .none (t.args.map av)] := by cases t; simp [av_mk]
@[simp] theorem av_isVal (t : Ty) : t.av.isVal = true := by cases t; rfl
@[simp] theorem av_fold (t : Ty) : AV.agg [.int .i64 t.op, .int .i64 t.n, .str t.s, .list 4 .none (t.args.map av)] = t.av := by cases t; simp [av_mk]

theorem wk_av (t : Ty) (x : AV) : wk x t.av ↔ wk x (.agg [.int .i64 t.op, .int .i64 t.n, .str t.s, .list 4 .none (t.args.map av)]) := by rw [av_fold]

/-- Into the arguments. -/
theorem ind {C : Ty → Prop} (h : ∀ t, (∀ x ∈ t.args, C x) → C t) (t : Ty) : C t := by
  refine Ty.rec (motive_1 := C) (motive_2 := fun l => ∀ x ∈ l, C x) ?_ ?_ ?_ t
  · intro o n s a ih
    exact h _ ih
  · intro x hx; cases hx
  · intro a l ha hl x hx
    simp only [List.mem_cons] at hx
    rcases hx with rfl | hx
    · exact ha
    · exact hl x hx
end Ty

theorem wrap64 {x : Int} (h1 : -9223372036854775808 ≤ x) (h2 : x ≤ 9223372036854775807) : IntKind.i64.wrap x = x := by
  unfold IntKind.wrap
  simp [IntKind.bits, IntKind.signed]
  omega
end Go.AL
