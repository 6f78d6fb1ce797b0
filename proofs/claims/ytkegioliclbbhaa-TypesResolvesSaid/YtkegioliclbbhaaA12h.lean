/- The abstract layer: regions come to what the abstract ones say. -/
import Derived.Test.YtkegioliclbbhaaA12e
set_option linter.unusedVariables false
set_option linter.unusedSimpArgs false
namespace Go.AL
variable {P : Program} {gs : List Nat} {N : Nat} {ι ι' : Nat → Option Nat} {g l : Env} {s s' : St} {a : Act} {w w' : World}

/-- One operation of a sequence, behind its guard. -/
theorem oper_seq {ops : Array Oper} {i : Nat} {o : Oper} {ao : AOper} {cc : List Nat} {pr : Bool} (hpr : pr = false) (hi : ops[i]? = some o) (hc : compileOper P gs N ops pr cc o = some ao) (hrel : Rel gs N ι g l s a w)
    {K : Env → Env → St → Prop} {run : Env → Env → Prop} (hrun : ∀ g l, run g l → ao.op.step P g l s fun v s' => setDst ao.dst v g l fun g' l' => K g' l' s') (h : guarded ao.guard g l run fun g l => setDst ao.dst (.tup []) g l fun g' l' => K g' l' s)
    {Q : Exit → Act → World → Prop} {rest : List Nat}
    (hnext : ∀ ι' g' l' s' a' w', Rel gs N ι' g' l' s' a' w' → Step ι s.m w ι' s'.m w' → Inc ι ι' s.nx s'.nx → K g' l' s' → wpOps P ops Q rest a' w') : wpOps P ops Q (i :: rest) a w := by
  subst hpr
  obtain ⟨c1, c2, c3, _⟩ := compileOper_inv hc
  rw [wpOps_cons]
  have doit : ∀ {g l}, Rel gs N ι g l s a w → run g l → Region.wanted o (yielded ops a.tmps) = true → wpOp P ops Q i (wpOps P ops Q rest) a w := by
    intro g l hrel hst hw
    unfold wpOp
    rw [hi]
    simp only [hw, if_true]
    refine .inl (step_sound c1 rfl hrel (hrun _ _ hst) fun ι' cv v s' w' k1 k2 k3 k4 k5 k6 => ?_)
    obtain ⟨g', l', hk, hr'⟩ := hrel.put (S := s.m) k1 k2 k3 c2 k5 k6
    exact hnext ι' g' l' s' _ w' hr' k1 k4 hk
  unfold guarded at h
  cases hg : o.guard with
  | none =>
    rw [hg] at c3
    simp only [cguard, Option.some.injEq] at c3
    rw [← c3] at h
    exact doit hrel h (by simp [Region.wanted, hg])
  | some jw =>
    obtain ⟨j, want⟩ := jw
    rw [hg] at c3
    simp only [cguard, Option.map_eq_some_iff] at c3
    obtain ⟨t, hj, he⟩ := c3
    rw [← he] at h
    simp only at h
    split at h
    · rename_i b hb
      have hrep := hrel.envGet t
      rw [hb] at hrep
      have hy := yielded_of hj (rep_bool hrep)
      have hw : Region.wanted o (yielded ops a.tmps) = (some b == some want) := by simp [Region.wanted, hg, hy]
      by_cases e : b = want
      · subst e
        obtain ⟨g', l', hk, hr'⟩ := hrel.envSet hb (h.1 rfl)
        exact doit hr' hk (by rw [hw]; simp)
      · have e' : b = !want := by cases b <;> cases want <;> simp_all
        subst e'
        obtain ⟨g1, l1, hk, hr'⟩ := hrel.envSet hb (h.2 rfl)
        obtain ⟨g2, l2, hk2, hr2⟩ := hr'.put (S := s.m) (Step.refl ι s.m w) hrel.wf hrel.bnd c2 (cv := undef) rep_undef_mk hk
        unfold wpOp
        rw [hi]
        have hw' : Region.wanted o (yielded ops a.tmps) = false := by rw [hw]; cases want <;> rfl
        simp only [hw', Bool.false_eq_true, if_false]
        exact hnext ι g2 l2 s _ w hr2 (Step.refl _ _ _) (Inc.refl _ _) hk2
    · rename_i hb
      have hrep := hrel.envGet t
      rw [hb] at hrep
      have hy := yielded_undef hj (rep_undef hrep)
      have hw' : Region.wanted o (yielded ops a.tmps) = false := by simp [Region.wanted, hg, hy]
      obtain ⟨g2, l2, hk2, hr2⟩ := hrel.put (S := s.m) (Step.refl ι s.m w) hrel.wf hrel.bnd c2 (cv := undef) rep_undef_mk h
      unfold wpOp
      rw [hi]
      simp only [hw', Bool.false_eq_true, if_false]
      exact hnext ι g2 l2 s _ w hr2 (Step.refl _ _ _) (Inc.refl _ _) hk2
    · exact h.elim

theorem seq_from {ops : Array Oper} {ι0 : Nat → Option Nat} {s0 : St} {w0 : World} {K : Env → Env → St → Prop} {Q : Exit → Act → World → Prop}
    (hQ : ∀ ι' g' l' s' a' w', Rel gs N ι' g' l' s' a' w' → Step ι0 s0.m w0 ι' s'.m w' → Inc ι0 ι' s0.nx s'.nx → K g' l' s' → Q .normal a' w') :
    ∀ (r : List Oper) (k : Nat) (os : List AOper), ops.toList.drop k = r → compileSeq P gs N ops r = some os → ∀ (ι : Nat → Option Nat) (g l : Env) (s : St) (a : Act) (w : World),
      aops P os K g l s → Rel gs N ι g l s a w → Step ι0 s0.m w0 ι s.m w → Inc ι0 ι s0.nx s.nx → wpOps P ops Q (List.range' k r.length) a w := by
  intro r
  induction r with
  | nil =>
    intro k os hk hc ι g l s a w h hrel hst hn
    simp [compileSeq] at hc
    subst hc
    exact hQ ι g l s a w hrel hst hn h
  | cons o r ih =>
    intro k os hk hc ι g l s a w h hrel hst hn
    simp only [compileSeq] at hc
    split at hc
    · rename_i ao os' h1 h2
      cases hc
      have hi : ops[k]? = some o := by
        have : (ops.toList.drop k)[0]? = some o := by rw [hk]; rfl
        simpa using this
      have hk' : ops.toList.drop (k + 1) = r := by
        rw [← List.drop_drop, hk]; rfl
      simp only [List.length_cons, List.range'_succ]
      refine oper_seq rfl hi h1 hrel (run := fun g l => ao.op.step P g l s fun v s' => setDst ao.dst v g l fun g' l' => aops P os' K g' l' s') (fun _ _ h => h) ?_ (fun ι' g' l' s' a' w' k1 k2 k3 k4 => ih (k + 1) os' hk' h2 ι' g' l' s' a' w' k4 k1 (hst.trans k2) (hn.trans k3))
      simpa only [aops] using h
    · cases hc

theorem seq_sound {ops : Array Oper} {os : List AOper} {ι0 : Nat → Option Nat} {s0 : St} {w0 : World} {K : Env → Env → St → Prop} {Q : Exit → Act → World → Prop} (hc : compileSeq P gs N ops ops.toList = some os)
    (hQ : ∀ ι' g' l' s' a' w', Rel gs N ι' g' l' s' a' w' → Step ι0 s0.m w0 ι' s'.m w' → Inc ι0 ι' s0.nx s'.nx → K g' l' s' → Q .normal a' w')
    (h : aops P os K g l s) (hrel : Rel gs N ι g l s a w) (hst : Step ι0 s0.m w0 ι s.m w) (hn : Inc ι0 ι s0.nx s.nx) : wpOps P ops Q (List.range ops.size) a w := by
  have := seq_from hQ ops.toList 0 os rfl hc ι g l s a w h hrel hst hn
  rwa [List.range_eq_range', ← Array.length_toList]

theorem draw_any {ops : Array Oper} {os : List AOper} {rec : Nat → Rec} {E : Nat → Nat → AV} {S : Nat → Store} {nx : Nat → Nat} {ac : Nat → List (Nat × Nat)} {ι0 : Nat → Option Nat} {s0 : St} {w0 : World} {Q : Exit → Act → World → Prop}
    (D : Draw P gs N ops os rec E S nx ac) (hnd : ∀ i, i < ops.size → (rec i).done = false) (hs0 : s0.nx ≤ nx 0) (hQ : ∀ listed ι M a w, DI gs N ops os rec E S nx ι0 s0 w0 listed ι M a w → (∀ i, i < ops.size → LA listed i = true) → Q .normal a w) :
    ∀ (fuel : Nat) (listed : Array Bool) (ι : Nat → Option Nat) (M : Nat) (a : Act) (w : World), ((List.range ops.size).filter fun i => !LA listed i).length ≤ fuel →
      DI gs N ops os rec E S nx ι0 s0 w0 listed ι M a w → wpAny P .any ops Q fuel listed a w := by
  intro fuel
  induction fuel with
  | zero =>
    intro listed ι M a w hf h
    have hall : ∀ i, i < ops.size → LA listed i = true := by
      intro i hi
      cases hL : LA listed i with
      | true => rfl
      | false =>
        exfalso
        have : i ∈ (List.range ops.size).filter fun i => !LA listed i := by simp [List.mem_filter, hi, hL]
        have := List.length_pos_of_mem this
        omega
    refine ⟨?_, hQ listed ι M a w h hall⟩
    cases hr : Region.ready .any ops listed with
    | nil => rfl
    | cons i r =>
      exfalso
      obtain ⟨o, ho, hL, _⟩ := ready_mem h.sz (by rw [hr]; simp : i ∈ Region.ready .any ops listed)
      rw [hall i (Array.getElem?_eq_some_iff.1 ho).1] at hL
      cases hL
  | succ fuel ih =>
    intro listed ι M a w hf h
    refine ⟨fun hr => hQ listed ι M a w h (all_listed D h.sz hr), fun i hi => ?_⟩
    obtain ⟨o, ho, hL, hready⟩ := ready_mem h.sz hi
    have hilt := (Array.getElem?_eq_some_iff.1 ho).1
    refine draw_step D h hs0 ho hL (hnd i hilt) hready fun ι' M' a' w' h' => ih _ ι' M' a' w' ?_ h'
    rw [LA_set (by rw [h.sz]; exact hilt)]
    have hlt : ((List.range ops.size).filter fun j => !addL i (LA listed) j).length < ((List.range ops.size).filter fun j => !LA listed j).length := by
      have hsub : ((List.range ops.size).filter fun j => !addL i (LA listed) j) = (((List.range ops.size).filter fun j => !LA listed j).filter fun j => j != i) := by
        rw [List.filter_filter]
        congr 1
        funext j
        simp only [addL, Bool.not_or]
        cases LA listed j <;> simp [bne]
      rw [hsub]
      have hmem : i ∈ (List.range ops.size).filter fun j => !LA listed j := by simp [List.mem_filter, hilt, hL]
      exact List.length_filter_lt_length_iff_exists.2 ⟨i, hmem, by simp⟩
    omega

theorem draw_setup {ops : Array Oper} {os : List AOper} {kinds : List AOp} {ι0 : Nat → Option Nat} {s0 : St} {w0 : World} {K : Env → Env → St → Prop}
    (hchk : (slotsOK ops (befores ops.toList []) && edgesOK ops (befores ops.toList [])) = true) (hk : kindsOf P gs ops.toList = some kinds) (hc : compileDraw P gs N ops (befores ops.toList []) kinds 0 ops.toList = some os)
    (h : aopsD P 0 [] os K g l s) (hrel : Rel gs N ι g l s a w) (hst : Step ι0 s0.m w0 ι s.m w) (hn : Inc ι0 ι s0.nx s.nx) :
    ∃ rec E S nx ac M, Draw P gs N ops os rec E S nx ac ∧ (∀ i, i < ops.size → (rec i).done = false) ∧ s0.nx ≤ nx 0 ∧ DI gs N ops os rec E S nx ι0 s0 w0 (Array.replicate ops.size false) ι M a w.drew ∧
      ∀ listed ι' M a' w', DI gs N ops os rec E S nx ι0 s0 w0 listed ι' M a' w' → (∀ i, i < ops.size → LA listed i = true) →
        ∃ g' l' s', Rel gs N ι' g' l' s' a' w' ∧ Step ι0 s0.m w0 ι' s'.m w' ∧ Inc ι0 ι' s0.nx s'.nx ∧ K g' l' s' := by
  obtain ⟨hlen, hspec⟩ := compileDraw_spec ops.toList 0 os hc
  simp only [Array.length_toList] at hlen
  have hop : ∀ (i : Nat) o, ops[i]? = some o → ∃ ao, os[i]? = some ao ∧ compileAny P gs true o = some ao.op ∧ cdst gs N o.dst = some ao.dst ∧ cguard gs ops o.guard = some ao.guard ∧ aoperOK gs (namesOf ops o) ao = true := by
    intro i o ho
    obtain ⟨ao, h1, h2, h3, h4, h5, _⟩ := hspec i o (by simpa using ho)
    exact ⟨ao, h1, h2, h3, h4, h5⟩
  have hkind : ∀ (i : Nat) o ao, ops[i]? = some o → os[i]? = some ao → ∃ kd, kinds.getD i .mkmap = kd ∧ ao.op.isCall = kd.isCall ∧ (ao.op.isCall = true → ∃ f as, ao.op = .call true f as) ∧ (ao.op.isCall = false → ao.op = kd) := by
    intro i o ao ho hao
    obtain ⟨ao', h1, h2, _⟩ := hop i o ho
    rw [hao] at h1
    cases h1
    obtain ⟨kd, k1, k2⟩ := kindsOf_spec ops.toList kinds hk i o (by simpa using ho)
    obtain ⟨f1, f2, f3⟩ := compileAny_flag h2 k2
    exact ⟨kd, by simp [k1], f1, f2, f3⟩
  obtain ⟨rec, E, S, nx, ac, e1, e2, e3, e4, e5, g', l', s', e6, e7, e8, e9⟩ := extract (gs := gs) (namesOf := fun i => (ops[i]?).elim [] (namesOf ops)) os 0 [] g l s (fun i ao hao => by
    have hi : i < ops.size := by rw [← hlen]; exact (List.getElem?_eq_some_iff.1 hao).1
    have ho : ops[i]? = some ops[i] := by simp [hi]
    obtain ⟨ao', h1, h2, _, _, h5⟩ := hop i _ ho
    rw [hao] at h1
    cases h1
    obtain ⟨_, _, _, hc2, _⟩ := hkind i _ ao ho hao
    refine ⟨?_, hc2⟩
    rw [Nat.zero_add, ho]
    exact h5) h
  simp only [Nat.zero_add] at e5
  simp only [Bool.and_eq_true] at hchk
  obtain ⟨hslots, hedges⟩ := hchk
  have D : Draw P gs N ops os rec E S nx ac := by
    refine ⟨hlen, hop, fun i o h => (e5 i o h).1, ?_, ?_, ?_, ?_⟩
    · intro i j x y hij hx hy hcl
      have hj : j < ops.size := (Array.getElem?_eq_some_iff.1 hy).1
      have h1 := List.all_eq_true.1 hslots j (by simpa using hj)
      have h2 := List.all_eq_true.1 h1 i (by simpa using hij)
      rw [hx, hy] at h2
      simp only [hcl, Bool.not_true, Bool.false_or, List.contains_iff_mem] at h2
      exact h2
    · intro i j x y hij hx hy hl hw n1 n2
      have hj : j < ops.size := by rw [← hlen]; exact (List.getElem?_eq_some_iff.1 hy).1
      have hoi : ops[i]? = some (ops[i]'(by omega)) := by simp
      have hoj : ops[j]? = some ops[j] := by simp [hj]
      obtain ⟨ki, q1, q2, _, q3⟩ := hkind i _ x hoi hx
      obtain ⟨kj, r1, r2, _, r3⟩ := hkind j _ y hoj hy
      obtain ⟨y', s1, _, _, _, _, s6⟩ := hspec j ops[j] (by rw [Array.getElem?_toList]; exact hoj)
      rw [hy] at s1
      cases s1
      simp only [Nat.zero_add] at s6
      by_cases hb : ((befores ops.toList []).getD j []).contains i = true
      · exact .inl (by simpa using hb)
      · have s7 := s6 i hij (by simpa using hb)
        rw [q1, r1, ← q3 n1, ← r3 n2] at s7
        refine .inr (s7 hl ?_ n2 n1)
        rcases hw with hw | ⟨w1, w2⟩
        · simp [hw]
        · rcases w2 with w2 | w2 <;> simp [w1, w2]
    · intro i o ho e he hb
      have hi : i < ops.size := (Array.getElem?_eq_some_iff.1 ho).1
      have h1 := List.all_eq_true.1 hedges i (by simpa using hi)
      rw [ho] at h1
      simp only [Bool.and_eq_true] at h1
      have h2 := List.all_eq_true.1 h1.1 e he
      simpa [hb] using h2
    · intro q ob hq
      rw [e2] at hq
      rw [e3]
      exact hrel.bnd.lt q ob hq
  have hs0 : s0.nx ≤ nx 0 := by rw [e3]; exact hn.1
  have hnd : ∀ i, i < ops.size → (rec i).done = false := fun i hi => (e5 i (os[i]'(by rw [hlen]; exact hi)) (by simp [hlen, hi])).2
  refine ⟨rec, E, S, nx, ac, max s.nx (nx ops.size), D, hnd, hs0, ?_, ?_⟩
  rotate_left
  · intro listed ι' M a' w' hdi hall
    have hpre : ∀ j, j < ops.size → LA listed j = pre ops.size j := fun j hj => by rw [hall j hj]; simp [pre, hj]
    have hE : ∀ t, EL (dstF os) rec (E 0) ops.size (LA listed) t = E ops.size t := fun t => by
      rw [D.E_eq ops.size (Nat.le_refl _) t]
      unfold EL
      rw [lw_congr fun j hj _ => hpre j hj]
    have hS : SL rec (S 0) ops.size (LA listed) = s'.m := by
      rw [e7, hlen]
      funext q
      rw [D.S_eq ops.size (Nat.le_refl _) q]
      unfold SL
      rw [lw_congr fun j hj _ => hpre j hj]
    rw [hlen] at e6 e8
    have hnM := hdi.nM
    refine ⟨g', l', s'.bump M, ⟨by rw [St.bump, ← hS]; exact hdi.wf, ⟨fun q ob hq => ?_, hdi.ιM⟩, hdi.size, hdi.defers, fun t ht => ?_, fun t ht => ?_⟩, by rw [St.bump, ← hS]; exact hdi.step, ⟨?_, hdi.inc⟩, e9 M (by rw [e8]; exact hnM)⟩
    · simp only [St.bump] at hq ⊢
      rw [e7, hlen] at hq
      have := D.S_bnd ops.size (Nat.le_refl _) q ob hq
      omega
    · have := hdi.slots t
      rw [hE, ← e6, hS] at this
      simp only [merge, ht, if_true] at this
      exact this
    · have := hdi.slots t
      rw [hE, ← e6, hS] at this
      simp only [merge, ht, Bool.false_eq_true, if_false] at this
      exact this
    · have := D.nx_le (i := 0) (j := ops.size) (Nat.zero_le _) (Nat.le_refl _)
      simp only [St.bump]
      omega
  · have hLA : LA (Array.replicate ops.size false) = pre 0 := by
      funext j
      simp only [LA, pre]
      by_cases hj : j < ops.size <;> simp [hj]
    have hE0 : ∀ t, EL (dstF os) rec (E 0) ops.size (pre 0) t = E 0 t := fun t => (D.E_eq 0 (Nat.zero_le _) t).symm
    have hS0 : SL rec (S 0) ops.size (pre 0) = s.m := by
      rw [← e2]
      funext q
      exact (D.S_eq 0 (Nat.zero_le _) q).symm
    refine ⟨by simp, ?_, ?_, fun q b hq => ?_, Nat.le_max_right _ _, fun i hi _ hnew => ?_, hrel.size, hrel.defers, fun t => ?_, ?_, fun q b hq hlt => hn.2 q b hq hlt⟩
    · rw [hLA]
      intro i o ho hL
      simp [pre] at hL
    · rw [hLA, hS0]; exact hrel.wf.drew
    · have := hrel.bnd.ilt q b hq
      omega
    · cases hι : ι (nx i) with
      | none => rfl
      | some b =>
        exfalso
        have h1 := hrel.bnd.ilt _ b hι
        have h2 := D.nx_le (i := 0) (j := i) (Nat.zero_le _) (by omega)
        rw [e3] at h2
        omega
    · rw [hLA, hE0, hS0, e1]
      refine Rep.step (drew_step ι s.m w) ?_
      simp only [merge]
      split
      · rename_i ht; exact hrel.glob t ht
      · rename_i ht; exact hrel.loc t (by simpa using ht)
    · rw [hLA, hS0]
      exact hst.trans (drew_step ι s.m w)

theorem draw_sound {ops : Array Oper} {os : List AOper} {kinds : List AOp} {id : Nat} {ι0 : Nat → Option Nat} {s0 : St} {w0 : World} {K : Env → Env → St → Prop} {Q : Exit → Act → World → Prop} (hdraws : P.follows .mixedOrders = true)
    (hchk : (slotsOK ops (befores ops.toList []) && edgesOK ops (befores ops.toList [])) = true) (hk : kindsOf P gs ops.toList = some kinds) (hc : compileDraw P gs N ops (befores ops.toList []) kinds 0 ops.toList = some os)
    (hQ : ∀ ι' g' l' s' a' w', Rel gs N ι' g' l' s' a' w' → Step ι0 s0.m w0 ι' s'.m w' → Inc ι0 ι' s0.nx s'.nx → K g' l' s' → Q .normal a' w')
    (h : aopsD P 0 [] os K g l s) (hrel : Rel gs N ι g l s a w) (hst : Step ι0 s0.m w0 ι s.m w) (hn : Inc ι0 ι s0.nx s.nx) : (Code.region id ops true).wp P Q a w := by
  obtain ⟨rec, E, S, nx, ac, M, D, hnd, hs0, hdi, hend⟩ := draw_setup hchk hk hc h hrel hst hn
  refine wp_region_any hdraws (draw_any D hnd hs0 (fun listed ι' M a' w' k1 k2 => ?_) ops.size _ ι M a _ (Nat.le_trans (List.length_filter_le _ _) (by simp)) hdi)
  obtain ⟨g', l', s', h1, h2, h3, h4⟩ := hend listed ι' M a' w' k1 k2
  exact hQ ι' g' l' s' a' w' h1 h2 h3 h4

end Go.AL
/- The abstract layer: regions of open order that end in order. -/
set_option linter.unusedVariables false
set_option linter.unusedSimpArgs false
namespace Go.AL
variable {P : Program} {gs : List Nat} {N : Nat} {ι ι' : Nat → Option Nat} {g l : Env} {s s' : St} {a : Act} {w w' : World}

structure Suf (ops : Array Oper) (k : Nat) : Prop where
  le : k ≤ ops.size
  back : ∀ (j : Nat) o, ops[j]? = some o → ∀ e ∈ o.after.toList, Region.binds .any e = true → e.on < j
  all : ∀ j, k ≤ j → j < ops.size → ∀ i, i < j → i ∈ (befores ops.toList []).getD j []
  guard : ∀ (j : Nat) o, ops[j]? = some o → j < k → ∀ i want, o.guard = some (i, want) → i < k

theorem sufOK_spec {ops : Array Oper} {k : Nat} (h : sufOK ops k = true) : Suf ops k := by
  simp only [sufOK, Bool.and_eq_true, decide_eq_true_eq, List.all_eq_true, List.mem_range] at h
  obtain ⟨h1, h2⟩ := h
  have get : ∀ (j : Nat) o, ops[j]? = some o → _ := fun j o ho => h2 j (Array.getElem?_eq_some_iff.1 ho).1
  refine ⟨h1, fun j o ho e he hb => ?_, fun j hkj hj i hij => ?_, fun j o ho hjk i want hg => ?_⟩
  · have := get j o ho
    rw [ho] at this
    simp only [List.all_eq_true] at this
    have := this.1.1 e he
    simpa [hb] using this
  · have := (h2 j hj).1.2
    simp only [Bool.or_eq_true, decide_eq_true_eq, List.all_eq_true, List.mem_range, List.contains_iff_mem] at this
    rcases this with h | h
    · omega
    · exact h i hij
  · have := get j o ho
    rw [ho] at this
    have := this.2
    simp only [hg, Bool.or_eq_true, decide_eq_true_eq] at this
    omega


theorem preOps_get {ops : Array Oper} {k i : Nat} (h : i < k) : (preOps ops k)[i]? = ops[i]? := by
  simp [preOps, List.getElem?_take_of_lt h]
theorem preOps_size {ops : Array Oper} {k : Nat} (h : k ≤ ops.size) : (preOps ops k).size = k := by simp [preOps]; omega

theorem wpOp_pre {ops : Array Oper} {k i : Nat} (hs : Suf ops k) (hi : i < k) {Q : Exit → Act → World → Prop} {K : Act → World → Prop} (h : wpOp P (preOps ops k) Q i K a w) : wpOp P ops Q i K a w := by
  unfold wpOp at h ⊢
  rw [preOps_get hi] at h
  cases ho : ops[i]? with
  | none => simpa only [ho] using h
  | some o =>
    simp only [ho] at h ⊢
    have : Region.wanted o (yielded (preOps ops k) a.tmps) = Region.wanted o (yielded ops a.tmps) := by
      unfold Region.wanted
      cases hg : o.guard with
      | none => rfl
      | some jw =>
        obtain ⟨j, want⟩ := jw
        have := hs.guard i o ho hi j want hg
        simp only [yielded, preOps_get this]
    rw [this] at h
    exact h

def firstN (n m : Nat) : Array Bool := ((List.replicate m true) ++ List.replicate (n - m) false).toArray
theorem LA_firstN {n m : Nat} : LA (firstN n m) = fun j => decide (j < m) := by
  funext j
  simp only [LA, firstN, Array.getD_eq_getD_getElem?, List.getElem?_toArray]
  by_cases h : j < m
  · rw [List.getElem?_append_left (by simpa using h)]; simp [h]
  · rw [List.getElem?_append_right (by simp; omega)]
    by_cases h2 : j - m < n - m <;> simp [h, List.getElem?_replicate, h2]
theorem size_firstN {n m : Nat} (h : m ≤ n) : (firstN n m).size = n := by simp [firstN]; omega
theorem firstN_get {n m j : Nat} : (firstN n m)[j]? = if j < m then some true else if j < n then some false else none := by
  simp only [firstN, List.getElem?_toArray]
  by_cases h : j < m
  · rw [List.getElem?_append_left (by simpa using h)]; simp [h]
  · rw [List.getElem?_append_right (by simp; omega), if_neg h]
    simp only [List.length_replicate, List.getElem?_replicate]
    by_cases h2 : j < n
    · rw [if_pos h2, if_pos (by omega)]
    · rw [if_neg h2, if_neg (by omega)]
theorem firstN_set {n m : Nat} (h : m < n) : (firstN n m).setIfInBounds m true = firstN n (m + 1) := by
  apply Array.ext_getElem?
  intro j
  have hs := size_firstN (n := n) (m := m) (by omega)
  by_cases e : m = j
  · subst e
    rw [firstN_get, if_pos (by omega)]
    simp [hs, h]
  · rw [Array.getElem?_setIfInBounds_ne e, firstN_get, firstN_get]
    by_cases h1 : j < m
    · rw [if_pos h1, if_pos (by omega)]
    · rw [if_neg h1, if_neg (by omega : ¬ j < m + 1)]

theorem mem_ready {ops : Array Oper} {listed : Array Bool} {i : Nat} {o : Oper} (hsz : listed.size = ops.size) (ho : ops[i]? = some o) (hL : LA listed i = false)
    (hd : ∀ e ∈ o.after.toList, Region.binds .any e = true → LA listed e.on = true) : i ∈ Region.ready .any ops listed := by
  have hi := (Array.getElem?_eq_some_iff.1 ho).1
  simp only [Region.ready, List.mem_filter, List.mem_range, Bool.and_eq_true, Bool.not_eq_true']
  refine ⟨hi, ?_, ?_⟩
  · have hlt' : i < listed.size := by rw [hsz]; exact hi
    have e1 : listed.getD i true = listed[i] := by simp [hlt']
    have e2 : listed.getD i false = listed[i] := by simp [hlt']
    simp only [LA] at hL
    rw [e1, ← e2]; exact hL
  · rw [ho]
    simp only [Option.map_some, Option.getD_some, Array.all_eq_true', Bool.or_eq_true, Bool.not_eq_true']
    intro e he
    cases hb : Region.binds .any e with
    | false => exact .inl rfl
    | true => exact .inr (hd e (by simpa using he) hb)

/-- What is in order is listed in order. -/
theorem wpAny_seq {ops : Array Oper} {k : Nat} (hs : Suf ops k) {Q : Exit → Act → World → Prop} : ∀ (fuel m : Nat) (a : Act) (w : World), k ≤ m → m ≤ ops.size → ops.size - m ≤ fuel → wpOps P ops Q (List.range' m (ops.size - m)) a w → wpAny P .any ops Q fuel (firstN ops.size m) a w := by
  have hready : ∀ m, k ≤ m → m ≤ ops.size → ∀ i ∈ Region.ready .any ops (firstN ops.size m), i = m := by
    intro m hkm hm i hi
    obtain ⟨o, ho, hL, hd⟩ := ready_mem (size_firstN hm) hi
    have hin : ∀ i, LA (firstN ops.size m) i = true → i < ops.size := fun i h => by rw [LA_firstN] at h; simp at h; omega
    have hcl : Closed ops (LA (firstN ops.size m)) := by
      intro j o' ho' hj e he hb
      rw [LA_firstN] at hj ⊢
      simp at hj ⊢
      have := hs.back j o' ho' e he hb
      omega
    have hb := closed_before hcl hin i o ho hd
    have hil := (Array.getElem?_eq_some_iff.1 ho).1
    rw [LA_firstN] at hL hb
    simp at hL hb
    rcases Nat.lt_or_ge m i with h | h
    · have := hb m (hs.all i (by omega) hil m h)
      omega
    · omega
  intro fuel
  induction fuel with
  | zero =>
    intro m a w hkm hm hf h
    have e : m = ops.size := by omega
    subst e
    refine ⟨?_, by simpa [wpOps] using h⟩
    cases hr : Region.ready .any ops (firstN ops.size ops.size) with
    | nil => rfl
    | cons i r =>
      obtain ⟨o, ho, hL, hd⟩ := ready_mem (size_firstN hm) (by rw [hr]; simp : i ∈ _)
      rw [LA_firstN] at hL
      have := (Array.getElem?_eq_some_iff.1 ho).1
      simp at hL
      omega
  | succ fuel ih =>
    intro m a w hkm hm hf h
    rcases Nat.lt_or_ge m ops.size with hlt | hge
    · have ho : ops[m]? = some ops[m] := by simp [hlt]
      refine ⟨fun hr => ?_, fun i hi => ?_⟩
      · have := mem_ready (listed := firstN ops.size m) (size_firstN hm) ho (by rw [LA_firstN]; simp) (fun e he hb => by
          rw [LA_firstN]; simpa using hs.back m _ ho e he hb)
        rw [hr] at this
        cases this
      · have := hready m hkm hm i hi
        subst this
        rw [show ops.size - i = (ops.size - (i + 1)) + 1 by omega, List.range'_succ, wpOps_cons] at h
        rw [firstN_set hlt]
        exact wpOp_mono (fun a w h => ih (i + 1) a w (by omega) (by omega) (by omega) h) h
    · have e : m = ops.size := by omega
      subst e
      refine ⟨fun _ => by simpa [wpOps] using h, fun i hi => ?_⟩
      obtain ⟨o, ho, hL, hd⟩ := ready_mem (size_firstN hm) hi
      rw [LA_firstN] at hL
      have := (Array.getElem?_eq_some_iff.1 ho).1
      simp at hL
      omega

def padA (n : Nat) (l : Array Bool) : Array Bool := l ++ Array.replicate (n - l.size) false
theorem LA_pad {n : Nat} {l : Array Bool} : LA (padA n l) = LA l := by
  funext j
  simp only [LA, padA, Array.getD_eq_getD_getElem?]
  by_cases h : j < l.size
  · simp [Array.getElem?_append_left, h]
  · rw [Array.getElem?_append_right (by omega)]
    by_cases h2 : j - l.size < n - l.size <;> simp [h, Array.getElem?_replicate, h2]
theorem pad_size {n : Nat} {l : Array Bool} (h : l.size ≤ n) : (padA n l).size = n := by simp [padA]; omega
theorem pad_set {n i : Nat} {l : Array Bool} (h : i < l.size) : (padA n l).setIfInBounds i true = padA n (l.setIfInBounds i true) := by
  apply Array.ext_getElem?
  intro j
  have h1 : i < (padA n l).size := by simp [padA]; omega
  by_cases e : j = i
  · subst e; simp [padA, h, Array.getElem?_append_left]
  · have e' : i ≠ j := fun h => e h.symm
    rw [Array.getElem?_setIfInBounds_ne e']
    simp only [padA, Array.size_setIfInBounds]
    by_cases hj : j < l.size
    · rw [Array.getElem?_append_left hj, Array.getElem?_append_left (by simpa using hj), Array.getElem?_setIfInBounds_ne e']
    · rw [Array.getElem?_append_right (by omega), Array.getElem?_append_right (by simp; omega)]; simp
theorem pad_full {n : Nat} {l : Array Bool} (h : ∀ i, i < l.size → LA l i = true) : padA n l = firstN n l.size := by
  apply Array.ext_getElem?
  intro j
  rw [firstN_get]
  simp only [padA]
  by_cases hj : j < l.size
  · rw [Array.getElem?_append_left hj, if_pos hj]
    have := h j hj
    simp only [LA, Array.getD_eq_getD_getElem?, Array.getElem?_eq_getElem hj, Option.getD_some] at this
    rw [Array.getElem?_eq_getElem hj, this]
  · rw [Array.getElem?_append_right (by omega), if_neg hj, Array.getElem?_replicate]
    by_cases h2 : j < n
    · rw [if_pos h2, if_pos (by omega)]
    · rw [if_neg h2, if_neg (by omega)]

theorem draw_pre {ops : Array Oper} {k : Nat} (hs : Suf ops k) {os : List AOper} {rec : Nat → Rec} {E : Nat → Nat → AV} {S : Nat → Store} {nx : Nat → Nat} {ac : Nat → List (Nat × Nat)} {ι0 : Nat → Option Nat} {s0 : St} {w0 : World} {Q : Exit → Act → World → Prop}
    (D : Draw P gs N (preOps ops k) os rec E S nx ac) (hs0 : s0.nx ≤ nx 0)
    (hQ : ∀ listed ι M a w, DI gs N (preOps ops k) os rec E S nx ι0 s0 w0 listed ι M a w → (∀ i, i < (preOps ops k).size → LA listed i = true) → wpOps P ops Q (List.range' k (ops.size - k)) a w) :
    ∀ (fuel : Nat) (listed : Array Bool) (ι : Nat → Option Nat) (M : Nat) (a : Act) (w : World), ((List.range k).filter fun i => !LA listed i).length + (ops.size - k) ≤ fuel → (∀ i, i < k → (rec i).done = true → LA listed i = true) →
      DI gs N (preOps ops k) os rec E S nx ι0 s0 w0 listed ι M a w → wpAny P .any ops Q fuel (padA ops.size listed) a w := by
  have hpsz := preOps_size hs.le
  intro fuel
  induction fuel with
  | zero =>
    intro listed ι M a w hf hdn h
    have hsz : listed.size = k := by rw [h.sz, hpsz]
    have hall : ∀ i, i < listed.size → LA listed i = true := by
      intro i hi
      cases hL : LA listed i with
      | true => rfl
      | false =>
        exfalso
        have : i ∈ (List.range k).filter fun i => !LA listed i := by rw [hsz] at hi; simp [List.mem_filter, hi, hL]
        have := List.length_pos_of_mem this
        omega
    rw [pad_full hall, hsz]
    exact wpAny_seq hs 0 k a w (Nat.le_refl _) hs.le (by omega) (hQ listed ι M a w h (by rw [hpsz, ← hsz]; exact hall))
  | succ fuel ih =>
    intro listed ι M a w hf hdn h
    have hsz : listed.size = k := by rw [h.sz, hpsz]
    by_cases hall : ∀ i, i < listed.size → LA listed i = true
    · rw [pad_full hall, hsz]
      exact wpAny_seq hs (fuel + 1) k a w (Nat.le_refl _) hs.le (by omega) (hQ listed ι M a w h (by rw [hpsz, ← hsz]; exact hall))
    · have hin := LA_in h.sz
      have hcl : Closed ops (LA (padA ops.size listed)) := by
        rw [LA_pad]
        intro j o ho hj e he hb
        have hjk := hin j hj
        rw [hpsz] at hjk
        exact h.closed j o (by rw [preOps_get hjk]; exact ho) hj e he hb
      have hpad : (padA ops.size listed).size = ops.size := pad_size (by rw [hsz]; exact hs.le)
      have hless : ∃ i, i ∈ Region.ready .any (preOps ops k) listed := by
        cases hr : Region.ready .any (preOps ops k) listed with
        | nil => exact (hall fun i hi => all_listed D h.sz hr i (by rw [← h.sz]; exact hi)).elim
        | cons i r => exact ⟨i, by simp⟩
      refine ⟨fun hr => ?_, fun i hi => ?_⟩
      · exfalso
        obtain ⟨i, hi⟩ := hless
        obtain ⟨o, ho, hL, hd⟩ := ready_mem h.sz hi
        have hik := (Array.getElem?_eq_some_iff.1 ho).1
        rw [hpsz] at hik
        rw [preOps_get hik] at ho
        have := mem_ready (listed := padA ops.size listed) hpad ho (by rw [LA_pad]; exact hL) (by rw [LA_pad]; exact hd)
        rw [hr] at this
        cases this
      · obtain ⟨o, ho, hL, hd⟩ := ready_mem hpad hi
        have hio := (Array.getElem?_eq_some_iff.1 ho).1
        rw [LA_pad] at hL hd
        by_cases hik : i < k
        · rw [pad_set (by rw [hsz]; exact hik)]
          refine wpOp_pre hs hik (draw_step D h hs0 (by rw [preOps_get hik]; exact ho) hL (by cases hx : (rec i).done with | false => rfl | true => have := hdn i hik hx; rw [hL] at this; cases this) hd fun ι' M' a' w' h' => ih _ ι' M' a' w' ?_ (fun j hj hx => by rw [LA_set (by rw [hsz]; exact hik)]; simp [addL, hdn j hj hx]) h')
          rw [LA_set (by rw [hsz]; exact hik)]
          have hlt : ((List.range k).filter fun j => !addL i (LA listed) j).length < ((List.range k).filter fun j => !LA listed j).length := by
            have hsub : ((List.range k).filter fun j => !addL i (LA listed) j) = (((List.range k).filter fun j => !LA listed j).filter fun j => j != i) := by
              rw [List.filter_filter]
              congr 1
              funext j
              simp only [addL, Bool.not_or]
              cases LA listed j <;> simp [bne]
            rw [hsub]
            have hmem : i ∈ (List.range k).filter fun j => !LA listed j := by simp [List.mem_filter, hik, hL]
            exact List.length_filter_lt_length_iff_exists.2 ⟨i, hmem, by simp⟩
          omega
        · exfalso
          apply hall
          intro j hj
          rw [hsz] at hj
          have hin' : ∀ i, LA (padA ops.size listed) i = true → i < ops.size := fun i h' => by rw [LA_pad] at h'; have := hin i h'; rw [hpsz] at this; have := hs.le; omega
          have := closed_before hcl hin' i o ho (by rw [LA_pad]; exact hd) j (hs.all i (by omega) hio j (by omega))
          rwa [LA_pad] at this

theorem suf_sound {ops : Array Oper} {k : Nat} {os suf : List AOper} {kinds : List AOp} {id : Nat} {ι0 : Nat → Option Nat} {s0 : St} {w0 : World} {K : Env → Env → St → Prop} {Q : Exit → Act → World → Prop} (hdraws : P.follows .mixedOrders = true)
    (hs : sufOK ops k = true) (hchk : (slotsOK (preOps ops k) (befores (preOps ops k).toList []) && edgesOK (preOps ops k) (befores (preOps ops k).toList [])) = true) (hk : kindsOf P gs (preOps ops k).toList = some kinds)
    (hc : compileDraw P gs N (preOps ops k) (befores (preOps ops k).toList []) kinds 0 (preOps ops k).toList = some os) (hsuf : compileSeq P gs N ops (ops.toList.drop k) = some suf)
    (hQ : ∀ ι' g' l' s' a' w', Rel gs N ι' g' l' s' a' w' → Step ι0 s0.m w0 ι' s'.m w' → Inc ι0 ι' s0.nx s'.nx → K g' l' s' → Q .normal a' w')
    (h : aopsD P 0 [] os (aops P suf K) g l s) (hrel : Rel gs N ι g l s a w) (hst : Step ι0 s0.m w0 ι s.m w) (hn : Inc ι0 ι s0.nx s.nx) : (Code.region id ops true).wp P Q a w := by
  have hS := sufOK_spec hs
  obtain ⟨rec, E, S, nx, ac, M, D, hnd, hs0, hdi, hend⟩ := draw_setup hchk hk hc h hrel hst hn
  have hpsz := preOps_size hS.le
  have key := draw_pre hS D hs0 (Q := Q) (fun listed ι' M a' w' k1 k2 => by
    obtain ⟨g', l', s', h1, h2, h3, h4⟩ := hend listed ι' M a' w' k1 k2
    have := seq_from hQ (ops.toList.drop k) k suf rfl hsuf ι' g' l' s' a' w' h4 h1 h2 h3
    simpa using this) ops.size _ ι M a _ (by
      have := List.length_filter_le (fun i => !LA (Array.replicate (preOps ops k).size false) i) (List.range k)
      have := hS.le
      simp only [List.length_range] at *
      omega) (fun i hi hx => by rw [hnd i (by rw [hpsz]; exact hi)] at hx; cases hx) hdi
  have e : padA ops.size (Array.replicate (preOps ops k).size false) = Array.replicate ops.size false := by
    have := hS.le
    apply Array.ext_getElem?
    intro j
    simp only [padA, hpsz, Array.size_replicate]
    by_cases hj : j < k
    · rw [Array.getElem?_append_left (by simpa using hj)]
      have : j < ops.size := by omega
      simp [Array.getElem?_replicate, hj, this]
    · rw [Array.getElem?_append_right (by simp; omega)]
      simp only [Array.getElem?_replicate, Array.size_replicate]
      by_cases h2 : j < ops.size
      · rw [if_pos (by omega), if_pos h2]
      · rw [if_neg (by omega), if_neg h2]
  rw [e] at key
  exact wp_region_any hdraws key

end Go.AL
/- The abstract layer: regions of open order with a call that turns objects, and a variable that is laid ahead of it or behind it. -/
set_option linter.unusedVariables false
set_option linter.unusedSimpArgs false
namespace Go.AL
variable {P : Program} {gs : List Nat} {N : Nat} {ι ι' : Nat → Option Nat} {g l : Env} {s s' : St} {a : Act} {w w' : World}

/-- An array of marks. -/
def lay (n : Nat) (f : Nat → Bool) : Array Bool := ((List.range n).map f).toArray
theorem lay_size (n : Nat) (f : Nat → Bool) : (lay n f).size = n := by simp [lay]
theorem LA_lay (n : Nat) (f : Nat → Bool) (j : Nat) : LA (lay n f) j = (decide (j < n) && f j) := by
  unfold LA lay
  by_cases h : j < n <;> simp [h]
theorem lay_set {n i : Nat} (f : Nat → Bool) (h : i < n) : (lay n f).setIfInBounds i true = lay n (addL i f) := by
  apply Array.ext_getElem?
  intro j
  rw [Array.getElem?_setIfInBounds]
  by_cases e : i = j
  · subst e; simp [lay, h, addL]
  · simp only [e, if_false, lay, List.getElem?_toArray, List.getElem?_map]
    by_cases hj : j < n
    · simp [List.getElem?_range hj, addL, Ne.symm e]
    · simp [List.getElem?_eq_none, hj]
theorem lay_congr {n : Nat} {f f' : Nat → Bool} (h : ∀ j, j < n → f j = f' j) : lay n f = lay n f' := by
  unfold lay
  congr 1
  exact List.map_congr_left fun j hj => h j (List.mem_range.1 hj)
theorem lay_first {n m : Nat} (h : m ≤ n) : lay n (fun j => decide (j < m)) = firstN n m := by
  apply Array.ext_getElem?
  intro j
  rw [firstN_get]
  simp only [lay, List.getElem?_toArray, List.getElem?_map]
  by_cases hj : j < n
  · by_cases h2 : j < m
    · simp [List.getElem?_range hj, h2]
    · simp [List.getElem?_range hj, h2, hj]
  · have : ¬ j < m := by omega
    simp [List.getElem?_eq_none, hj, this]

structure Late (ops : Array Oper) (k : Nat) : Prop where
  le : k + 2 ≤ ops.size
  back : ∀ (j : Nat) o, ops[j]? = some o → ∀ e ∈ o.after.toList, Region.binds .any e = true → e.on < j
  call : ∀ i, i < k → i ∈ (befores ops.toList []).getD k []
  nocall : k + 1 ∉ (befores ops.toList []).getD k []
  free : ∀ o, ops[k + 1]? = some o → ∀ e ∈ o.after.toList, Region.binds .any e = false
  all : ∀ j, k + 2 ≤ j → j < ops.size → ∀ i, i < j → i ∈ (befores ops.toList []).getD j []
  guard : ∀ (j : Nat) o, ops[j]? = some o → j < k → ∀ i want, o.guard = some (i, want) → i < k

theorem lateOK_spec {ops : Array Oper} {k : Nat} (h : lateOK ops k = true) : Late ops k := by
  simp only [lateOK, Bool.and_eq_true, decide_eq_true_eq, List.all_eq_true, List.mem_range] at h
  obtain ⟨h1, h2⟩ := h
  refine ⟨h1, fun j o ho e he hb => ?_, fun i hi => ?_, ?_, fun o ho e he => ?_, fun j hkj hj i hij => ?_, fun j o ho hjk i want hg => ?_⟩
  · have := (h2 j (Array.getElem?_eq_some_iff.1 ho).1).1.1.1.1
    rw [ho] at this
    simp only [List.all_eq_true] at this
    have := this e he
    simpa [hb] using this
  · have := (h2 k (by omega)).1.1.1.2
    simp only [Bool.or_eq_true, Bool.not_eq_true', decide_eq_false_iff_not, not_true, false_or, Bool.and_eq_true, List.all_eq_true, List.mem_range, List.contains_iff_mem] at this
    exact this.1 i hi
  · have := (h2 k (by omega)).1.1.1.2
    simp only [Bool.or_eq_true, Bool.not_eq_true', decide_eq_false_iff_not, not_true, false_or, Bool.and_eq_true] at this
    have h3 := this.2
    intro hm
    rw [List.contains_iff_mem.2 hm] at h3
    cases h3
  · have := (h2 (k + 1) (by omega)).1.1.2
    rw [ho] at this
    simp only [decide_true, Bool.not_true, Bool.false_or, List.all_eq_true] at this
    have := this e he
    simpa using this
  · have := (h2 j hj).1.2
    simp only [Bool.or_eq_true, decide_eq_true_eq, List.all_eq_true, List.mem_range, List.contains_iff_mem] at this
    rcases this with h | h
    · omega
    · exact h i hij
  · have := (h2 j (Array.getElem?_eq_some_iff.1 ho).1).2
    rw [ho] at this
    simp only [hg, Bool.or_eq_true, decide_eq_true_eq] at this
    omega

theorem wpOp_pre' {ops : Array Oper} {k i : Nat} (hs : Late ops k) (hi : i < k) {Q : Exit → Act → World → Prop} {K : Act → World → Prop} (h : wpOp P (preOps ops k) Q i K a w) : wpOp P ops Q i K a w := by
  unfold wpOp at h ⊢
  rw [preOps_get hi] at h
  cases ho : ops[i]? with
  | none => simpa only [ho] using h
  | some o =>
    simp only [ho] at h ⊢
    have : Region.wanted o (yielded (preOps ops k) a.tmps) = Region.wanted o (yielded ops a.tmps) := by
      unfold Region.wanted
      cases hg : o.guard with
      | none => rfl
      | some jw =>
        obtain ⟨j, want⟩ := jw
        have := hs.guard i o ho hi j want hg
        simp only [yielded, preOps_get this]
    rw [this] at h
    exact h

/-- A slot that an operation does not write stays. -/
theorem wpOp_keep {ops : Array Oper} {Q : Exit → Act → World → Prop} {K : Act → World → Prop} {i t : Nat} (ht : ∀ o, ops[i]? = some o → o.dst ≠ some t) (h : wpOp P ops Q i K a w) :
    wpOp P ops Q i (fun a' w' => K a' w' ∧ a'.tmps.getD t undef = a.tmps.getD t undef) a w := by
  unfold wpOp at h ⊢
  have hput : ∀ (b : Act) (o : Oper) v, ops[i]? = some o → b.tmps = a.tmps → (b.put o.dst v).tmps.getD t undef = a.tmps.getD t undef := by
    intro b o v ho hb
    have hne := ht o ho
    cases hd : o.dst with
    | none => simp [Act.put, hb]
    | some u =>
      have hu : u ≠ t := fun e => hne (by rw [hd, e])
      simp [Act.put, hb, Array.getElem?_setIfInBounds_ne hu]
  cases ho : ops[i]? with
  | none => simp only [ho] at h ⊢; exact ⟨h, trivial⟩
  | some o =>
    simp only [ho] at h ⊢
    split
    · rename_i hw
      rw [if_pos hw] at h
      rcases h with h | h
      · left
        unfold Oper.wp at h ⊢
        generalize (execOp a.eval o).run P w = r at h ⊢
        cases r with
        | ok x w1 =>
          cases x with
          | value v => exact ⟨h, hput a o v ho rfl⟩
          | skip => exact ⟨h, hput a o _ ho rfl⟩
          | defer c => exact ⟨h, hput _ o _ ho rfl⟩
          | enter f args => exact Calls.mono h fun e w' he => by cases e <;> first | exact ⟨he, hput a o _ ho rfl⟩ | exact he
          | row row args => exact Rows.mono h fun v w' he => ⟨he, hput a o _ ho rfl⟩
          | _ => exact h
        | halt x w1 => cases x <;> exact h
      · exact .inr h
    · rename_i hw
      rw [if_neg hw] at h
      exact ⟨h, hput a o _ ho rfl⟩

/-- An object that had no block gets one. -/
theorem late_block {S : Store} (hwf : WF ι S w) {X : Nat} (hι : ι X = none) {obj : AObj} (hX : S X = some obj) (o : Obj)
    (hrep : ObjRep (putι ι X w.heap.size) (Foot (putι ι X w.heap.size) S) (w.alloc o) w.heap.size obj) :
    Step ι S w (putι ι X w.heap.size) S (w.alloc o) ∧ WF (putι ι X w.heap.size) S (w.alloc o) := by
  have e : putS S X obj = S := by
    funext q
    unfold putS
    split
    · rename_i h; rw [h, hX]
    · rfl
  have h1 := alloc_obj_step hwf hι o obj
  have h2 := alloc_obj_wf hwf hι o obj
  rw [e] at h1 h2
  exact ⟨h1, h2 hrep⟩

theorem draw_setup2 {ops : Array Oper} {os : List AOper} {kinds : List AOp} {K : Env → Env → St → Prop}
    (hchk : (slotsOK ops (befores ops.toList []) && edgesOK ops (befores ops.toList [])) = true) (hk : kindsOf P gs ops.toList = some kinds) (hc : compileDraw P gs N ops (befores ops.toList []) kinds 0 ops.toList = some os)
    (h : aopsD P 0 [] os K g l s) (hrel : Rel gs N ι g l s a w) :
    ∃ rec E S nx ac M, Draw P gs N ops os rec E S nx ac ∧ (∀ i, i < ops.size → (rec i).done = false) ∧ s.nx ≤ nx 0 ∧ S 0 = s.m ∧ E 0 = merge gs g l ∧ (∀ i o, os[i]? = some o → (kinds.getD i .mkmap).writes = o.op.writes ∨ o.op.isCall = true) ∧ DI gs N ops os rec E S nx ι s w (Array.replicate ops.size false) ι M a w.drew ∧
      ∀ (ι0 : Nat → Option Nat) (s0 : St) (w0 : World), s0.nx ≤ nx 0 → ∀ listed ι' M a' w', DI gs N ops os rec E S nx ι0 s0 w0 listed ι' M a' w' → (∀ i, i < ops.size → LA listed i = true) →
        ∃ g' l' s', Rel gs N ι' g' l' s' a' w' ∧ Step ι0 s0.m w0 ι' s'.m w' ∧ Inc ι0 ι' s0.nx s'.nx ∧ K g' l' s' := by
  obtain ⟨hlen, hspec⟩ := compileDraw_spec ops.toList 0 os hc
  simp only [Array.length_toList] at hlen
  have hop : ∀ (i : Nat) o, ops[i]? = some o → ∃ ao, os[i]? = some ao ∧ compileAny P gs true o = some ao.op ∧ cdst gs N o.dst = some ao.dst ∧ cguard gs ops o.guard = some ao.guard ∧ aoperOK gs (namesOf ops o) ao = true := by
    intro i o ho
    obtain ⟨ao, h1, h2, h3, h4, h5, _⟩ := hspec i o (by simpa using ho)
    exact ⟨ao, h1, h2, h3, h4, h5⟩
  have hkind : ∀ (i : Nat) o ao, ops[i]? = some o → os[i]? = some ao → ∃ kd, kinds.getD i .mkmap = kd ∧ ao.op.isCall = kd.isCall ∧ (ao.op.isCall = true → ∃ f as, ao.op = .call true f as) ∧ (ao.op.isCall = false → ao.op = kd) := by
    intro i o ao ho hao
    obtain ⟨ao', h1, h2, _⟩ := hop i o ho
    rw [hao] at h1
    cases h1
    obtain ⟨kd, k1, k2⟩ := kindsOf_spec ops.toList kinds hk i o (by simpa using ho)
    obtain ⟨f1, f2, f3⟩ := compileAny_flag h2 k2
    exact ⟨kd, by simp [k1], f1, f2, f3⟩
  obtain ⟨rec, E, S, nx, ac, e1, e2, e3, e4, e5, g', l', s', e6, e7, e8, e9⟩ := extract (gs := gs) (namesOf := fun i => (ops[i]?).elim [] (namesOf ops)) os 0 [] g l s (fun i ao hao => by
    have hi : i < ops.size := by rw [← hlen]; exact (List.getElem?_eq_some_iff.1 hao).1
    have ho : ops[i]? = some ops[i] := by simp [hi]
    obtain ⟨ao', h1, h2, _, _, h5⟩ := hop i _ ho
    rw [hao] at h1
    cases h1
    obtain ⟨_, _, _, hc2, _⟩ := hkind i _ ao ho hao
    refine ⟨?_, hc2⟩
    rw [Nat.zero_add, ho]
    exact h5) h
  simp only [Nat.zero_add] at e5
  simp only [Bool.and_eq_true] at hchk
  obtain ⟨hslots, hedges⟩ := hchk
  have D : Draw P gs N ops os rec E S nx ac := by
    refine ⟨hlen, hop, fun i o h => (e5 i o h).1, ?_, ?_, ?_, ?_⟩
    · intro i j x y hij hx hy hcl
      have hj : j < ops.size := (Array.getElem?_eq_some_iff.1 hy).1
      have h1 := List.all_eq_true.1 hslots j (by simpa using hj)
      have h2 := List.all_eq_true.1 h1 i (by simpa using hij)
      rw [hx, hy] at h2
      simp only [hcl, Bool.not_true, Bool.false_or, List.contains_iff_mem] at h2
      exact h2
    · intro i j x y hij hx hy hl hw n1 n2
      have hj : j < ops.size := by rw [← hlen]; exact (List.getElem?_eq_some_iff.1 hy).1
      have hoi : ops[i]? = some (ops[i]'(by omega)) := by simp
      have hoj : ops[j]? = some ops[j] := by simp [hj]
      obtain ⟨ki, q1, q2, _, q3⟩ := hkind i _ x hoi hx
      obtain ⟨kj, r1, r2, _, r3⟩ := hkind j _ y hoj hy
      obtain ⟨y', s1, _, _, _, _, s6⟩ := hspec j ops[j] (by rw [Array.getElem?_toList]; exact hoj)
      rw [hy] at s1
      cases s1
      simp only [Nat.zero_add] at s6
      by_cases hb : ((befores ops.toList []).getD j []).contains i = true
      · exact .inl (by simpa using hb)
      · have s7 := s6 i hij (by simpa using hb)
        rw [q1, r1, ← q3 n1, ← r3 n2] at s7
        refine .inr (s7 hl ?_ n2 n1)
        rcases hw with hw | ⟨w1, w2⟩
        · simp [hw]
        · rcases w2 with w2 | w2 <;> simp [w1, w2]
    · intro i o ho e he hb
      have hi : i < ops.size := (Array.getElem?_eq_some_iff.1 ho).1
      have h1 := List.all_eq_true.1 hedges i (by simpa using hi)
      rw [ho] at h1
      simp only [Bool.and_eq_true] at h1
      have h2 := List.all_eq_true.1 h1.1 e he
      simpa [hb] using h2
    · intro q ob hq
      rw [e2] at hq
      rw [e3]
      exact hrel.bnd.lt q ob hq
  have hs0 : s.nx ≤ nx 0 := by rw [e3]; exact Nat.le_refl _
  have hst := Step.refl ι s.m w
  have hn := Inc.refl ι s.nx
  have hnd : ∀ i, i < ops.size → (rec i).done = false := fun i hi => (e5 i (os[i]'(by rw [hlen]; exact hi)) (by simp [hlen, hi])).2
  refine ⟨rec, E, S, nx, ac, max s.nx (nx ops.size), D, hnd, hs0, e2, e1, fun i o ho => ?_, ?_, ?_⟩
  · have hi : i < ops.size := by rw [← hlen]; exact (List.getElem?_eq_some_iff.1 ho).1
    obtain ⟨kd, q1, _, _, q3⟩ := hkind i ops[i] o (by simp [hi]) ho
    cases hcl : o.op.isCall with
    | true => exact .inr rfl
    | false => left; rw [q1, q3 hcl]
  rotate_left
  · intro ι0 s0 w0 hs0 listed ι' M a' w' hdi hall
    have hpre : ∀ j, j < ops.size → LA listed j = pre ops.size j := fun j hj => by rw [hall j hj]; simp [pre, hj]
    have hE : ∀ t, EL (dstF os) rec (E 0) ops.size (LA listed) t = E ops.size t := fun t => by
      rw [D.E_eq ops.size (Nat.le_refl _) t]
      unfold EL
      rw [lw_congr fun j hj _ => hpre j hj]
    have hS : SL rec (S 0) ops.size (LA listed) = s'.m := by
      rw [e7, hlen]
      funext q
      rw [D.S_eq ops.size (Nat.le_refl _) q]
      unfold SL
      rw [lw_congr fun j hj _ => hpre j hj]
    rw [hlen] at e6 e8
    have hnM := hdi.nM
    refine ⟨g', l', s'.bump M, ⟨by rw [St.bump, ← hS]; exact hdi.wf, ⟨fun q ob hq => ?_, hdi.ιM⟩, hdi.size, hdi.defers, fun t ht => ?_, fun t ht => ?_⟩, by rw [St.bump, ← hS]; exact hdi.step, ⟨?_, hdi.inc⟩, e9 M (by rw [e8]; exact hnM)⟩
    · simp only [St.bump] at hq ⊢
      rw [e7, hlen] at hq
      have := D.S_bnd ops.size (Nat.le_refl _) q ob hq
      omega
    · have := hdi.slots t
      rw [hE, ← e6, hS] at this
      simp only [merge, ht, if_true] at this
      exact this
    · have := hdi.slots t
      rw [hE, ← e6, hS] at this
      simp only [merge, ht, Bool.false_eq_true, if_false] at this
      exact this
    · have := D.nx_le (i := 0) (j := ops.size) (Nat.zero_le _) (Nat.le_refl _)
      simp only [St.bump]
      omega
  · have hLA : LA (Array.replicate ops.size false) = pre 0 := by
      funext j
      simp only [LA, pre]
      by_cases hj : j < ops.size <;> simp [hj]
    have hE0 : ∀ t, EL (dstF os) rec (E 0) ops.size (pre 0) t = E 0 t := fun t => (D.E_eq 0 (Nat.zero_le _) t).symm
    have hS0 : SL rec (S 0) ops.size (pre 0) = s.m := by
      rw [← e2]
      funext q
      exact (D.S_eq 0 (Nat.zero_le _) q).symm
    refine ⟨by simp, ?_, ?_, fun q b hq => ?_, Nat.le_max_right _ _, fun i hi _ hnew => ?_, hrel.size, hrel.defers, fun t => ?_, ?_, fun q b hq hlt => hn.2 q b hq hlt⟩
    · rw [hLA]
      intro i o ho hL
      simp [pre] at hL
    · rw [hLA, hS0]; exact hrel.wf.drew
    · have := hrel.bnd.ilt q b hq
      omega
    · cases hι : ι (nx i) with
      | none => rfl
      | some b =>
        exfalso
        have h1 := hrel.bnd.ilt _ b hι
        have h2 := D.nx_le (i := 0) (j := i) (Nat.zero_le _) (by omega)
        rw [e3] at h2
        omega
    · rw [hLA, hE0, hS0, e1]
      refine Rep.step (drew_step ι s.m w) ?_
      simp only [merge]
      split
      · rename_i ht; exact hrel.glob t ht
      · rename_i ht; exact hrel.loc t (by simpa using ht)
    · rw [hLA, hS0]
      exact hst.trans (drew_step ι s.m w)


/-- A variable of zeros is laid where an object had no block. -/
theorem late_zero {S : Store} (hwf : WF ι S w) {X : Nat} (hι : ι X = none) {zs : List AV} (hX : S X = some (.box zs)) {e : TypeId} (hz : zeroAV P e = some zs) :
    ∃ z, (zeroValue e).run P w = .ok z w ∧ Step ι S w (putι ι X w.heap.size) S (w.alloc (.cells z.cells e)) ∧ WF (putι ι X w.heap.size) S (w.alloc (.cells z.cells e)) := by
  obtain ⟨i, z, hi, hiz, hzr, hz1, hzv, _⟩ := zeroAV_spec (ι := ι) (F := Foot ι S) (w := w) hz
  have e0 : putS S X (.box zs) = S := by
    funext q
    unfold putS
    split
    · rename_i h; rw [h, hX]
    · rfl
  have hs := alloc_obj_step hwf hι (.cells z.cells e) (.box zs)
  rw [e0] at hs
  exact ⟨z, hzv, late_block hwf hι hX _ ⟨z.cells, e, heap_alloc_eq w _, Nat.le_of_eq hzr.1.symm, (hzr.step hs).2, fun j v _ => hz1 j v⟩⟩

/-- Where it is laid, in the machine's words. -/
theorem wpOp_alloc {ops : Array Oper} {Q : Exit → Act → World → Prop} {K : Act → World → Prop} {i t : Nat} {o : Oper} {e : TypeId} {z : Value} (ho : ops[i]? = some o) (hop : o.op = .alloc e) (hg : o.guard = none) (hd : o.dst = some t)
    (hzv : (zeroValue e).run P w = .ok z w) (h : K (a.put (some t) (.pointer (some ⟨w.heap.size, 0, none⟩))) (w.alloc (.cells z.cells e))) : wpOp P ops Q i K a w := by
  unfold wpOp
  simp only [ho]
  have hw : Region.wanted o (yielded ops a.tmps) = true := by simp [Region.wanted, hg]
  rw [if_pos hw]
  left
  unfold Oper.wp
  have hr : (execOp a.eval o).run P w = .ok (.value (.pointer (some ⟨w.heap.size, 0, none⟩))) (w.alloc (.cells z.cells e)) := by
    obtain ⟨dst, op, type, pos, after, guard⟩ := o
    simp only at hop
    subst hop
    simp [execOp, Instr.alloc, hzv, newVar, newRow]
  rw [hr, Oper.upon_value, hd]
  exact h
end Go.AL
