/- The abstract layer: regions come to what the abstract ones say. -/
import Derived.Test.YtkegioliclbbhaaA12e
set_option linter.unusedVariables false
set_option linter.unusedSimpArgs false
namespace Go.AL
variable {P : Program} {gs : List Nat} {N : Nat} {ι ι' : Nat → Option Nat} {g l : Env} {s s' : St} {a : Act} {w w' : World}

/-- One operation of a sequence, behind its guard. -/
theorem oper_seq {ops : Array Oper} {i : Nat} {o : Oper} {ao : AOper} {cc : List Nat} {pr : Bool} (hpr : pr = false) (hi : ops[i]? = some o) (hc : compileOper P gs N ops pr cc o = some ao) (hrel : Rel gs N ι g l s a w)
    {K : Env → Env → St → Prop} {run : Env → Env → Prop} (hrun : ∀ g l, run g l → ao.op.step P g l s fun v s' => setDst ao.dst v g l fun g' l' => K g' l' s') (h : guarded ao.guard g l run fun g l => setDst ao.dst (.tup []) g l fun g' l' => K g' l' s)
    {Q : Exit → Act → World → Prop} {rest : List Nat}
    (hnext : ∀ ι' g' l' s' a' w', Rel gs N ι' g' l' s' a' w' → Step ι s.m w ι' s'.m w' → Inc ι ι' s.nx s'.nx → K g' l' s' → wpOps P ops Q rest a' w') : wpOps P ops Q (i :: rest) a w := by
  subst hpr
  obtain ⟨c1, c2, c3, _⟩ := compileOper_inv hc
  rw [wpOps_cons]
  have doit : ∀ {g l}, Rel gs N ι g l s a w → run g l → Region.wanted o (yielded ops a.tmps) = true → wpOp P ops Q i (wpOps P ops Q rest) a w := by
    intro g l hrel hst hw
    unfold wpOp
    rw [hi]
    simp only [hw, if_true]
    refine .inl (step_sound c1 rfl hrel (hrun _ _ hst) fun ι' cv v s' w' k1 k2 k3 k4 k5 k6 => ?_)
    obtain ⟨g', l', hk, hr'⟩ := hrel.put (S := s.m) k1 k2 k3 c2 k5 k6
    exact hnext ι' g' l' s' _ w' hr' k1 k4 hk
  unfold guarded at h
  cases hg : o.guard with
  | none =>
    rw [hg] at c3
    simp only [cguard, Option.some.injEq] at c3
    rw [← c3] at h
    exact doit hrel h (by simp [Region.wanted, hg])
  | some jw =>
    obtain ⟨j, want⟩ := jw
    rw [hg] at c3
    simp only [cguard, Option.map_eq_some_iff] at c3
    obtain ⟨t, hj, he⟩ := c3
    rw [← he] at h
    simp only at h
    split at h
    · rename_i b hb
      have hrep := hrel.envGet t
      rw [hb] at hrep
      have hy := yielded_of hj (rep_bool hrep)
      have hw : Region.wanted o (yielded ops a.tmps) = (some b == some want) := by simp [Region.wanted, hg, hy]
      by_cases e : b = want
      · subst e
        obtain ⟨g', l', hk, hr'⟩ := hrel.envSet hb (h.1 rfl)
        exact doit hr' hk (by rw [hw]; simp)
      · have e' : b = !want := by cases b <;> cases want <;> simp_all
        subst e'
        obtain ⟨g1, l1, hk, hr'⟩ := hrel.envSet hb (h.2 rfl)
        obtain ⟨g2, l2, hk2, hr2⟩ := hr'.put (S := s.m) (Step.refl ι s.m w) hrel.wf hrel.bnd c2 (cv := undef) rep_undef_mk hk
        unfold wpOp
        rw [hi]
        have hw' : Region.wanted o (yielded ops a.tmps) = false := by rw [hw]; cases want <;> rfl
        simp only [hw', Bool.false_eq_true, if_false]
        exact hnext ι g2 l2 s _ w hr2 (Step.refl _ _ _) (Inc.refl _ _) hk2
    · rename_i hb
      have hrep := hrel.envGet t
      rw [hb] at hrep
      have hy := yielded_undef hj (rep_undef hrep)
      have hw' : Region.wanted o (yielded ops a.tmps) = false := by simp [Region.wanted, hg, hy]
      obtain ⟨g2, l2, hk2, hr2⟩ := hrel.put (S := s.m) (Step.refl ι s.m w) hrel.wf hrel.bnd c2 (cv := undef) rep_undef_mk h
      unfold wpOp
      rw [hi]
      simp only [hw', Bool.false_eq_true, if_false]
      exact hnext ι g2 l2 s _ w hr2 (Step.refl _ _ _) (Inc.refl _ _) hk2
    · exact h.elim

theorem seq_from {ops : Array Oper} {ι0 : Nat → Option Nat} {s0 : St} {w0 : World} {K : Env → Env → St → Prop} {Q : Exit → Act → World → Prop}
    (hQ : ∀ ι' g' l' s' a' w', Rel gs N ι' g' l' s' a' w' → Step ι0 s0.m w0 ι' s'.m w' → Inc ι0 ι' s0.nx s'.nx → K g' l' s' → Q .normal a' w') :
    ∀ (r : List Oper) (k : Nat) (os : List AOper), ops.toList.drop k = r → compileSeq P gs N ops r = some os → ∀ (ι : Nat → Option Nat) (g l : Env) (s : St) (a : Act) (w : World),
      aops P os K g l s → Rel gs N ι g l s a w → Step ι0 s0.m w0 ι s.m w → Inc ι0 ι s0.nx s.nx → wpOps P ops Q (List.range' k r.length) a w := by
  intro r
  induction r with
  | nil =>
    intro k os hk hc ι g l s a w h hrel hst hn
    simp [compileSeq] at hc
    subst hc
    exact hQ ι g l s a w hrel hst hn h
  | cons o r ih =>
    intro k os hk hc ι g l s a w h hrel hst hn
    simp only [compileSeq] at hc
    split at hc
    · rename_i ao os' h1 h2
      cases hc
      have hi : ops[k]? = some o := by
        have : (ops.toList.drop k)[0]? = some o := by rw [hk]; rfl
        simpa using this
      have hk' : ops.toList.drop (k + 1) = r := by
        rw [← List.drop_drop, hk]; rfl
      simp only [List.length_cons, List.range'_succ]
      refine oper_seq rfl hi h1 hrel (run := fun g l => ao.op.step P g l s fun v s' => setDst ao.dst v g l fun g' l' => aops P os' K g' l' s') (fun _ _ h => h) ?_ (fun ι' g' l' s' a' w' k1 k2 k3 k4 => ih (k + 1) os' hk' h2 ι' g' l' s' a' w' k4 k1 (hst.trans k2) (hn.trans k3))
      simpa only [aops] using h
    · cases hc

theorem seq_sound {ops : Array Oper} {os : List AOper} {ι0 : Nat → Option Nat} {s0 : St} {w0 : World} {K : Env → Env → St → Prop} {Q : Exit → Act → World → Prop} (hc : compileSeq P gs N ops ops.toList = some os)
    (hQ : ∀ ι' g' l' s' a' w', Rel gs N ι' g' l' s' a' w' → Step ι0 s0.m w0 ι' s'.m w' → Inc ι0 ι' s0.nx s'.nx → K g' l' s' → Q .normal a' w')
    (h : aops P os K g l s) (hrel : Rel gs N ι g l s a w) (hst : Step ι0 s0.m w0 ι s.m w) (hn : Inc ι0 ι s0.nx s.nx) : wpOps P ops Q (List.range ops.size) a w := by
  have := seq_from hQ ops.toList 0 os rfl hc ι g l s a w h hrel hst hn
  rwa [List.range_eq_range', ← Array.length_toList]

theorem draw_any {ops : Array Oper} {os : List AOper} {rec : Nat → Rec} {E : Nat → Nat → AV} {S : Nat → Store} {nx : Nat → Nat} {ac : Nat → List (Nat × Nat)} {ι0 : Nat → Option Nat} {s0 : St} {w0 : World} {Q : Exit → Act → World → Prop}
    (D : Draw P gs N ops os rec E S nx ac) (hs0 : s0.nx ≤ nx 0) (hQ : ∀ listed ι M a w, DI gs N ops os rec E S nx ι0 s0 w0 listed ι M a w → (∀ i, i < ops.size → LA listed i = true) → Q .normal a w) :
    ∀ (fuel : Nat) (listed : Array Bool) (ι : Nat → Option Nat) (M : Nat) (a : Act) (w : World), ((List.range ops.size).filter fun i => !LA listed i).length ≤ fuel →
      DI gs N ops os rec E S nx ι0 s0 w0 listed ι M a w → wpAny P .any ops Q fuel listed a w := by
  intro fuel
  induction fuel with
  | zero =>
    intro listed ι M a w hf h
    have hall : ∀ i, i < ops.size → LA listed i = true := by
      intro i hi
      cases hL : LA listed i with
      | true => rfl
      | false =>
        exfalso
        have : i ∈ (List.range ops.size).filter fun i => !LA listed i := by simp [List.mem_filter, hi, hL]
        have := List.length_pos_of_mem this
        omega
    refine ⟨?_, hQ listed ι M a w h hall⟩
    cases hr : Region.ready .any ops listed with
    | nil => rfl
    | cons i r =>
      exfalso
      obtain ⟨o, ho, hL, _⟩ := ready_mem h.sz (by rw [hr]; simp : i ∈ Region.ready .any ops listed)
      rw [hall i (Array.getElem?_eq_some_iff.1 ho).1] at hL
      cases hL
  | succ fuel ih =>
    intro listed ι M a w hf h
    refine ⟨fun hr => hQ listed ι M a w h (all_listed D h.sz hr), fun i hi => ?_⟩
    obtain ⟨o, ho, hL, hready⟩ := ready_mem h.sz hi
    have hilt := (Array.getElem?_eq_some_iff.1 ho).1
    refine draw_step D h hs0 ho hL hready fun ι' M' a' w' h' => ih _ ι' M' a' w' ?_ h'
    rw [LA_set (by rw [h.sz]; exact hilt)]
    have hlt : ((List.range ops.size).filter fun j => !addL i (LA listed) j).length < ((List.range ops.size).filter fun j => !LA listed j).length := by
      have hsub : ((List.range ops.size).filter fun j => !addL i (LA listed) j) = (((List.range ops.size).filter fun j => !LA listed j).filter fun j => j != i) := by
        rw [List.filter_filter]
        congr 1
        funext j
        simp only [addL, Bool.not_or]
        cases LA listed j <;> simp [bne]
      rw [hsub]
      have hmem : i ∈ (List.range ops.size).filter fun j => !LA listed j := by simp [List.mem_filter, hilt, hL]
      exact List.length_filter_lt_length_iff_exists.2 ⟨i, hmem, by simp⟩
    omega

theorem draw_setup {ops : Array Oper} {os : List AOper} {kinds : List AOp} {ι0 : Nat → Option Nat} {s0 : St} {w0 : World} {K : Env → Env → St → Prop}
    (hchk : (slotsOK ops (befores ops.toList []) && edgesOK ops (befores ops.toList [])) = true) (hk : kindsOf P gs ops.toList = some kinds) (hc : compileDraw P gs N ops (befores ops.toList []) kinds 0 ops.toList = some os)
    (h : aopsD P 0 [] os K g l s) (hrel : Rel gs N ι g l s a w) (hst : Step ι0 s0.m w0 ι s.m w) (hn : Inc ι0 ι s0.nx s.nx) :
    ∃ rec E S nx ac M, Draw P gs N ops os rec E S nx ac ∧ s0.nx ≤ nx 0 ∧ DI gs N ops os rec E S nx ι0 s0 w0 (Array.replicate ops.size false) ι M a w.drew ∧
      ∀ listed ι' M a' w', DI gs N ops os rec E S nx ι0 s0 w0 listed ι' M a' w' → (∀ i, i < ops.size → LA listed i = true) →
        ∃ g' l' s', Rel gs N ι' g' l' s' a' w' ∧ Step ι0 s0.m w0 ι' s'.m w' ∧ Inc ι0 ι' s0.nx s'.nx ∧ K g' l' s' := by
  obtain ⟨hlen, hspec⟩ := compileDraw_spec ops.toList 0 os hc
  simp only [Array.length_toList] at hlen
  have hop : ∀ (i : Nat) o, ops[i]? = some o → ∃ ao, os[i]? = some ao ∧ compileAny P gs true o = some ao.op ∧ cdst gs N o.dst = some ao.dst ∧ cguard gs ops o.guard = some ao.guard ∧ aoperOK gs (namesOf ops o) ao = true := by
    intro i o ho
    obtain ⟨ao, h1, h2, h3, h4, h5, _⟩ := hspec i o (by simpa using ho)
    exact ⟨ao, h1, h2, h3, h4, h5⟩
  have hkind : ∀ (i : Nat) o ao, ops[i]? = some o → os[i]? = some ao → ∃ kd, kinds.getD i .mkmap = kd ∧ ao.op.isCall = kd.isCall ∧ (ao.op.isCall = true → ∃ f as, ao.op = .call true f as) ∧ (ao.op.isCall = false → ao.op = kd) := by
    intro i o ao ho hao
    obtain ⟨ao', h1, h2, _⟩ := hop i o ho
    rw [hao] at h1
    cases h1
    obtain ⟨kd, k1, k2⟩ := kindsOf_spec ops.toList kinds hk i o (by simpa using ho)
    obtain ⟨f1, f2, f3⟩ := compileAny_flag h2 k2
    exact ⟨kd, by simp [k1], f1, f2, f3⟩
  obtain ⟨rec, E, S, nx, ac, e1, e2, e3, e4, e5, g', l', s', e6, e7, e8, e9⟩ := extract (gs := gs) (namesOf := fun i => (ops[i]?).elim [] (namesOf ops)) os 0 [] g l s (fun i ao hao => by
    have hi : i < ops.size := by rw [← hlen]; exact (List.getElem?_eq_some_iff.1 hao).1
    have ho : ops[i]? = some ops[i] := by simp [hi]
    obtain ⟨ao', h1, h2, _, _, h5⟩ := hop i _ ho
    rw [hao] at h1
    cases h1
    obtain ⟨_, _, _, hc2, _⟩ := hkind i _ ao ho hao
    refine ⟨?_, hc2⟩
    rw [Nat.zero_add, ho]
    exact h5) h
  simp only [Nat.zero_add] at e5
  simp only [Bool.and_eq_true] at hchk
  obtain ⟨hslots, hedges⟩ := hchk
  have D : Draw P gs N ops os rec E S nx ac := by
    refine ⟨hlen, hop, e5, ?_, ?_, ?_, ?_⟩
    · intro i j x y hij hx hy hcl
      have hj : j < ops.size := (Array.getElem?_eq_some_iff.1 hy).1
      have h1 := List.all_eq_true.1 hslots j (by simpa using hj)
      have h2 := List.all_eq_true.1 h1 i (by simpa using hij)
      rw [hx, hy] at h2
      simp only [hcl, Bool.not_true, Bool.false_or, List.contains_iff_mem] at h2
      exact h2
    · intro i j x y hij hx hy hl hw n1 n2
      have hj : j < ops.size := by rw [← hlen]; exact (List.getElem?_eq_some_iff.1 hy).1
      have hoi : ops[i]? = some (ops[i]'(by omega)) := by simp
      have hoj : ops[j]? = some ops[j] := by simp [hj]
      obtain ⟨ki, q1, q2, _, q3⟩ := hkind i _ x hoi hx
      obtain ⟨kj, r1, r2, _, r3⟩ := hkind j _ y hoj hy
      obtain ⟨y', s1, _, _, _, _, s6⟩ := hspec j ops[j] (by rw [Array.getElem?_toList]; exact hoj)
      rw [hy] at s1
      cases s1
      simp only [Nat.zero_add] at s6
      by_cases hb : ((befores ops.toList []).getD j []).contains i = true
      · exact .inl (by simpa using hb)
      · have s7 := s6 i hij (by simpa using hb)
        rw [q1, r1, ← q3 n1, ← r3 n2] at s7
        refine .inr (s7 hl ?_ n2 n1)
        rcases hw with hw | ⟨w1, w2⟩
        · simp [hw]
        · rcases w2 with w2 | w2 <;> simp [w1, w2]
    · intro i o ho e he hb
      have hi : i < ops.size := (Array.getElem?_eq_some_iff.1 ho).1
      have h1 := List.all_eq_true.1 hedges i (by simpa using hi)
      rw [ho] at h1
      simp only [Bool.and_eq_true] at h1
      have h2 := List.all_eq_true.1 h1.1 e he
      simpa [hb] using h2
    · intro q ob hq
      rw [e2] at hq
      rw [e3]
      exact hrel.bnd.lt q ob hq
  have hs0 : s0.nx ≤ nx 0 := by rw [e3]; exact hn.1
  refine ⟨rec, E, S, nx, ac, max s.nx (nx ops.size), D, hs0, ?_, ?_⟩
  rotate_left
  · intro listed ι' M a' w' hdi hall
    have hpre : ∀ j, j < ops.size → LA listed j = pre ops.size j := fun j hj => by rw [hall j hj]; simp [pre, hj]
    have hE : ∀ t, EL (dstF os) rec (E 0) ops.size (LA listed) t = E ops.size t := fun t => by
      rw [D.E_eq ops.size (Nat.le_refl _) t]
      unfold EL
      rw [lw_congr fun j hj _ => hpre j hj]
    have hS : SL rec (S 0) ops.size (LA listed) = s'.m := by
      rw [e7, hlen]
      funext q
      rw [D.S_eq ops.size (Nat.le_refl _) q]
      unfold SL
      rw [lw_congr fun j hj _ => hpre j hj]
    rw [hlen] at e6 e8
    have hnM := hdi.nM
    refine ⟨g', l', s'.bump M, ⟨by rw [St.bump, ← hS]; exact hdi.wf, ⟨fun q ob hq => ?_, hdi.ιM⟩, hdi.size, hdi.defers, fun t ht => ?_, fun t ht => ?_⟩, by rw [St.bump, ← hS]; exact hdi.step, ⟨?_, hdi.inc⟩, e9 M (by rw [e8]; exact hnM)⟩
    · simp only [St.bump] at hq ⊢
      rw [e7, hlen] at hq
      have := D.S_bnd ops.size (Nat.le_refl _) q ob hq
      omega
    · have := hdi.slots t
      rw [hE, ← e6, hS] at this
      simp only [merge, ht, if_true] at this
      exact this
    · have := hdi.slots t
      rw [hE, ← e6, hS] at this
      simp only [merge, ht, Bool.false_eq_true, if_false] at this
      exact this
    · have := D.nx_le (i := 0) (j := ops.size) (Nat.zero_le _) (Nat.le_refl _)
      simp only [St.bump]
      omega
  · have hLA : LA (Array.replicate ops.size false) = pre 0 := by
      funext j
      simp only [LA, pre]
      by_cases hj : j < ops.size <;> simp [hj]
    have hE0 : ∀ t, EL (dstF os) rec (E 0) ops.size (pre 0) t = E 0 t := fun t => (D.E_eq 0 (Nat.zero_le _) t).symm
    have hS0 : SL rec (S 0) ops.size (pre 0) = s.m := by
      rw [← e2]
      funext q
      exact (D.S_eq 0 (Nat.zero_le _) q).symm
    refine ⟨by simp, ?_, ?_, fun q b hq => ?_, Nat.le_max_right _ _, fun i hi _ hnew => ?_, hrel.size, hrel.defers, fun t => ?_, ?_, fun q b hq hlt => hn.2 q b hq hlt⟩
    · rw [hLA]
      intro i o ho hL
      simp [pre] at hL
    · rw [hLA, hS0]; exact hrel.wf.drew
    · have := hrel.bnd.ilt q b hq
      omega
    · cases hι : ι (nx i) with
      | none => rfl
      | some b =>
        exfalso
        have h1 := hrel.bnd.ilt _ b hι
        have h2 := D.nx_le (i := 0) (j := i) (Nat.zero_le _) (by omega)
        rw [e3] at h2
        omega
    · rw [hLA, hE0, hS0, e1]
      refine Rep.step (drew_step ι s.m w) ?_
      simp only [merge]
      split
      · rename_i ht; exact hrel.glob t ht
      · rename_i ht; exact hrel.loc t (by simpa using ht)
    · rw [hLA, hS0]
      exact hst.trans (drew_step ι s.m w)

theorem draw_sound {ops : Array Oper} {os : List AOper} {kinds : List AOp} {id : Nat} {ι0 : Nat → Option Nat} {s0 : St} {w0 : World} {K : Env → Env → St → Prop} {Q : Exit → Act → World → Prop} (hdraws : P.follows .mixedOrders = true)
    (hchk : (slotsOK ops (befores ops.toList []) && edgesOK ops (befores ops.toList [])) = true) (hk : kindsOf P gs ops.toList = some kinds) (hc : compileDraw P gs N ops (befores ops.toList []) kinds 0 ops.toList = some os)
    (hQ : ∀ ι' g' l' s' a' w', Rel gs N ι' g' l' s' a' w' → Step ι0 s0.m w0 ι' s'.m w' → Inc ι0 ι' s0.nx s'.nx → K g' l' s' → Q .normal a' w')
    (h : aopsD P 0 [] os K g l s) (hrel : Rel gs N ι g l s a w) (hst : Step ι0 s0.m w0 ι s.m w) (hn : Inc ι0 ι s0.nx s.nx) : (Code.region id ops true).wp P Q a w := by
  obtain ⟨rec, E, S, nx, ac, M, D, hs0, hdi, hend⟩ := draw_setup hchk hk hc h hrel hst hn
  refine wp_region_any hdraws (draw_any D hs0 (fun listed ι' M a' w' k1 k2 => ?_) ops.size _ ι M a _ (Nat.le_trans (List.length_filter_le _ _) (by simp)) hdi)
  obtain ⟨g', l', s', h1, h2, h3, h4⟩ := hend listed ι' M a' w' k1 k2
  exact hQ ι' g' l' s' a' w' h1 h2 h3 h4

end Go.AL
