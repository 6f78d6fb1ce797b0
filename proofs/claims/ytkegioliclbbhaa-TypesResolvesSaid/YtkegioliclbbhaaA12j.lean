/- The abstract layer: regions of open order with a call that turns objects: the theorem. -/
import Derived.Test.YtkegioliclbbhaaA12h
set_option linter.unusedVariables false
set_option linter.unusedSimpArgs false
namespace Go.AL
variable {P : Program} {gs : List Nat} {N : Nat} {ι ι' : Nat → Option Nat} {g l : Env} {s s' : St} {a : Act} {w w' : World}

def fOf (k : Nat) (L : Nat → Bool) (c d : Bool) : Nat → Bool := fun j => if j < k then L j else if j = k then c else if j = k + 1 then d else false
theorem fOf_alloc (k : Nat) (L : Nat → Bool) (c d : Bool) : fOf k L c d (k + 1) = d := by
  unfold fOf
  rw [if_neg (by omega), if_neg (by omega), if_pos rfl]
theorem fOf_call (k : Nat) (L : Nat → Bool) (c d : Bool) : fOf k L c d k = c := by
  unfold fOf
  rw [if_neg (by omega), if_pos rfl]
theorem fOf_pre {k j : Nat} (h : j < k) (L : Nat → Bool) (c d : Bool) : fOf k L c d j = L j := by
  unfold fOf
  rw [if_pos h]
theorem fOf_suf {k j : Nat} (h : k + 2 ≤ j) (L : Nat → Bool) (c d : Bool) : fOf k L c d j = false := by
  unfold fOf
  rw [if_neg (by omega), if_neg (by omega), if_neg (by omega)]
theorem Rel.setSlot (h : Rel gs N ι g l s a w) {t : Nat} {v : AV} (hv : Rep ι (Foot ι s.m) w (a.tmps.getD t undef) v) {K : Env → Env → Prop} (hk : setDst (some (gs.contains t, t)) v g l K) :
    ∃ g' l', K g' l' ∧ Rel gs N ι g' l' s a w := by
  cases hg : gs.contains t with
  | true =>
    rw [hg] at hk
    refine ⟨(t, v) :: g, l, hk, h.wf, h.bnd, h.size, h.defers, fun u hu => ?_, h.loc⟩
    simp only [Env.get]
    split
    · rename_i e; subst e; exact hv
    · exact h.glob u hu
  | false =>
    rw [hg] at hk
    refine ⟨g, (t, v) :: l, hk, h.wf, h.bnd, h.size, h.defers, h.glob, fun u hu => ?_⟩
    simp only [Env.get]
    split
    · rename_i e; subst e; exact hv
    · exact h.loc u hu

theorem late_fin {ops : Array Oper} {k : Nat} {suf : List AOper} {ι0 : Nat → Option Nat} {s0 : St} {w0 : World} {K : Env → Env → St → Prop} {Q : Exit → Act → World → Prop} (hS : Late ops k) {oc oa : Oper} (hoc : ops[k]? = some oc) (hgc : oc.guard = none)
    (hoa : ops[k + 1]? = some oa) (hga : oa.guard = none) (hsuf : compileSeq P gs N ops (ops.toList.drop (k + 2)) = some suf)
    (hQ : ∀ ι' g' l' s' a' w', Rel gs N ι' g' l' s' a' w' → Step ι0 s0.m w0 ι' s'.m w' → Inc ι0 ι' s0.nx s'.nx → K g' l' s' → Q .normal a' w') (L : Nat → Bool) (hL : ∀ j, j < k → L j = true)
    (fuel : Nat) (hf : ops.size - (k + 2) ≤ fuel) (hrel : Rel gs N ι g l s a w) (hst : Step ι0 s0.m w0 ι s.m w) (hn : Inc ι0 ι s0.nx s.nx) (h : aops P suf K g l s) :
    wpAny P .any ops Q fuel (lay ops.size (fOf k L true true)) a w := by
  have hsuf' : Suf ops (k + 2) := ⟨hS.le, hS.back, hS.all, fun j o ho hj i want hg => by
    rcases Nat.lt_or_ge j k with h1 | h1
    · have := hS.guard j o ho h1 i want hg; omega
    · rcases (show j = k ∨ j = k + 1 by omega) with rfl | rfl
      · rw [hoc] at ho; cases ho; rw [hgc] at hg; cases hg
      · rw [hoa] at ho; cases ho; rw [hga] at hg; cases hg⟩
  have e : lay ops.size (fOf k L true true) = firstN ops.size (k + 2) := by
    rw [← lay_first hS.le]
    refine lay_congr fun j _ => ?_
    unfold fOf
    by_cases h1 : j < k
    · rw [if_pos h1, hL j h1]; simp; omega
    · rw [if_neg h1]
      by_cases h2 : j = k
      · rw [if_pos h2]; simp; omega
      · rw [if_neg h2]
        by_cases h3 : j = k + 1
        · rw [if_pos h3]; simp; omega
        · rw [if_neg h3]; simp; omega
  rw [e]
  refine wpAny_seq hsuf' fuel (k + 2) a w (Nat.le_refl _) hS.le hf ?_
  have := seq_from hQ (ops.toList.drop (k + 2)) (k + 2) suf rfl hsuf ι g l s a w h hrel hst hn
  simpa using this

theorem late_sound {ops : Array Oper} {k t : Nat} {os suf : List AOper} {kinds : List AOp} {zs : List AV} {e : TypeId} {oc oa : Oper} {ac : AOp} {dc : Option (Bool × Nat)} {id : Nat} {ι0 : Nat → Option Nat} {s0 : St} {w0 : World} {K : Env → Env → St → Prop} {Q : Exit → Act → World → Prop}
    (hdraws : P.follows .mixedOrders = true) (hs : lateOK ops k = true) (hchk : (slotsOK (preOps ops k) (befores (preOps ops k).toList []) && edgesOK (preOps ops k) (befores (preOps ops k).toList [])) = true)
    (hk : kindsOf P gs (preOps ops k).toList = some kinds) (hw : kinds.all (fun x => !x.writes) = true) (hc : compileDraw P gs N (preOps ops k) (befores (preOps ops k).toList []) kinds 0 (preOps ops k).toList = some os)
    (hoc : ops[k]? = some oc) (hac : compileAny P gs false oc = some ac) (hgc : oc.guard = none) (hdc : cdst gs N oc.dst = some dc) (htc : oc.dst ≠ some t)
    (hoa : ops[k + 1]? = some oa) (hae : oa.op = .alloc e) (hga : oa.guard = none) (hda : oa.dst = some t) (htN : t < N) (hz : zeroAV P e = some zs)
    (hnt : ∀ i, i < k → ∀ o, ops[i]? = some o → o.dst ≠ some t) (hsuf : compileSeq P gs N ops (ops.toList.drop (k + 2)) = some suf)
    (hQ : ∀ ι' g' l' s' a' w', Rel gs N ι' g' l' s' a' w' → Step ι0 s0.m w0 ι' s'.m w' → Inc ι0 ι' s0.nx s'.nx → K g' l' s' → Q .normal a' w')
    (h : aopsD P 0 [] os (lateE P (gs.contains t) ac dc t zs s.nx suf K) (clrE (gs.contains t) t g) [] (s.new (.box zs)))
    (hrel : Rel gs N ι g [] s a w) (hst : Step ι0 s0.m w0 ι s.m w) (hn : Inc ι0 ι s0.nx s.nx) : (Code.region id ops true).wp P Q a w := by
  have hS := lateOK_spec hs
  have hkle : k ≤ ops.size := by have := hS.le; omega
  have hpsz := preOps_size hkle
  obtain ⟨X, hX⟩ : ∃ X, X = s.nx := ⟨_, rfl⟩
  have hιX : ι X = none := by
    cases hι : ι X with
    | none => rfl
    | some b => exact absurd (hrel.bnd.ilt X b hι) (by rw [hX]; exact Nat.lt_irrefl _)
  rw [← hX] at h
  -- the variable's object, without a block
  obtain ⟨s1, hs1⟩ : ∃ s1, s1 = s.new (.box zs) := ⟨_, rfl⟩
  have hs1m : s1.m = putS s.m X (.box zs) := by rw [hs1, hX]; rfl
  have hs1x : s1.m X = some (.box zs) := by rw [hs1m]; simp [putS]
  have hs1n : s1.nx = s.nx + 1 := by rw [hs1]; rfl
  rw [← hs1] at h
  have hv1 : Step ι s.m w ι s1.m w := by rw [hs1m]; exact virtual_step hιX s.m w _
  have hrel1 : Rel gs N ι (clrE (gs.contains t) t g) [] s1 a w := by
    refine ⟨by rw [hs1m]; exact hrel.wf.virtual hιX _, ⟨fun q ob hq => ?_, fun q b hq => ?_⟩, hrel.size, hrel.defers, fun u hu => ?_, fun u hu => .any _⟩
    · rw [hs1m] at hq
      unfold putS at hq
      split at hq
      · rename_i e; rw [hs1n, e, hX]; omega
      · have := hrel.bnd.lt q ob hq; rw [hs1n]; omega
    · have := hrel.bnd.ilt q b hq; rw [hs1n]; omega
    · unfold clrE
      split
      · simp only [Env.get]
        split
        · exact .any _
        · exact (hrel.glob u hu).step hv1
      · exact (hrel.glob u hu).step hv1
  obtain ⟨rec, E, S, nx, acc, M, D, hnd, hnx0, hS0, hE0, hkw, hdi, hend⟩ := draw_setup2 hchk hk hc h hrel1
  have hXn : X < nx 0 := by omega
  -- no operation ahead of the call turns the variable's object
  have hSX : ∀ L, SL rec (S 0) (preOps ops k).size L X = some (.box zs) := by
    intro L
    have : lw L (objW rec X) (preOps ops k).size = none := by
      have key : ∀ m, m ≤ (preOps ops k).size → lw L (objW rec X) m = none := by
        intro m
        induction m with
        | zero => intro _; rfl
        | succ m ih =>
          intro hm
          have ho : objW rec X m = none := by
            cases hob : objW rec X m with
            | none => rfl
            | some x =>
              exfalso
              obtain ⟨ai, hai⟩ := D.aget (i := m) (by omega)
              rcases objW_cases (j := m) (rec := rec) (q := X) (by rw [hob]; simp) with ⟨h1, h2⟩ | ⟨h1, h2⟩
              · have := (D.step m ai hai).nid
                have h3 := D.nx_le (i := 0) (j := m) (Nat.zero_le _) (by omega)
                omega
              · have h3 := D.rec_u hai h1 h2
                have h4 := (D.rec_t hai h1).2.2.1
                rcases hkw m ai hai with h5 | h5
                · rw [h3] at h5
                  have : kinds.getD m .mkmap ∈ kinds := by
                    by_cases hml : m < kinds.length
                    · simp [hml]
                    · simp [hml, AOp.writes] at h5
                  have := List.all_eq_true.1 hw _ this
                  rw [h5] at this
                  cases this
                · rw [h5] at h4; cases h4
          simp only [lw, ho, ih (by omega)]
          split <;> rfl
      exact key _ (Nat.le_refl _)
    unfold SL
    rw [this, hS0]
    exact hs1x
  have hEt : ∀ L, EL (dstF os) rec (E 0) (preOps ops k).size L t = .any := by
    intro L
    have : lw L (slotW (dstF os) rec t) (preOps ops k).size = none := by
      have hk' : ∀ m, m ≤ (preOps ops k).size → lw L (slotW (dstF os) rec t) m = none := by
        intro m
        induction m with
        | zero => intro _; rfl
        | succ m ih =>
          intro hm
          have ho : slotW (dstF os) rec t m = none := by
            have hmk : m < k := by omega
            have hom : (preOps ops k)[m]? = some ((preOps ops k)[m]'(by omega)) := by simp
            obtain ⟨ao, h1, _, h2, _⟩ := D.op m _ hom
            have hne := hnt m hmk _ (by rw [← preOps_get hmk]; exact hom)
            unfold slotW dstF
            rw [h1]
            simp only [Option.bind_some]
            cases hd : ((preOps ops k)[m]'(by omega)).dst with
            | none =>
              rw [hd] at h2
              simp only [cdst, Option.some.injEq] at h2
              rw [← h2]
            | some u =>
              rw [hd] at h2 hne
              simp only [cdst] at h2
              split at h2
              · simp only [Option.some.injEq] at h2
                rw [← h2]
                have : u ≠ t := fun e => hne (by rw [e])
                simp [this]
              · cases h2
          simp only [lw, ho, ih (by omega)]
          split <;> rfl
      exact hk' _ (Nat.le_refl _)
    unfold EL
    rw [this, hE0]
    simp only [Option.getD_none, merge, clrE]
    cases hg : gs.contains t <;> simp [Env.get, hg]
  have hst1 : Step ι0 s0.m w0 ι s1.m w := hst.trans hv1
  have hn1 : Inc ι0 ι s0.nx s1.nx := ⟨by have := hn.1; omega, hn.2⟩
  have hdstt : cdst gs N (some t) = some (some (gs.contains t, t)) := by simp [cdst, htN]
  -- the call, once all ahead of it are done
  have hcall : ∀ {fuel : Nat} {ιr : Nat → Option Nat} {sr : St} {wr : World} {listed : Array Bool} {ι1 : Nat → Option Nat} {M1 : Nat} {a1 : Act} {w1 : World} (d : Bool), sr.nx ≤ nx 0 → Step ι0 s0.m w0 ιr sr.m wr → Inc ι0 ιr s0.nx sr.nx → X < sr.nx →
      DI gs N (preOps ops k) os rec E S nx ιr sr wr listed ι1 M1 a1 w1 → (∀ i, i < k → LA listed i = true) →
      (match d with | true => ∃ b, ι1 X = some b ∧ a1.tmps.getD t undef = .pointer (some ⟨b, 0, none⟩) | false => ι1 X = none) → (if d then 0 else 1) + (ops.size - (k + 2)) ≤ fuel →
      wpOp P ops Q k (wpAny P .any ops Q fuel (lay ops.size (fOf k (LA listed) true d))) a1 w1 := by
    intro fuel ιr sr wr listed ι1 M1 a1 w1 d hsr hstr hnr hXr hdi1 hall hd hfuel
    obtain ⟨g2, l2, s2, k1, k2, k3, k4⟩ := hend ιr sr wr hsr listed ι1 M1 a1 w1 hdi1 (by rw [hpsz]; exact hall)
    have hXs2 : X < s2.nx := by have := k3.1; omega
    unfold wpOp
    simp only [hoc]
    have hwn : Region.wanted oc (yielded ops a1.tmps) = true := by simp [Region.wanted, hgc]
    rw [if_pos hwn]
    refine .inl (step_sound hac rfl k1 k4 fun ι3 cv v s3 w3 q1 q2 q3 q4 q5 q6 => ?_)
    obtain ⟨hx3, q6⟩ := q6
    obtain ⟨g3, l3, hg3, hr3⟩ := k1.put (S := s2.m) q1 q2 q3 hdc q5 q6
    have hst3 := hstr.trans (k2.trans q1)
    have hn3 := hnr.trans (k3.trans q4)
    cases d with
    | true =>
      obtain ⟨b, hb, ht⟩ := hd
      have hslot : (a1.put oc.dst cv).tmps.getD t undef = .pointer (some ⟨b, 0, none⟩) := by
        rw [← ht]
        cases hd : oc.dst with
        | none => rfl
        | some u =>
          have hu : u ≠ t := fun e => htc (by rw [hd, e])
          simp [Act.put, Array.getElem?_setIfInBounds_ne hu]
      have hb3 : ι3 X = some b := q1.ext X b hb
      obtain ⟨g4, l4, hg4, hr4⟩ := hr3.setSlot (t := t) (v := .ptr X 0) (by rw [hslot]; exact .ptr 0 hb3) hg3
      exact late_fin hS hoc hgc hoa hga hsuf hQ _ hall fuel (by simpa using hfuel) hr4 hst3 hn3 hg4
    | false =>
      simp only at hd
      have hd3 : ι3 X = none := by
        cases h3 : ι3 X with
        | none => rfl
        | some b => have := q4.2 X b h3 hXs2; rw [hd] at this; cases this
      obtain ⟨f, rfl⟩ : ∃ f, fuel = f + 1 := ⟨fuel - 1, by simp at hfuel; omega⟩
      have hlsz := lay_size ops.size (fOf k (LA listed) true false)
      have hk1 : k + 1 < ops.size := by have := hS.le; omega
      refine ⟨fun hr => ?_, fun i hi => ?_⟩
      · have := mem_ready (listed := lay ops.size (fOf k (LA listed) true false)) hlsz hoa (by rw [LA_lay, fOf_alloc]; simp) (fun e' he hb => by
          rw [hS.free oa hoa e' he] at hb; cases hb)
        rw [hr] at this
        cases this
      · obtain ⟨o, ho, hL, hdd⟩ := ready_mem hlsz hi
        have hio := (Array.getElem?_eq_some_iff.1 ho).1
        have hik : i = k + 1 := by
          rw [LA_lay] at hL
          simp only [hio, decide_true, Bool.true_and] at hL
          unfold fOf at hL
          by_cases h1 : i < k
          · rw [if_pos h1, hall i h1] at hL; cases hL
          · rw [if_neg h1] at hL
            by_cases h2 : i = k
            · rw [if_pos h2] at hL; cases hL
            · by_cases h3 : i = k + 1
              · exact h3
              · exfalso
                have hin : ∀ i, LA (lay ops.size (fOf k (LA listed) true false)) i = true → i < ops.size := fun i h' => by rw [LA_lay] at h'; simp at h'; exact h'.1
                have hcl : Closed ops (LA (lay ops.size (fOf k (LA listed) true false))) := by
                  intro j oj hoj hLj e' he hb
                  have hjs := (Array.getElem?_eq_some_iff.1 hoj).1
                  have hlt := hS.back j oj hoj e' he hb
                  rw [LA_lay] at hLj ⊢
                  simp only [hjs, decide_true, Bool.true_and] at hLj
                  have hes : e'.on < ops.size := by omega
                  simp only [hes, decide_true, Bool.true_and]
                  unfold fOf at hLj ⊢
                  by_cases j1 : e'.on < k
                  · rw [if_pos j1]; exact hall _ j1
                  · rw [if_neg j1]
                    by_cases j2 : e'.on = k
                    · rw [if_pos j2]
                    · exfalso
                      have : ¬ j < k := by omega
                      rw [if_neg this] at hLj
                      have : ¬ j = k := by omega
                      rw [if_neg this] at hLj
                      by_cases j3 : j = k + 1
                      · omega
                      · rw [if_neg j3] at hLj; cases hLj
                have := closed_before hcl hin i o ho hdd (k + 1) (hS.all i (by omega) hio (k + 1) (by omega))
                rw [LA_lay, fOf_alloc] at this
                simp at this
        subst hik
        obtain ⟨z, hzv, z1, z2⟩ := late_zero (P := P) hr3.wf hd3 hx3 hz
        refine wpOp_alloc hoa hae hga hda hzv ?_
        rw [lay_set _ hk1]
        have hb4 : Bnd (putι ι3 X w3.heap.size) s3.m s3.nx := ⟨q3.lt, fun q b hq => by
          unfold putι at hq
          split at hq
          · rename_i e; have := q4.1; omega
          · exact q3.ilt q b hq⟩
        obtain ⟨g4, l4, hg4, hr4⟩ := hr3.put (S := s3.m) z1 z2 hb4 hdstt (cv := .pointer (some ⟨w3.heap.size, 0, none⟩)) (v := .ptr X 0) (.ptr 0 (by simp [putι])) hg3
        have e1 : lay ops.size (addL (k + 1) (fOf k (LA listed) true false)) = lay ops.size (fOf k (LA listed) true true) := lay_congr fun j _ => by
          unfold addL fOf
          by_cases h1 : j < k
          · have : ¬ j = k + 1 := by omega
            simp [h1, this]
          · by_cases h2 : j = k
            · simp [h2]
            · by_cases h3 : j = k + 1 <;> simp [h1, h2, h3]
        rw [e1]
        refine late_fin hS hoc hgc hoa hga hsuf hQ _ hall f (by simp at hfuel; omega) hr4 (hst3.trans z1) ⟨hn3.1, fun q b hq hlt => ?_⟩ hg4
        unfold putι at hq
        split at hq
        · rename_i e; have := hn.1; omega
        · exact hn3.2 q b hq hlt
  -- the tree of orders
  have key : ∀ (fuel : Nat) (d : Bool) (ιr : Nat → Option Nat) (sr : St) (wr : World) (listed : Array Bool) (ι1 : Nat → Option Nat) (M1 : Nat) (a1 : Act) (w1 : World), sr.nx = s1.nx → Step ι0 s0.m w0 ιr sr.m wr → Inc ι0 ιr s0.nx sr.nx →
      DI gs N (preOps ops k) os rec E S nx ιr sr wr listed ι1 M1 a1 w1 → (match d with | true => ∃ b, ιr X = some b ∧ a1.tmps.getD t undef = .pointer (some ⟨b, 0, none⟩) | false => ιr X = none) →
      ((List.range k).filter fun i => !LA listed i).length + (if d then 0 else 1) + 1 + (ops.size - (k + 2)) ≤ fuel →
      wpAny P .any ops Q fuel (lay ops.size (fOf k (LA listed) false d)) a1 w1 := by
    intro fuel
    induction fuel with
    | zero => intro d ιr sr wr listed ι1 M1 a1 w1 _ _ _ _ _ hf; omega
    | succ fuel ih =>
      intro d ιr sr wr listed ι1 M1 a1 w1 hsr hstr hnr hd1 hd hf
      have hlen : listed.size = k := by rw [hd1.sz, hpsz]
      have hlsz := lay_size ops.size (fOf k (LA listed) false d)
      have hk1 : k + 1 < ops.size := by have := hS.le; omega
      have hin : ∀ i, LA (lay ops.size (fOf k (LA listed) false d)) i = true → i < ops.size := fun i h' => by rw [LA_lay] at h'; simp at h'; exact h'.1
      have hcl : Closed ops (LA (lay ops.size (fOf k (LA listed) false d))) := by
        intro j oj hoj hLj e' he hb
        have hjs := (Array.getElem?_eq_some_iff.1 hoj).1
        have hlt := hS.back j oj hoj e' he hb
        rw [LA_lay] at hLj ⊢
        simp only [hjs, decide_true, Bool.true_and] at hLj
        have hes : e'.on < ops.size := by omega
        simp only [hes, decide_true, Bool.true_and]
        by_cases j1 : j < k
        · rw [fOf_pre j1] at hLj
          rw [fOf_pre (by omega)]
          exact hd1.closed j oj (by rw [preOps_get j1]; exact hoj) hLj e' he hb
        · exfalso
          rcases (show j = k ∨ j = k + 1 ∨ k + 2 ≤ j by omega) with rfl | rfl | h2
          · rw [fOf_call] at hLj; cases hLj
          · rw [hS.free oj hoj e' he] at hb; cases hb
          · rw [fOf_suf h2] at hLj; cases hLj
      refine ⟨fun hr => ?_, fun i hi => ?_⟩
      · exfalso
        by_cases hall : ∀ i, i < k → LA listed i = true
        · have := mem_ready (listed := lay ops.size (fOf k (LA listed) false d)) hlsz hoc (by rw [LA_lay, fOf_call]; simp) (fun e' he hb => by
            have hlt := hS.back k oc hoc e' he hb
            rw [LA_lay, fOf_pre hlt, hall _ hlt]
            simp; omega)
          rw [hr] at this
          cases this
        · have hless : ∃ i, i ∈ Region.ready .any (preOps ops k) listed := by
            cases hr' : Region.ready .any (preOps ops k) listed with
            | nil => exact (hall fun i hi => all_listed D hd1.sz hr' i (by rw [hpsz]; exact hi)).elim
            | cons i r => exact ⟨i, by simp⟩
          obtain ⟨i, hi⟩ := hless
          obtain ⟨o, ho, hL, hdd⟩ := ready_mem hd1.sz hi
          have hik := (Array.getElem?_eq_some_iff.1 ho).1
          rw [hpsz] at hik
          rw [preOps_get hik] at ho
          have := mem_ready (listed := lay ops.size (fOf k (LA listed) false d)) hlsz ho (by rw [LA_lay, fOf_pre hik, hL]; simp) (fun e' he hb => by
            have hlt := hS.back i o ho e' he hb
            rw [LA_lay, fOf_pre (by omega), hdd e' he hb]
            simp; omega)
          rw [hr] at this
          cases this
      · obtain ⟨o, ho, hL, hdd⟩ := ready_mem hlsz hi
        have hio := (Array.getElem?_eq_some_iff.1 ho).1
        rw [LA_lay] at hL
        simp only [hio, decide_true, Bool.true_and] at hL
        rw [lay_set _ hio]
        by_cases hik : i < k
        · -- one of those ahead of the call
          rw [fOf_pre hik] at hL
          have e1 : lay ops.size (addL i (fOf k (LA listed) false d)) = lay ops.size (fOf k (LA (listed.setIfInBounds i true)) false d) := lay_congr fun j _ => by
            rw [LA_set (by rw [hlen]; exact hik)]
            by_cases h1 : j < k
            · rw [fOf_pre h1]; unfold addL; rw [fOf_pre h1]
            · have h2 : ¬ j = i := by omega
              unfold addL fOf
              simp [h1, h2]
          rw [e1]
          have hlt : ((List.range k).filter fun j => !LA (listed.setIfInBounds i true) j).length < ((List.range k).filter fun j => !LA listed j).length := by
            rw [LA_set (by rw [hlen]; exact hik)]
            have hsub : ((List.range k).filter fun j => !addL i (LA listed) j) = (((List.range k).filter fun j => !LA listed j).filter fun j => j != i) := by
              rw [List.filter_filter]
              congr 1
              funext j
              simp only [addL, Bool.not_or]
              cases LA listed j <;> simp [bne]
            rw [hsub]
            have hmem : i ∈ (List.range k).filter fun j => !LA listed j := by simp [List.mem_filter, hik, hL]
            exact List.length_filter_lt_length_iff_exists.2 ⟨i, hmem, by simp⟩
          refine wpOp_pre' hS hik (wpOp_mono (fun a2 w2 (h2 : (∃ ι2 M2, DI gs N (preOps ops k) os rec E S nx ιr sr wr (listed.setIfInBounds i true) ι2 M2 a2 w2) ∧ a2.tmps.getD t undef = a1.tmps.getD t undef) => ?_) (wpOp_keep (t := t) (fun o' ho' => hnt i hik o' (by rw [preOps_get hik] at ho'; exact ho')) (draw_step D hd1 (by omega) (by rw [preOps_get hik]; exact ho) hL (hnd i (by rw [hpsz]; exact hik)) (fun e' he hb => ?_) fun ι2 M2 a2 w2 h2 => ⟨ι2, M2, h2⟩)))
          · obtain ⟨⟨ι2, M2, h2⟩, h3⟩ := h2
            refine ih d ιr sr wr _ ι2 M2 a2 w2 hsr hstr hnr h2 ?_ (by omega)
            cases d with
            | true => obtain ⟨b, hb, ht⟩ := hd; exact ⟨b, hb, h3.trans ht⟩
            | false => exact hd
          · have := hdd e' he hb
            have hlt := hS.back i o ho e' he hb
            rw [LA_lay, fOf_pre (by omega)] at this
            simp at this
            exact this.2
        · by_cases hik2 : i = k
          · -- the call
            subst hik2
            rw [hoc] at ho
            cases ho
            have hall : ∀ j, j < i → LA listed j = true := by
              intro j hj
              have := closed_before hcl hin i oc hoc hdd j (hS.call j hj)
              rw [LA_lay, fOf_pre hj] at this
              simp at this
              exact this.2
            have e1 : lay ops.size (addL i (fOf i (LA listed) false d)) = lay ops.size (fOf i (LA listed) true d) := lay_congr fun j _ => by
              unfold addL
              by_cases h1 : j < i
              · rw [fOf_pre h1, fOf_pre h1]
                have : ¬ j = i := by omega
                simp [this]
              · rcases (show j = i ∨ j = i + 1 ∨ i + 2 ≤ j by omega) with rfl | rfl | h2
                · rw [fOf_call, fOf_call]; simp
                · rw [fOf_alloc, fOf_alloc]; simp
                · rw [fOf_suf h2, fOf_suf h2]
                  have : ¬ j = i := by omega
                  simp [this]
            rw [e1]
            refine hcall d (by omega) hstr hnr (by omega) hd1 hall ?_ (by omega)
            cases d with
            | true =>
              obtain ⟨b, hb, ht⟩ := hd
              exact ⟨b, hd1.step.ext X b hb, ht⟩
            | false =>
              simp only at hd ⊢
              cases h3 : ι1 X with
              | none => rfl
              | some b => have := hd1.inc X b h3 (by omega); rw [hd] at this; cases this
          · by_cases hik3 : i = k + 1
            · -- the variable
              subst hik3
              rw [fOf_alloc] at hL
              subst hL
              rw [hoa] at ho
              cases ho
              simp only at hd
              have hι1 : ι1 X = none := by
                cases h3 : ι1 X with
                | none => rfl
                | some b => have := hd1.inc X b h3 (by omega); rw [hd] at this; cases this
              obtain ⟨z, hzv, z1, z2⟩ := late_zero (P := P) hd1.wf hι1 (hSX _) hz
              refine wpOp_alloc hoa hae hga hda hzv ?_
              have e1 : lay ops.size (addL (k + 1) (fOf k (LA listed) false false)) = lay ops.size (fOf k (LA listed) false true) := lay_congr fun j _ => by
                unfold addL
                by_cases h1 : j < k
                · rw [fOf_pre h1, fOf_pre h1]
                  have : ¬ j = k + 1 := by omega
                  simp [this]
                · rcases (show j = k ∨ j = k + 1 ∨ k + 2 ≤ j by omega) with rfl | rfl | h2
                  · rw [fOf_call, fOf_call]; simp
                  · rw [fOf_alloc, fOf_alloc]; simp
                  · rw [fOf_suf h2, fOf_suf h2]
                    have : ¬ j = k + 1 := by omega
                    simp [this]
              rw [e1]
              have hSe : (⟨SL rec (S 0) (preOps ops k).size (LA listed), s1.nx⟩ : St).m = SL rec (S 0) (preOps ops k).size (LA listed) := rfl
              refine ih true (putι ι1 X w1.heap.size) ⟨SL rec (S 0) (preOps ops k).size (LA listed), s1.nx⟩ (w1.alloc (.cells z.cells e)) listed (putι ι1 X w1.heap.size) M1 _ _ rfl ((hstr.trans hd1.step).trans z1) ⟨by have := hnr.1; simp only; omega, fun q b hq hlt => ?_⟩ ?_ ⟨w1.heap.size, by simp [putι], ?_⟩ (by simp at hf ⊢; omega)
              · unfold putι at hq
                split at hq
                · rename_i e2; have := hn.1; omega
                · exact hnr.2 q b (hd1.inc q b hq (by have := hnr.1; omega)) hlt
              · refine ⟨hd1.sz, hd1.closed, z2, fun q b hq => ?_, hd1.nM, fun j hj hLj hnj => ?_, ?_, ?_, fun u => ?_, Step.refl _ _ _, fun q b hq _ => hq⟩
                · unfold putι at hq
                  split at hq
                  · rename_i e2
                    have := D.nx_le (i := 0) (j := (preOps ops k).size) (Nat.zero_le _) (Nat.le_refl _)
                    have := hd1.nM
                    omega
                  · exact hd1.ιM q b hq
                · have := D.nx_le (i := 0) (j := j) (Nat.zero_le _) (by omega)
                  unfold putι
                  rw [if_neg (by omega)]
                  exact hd1.pend j hj hLj hnj
                · simp [Act.put, hd1.size]
                · exact hd1.defers
                · by_cases hut : u = t
                  · subst hut
                    rw [hEt]
                    exact .any _
                  · have : (a1.put (some t) (.pointer (some ⟨w1.heap.size, 0, none⟩))).tmps.getD u undef = a1.tmps.getD u undef := by
                      simp [Act.put, Array.getElem?_setIfInBounds_ne (Ne.symm hut)]
                    rw [this]
                    exact (hd1.slots u).step z1
              · simp [Act.put, hd1.size, htN]
            · exfalso
              have h2 : k + 2 ≤ i := by omega
              have := closed_before hcl hin i o ho hdd k (hS.all i h2 hio k (by omega))
              rw [LA_lay, fOf_call] at this
              simp at this
  refine wp_region_any hdraws ?_
  have e0 : Array.replicate ops.size false = lay ops.size (fOf k (LA (Array.replicate (preOps ops k).size false)) false false) := by
    apply Array.ext_getElem?
    intro j
    have hf0 : fOf k (LA (Array.replicate (preOps ops k).size false)) false false j = false := by
      unfold fOf LA
      by_cases h1 : j < (preOps ops k).size <;> simp [h1]
    simp only [lay, List.getElem?_toArray, List.getElem?_map, Array.getElem?_replicate]
    by_cases hj : j < ops.size
    · simp [List.getElem?_range hj, hj, hf0]
    · simp [List.getElem?_eq_none, hj]
  rw [e0]
  refine key ops.size false ι s1 w _ ι M a _ rfl hst1 hn1 hdi hιX ?_
  have := List.length_filter_le (fun i => !LA (Array.replicate (preOps ops k).size false) i) (List.range k)
  have := hS.le
  simp only [List.length_range] at *
  simp
  omega
end Go.AL
/- The abstract layer: regions of open order with a call that turns objects, and reads that may come ahead of it or behind it. -/
set_option linter.unusedVariables false
set_option linter.unusedSimpArgs false
namespace Go.AL
variable {P : Program} {gs : List Nat} {N : Nat} {ι ι' : Nat → Option Nat} {g l : Env} {s s' : St} {a : Act} {w w' : World}

/-- An operation that neither writes nor makes. -/
def AOp.still (op : AOp) : Bool := op.isCall || (!op.writes && !op.makes)

theorem StepAt.keep {j : Nat} {o : AOper} {E : Nat → AV} {S : Store} {nx : Nat} {acc : List (Nat × Nat)} {r : Rec} {E' : Nat → AV} {S' : Store} {nx' : Nat} {acc' : List (Nat × Nat)} (h : StepAt P j o E S nx acc r E' S' nx' acc')
    (hst : o.op.still = true) (hnd : r.done = false) (hc : o.op.isCall = true → ∃ f as, o.op = .call true f as) : r.new = none ∧ (r.t = none ∨ r.u = .keep) ∧ S' = S ∧ nx' = nx := by
  have key : r.new = none ∧ (r.t = none ∨ r.u = .keep) := by
    rcases h.how with ⟨_, _, h1, h2, _⟩ | ⟨_, _, hrun⟩ | ⟨h1, _⟩
    · exact ⟨h2, .inl h1⟩
    · rcases hrun with ⟨_, _, _, _, _, _, _, _, h1, h2⟩ | ⟨h1, _, obj, _, hev, _⟩
      · exact ⟨h2, .inl h1⟩
      · have hs : o.op.writes = false ∧ o.op.makes = false := by
          simp only [AOp.still, h1, Bool.false_or, Bool.and_eq_true, Bool.not_eq_true'] at hst
          exact hst
        constructor
        · cases hn : r.new with
          | none => rfl
          | some x =>
            have := ev_makes hev (by simp [hn])
            rw [hs.2] at this; cases this
        · right
          cases hu : r.u with
          | keep => rfl
          | set x => have := ev_writes hev (by simp [hu]); rw [hs.1] at this; cases this
          | del => have := ev_writes hev (by simp [hu]); rw [hs.1] at this; cases this
    · rw [hnd] at h1; cases h1
  obtain ⟨h1, h2⟩ := key
  refine ⟨h1, h2, ?_, by rw [h.nx', h1]; simp⟩
  rw [h.st, h1]
  rcases h2 with h2 | h2
  · rw [h2]; cases r.u <;> rfl
  · rw [h2]; cases r.t <;> rfl

/-- The walk, with the records alone. -/
def wkE (os : List AOper) (rec : Nat → Rec) (E0 : Nat → AV) : Nat → Nat → AV
  | 0 => E0
  | i + 1 => setE (dstF os i) (rec i).v (wkE os rec E0 i)
def mkF (os : List AOper) (i : Nat) : Bool := ((os[i]?).map (·.op.makes)).getD false
def wkA (os : List AOper) (rec : Nat → Rec) (n : Nat) : Nat → List (Nat × Nat)
  | 0 => []
  | i + 1 => if (rec i).ran then accTo i (rec i).t (mkF os i) n (wkA os rec n i) else wkA os rec n i
/-- How an operation ran, at a store that stays. -/
def HowR (P : Program) (o : AOper) (E : Nat → AV) (S : Store) (nx : Nat) (r : Rec) : Prop :=
  r.nid = nx ∧ r.new = none ∧ (r.t = none ∨ r.u = .keep) ∧
  ((r.ran = false ∧ r.v = .tup [] ∧ r.t = none ∧ r.new = none ∧ ∃ gl t want, o.guard = some (gl, t, want) ∧ (E t = .bool (!want) ∨ E t = .tup [])) ∨ (r.ran = true ∧ guardOK o.guard E ∧ RunR P o.op E S nx [] o.conc r) ∨ (r.done = true ∧ r.t = none ∧ r.new = none))
theorem HowR.step {j : Nat} {o : AOper} {E : Nat → AV} {S : Store} {nx : Nat} {r : Rec} (h : HowR P o E S nx r) (hc : o.conc = []) (acc : List (Nat × Nat)) :
    StepAt P j o E S nx acc r (setE o.dst r.v E) S nx (if r.ran then accTo j r.t o.op.makes nx acc else acc) := by
  obtain ⟨h1, h2, h3, h4⟩ := h
  refine ⟨h1, ?_, rfl, ?_, by rw [h2]; simp, rfl⟩
  · rcases h4 with h4 | ⟨k1, k2, k3⟩ | h4
    · exact .inl h4
    · refine .inr (.inl ⟨k1, k2, ?_⟩)
      rcases k3 with k3 | ⟨m1, m2, obj, m3, m4, m5, m6⟩
      · exact .inl k3
      · exact .inr ⟨m1, m2, obj, m3, m4, m5, fun q _ p _ hp => by rw [hc] at hp; cases hp⟩
    · exact .inr (.inr h4)
  · rw [h2]
    rcases h3 with h3 | h3
    · rw [h3]; cases r.u <;> rfl
    · rw [h3]; cases r.t <;> rfl
theorem HowR.of {j : Nat} {o : AOper} {E : Nat → AV} {S S2 : Store} {nx nx2 : Nat} {acc : List (Nat × Nat)} {r : Rec} {E' : Nat → AV} {S' : Store} {nx' : Nat} {acc' : List (Nat × Nat)} (h : StepAt P j o E S nx acc r E' S' nx' acc')
    (hst : o.op.still = true) (hnd : r.done = false) (hc : o.op.isCall = true → ∃ f as, o.op = .call true f as) (hS : ∀ q, o.op.touch (Ev E) = some q → S2 q = S q) : HowR P o E S2 nx2 { r with nid := nx2 } := by
  obtain ⟨h1, h2, _, _⟩ := h.keep hst hnd hc
  refine ⟨rfl, h1, h2, ?_⟩
  rcases h.how with h4 | ⟨k1, k2, k3⟩ | ⟨h4, _⟩
  · exact .inl h4
  · refine .inr (.inl ⟨k1, k2, ?_⟩)
    rcases k3 with k3 | ⟨m1, m2, obj, m3, m4, m5, m6⟩
    · exact .inl k3
    · refine .inr ⟨m1, m2, obj, ?_, ?_, m5, fun q _ p hp => by cases hp⟩
      · cases hq : r.t with
        | none => rw [hq] at m3; simpa only [hq] using m3
        | some q =>
          rw [hq] at m3
          simp only [hq]
          rw [hS q (by rw [← m2, hq])]
          exact m3
      · have e : (⟨r.v, r.u, r.new⟩ : Res) = ⟨r.v, r.u, none⟩ := by rw [h1]
        rw [e] at m4
        simp only [h1]
        exact ev_any m4 rfl nx2
  · rw [hnd] at h4; cases h4

/-- What is known of a region's text alone. -/
structure Text (P : Program) (gs : List Nat) (N : Nat) (ops : Array Oper) (os : List AOper) : Prop where
  len : os.length = ops.size
  op : ∀ (i : Nat) o, ops[i]? = some o → ∃ ao, os[i]? = some ao ∧ compileAny P gs true o = some ao.op ∧ cdst gs N o.dst = some ao.dst ∧ cguard gs ops o.guard = some ao.guard ∧ aoperOK gs (namesOf ops o) ao = true
  slots : ∀ (i j : Nat) a b, i < j → ops[i]? = some a → ops[j]? = some b → clash ops a b = true → i ∈ (befores ops.toList []).getD j []
  back : ∀ (i : Nat) o, ops[i]? = some o → ∀ e ∈ o.after.toList, Region.binds .any e = true → e.on < i
  still : ∀ (i : Nat) o, os[i]? = some o → o.op.still = true
  call : ∀ (i : Nat) o, os[i]? = some o → o.op.isCall = true → ∃ f as, o.op = .call true f as
  conc : ∀ (i : Nat) o, os[i]? = some o → o.conc = []

theorem text_of {ops : Array Oper} {os : List AOper} {kinds : List AOp} (hchk : (slotsOK ops (befores ops.toList []) && edgesOK ops (befores ops.toList [])) = true) (hk : kindsOf P gs ops.toList = some kinds)
    (hc : compileDraw P gs N ops (befores ops.toList []) kinds 0 ops.toList = some os) (hw : kinds.all (fun x => x.isCall || (!x.writes && !x.makes)) = true) (hconc : os.all (fun o => o.conc.isEmpty) = true) : Text P gs N ops os := by
  obtain ⟨hlen, hspec⟩ := compileDraw_spec ops.toList 0 os hc
  simp only [Array.length_toList] at hlen
  have hop : ∀ (i : Nat) o, ops[i]? = some o → ∃ ao, os[i]? = some ao ∧ compileAny P gs true o = some ao.op ∧ cdst gs N o.dst = some ao.dst ∧ cguard gs ops o.guard = some ao.guard ∧ aoperOK gs (namesOf ops o) ao = true := by
    intro i o ho
    obtain ⟨ao, h1, h2, h3, h4, h5, _⟩ := hspec i o (by simpa using ho)
    exact ⟨ao, h1, h2, h3, h4, h5⟩
  have hkind : ∀ (i : Nat) ao, os[i]? = some ao → ∃ kd, kd ∈ kinds ∧ ao.op.isCall = kd.isCall ∧ (ao.op.isCall = true → ∃ f as, ao.op = .call true f as) ∧ (ao.op.isCall = false → ao.op = kd) := by
    intro i ao hao
    have hi : i < ops.size := by rw [← hlen]; exact (List.getElem?_eq_some_iff.1 hao).1
    have ho : ops[i]? = some ops[i] := by simp [hi]
    obtain ⟨ao', h1, h2, _⟩ := hop i _ ho
    rw [hao] at h1
    cases h1
    obtain ⟨kd, k1, k2⟩ := kindsOf_spec ops.toList kinds hk i ops[i] (by simp [hi])
    obtain ⟨f1, f2, f3⟩ := compileAny_flag h2 k2
    exact ⟨kd, List.mem_of_getElem? k1, f1, f2, f3⟩
  simp only [Bool.and_eq_true] at hchk
  obtain ⟨hslots, hedges⟩ := hchk
  refine ⟨hlen, hop, ?_, ?_, ?_, ?_, ?_⟩
  · intro i j x y hij hx hy hcl
    have hj : j < ops.size := (Array.getElem?_eq_some_iff.1 hy).1
    have h1 := List.all_eq_true.1 hslots j (by simpa using hj)
    have h2 := List.all_eq_true.1 h1 i (by simpa using hij)
    rw [hx, hy] at h2
    simp only [hcl, Bool.not_true, Bool.false_or, List.contains_iff_mem] at h2
    exact h2
  · intro i o ho e he hb
    have hi : i < ops.size := (Array.getElem?_eq_some_iff.1 ho).1
    have h1 := List.all_eq_true.1 hedges i (by simpa using hi)
    rw [ho] at h1
    simp only [Bool.and_eq_true] at h1
    have h2 := List.all_eq_true.1 h1.1 e he
    simpa [hb] using h2
  · intro i o ho
    obtain ⟨kd, k1, k2, _, k4⟩ := hkind i o ho
    have := List.all_eq_true.1 hw kd k1
    unfold AOp.still
    cases hcl : o.op.isCall with
    | true => rfl
    | false =>
      rw [← k2, hcl] at this
      rw [k4 hcl]
      exact this
  · intro i o ho hcl
    obtain ⟨_, _, _, k3, _⟩ := hkind i o ho
    exact k3 hcl
  · intro i o ho
    have := List.all_eq_true.1 hconc o (List.mem_of_getElem? ho)
    simpa using this

theorem Text.draw {ops : Array Oper} {os : List AOper} (T : Text P gs N ops os) {rec : Nat → Rec} {E0 : Nat → AV} {S0 : Store} {n : Nat} (hb : ∀ q ob, S0 q = some ob → q < n)
    (h : ∀ (i : Nat) o, os[i]? = some o → HowR P o (wkE os rec E0 i) S0 n (rec i)) : Draw P gs N ops os rec (wkE os rec E0) (fun _ => S0) (fun _ => n) (wkA os rec n) := by
  refine ⟨T.len, T.op, fun i o ho => ?_, T.slots, fun i j x y hij hx hy hl hw n1 n2 => ?_, T.back, hb⟩
  · have := (h i o ho).step (j := i) (T.conc i o ho) (wkA os rec n i)
    have e1 : wkE os rec E0 (i + 1) = setE o.dst (rec i).v (wkE os rec E0 i) := by simp [wkE, dstF, ho]
    have e2 : wkA os rec n (i + 1) = if (rec i).ran then accTo i (rec i).t o.op.makes n (wkA os rec n i) else wkA os rec n i := by simp [wkA, mkF, ho]
    rw [e1, e2]
    exact this
  · have h1 := T.still i x hx
    have h2 := T.still j y hy
    simp only [AOp.still, n1, n2, Bool.false_or, Bool.and_eq_true, Bool.not_eq_true'] at h1 h2
    rcases hw with hw | ⟨_, hw | hw⟩
    · rw [h1.2] at hw; cases hw
    · rw [h1.1] at hw; cases hw
    · rw [h2.1] at hw; cases hw

theorem SL_still {ops : Array Oper} {os : List AOper} {rec : Nat → Rec} {S0 : Store} {n : Nat} {E : Nat → Nat → AV} (hlen : os.length = ops.size) (h : ∀ (i : Nat) o, os[i]? = some o → HowR P o (E i) S0 n (rec i)) (L : Nat → Bool) : SL rec S0 ops.size L = S0 := by
  funext q
  have key : ∀ m, m ≤ ops.size → lw L (objW rec q) m = none := by
    intro m
    induction m with
    | zero => intro _; rfl
    | succ m ih =>
      intro hm
      have ho : objW rec q m = none := by
        obtain ⟨_, h2, h3, _⟩ := h m (os[m]'(by omega)) (by simp)
        unfold objW
        rw [h2]
        simp only [Option.isSome_none, Bool.false_eq_true, false_and, if_false]
        rcases h3 with h3 | h3
        · rw [h3]; simp
        · rw [h3]; split <;> rfl
      simp only [lw, ho, ih (by omega)]
      split <;> rfl
  simp [SL, key _ (Nat.le_refl _)]

theorem EL_rec {dst : Nat → Option (Bool × Nat)} {rec rec' : Nat → Rec} {E0 : Nat → AV} {n : Nat} {L : Nat → Bool} (h : ∀ j, L j = true → (rec j).v = (rec' j).v) (t : Nat) : EL dst rec E0 n L t = EL dst rec' E0 n L t := by
  unfold EL
  congr 1
  induction n with
  | zero => rfl
  | succ n ih =>
    simp only [lw, ih]
    cases hL : L n with
    | false => rfl
    | true =>
      have : slotW dst rec t n = slotW dst rec' t n := by unfold slotW; rw [h n hL]
      rw [this]

theorem compileAny_call {o : Oper} {f : AOpd} {as : List AOpd} {ac : AOp} (h : compileAny P gs true o = some (.call true f as)) (h2 : compileAny P gs false o = some ac) : ac = .call false f as := by
  unfold compileAny at h h2
  split at h
  · rename_i fx xs hv
    simp only [hv] at h2
    simp only [Option.bind_eq_bind] at h h2
    cases h3 : opd gs fx <;> cases h4 : opds gs xs <;> simp [h3, h4] at h h2
    obtain ⟨rfl, rfl⟩ := h
    exact h2.symm
  · rename_i hv
    simp only [hv] at h2
    split at h
    · cases h
    · exfalso
      cases hc : compileOp P gs o with
      | none => simp [hc] at h
      | some x =>
        simp only [hc, Option.filter] at h
        split at h
        · rename_i hx
          cases h
          simp [AOp.isCall] at hx
        · cases h
end Go.AL
