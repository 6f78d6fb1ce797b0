/- The abstract layer: regions of open order with a call that turns objects: the theorem. -/
import Derived.Test.YtlledcnjfgcipaaGreatDoorA12h
set_option linter.unusedVariables false
set_option linter.unusedSimpArgs false
namespace Go.AL
variable {ro : Option Nat} {P : Program} {gs : List Nat} {N : Nat} {ι ι' : Nat → Option Nat} {g l : Env} {s s' : St} {a : Act} {w w' : World}
def fOf (k : Nat) (L : Nat → Bool) (c d : Bool) : Nat → Bool := fun j => if j < k then L j else if j = k then c else if j = k + 1 then d else false
theorem fOf_alloc (k : Nat) (L : Nat → Bool) (c d : Bool) : fOf k L c d (k + 1) = d := by
 unfold fOf
 rw [if_neg (by omega), if_neg (by omega), if_pos rfl]
theorem fOf_call (k : Nat) (L : Nat → Bool) (c d : Bool) : fOf k L c d k = c := by
 unfold fOf
 rw [if_neg (by omega), if_pos rfl]
theorem fOf_pre {k j : Nat} (h : j < k) (L : Nat → Bool) (c d : Bool) : fOf k L c d j = L j := by
 unfold fOf
 rw [if_pos h]
theorem fOf_suf {k j : Nat} (h : k + 2 ≤ j) (L : Nat → Bool) (c d : Bool) : fOf k L c d j = false := by
 unfold fOf
 rw [if_neg (by omega), if_neg (by omega), if_neg (by omega)]
theorem Rel.setSlot [Glob] (h : Rel gs N ι g l s a w) {t : Nat} {v : AV} (hv : Rep ι (Foot ι s.m) w (a.tmps.getD t undef) v) {K : Env → Env → Prop} (hk : setDst (some (gs.contains t, t)) v g l K) :
  ∃ g' l', K g' l' ∧ Rel gs N ι g' l' s a w := by
 cases hg : gs.contains t with
 | true =>
  rw [hg] at hk
  refine ⟨(t, v) :: g, l, hk, h.wf, h.bnd, h.size, h.defers, fun u hu => ?_, h.loc⟩
  simp only [Env.get]
  split
  ·rename_i e; subst e; exact hv
  ·exact h.glob u hu
 | false =>
  rw [hg] at hk
  refine ⟨g, (t, v) :: l, hk, h.wf, h.bnd, h.size, h.defers, h.glob, fun u hu => ?_⟩
  simp only [Env.get]
  split
  ·rename_i e; subst e; exact hv
  ·exact h.loc u hu
theorem late_fin [Glob] {ops : Array Oper} {k : Nat} {suf : List AOper} {ι0 : Nat → Option Nat} {s0 : St} {w0 : World} {K : Env → Env → St → Prop} {Q : Exit → Act → World → Prop} (hS : Late ops k) {oc oa : Oper} (hoc : ops[k]? = some oc) (hgc : oc.guard = none)
  (hoa : ops[k + 1]? = some oa) (hga : oa.guard = none) (hsuf : compileSeq P gs N ops (ops.toList.drop (k + 2)) = some suf)
  (hQ : ∀ ι' g' l' s' a' w', Rel gs N ι' g' l' s' a' w' → Step ι0 s0.m w0 ι' s'.m w' → Inc ι0 ι' s0.nx s'.nx → K g' l' s' → Q .normal a' w') (L : Nat → Bool) (hL : ∀ j, j < k → L j = true)
  (fuel : Nat) (hf : ops.size - (k + 2) ≤ fuel) (hrel : Rel gs N ι g l s a w) (hst : Step ι0 s0.m w0 ι s.m w) (hn : Inc ι0 ι s0.nx s.nx) (h : aops P suf K g l s) :
  wpAnyR ro P .any ops Q fuel (lay ops.size (fOf k L true true)) a w := by
 have hsuf' : Suf ops (k + 2) := ⟨hS.le, hS.back, hS.all, fun j o ho hj i want hg => by
  rcases Nat.lt_or_ge j k with h1 | h1
  ·have := hS.guard j o ho h1 i want hg; omega
  ·rcases (show j = k ∨ j = k + 1 by omega) with rfl | rfl
   ·rw [hoc] at ho; cases ho; rw [hgc] at hg; cases hg
   ·rw [hoa] at ho; cases ho; rw [hga] at hg; cases hg⟩
 have e : lay ops.size (fOf k L true true) = firstN ops.size (k + 2) := by
  rw [← lay_first hS.le]
  refine lay_congr fun j _ => ?_
  unfold fOf
  by_cases h1 : j < k
  ·rw [if_pos h1, hL j h1]; simp; omega
  ·rw [if_neg h1]
   by_cases h2 : j = k
   ·rw [if_pos h2]; simp; omega
   ·rw [if_neg h2]
    by_cases h3 : j = k + 1
    ·rw [if_pos h3]; simp; omega
    ·rw [if_neg h3]; simp; omega
 rw [e]
 refine wpAny_seq hsuf' fuel (k + 2) a w (Nat.le_refl _) hS.le hf ?_
 have := seq_from (ro := ro) hQ (ops.toList.drop (k + 2)) (k + 2) suf rfl hsuf ι g l s a w h hrel hst hn
 simpa using this
theorem late_any0 [Glob] {ops : Array Oper} {k t : Nat} {os suf : List AOper} {kinds : List AOp} {zs : List AV} {e : TypeId} {oc oa : Oper} {ac : AOp} {dc : Option (Bool × Nat)} {ι0 : Nat → Option Nat} {s0 : St} {w0 : World} {K : Env → Env → St → Prop} {Q : Exit → Act → World → Prop}
  (hs : lateOK ops k = true) (hchk : (slotsOK (preOps ops k) (befores (preOps ops k).toList []) && edgesOK (preOps ops k) (befores (preOps ops k).toList [])) = true)
  (hk : kindsOf P gs (preOps ops k).toList = some kinds) (hw : kinds.all (fun x => !x.writes) = true) (hc : compileDraw P gs N (preOps ops k) (befores (preOps ops k).toList []) kinds 0 (preOps ops k).toList = some os)
  (hoc : ops[k]? = some oc) (hac : compileAny P gs false oc = some ac) (hgc : oc.guard = none) (hdc : cdst gs N oc.dst = some dc) (htc : oc.dst ≠ some t)
  (hoa : ops[k + 1]? = some oa) (hae : oa.op = .alloc e) (hga : oa.guard = none) (hda : oa.dst = some t) (htN : t < N) (hz : zeroAV P e = some zs)
  (hnt : ∀ i, i < k → ∀ o, ops[i]? = some o → o.dst ≠ some t) (hsuf : compileSeq P gs N ops (ops.toList.drop (k + 2)) = some suf)
  (hQ : ∀ ι' g' l' s' a' w', Rel gs N ι' g' l' s' a' w' → Step ι0 s0.m w0 ι' s'.m w' → Inc ι0 ι' s0.nx s'.nx → K g' l' s' → Q .normal a' w')
  (h : aopsD P 0 [] os (lateE P (gs.contains t) ac dc t zs s.nx suf K) (clrE (gs.contains t) t g) [] (s.new (.box zs)))
  (hrel : Rel gs N ι g [] s a w) (hst : Step ι0 s0.m w0 ι s.m w) (hn : Inc ι0 ι s0.nx s.nx) : wpAnyR ro P .any ops Q ops.size (Array.replicate ops.size false) a { w with drawn := w.drawn + 1 } := by
 have hS := lateOK_spec hs
 have hkle : k ≤ ops.size := by have := hS.le; omega
 have hpsz := preOps_size hkle
 obtain ⟨X, hX⟩ : ∃ X, X = s.nx := ⟨_, rfl⟩
 have hιX : ι X = none := by
  cases hι : ι X with
  | none => rfl
  | some b => exact absurd (hrel.bnd.ilt X b hι) (by rw [hX]; exact Nat.lt_irrefl _)
 rw [← hX] at h
 -- the variable's object, without a block
 obtain ⟨s1, hs1⟩ : ∃ s1, s1 = s.new (.box zs) := ⟨_, rfl⟩
 have hs1m : s1.m = putS s.m X (.box zs) := by rw [hs1, hX]; rfl
 have hs1x : s1.m X = some (.box zs) := by rw [hs1m]; simp [putS]
 have hs1n : s1.nx = s.nx + 1 := by rw [hs1]; rfl
 rw [← hs1] at h
 have hv1 : Step ι s.m w ι s1.m w := by rw [hs1m]; exact virtual_step hιX s.m w _
 have hrel1 : Rel gs N ι (clrE (gs.contains t) t g) [] s1 a w := by
  refine ⟨by rw [hs1m]; exact hrel.wf.virtual hιX _, ⟨fun q ob hq => ?_, fun q b hq => ?_⟩, hrel.size, hrel.defers, fun u hu => ?_, fun u hu => .any _⟩
  ·rw [hs1m] at hq
   unfold putS at hq
   split at hq
   ·rename_i e; rw [hs1n, e, hX]; omega
   ·have := hrel.bnd.lt q ob hq; rw [hs1n]; omega
  ·have := hrel.bnd.ilt q b hq; rw [hs1n]; omega
  ·unfold clrE
   split
   ·simp only [Env.get]
    split
    ·exact .any _
    ·exact (hrel.glob u hu).step hv1
   ·exact (hrel.glob u hu).step hv1
 obtain ⟨rec, E, S, nx, acc, M, D, hnd, hnx0, hS0, hE0, hkw, hdi, hend⟩ := draw_setup2 hchk hk hc h hrel1
 have hXn : X < nx 0 := by omega
 -- no operation ahead of the call turns the variable's object
 have hSX : ∀ L, SL rec (S 0) (preOps ops k).size L X = some (.box zs) := by
  intro L
  have : lw L (objW rec X) (preOps ops k).size = none := by
   have key : ∀ m, m ≤ (preOps ops k).size → lw L (objW rec X) m = none := by
    intro m
    induction m with
    | zero => intro _; rfl
    | succ m ih =>
     intro hm
     have ho : objW rec X m = none := by
      cases hob : objW rec X m with
      | none => rfl
      | some x =>
       exfalso
       obtain ⟨ai, hai⟩ := D.aget (i := m) (by omega)
       rcases objW_cases (j := m) (rec := rec) (q := X) (by rw [hob]; simp) with ⟨h1, h2⟩ | ⟨h1, h2⟩
       ·have := (D.step m ai hai).nid
        have h3 := D.nx_le (i := 0) (j := m) (Nat.zero_le _) (by omega)
        omega
       ·have h3 := D.rec_u hai h1 h2
        have h4 := (D.rec_t hai h1).2.2.1
        rcases hkw m ai hai with h5 | h5
        ·rw [h3] at h5
         have : kinds.getD m .mkmap ∈ kinds := by
          by_cases hml : m < kinds.length
          ·simp [hml]
          ·simp [hml, AOp.writes] at h5
         have := List.all_eq_true.1 hw _ this
         rw [h5] at this
         cases this
        ·rw [h5] at h4; cases h4
     simp only [lw, ho, ih (by omega)]
     split <;> rfl
   exact key _ (Nat.le_refl _)
  unfold SL
  rw [this, hS0]
  exact hs1x
 have hEt : ∀ L, EL (dstF os) rec (E 0) (preOps ops k).size L t = .any := by
  intro L
  have : lw L (slotW (dstF os) rec t) (preOps ops k).size = none := by
   have hk' : ∀ m, m ≤ (preOps ops k).size → lw L (slotW (dstF os) rec t) m = none := by
    intro m
    induction m with
    | zero => intro _; rfl
    | succ m ih =>
     intro hm
     have ho : slotW (dstF os) rec t m = none := by
      have hmk : m < k := by omega
      have hom : (preOps ops k)[m]? = some ((preOps ops k)[m]'(by omega)) := by simp
      obtain ⟨ao, h1, _, h2, _⟩ := D.op m _ hom
      have hne := hnt m hmk _ (by rw [← preOps_get hmk]; exact hom)
      unfold slotW dstF
      rw [h1]
      simp only [Option.bind_some]
      cases hd : ((preOps ops k)[m]'(by omega)).dst with
      | none =>
       rw [hd] at h2
       simp only [cdst, Option.some.injEq] at h2
       rw [← h2]
      | some u =>
       rw [hd] at h2 hne
       simp only [cdst] at h2
       split at h2
       ·simp only [Option.some.injEq] at h2
        rw [← h2]
        have : u ≠ t := fun e => hne (by rw [e])
        simp [this]
       ·cases h2
     simp only [lw, ho, ih (by omega)]
     split <;> rfl
   exact hk' _ (Nat.le_refl _)
  unfold EL
  rw [this, hE0]
  simp only [Option.getD_none, merge, clrE]
  cases hg : gs.contains t <;> simp [Env.get, hg]
 have hst1 : Step ι0 s0.m w0 ι s1.m w := hst.trans hv1
 have hn1 : Inc ι0 ι s0.nx s1.nx := ⟨by have := hn.1; omega, hn.2⟩
 have hdstt : cdst gs N (some t) = some (some (gs.contains t, t)) := by simp [cdst, htN]
 -- the call, once all ahead of it are done
 have hcall : ∀ {fuel : Nat} {ιr : Nat → Option Nat} {sr : St} {wr : World} {listed : Array Bool} {ι1 : Nat → Option Nat} {M1 : Nat} {a1 : Act} {w1 : World} (d : Bool), sr.nx ≤ nx 0 → Step ι0 s0.m w0 ιr sr.m wr → Inc ι0 ιr s0.nx sr.nx → X < sr.nx →
   DI gs N (preOps ops k) os rec E S nx ιr sr wr listed ι1 M1 a1 w1 → (∀ i, i < k → LA listed i = true) →
   (match d with | true => ∃ b, ι1 X = some b ∧ a1.tmps.getD t undef = .pointer (some ⟨b, 0, none⟩) | false => ι1 X = none) → (if d then 0 else 1) + (ops.size - (k + 2)) ≤ fuel →
   wpOpR ro P ops Q k (wpAnyR ro P .any ops Q fuel (lay ops.size (fOf k (LA listed) true d))) a1 w1 := by
  intro fuel ιr sr wr listed ι1 M1 a1 w1 d hsr hstr hnr hXr hdi1 hall hd hfuel
  obtain ⟨g2, l2, s2, k1, k2, k3, k4⟩ := hend ιr sr wr hsr listed ι1 M1 a1 w1 hdi1 (by rw [hpsz]; exact hall)
  have hXs2 : X < s2.nx := by have := k3.1; omega
  unfold wpOpR
  simp only [hoc]
  have hwn : Region.wanted oc (yielded ops a1.tmps) = true := by simp [Region.wanted, hgc]
  rw [if_pos hwn]
  refine .inl (step_sound hac rfl k1 k4 fun ι3 cv v s3 w3 q1 q2 q3 q4 q5 q6 => ?_)
  obtain ⟨hx3, q6⟩ := q6
  obtain ⟨g3, l3, hg3, hr3⟩ := k1.put (S := s2.m) q1 q2 q3 hdc q5 q6
  have hst3 := hstr.trans (k2.trans q1)
  have hn3 := hnr.trans (k3.trans q4)
  cases d with
  | true =>
   obtain ⟨b, hb, ht⟩ := hd
   have hslot : (a1.put oc.dst cv).tmps.getD t undef = .pointer (some ⟨b, 0, none⟩) := by
    rw [← ht]
    cases hd : oc.dst with
    | none => rfl
    | some u =>
     have hu : u ≠ t := fun e => htc (by rw [hd, e])
     simp [Act.put, Array.getElem?_setIfInBounds_ne hu]
   have hb3 : ι3 X = some b := q1.ext X b hb
   obtain ⟨g4, l4, hg4, hr4⟩ := hr3.setSlot (t := t) (v := .ptr X 0) (by rw [hslot]; exact .ptr 0 hb3) hg3
   exact late_fin hS hoc hgc hoa hga hsuf hQ _ hall fuel (by simpa using hfuel) hr4 hst3 hn3 hg4
  | false =>
   simp only at hd
   have hd3 : ι3 X = none := by
    cases h3 : ι3 X with
    | none => rfl
    | some b => have := q4.2 X b h3 hXs2; rw [hd] at this; cases this
   obtain ⟨f, rfl⟩ : ∃ f, fuel = f + 1 := ⟨fuel - 1, by simp at hfuel; omega⟩
   have hlsz := lay_size ops.size (fOf k (LA listed) true false)
   have hk1 : k + 1 < ops.size := by have := hS.le; omega
   refine ⟨fun hr => ?_, fun i hi => ?_⟩
   ·have := mem_ready (listed := lay ops.size (fOf k (LA listed) true false)) hlsz hoa (by rw [LA_lay, fOf_alloc]; simp) (fun e' he hb => by
     rw [hS.free oa hoa e' he] at hb; cases hb)
    rw [hr] at this
    cases this
   ·obtain ⟨o, ho, hL, hdd⟩ := ready_mem hlsz hi
    have hio := (Array.getElem?_eq_some_iff.1 ho).1
    have hik : i = k + 1 := by
     rw [LA_lay] at hL
     simp only [hio, decide_true, Bool.true_and] at hL
     unfold fOf at hL
     by_cases h1 : i < k
     ·rw [if_pos h1, hall i h1] at hL; cases hL
     ·rw [if_neg h1] at hL
      by_cases h2 : i = k
      ·rw [if_pos h2] at hL; cases hL
      ·by_cases h3 : i = k + 1
       ·exact h3
       ·exfalso
        have hin : ∀ i, LA (lay ops.size (fOf k (LA listed) true false)) i = true → i < ops.size := fun i h' => by rw [LA_lay] at h'; simp at h'; exact h'.1
        have hcl : Closed ops (LA (lay ops.size (fOf k (LA listed) true false))) := by
         intro j oj hoj hLj e' he hb
         have hjs := (Array.getElem?_eq_some_iff.1 hoj).1
         have hlt := hS.back j oj hoj e' he hb
         rw [LA_lay] at hLj ⊢
         simp only [hjs, decide_true, Bool.true_and] at hLj
         have hes : e'.on < ops.size := by omega
         simp only [hes, decide_true, Bool.true_and]
         unfold fOf at hLj ⊢
         by_cases j1 : e'.on < k
         ·rw [if_pos j1]; exact hall _ j1
         ·rw [if_neg j1]
          by_cases j2 : e'.on = k
          ·rw [if_pos j2]
          ·exfalso
           have : ¬ j < k := by omega
           rw [if_neg this] at hLj
           have : ¬ j = k := by omega
           rw [if_neg this] at hLj
           by_cases j3 : j = k + 1
           ·omega
           ·rw [if_neg j3] at hLj; cases hLj
        have := closed_before hcl hin i o ho hdd (k + 1) (hS.all i (by omega) hio (k + 1) (by omega))
        rw [LA_lay, fOf_alloc] at this
        simp at this
    subst hik
    obtain ⟨z, hzv, z1, z2⟩ := late_zero (P := P) hr3.wf hd3 hx3 hz
    refine wpOp_alloc hoa hae hga hda hzv ?_
    rw [lay_set _ hk1]
    have hb4 : Bnd (putι ι3 X w3.heap.size) s3.m s3.nx := ⟨q3.lt, fun q b hq => by
     unfold putι at hq
     split at hq
     ·rename_i e; have := q4.1; omega
     ·exact q3.ilt q b hq⟩
    obtain ⟨g4, l4, hg4, hr4⟩ := hr3.put (S := s3.m) z1 z2 hb4 hdstt (cv := .pointer (some ⟨w3.heap.size, 0, none⟩)) (v := .ptr X 0) (.ptr 0 (by simp [putι])) hg3
    have e1 : lay ops.size (addL (k + 1) (fOf k (LA listed) true false)) = lay ops.size (fOf k (LA listed) true true) := lay_congr fun j _ => by
     unfold addL fOf
     by_cases h1 : j < k
     ·have : ¬ j = k + 1 := by omega
      simp [h1, this]
     ·by_cases h2 : j = k
      ·simp [h2]
      ·by_cases h3 : j = k + 1 <;> simp [h1, h2, h3]
    rw [e1]
    refine late_fin hS hoc hgc hoa hga hsuf hQ _ hall f (by simp at hfuel; omega) hr4 (hst3.trans z1) ⟨hn3.1, fun q b hq hlt => ?_⟩ hg4
    unfold putι at hq
    split at hq
    ·rename_i e; have := hn.1; omega
    ·exact hn3.2 q b hq hlt
 -- the tree of orders
 have key : ∀ (fuel : Nat) (d : Bool) (ιr : Nat → Option Nat) (sr : St) (wr : World) (listed : Array Bool) (ι1 : Nat → Option Nat) (M1 : Nat) (a1 : Act) (w1 : World), sr.nx = s1.nx → Step ι0 s0.m w0 ιr sr.m wr → Inc ι0 ιr s0.nx sr.nx →
   DI gs N (preOps ops k) os rec E S nx ιr sr wr listed ι1 M1 a1 w1 → (match d with | true => ∃ b, ιr X = some b ∧ a1.tmps.getD t undef = .pointer (some ⟨b, 0, none⟩) | false => ιr X = none) →
   ((List.range k).filter fun i => !LA listed i).length + (if d then 0 else 1) + 1 + (ops.size - (k + 2)) ≤ fuel →
   wpAnyR ro P .any ops Q fuel (lay ops.size (fOf k (LA listed) false d)) a1 w1 := by
  intro fuel
  induction fuel with
  | zero => intro d ιr sr wr listed ι1 M1 a1 w1 _ _ _ _ _ hf; omega
  | succ fuel ih =>
   intro d ιr sr wr listed ι1 M1 a1 w1 hsr hstr hnr hd1 hd hf
   have hlen : listed.size = k := by rw [hd1.sz, hpsz]
   have hlsz := lay_size ops.size (fOf k (LA listed) false d)
   have hk1 : k + 1 < ops.size := by have := hS.le; omega
   have hin : ∀ i, LA (lay ops.size (fOf k (LA listed) false d)) i = true → i < ops.size := fun i h' => by rw [LA_lay] at h'; simp at h'; exact h'.1
   have hcl : Closed ops (LA (lay ops.size (fOf k (LA listed) false d))) := by
    intro j oj hoj hLj e' he hb
    have hjs := (Array.getElem?_eq_some_iff.1 hoj).1
    have hlt := hS.back j oj hoj e' he hb
    rw [LA_lay] at hLj ⊢
    simp only [hjs, decide_true, Bool.true_and] at hLj
    have hes : e'.on < ops.size := by omega
    simp only [hes, decide_true, Bool.true_and]
    by_cases j1 : j < k
    ·rw [fOf_pre j1] at hLj
     rw [fOf_pre (by omega)]
     exact hd1.closed j oj (by rw [preOps_get j1]; exact hoj) hLj e' he hb
    ·exfalso
     rcases (show j = k ∨ j = k + 1 ∨ k + 2 ≤ j by omega) with rfl | rfl | h2
     ·rw [fOf_call] at hLj; cases hLj
     ·rw [hS.free oj hoj e' he] at hb; cases hb
     ·rw [fOf_suf h2] at hLj; cases hLj
   refine ⟨fun hr => ?_, fun i hi => ?_⟩
   ·exfalso
    by_cases hall : ∀ i, i < k → LA listed i = true
    ·have := mem_ready (listed := lay ops.size (fOf k (LA listed) false d)) hlsz hoc (by rw [LA_lay, fOf_call]; simp) (fun e' he hb => by
      have hlt := hS.back k oc hoc e' he hb
      rw [LA_lay, fOf_pre hlt, hall _ hlt]
      simp; omega)
     rw [hr] at this
     cases this
    ·have hless : ∃ i, i ∈ Region.ready .any (preOps ops k) listed := by
      cases hr' : Region.ready .any (preOps ops k) listed with
      | nil => exact (hall fun i hi => all_listed D hd1.sz hr' i (by rw [hpsz]; exact hi)).elim
      | cons i r => exact ⟨i, by simp⟩
     obtain ⟨i, hi⟩ := hless
     obtain ⟨o, ho, hL, hdd⟩ := ready_mem hd1.sz hi
     have hik := (Array.getElem?_eq_some_iff.1 ho).1
     rw [hpsz] at hik
     rw [preOps_get hik] at ho
     have := mem_ready (listed := lay ops.size (fOf k (LA listed) false d)) hlsz ho (by rw [LA_lay, fOf_pre hik, hL]; simp) (fun e' he hb => by
      have hlt := hS.back i o ho e' he hb
      rw [LA_lay, fOf_pre (by omega), hdd e' he hb]
      simp; omega)
     rw [hr] at this
     cases this
   ·obtain ⟨o, ho, hL, hdd⟩ := ready_mem hlsz hi
    have hio := (Array.getElem?_eq_some_iff.1 ho).1
    rw [LA_lay] at hL
    simp only [hio, decide_true, Bool.true_and] at hL
    rw [lay_set _ hio]
    by_cases hik : i < k
    ·-- one of those ahead of the call
     rw [fOf_pre hik] at hL
     have e1 : lay ops.size (addL i (fOf k (LA listed) false d)) = lay ops.size (fOf k (LA (listed.setIfInBounds i true)) false d) := lay_congr fun j _ => by
      rw [LA_set (by rw [hlen]; exact hik)]
      by_cases h1 : j < k
      ·rw [fOf_pre h1]; unfold addL; rw [fOf_pre h1]
      ·have h2 : ¬ j = i := by omega
       unfold addL fOf
       simp [h1, h2]
     rw [e1]
     have hlt : ((List.range k).filter fun j => !LA (listed.setIfInBounds i true) j).length < ((List.range k).filter fun j => !LA listed j).length := by
      rw [LA_set (by rw [hlen]; exact hik)]
      have hsub : ((List.range k).filter fun j => !addL i (LA listed) j) = (((List.range k).filter fun j => !LA listed j).filter fun j => j != i) := by
       rw [List.filter_filter]
       congr 1
       funext j
       simp only [addL, Bool.not_or]
       cases LA listed j <;> simp [bne]
      rw [hsub]
      have hmem : i ∈ (List.range k).filter fun j => !LA listed j := by simp [List.mem_filter, hik, hL]
      exact List.length_filter_lt_length_iff_exists.2 ⟨i, hmem, by simp⟩
     refine wpOp_pre' hS hik (wpOpR_mono (fun a2 w2 (h2 : (∃ ι2 M2, DI gs N (preOps ops k) os rec E S nx ιr sr wr (listed.setIfInBounds i true) ι2 M2 a2 w2) ∧ a2.tmps.getD t undef = a1.tmps.getD t undef) => ?_) (wpOp_keep (t := t) (fun o' ho' => hnt i hik o' (by rw [preOps_get hik] at ho'; exact ho')) (draw_step D hd1 (by omega) (by rw [preOps_get hik]; exact ho) hL (hnd i (by rw [hpsz]; exact hik)) (fun e' he hb => ?_) fun ι2 M2 a2 w2 h2 => ⟨ι2, M2, h2⟩)))
     ·obtain ⟨⟨ι2, M2, h2⟩, h3⟩ := h2
      refine ih d ιr sr wr _ ι2 M2 a2 w2 hsr hstr hnr h2 ?_ (by omega)
      cases d with
      | true => obtain ⟨b, hb, ht⟩ := hd; exact ⟨b, hb, h3.trans ht⟩
      | false => exact hd
     ·have := hdd e' he hb
      have hlt := hS.back i o ho e' he hb
      rw [LA_lay, fOf_pre (by omega)] at this
      simp at this
      exact this.2
    ·by_cases hik2 : i = k
     ·-- the call
      subst hik2
      rw [hoc] at ho
      cases ho
      have hall : ∀ j, j < i → LA listed j = true := by
       intro j hj
       have := closed_before hcl hin i oc hoc hdd j (hS.call j hj)
       rw [LA_lay, fOf_pre hj] at this
       simp at this
       exact this.2
      have e1 : lay ops.size (addL i (fOf i (LA listed) false d)) = lay ops.size (fOf i (LA listed) true d) := lay_congr fun j _ => by
       unfold addL
       by_cases h1 : j < i
       ·rw [fOf_pre h1, fOf_pre h1]
        have : ¬ j = i := by omega
        simp [this]
       ·rcases (show j = i ∨ j = i + 1 ∨ i + 2 ≤ j by omega) with rfl | rfl | h2
        ·rw [fOf_call, fOf_call]; simp
        ·rw [fOf_alloc, fOf_alloc]; simp
        ·rw [fOf_suf h2, fOf_suf h2]
         have : ¬ j = i := by omega
         simp [this]
      rw [e1]
      refine hcall d (by omega) hstr hnr (by omega) hd1 hall ?_ (by omega)
      cases d with
      | true =>
       obtain ⟨b, hb, ht⟩ := hd
       exact ⟨b, hd1.step.ext X b hb, ht⟩
      | false =>
       simp only at hd ⊢
       cases h3 : ι1 X with
       | none => rfl
       | some b => have := hd1.inc X b h3 (by omega); rw [hd] at this; cases this
     ·by_cases hik3 : i = k + 1
      ·-- the variable
       subst hik3
       rw [fOf_alloc] at hL
       subst hL
       rw [hoa] at ho
       cases ho
       simp only at hd
       have hι1 : ι1 X = none := by
        cases h3 : ι1 X with
        | none => rfl
        | some b => have := hd1.inc X b h3 (by omega); rw [hd] at this; cases this
       obtain ⟨z, hzv, z1, z2⟩ := late_zero (P := P) hd1.wf hι1 (hSX _) hz
       refine wpOp_alloc hoa hae hga hda hzv ?_
       have e1 : lay ops.size (addL (k + 1) (fOf k (LA listed) false false)) = lay ops.size (fOf k (LA listed) false true) := lay_congr fun j _ => by
        unfold addL
        by_cases h1 : j < k
        ·rw [fOf_pre h1, fOf_pre h1]
         have : ¬ j = k + 1 := by omega
         simp [this]
        ·rcases (show j = k ∨ j = k + 1 ∨ k + 2 ≤ j by omega) with rfl | rfl | h2
         ·rw [fOf_call, fOf_call]; simp
         ·rw [fOf_alloc, fOf_alloc]; simp
         ·rw [fOf_suf h2, fOf_suf h2]
          have : ¬ j = k + 1 := by omega
          simp [this]
       rw [e1]
       have hSe : (⟨SL rec (S 0) (preOps ops k).size (LA listed), s1.nx⟩ : St).m = SL rec (S 0) (preOps ops k).size (LA listed) := rfl
       refine ih true (putι ι1 X w1.heap.size) ⟨SL rec (S 0) (preOps ops k).size (LA listed), s1.nx⟩ (w1.alloc (.cells z.cells e)) listed (putι ι1 X w1.heap.size) M1 _ _ rfl ((hstr.trans hd1.step).trans z1) ⟨by have := hnr.1; simp only; omega, fun q b hq hlt => ?_⟩ ?_ ⟨w1.heap.size, by simp [putι], ?_⟩ (by simp at hf ⊢; omega)
       ·unfold putι at hq
        split at hq
        ·rename_i e2; have := hn.1; omega
        ·exact hnr.2 q b (hd1.inc q b hq (by have := hnr.1; omega)) hlt
       ·refine ⟨hd1.sz, hd1.closed, z2, fun q b hq => ?_, hd1.nM, fun j hj hLj hnj => ?_, ?_, ?_, fun u => ?_, Step.refl _ _ _, fun q b hq _ => hq⟩
        ·unfold putι at hq
         split at hq
         ·rename_i e2
          have := D.nx_le (i := 0) (j := (preOps ops k).size) (Nat.zero_le _) (Nat.le_refl _)
          have := hd1.nM
          omega
         ·exact hd1.ιM q b hq
        ·have := D.nx_le (i := 0) (j := j) (Nat.zero_le _) (by omega)
         unfold putι
         rw [if_neg (by omega)]
         exact hd1.pend j hj hLj hnj
        ·simp [Act.put, hd1.size]
        ·exact hd1.defers
        ·by_cases hut : u = t
         ·subst hut
          rw [hEt]
          exact .any _
         ·have : (a1.put (some t) (.pointer (some ⟨w1.heap.size, 0, none⟩))).tmps.getD u undef = a1.tmps.getD u undef := by
           simp [Act.put, Array.getElem?_setIfInBounds_ne (Ne.symm hut)]
          rw [this]
          exact (hd1.slots u).step z1
       ·simp [Act.put, hd1.size, htN]
      ·exfalso
       have h2 : k + 2 ≤ i := by omega
       have := closed_before hcl hin i o ho hdd k (hS.all i h2 hio k (by omega))
       rw [LA_lay, fOf_call] at this
       simp at this
 have e0 : Array.replicate ops.size false = lay ops.size (fOf k (LA (Array.replicate (preOps ops k).size false)) false false) := by
  apply Array.ext_getElem?
  intro j
  have hf0 : fOf k (LA (Array.replicate (preOps ops k).size false)) false false j = false := by
   unfold fOf LA
   by_cases h1 : j < (preOps ops k).size <;> simp [h1]
  simp only [lay, List.getElem?_toArray, List.getElem?_map, Array.getElem?_replicate]
  by_cases hj : j < ops.size
  ·simp [List.getElem?_range hj, hj, hf0]
  ·simp [List.getElem?_eq_none, hj]
 rw [e0]
 refine key ops.size false ι s1 w _ ι M a _ rfl hst1 hn1 hdi hιX ?_
 have := List.length_filter_le (fun i => !LA (Array.replicate (preOps ops k).size false) i) (List.range k)
 have := hS.le
 simp only [List.length_range] at *
 simp
 omega
theorem late_sound [Glob] {ops : Array Oper} {k t : Nat} {os suf : List AOper} {kinds : List AOp} {zs : List AV} {e : TypeId} {oc oa : Oper} {ac : AOp} {dc : Option (Bool × Nat)} {id : Nat} {ι0 : Nat → Option Nat} {s0 : St} {w0 : World} {K : Env → Env → St → Prop} {Q : Exit → Act → World → Prop}
  (d : List Deferred) (htame : tame ops = true) (hdraws : P.follows .mixedOrders = true) (hs : lateOK ops k = true) (hchk : (slotsOK (preOps ops k) (befores (preOps ops k).toList []) && edgesOK (preOps ops k) (befores (preOps ops k).toList [])) = true)
  (hk : kindsOf P gs (preOps ops k).toList = some kinds) (hw : kinds.all (fun x => !x.writes) = true) (hc : compileDraw P gs N (preOps ops k) (befores (preOps ops k).toList []) kinds 0 (preOps ops k).toList = some os)
  (hoc : ops[k]? = some oc) (hac : compileAny P gs false oc = some ac) (hgc : oc.guard = none) (hdc : cdst gs N oc.dst = some dc) (htc : oc.dst ≠ some t)
  (hoa : ops[k + 1]? = some oa) (hae : oa.op = .alloc e) (hga : oa.guard = none) (hda : oa.dst = some t) (htN : t < N) (hz : zeroAV P e = some zs)
  (hnt : ∀ i, i < k → ∀ o, ops[i]? = some o → o.dst ≠ some t) (hsuf : compileSeq P gs N ops (ops.toList.drop (k + 2)) = some suf)
  (hQ : ∀ ι' g' l' s' a' w', Rel gs N ι' g' l' s' a' w' → Step ι0 s0.m w0 ι' s'.m w' → Inc ι0 ι' s0.nx s'.nx → K g' l' s' → Q .normal (appD d a') w')
  (h : aopsD P 0 [] os (lateE P (gs.contains t) ac dc t zs s.nx suf K) (clrE (gs.contains t) t g) [] (s.new (.box zs)))
  (hrel : Rel gs N ι g [] s a w) (hst : Step ι0 s0.m w0 ι s.m w) (hn : Inc ι0 ι s0.nx s.nx) : (Code.region id ops true).wpIn (inR ro) 0 P Q (appD d a) w :=
 wpR_region_any htame hdraws (late_any0 (Q := fun e a w => Q e (appD d a) w) hs hchk hk hw hc hoc hac hgc hdc htc hoa hae hga hda htN hz hnt hsuf hQ h hrel hst hn)
end Go.AL
namespace Go.AL
variable {ro : Option Nat} {P : Program} {gs : List Nat} {N : Nat} {ι ι' : Nat → Option Nat} {g l : Env} {s s' : St} {a : Act} {w w' : World}
def AOp.still (op : AOp) : Bool := op.isCall || (!op.writes && !op.makes)
theorem StepAt.keep [Glob] {j : Nat} {o : AOper} {E : Nat → AV} {S : Store} {nx : Nat} {acc : List (Nat × Nat)} {r : Rec} {E' : Nat → AV} {S' : Store} {nx' : Nat} {acc' : List (Nat × Nat)} (h : StepAt P j o E S nx acc r E' S' nx' acc')
  (hst : o.op.still = true) (hnd : r.done = false) (hc : o.op.isCall = true → ∃ f as, o.op = .call true f as) : r.new = none ∧ (r.t = none ∨ r.u = .keep) ∧ S' = S ∧ nx' = nx := by
 have key : r.new = none ∧ (r.t = none ∨ r.u = .keep) := by
  rcases h.how with ⟨_, _, h1, h2, _⟩ | ⟨_, _, hrun⟩ | ⟨h1, _⟩
  ·exact ⟨h2, .inl h1⟩
  ·rcases hrun with ⟨_, _, _, _, _, _, _, _, h1, h2⟩ | ⟨h1, _, obj, _, hev, _⟩
   ·exact ⟨h2, .inl h1⟩
   ·have hs : o.op.writes = false ∧ o.op.makes = false := by
     simp only [AOp.still, h1, Bool.false_or, Bool.and_eq_true, Bool.not_eq_true'] at hst
     exact hst
    constructor
    ·cases hn : r.new with
     | none => rfl
     | some x =>
      have := ev_makes hev (by simp [hn])
      rw [hs.2] at this; cases this
    ·right
     cases hu : r.u with
     | keep => rfl
     | set x => have := ev_writes hev (by simp [hu]); rw [hs.1] at this; cases this
     | del => have := ev_writes hev (by simp [hu]); rw [hs.1] at this; cases this
  ·rw [hnd] at h1; cases h1
 obtain ⟨h1, h2⟩ := key
 refine ⟨h1, h2, ?_, by rw [h.nx', h1]; simp⟩
 rw [h.st, h1]
 rcases h2 with h2 | h2
 ·rw [h2]; cases r.u <;> rfl
 ·rw [h2]; cases r.t <;> rfl
def wkE (os : List AOper) (rec : Nat → Rec) (E0 : Nat → AV) : Nat → Nat → AV
 | 0 => E0
 | i + 1 => setE (dstF os i) (rec i).v (wkE os rec E0 i)
def mkF (os : List AOper) (i : Nat) : Bool := ((os[i]?).map (·.op.makes)).getD false
def wkA (os : List AOper) (rec : Nat → Rec) (n : Nat) : Nat → List (Nat × Nat)
 | 0 => []
 | i + 1 => if (rec i).ran then accTo i (rec i).t (mkF os i) n (wkA os rec n i) else wkA os rec n i
def HowR [Glob] (P : Program) (o : AOper) (E : Nat → AV) (S : Store) (nx : Nat) (r : Rec) : Prop :=
 r.nid = nx ∧ r.new = none ∧ (r.t = none ∨ r.u = .keep) ∧
 ((r.ran = false ∧ r.v = .tup [] ∧ r.t = none ∧ r.new = none ∧ ∃ gl t want, o.guard = some (gl, t, want) ∧ (E t = .bool (!want) ∨ E t = .tup [])) ∨ (r.ran = true ∧ guardOK o.guard E ∧ RunR P o.op E S nx [] o.conc r) ∨ (r.done = true ∧ r.t = none ∧ r.new = none))
theorem HowR.step [Glob] {j : Nat} {o : AOper} {E : Nat → AV} {S : Store} {nx : Nat} {r : Rec} (h : HowR P o E S nx r) (hc : o.conc = []) (acc : List (Nat × Nat)) :
  StepAt P j o E S nx acc r (setE o.dst r.v E) S nx (if r.ran then accTo j r.t o.op.makes nx acc else acc) := by
 obtain ⟨h1, h2, h3, h4⟩ := h
 refine ⟨h1, ?_, rfl, ?_, by rw [h2]; simp, rfl⟩
 ·rcases h4 with h4 | ⟨k1, k2, k3⟩ | h4
  ·exact .inl h4
  ·refine .inr (.inl ⟨k1, k2, ?_⟩)
   rcases k3 with k3 | ⟨m1, m2, obj, m3, m4, m5, m6⟩
   ·exact .inl k3
   ·exact .inr ⟨m1, m2, obj, m3, m4, m5, fun q _ p _ hp => by rw [hc] at hp; cases hp⟩
  ·exact .inr (.inr h4)
 ·rw [h2]
  rcases h3 with h3 | h3
  ·rw [h3]; cases r.u <;> rfl
  ·rw [h3]; cases r.t <;> rfl
theorem HowR.of [Glob] {j : Nat} {o : AOper} {E : Nat → AV} {S S2 : Store} {nx nx2 : Nat} {acc : List (Nat × Nat)} {r : Rec} {E' : Nat → AV} {S' : Store} {nx' : Nat} {acc' : List (Nat × Nat)} (h : StepAt P j o E S nx acc r E' S' nx' acc')
  (hst : o.op.still = true) (hnd : r.done = false) (hc : o.op.isCall = true → ∃ f as, o.op = .call true f as) (hS : ∀ q, o.op.touch (Ev E) = some q → S2 q = S q) : HowR P o E S2 nx2 { r with nid := nx2 } := by
 obtain ⟨h1, h2, _, _⟩ := h.keep hst hnd hc
 refine ⟨rfl, h1, h2, ?_⟩
 rcases h.how with h4 | ⟨k1, k2, k3⟩ | ⟨h4, _⟩
 ·exact .inl h4
 ·refine .inr (.inl ⟨k1, k2, ?_⟩)
  rcases k3 with k3 | ⟨m1, m2, obj, m3, m4, m5, m6⟩
  ·exact .inl k3
  ·refine .inr ⟨m1, m2, obj, ?_, ?_, m5, fun q _ p hp => by cases hp⟩
   ·cases hq : r.t with
    | none => rw [hq] at m3; simpa only [hq] using m3
    | some q =>
     rw [hq] at m3
     simp only [hq]
     rw [hS q (by rw [← m2, hq])]
     exact m3
   ·have e : (⟨r.v, r.u, r.new⟩ : Res) = ⟨r.v, r.u, none⟩ := by rw [h1]
    rw [e] at m4
    simp only [h1]
    exact ev_any m4 rfl nx2
 ·rw [hnd] at h4; cases h4
structure Text [Glob] (P : Program) (gs : List Nat) (N : Nat) (ops : Array Oper) (os : List AOper) : Prop where
 len : os.length = ops.size
 op : ∀ (i : Nat) o, ops[i]? = some o → ∃ ao, os[i]? = some ao ∧ compileAny P gs true o = some ao.op ∧ cdst gs N o.dst = some ao.dst ∧ cguard gs ops o.guard = some ao.guard ∧ aoperOK gs (namesOf ops o) ao = true
 slots : ∀ (i j : Nat) a b, i < j → ops[i]? = some a → ops[j]? = some b → clash ops a b = true → i ∈ (befores ops.toList []).getD j []
 back : ∀ (i : Nat) o, ops[i]? = some o → ∀ e ∈ o.after.toList, Region.binds .any e = true → e.on < i
 still : ∀ (i : Nat) o, os[i]? = some o → o.op.still = true
 call : ∀ (i : Nat) o, os[i]? = some o → o.op.isCall = true → ∃ f as, o.op = .call true f as
 conc : ∀ (i : Nat) o, os[i]? = some o → o.conc = []
theorem text_of [Glob] {ops : Array Oper} {os : List AOper} {kinds : List AOp} (hchk : (slotsOK ops (befores ops.toList []) && edgesOK ops (befores ops.toList [])) = true) (hk : kindsOf P gs ops.toList = some kinds)
  (hc : compileDraw P gs N ops (befores ops.toList []) kinds 0 ops.toList = some os) (hw : kinds.all (fun x => x.isCall || (!x.writes && !x.makes)) = true) (hconc : os.all (fun o => o.conc.isEmpty) = true) : Text P gs N ops os := by
 obtain ⟨hlen, hspec⟩ := compileDraw_spec ops.toList 0 os hc
 simp only [Array.length_toList] at hlen
 have hop : ∀ (i : Nat) o, ops[i]? = some o → ∃ ao, os[i]? = some ao ∧ compileAny P gs true o = some ao.op ∧ cdst gs N o.dst = some ao.dst ∧ cguard gs ops o.guard = some ao.guard ∧ aoperOK gs (namesOf ops o) ao = true := by
  intro i o ho
  obtain ⟨ao, h1, h2, h3, h4, h5, _⟩ := hspec i o (by simpa using ho)
  exact ⟨ao, h1, h2, h3, h4, h5⟩
 have hkind : ∀ (i : Nat) ao, os[i]? = some ao → ∃ kd, kd ∈ kinds ∧ ao.op.isCall = kd.isCall ∧ (ao.op.isCall = true → ∃ f as, ao.op = .call true f as) ∧ (ao.op.isCall = false → ao.op = kd) := by
  intro i ao hao
  have hi : i < ops.size := by rw [← hlen]; exact (List.getElem?_eq_some_iff.1 hao).1
  have ho : ops[i]? = some ops[i] := by simp [hi]
  obtain ⟨ao', h1, h2, _⟩ := hop i _ ho
  rw [hao] at h1
  cases h1
  obtain ⟨kd, k1, k2⟩ := kindsOf_spec ops.toList kinds hk i ops[i] (by simp [hi])
  obtain ⟨f1, f2, f3⟩ := compileAny_flag h2 k2
  exact ⟨kd, List.mem_of_getElem? k1, f1, f2, f3⟩
 simp only [Bool.and_eq_true] at hchk
 obtain ⟨hslots, hedges⟩ := hchk
 refine ⟨hlen, hop, ?_, ?_, ?_, ?_, ?_⟩
 ·intro i j x y hij hx hy hcl
  have hj : j < ops.size := (Array.getElem?_eq_some_iff.1 hy).1
  have h1 := List.all_eq_true.1 hslots j (by simpa using hj)
  have h2 := List.all_eq_true.1 h1 i (by simpa using hij)
  rw [hx, hy] at h2
  simp only [hcl, Bool.not_true, Bool.false_or, List.contains_iff_mem] at h2
  exact h2
 ·intro i o ho e he hb
  have hi : i < ops.size := (Array.getElem?_eq_some_iff.1 ho).1
  have h1 := List.all_eq_true.1 hedges i (by simpa using hi)
  rw [ho] at h1
  simp only [Bool.and_eq_true] at h1
  have h2 := List.all_eq_true.1 h1.1 e he
  simpa [hb] using h2
 ·intro i o ho
  obtain ⟨kd, k1, k2, _, k4⟩ := hkind i o ho
  have := List.all_eq_true.1 hw kd k1
  unfold AOp.still
  cases hcl : o.op.isCall with
  | true => rfl
  | false =>
   rw [← k2, hcl] at this
   rw [k4 hcl]
   exact this
 ·intro i o ho hcl
  obtain ⟨_, _, _, k3, _⟩ := hkind i o ho
  exact k3 hcl
 ·intro i o ho
  have := List.all_eq_true.1 hconc o (List.mem_of_getElem? ho)
  simpa using this
theorem Text.draw [Glob] {ops : Array Oper} {os : List AOper} (T : Text P gs N ops os) {rec : Nat → Rec} {E0 : Nat → AV} {S0 : Store} {n : Nat} (hb : ∀ q ob, S0 q = some ob → q < n)
  (h : ∀ (i : Nat) o, os[i]? = some o → HowR P o (wkE os rec E0 i) S0 n (rec i)) : Draw P gs N ops os rec (wkE os rec E0) (fun _ => S0) (fun _ => n) (wkA os rec n) := by
 refine ⟨T.len, T.op, fun i o ho => ?_, T.slots, fun i j x y hij hx hy hl hw n1 n2 => ?_, T.back, hb⟩
 ·have := (h i o ho).step (j := i) (T.conc i o ho) (wkA os rec n i)
  have e1 : wkE os rec E0 (i + 1) = setE o.dst (rec i).v (wkE os rec E0 i) := by simp [wkE, dstF, ho]
  have e2 : wkA os rec n (i + 1) = if (rec i).ran then accTo i (rec i).t o.op.makes n (wkA os rec n i) else wkA os rec n i := by simp [wkA, mkF, ho]
  rw [e1, e2]
  exact this
 ·have h1 := T.still i x hx
  have h2 := T.still j y hy
  simp only [AOp.still, n1, n2, Bool.false_or, Bool.and_eq_true, Bool.not_eq_true'] at h1 h2
  rcases hw with hw | ⟨_, hw | hw⟩
  ·rw [h1.2] at hw; cases hw
  ·rw [h1.1] at hw; cases hw
  ·rw [h2.1] at hw; cases hw
theorem SL_still [Glob] {ops : Array Oper} {os : List AOper} {rec : Nat → Rec} {S0 : Store} {n : Nat} {E : Nat → Nat → AV} (hlen : os.length = ops.size) (h : ∀ (i : Nat) o, os[i]? = some o → HowR P o (E i) S0 n (rec i)) (L : Nat → Bool) : SL rec S0 ops.size L = S0 := by
 funext q
 have key : ∀ m, m ≤ ops.size → lw L (objW rec q) m = none := by
  intro m
  induction m with
  | zero => intro _; rfl
  | succ m ih =>
   intro hm
   have ho : objW rec q m = none := by
    obtain ⟨_, h2, h3, _⟩ := h m (os[m]'(by omega)) (by simp)
    unfold objW
    rw [h2]
    simp only [Option.isSome_none, Bool.false_eq_true, false_and, if_false]
    rcases h3 with h3 | h3
    ·rw [h3]; simp
    ·rw [h3]; split <;> rfl
   simp only [lw, ho, ih (by omega)]
   split <;> rfl
 simp [SL, key _ (Nat.le_refl _)]
theorem EL_rec {dst : Nat → Option (Bool × Nat)} {rec rec' : Nat → Rec} {E0 : Nat → AV} {n : Nat} {L : Nat → Bool} (h : ∀ j, L j = true → (rec j).v = (rec' j).v) (t : Nat) : EL dst rec E0 n L t = EL dst rec' E0 n L t := by
 unfold EL
 congr 1
 induction n with
 | zero => rfl
 | succ n ih =>
  simp only [lw, ih]
  cases hL : L n with
  | false => rfl
  | true =>
   have : slotW dst rec t n = slotW dst rec' t n := by unfold slotW; rw [h n hL]
   rw [this]
theorem compileAny_call [Glob] {o : Oper} {f : AOpd} {as : List AOpd} {ac : AOp} (h : compileAny P gs true o = some (.call true f as)) (h2 : compileAny P gs false o = some ac) : ac = .call false f as := by
 unfold compileAny at h h2
 split at h
 ·rename_i fx xs hv
  simp only [hv] at h2
  simp only [Option.bind_eq_bind] at h h2
  cases h3 : opd gs fx <;> cases h4 : opds gs xs <;> simp [h3, h4] at h h2
  obtain ⟨rfl, rfl⟩ := h
  exact h2.symm
 ·rename_i hv
  simp only [hv] at h2
  split at h
  ·cases h
  split at h
  ·cases h
  ·exfalso
   cases hc : compileOp P gs o with
   | none => simp [hc] at h
   | some x =>
    simp only [hc, Option.filter] at h
    split at h
    ·rename_i hx
     cases h
     simp [AOp.isCall] at hx
    ·cases h
end Go.AL
namespace Go.AL
variable {ro : Option Nat} {P : Program} {gs : List Nat} {N : Nat} {ι ι' : Nat → Option Nat} {g l : Env} {s s' : St} {a : Act} {w w' : World}
theorem wkE_congr {os : List AOper} {rec rec' : Nat → Rec} {E0 : Nat → AV} : ∀ {n : Nat}, (∀ j, j < n → (rec j).v = (rec' j).v) → wkE os rec E0 n = wkE os rec' E0 n
 | 0, _ => rfl
 | n + 1, h => by simp only [wkE]; rw [wkE_congr fun j hj => h j (by omega), h n (by omega)]
theorem wkE_same {os : List AOper} {rec : Nat → Rec} {E0 : Nat → AV} {t i : Nat} : ∀ {n : Nat}, i ≤ n → (∀ j, i ≤ j → j < n → (match dstF os j with | some (_, u) => u != t | none => true) = true) → wkE os rec E0 n t = wkE os rec E0 i t := by
 intro n
 induction n with
 | zero => intro h _; have : i = 0 := by omega
           rw [this]
 | succ n ih =>
  intro h hd
  by_cases e : i = n + 1
  ·rw [e]
  ·have h1 := ih (by omega) fun j h1 h2 => hd j h1 (by omega)
   have h2 := hd n (by omega) (by omega)
   simp only [wkE]
   cases hdd : dstF os n with
   | none => exact h1
   | some p =>
    obtain ⟨b, u⟩ := p
    rw [hdd] at h2
    have : ¬ t = u := fun e => by rw [e] at h2; simp at h2
    simp only [setE, if_neg this]
    exact h1
def namesEnv (E : Nat → AV) : List Nat → Env
 | [] => []
 | t :: r => (t, E t) :: namesEnv E r
theorem namesEnv_get (E : Nat → AV) (t : Nat) : ∀ (ns : List Nat), (namesEnv E ns).get t = if ns.contains t = true then E t else .any
 | [] => by simp [namesEnv, Env.get]
 | u :: r => by
  simp only [namesEnv, Env.get, namesEnv_get E t r]
  by_cases e : u = t
  ·subst e; simp
  ·have e' : ¬ t = u := fun h => e h.symm
   simp [e, e']
theorem frs_mem {fr : List AOp} {g l : Env} {s' s2 : St} (h : frs g l s' s2 fr) {op : AOp} (ho : op ∈ fr) {q : Nat} (hq : op.touch (AOpd.val g l) = some q) : s2.m q = s'.m q := by
 induction fr with
 | nil => cases ho
 | cons x r ih =>
  simp only [frs] at h
  rcases List.mem_cons.1 ho with rfl | ho
  ·have := h.1; rw [hq] at this; exact this
  ·exact ih h.2 ho
theorem float_any0 [Glob] {ops : Array Oper} {k m : Nat} {os suf : List AOper} {oc : Oper} {ac : AOp} {dc : Option (Bool × Nat)} {fr : List AOp} {ι0 : Nat → Option Nat} {s0 : St} {w0 : World} {K : Env → Env → St → Prop} {Q : Exit → Act → World → Prop}
  (hkm : k < m) (hs : sufOK ops m = true) (T : Text P gs N (preOps ops m) os) (hafter : ∀ j, k < j → j < m → k ∈ (befores (preOps ops m).toList []).getD j [])
  (hoc : ops[k]? = some oc) (hac : compileAny P gs false oc = some ac) (hcall : ac.isCall = true) (hgc : oc.guard = none) (hdc : cdst gs N oc.dst = some dc)
  (hF : ∀ i, i < k → i ∉ (befores (preOps ops m).toList []).getD k [] → ∃ o, os[i]? = some o ∧ o.op ∈ fr ∧ ∀ x ∈ o.op.opnds, opndFree (((os.take k).drop i).map (·.dst)) x = true)
  (hsuf : compileSeq P gs N ops (ops.toList.drop m) = some suf)
  (hQ : ∀ ι' g' l' s' a' w', Rel gs N ι' g' l' s' a' w' → Step ι0 s0.m w0 ι' s'.m w' → Inc ι0 ι' s0.nx s'.nx → K g' l' s' → Q .normal a' w')
  (h : aopsD P 0 [] (os.take k) (floatE P fr ac dc k (os.drop (k + 1)) suf K) g [] s)
  (hrel : Rel gs N ι g [] s a w) (hst : Step ι0 s0.m w0 ι s.m w) (hn : Inc ι0 ι s0.nx s.nx) : wpAnyR ro P .any ops Q ops.size (Array.replicate ops.size false) a { w with drawn := w.drawn + 1 } := by
 have hS := sufOK_spec hs
 have hmn := hS.le
 have hpsz := preOps_size hmn
 have hlen := T.len
 rw [hpsz] at hlen
 have hpoc : (preOps ops m)[k]? = some oc := by rw [preOps_get hkm]; exact hoc
 -- the walk ahead of the call
 obtain ⟨rec1, E1, S1, nx1, ac1, e1, e2, e3, e4, e5, g', l', s', e6, e7, e8, e9⟩ := extract (gs := gs) (namesOf := fun i => ((preOps ops m)[i]?).elim [] (namesOf (preOps ops m))) (os.take k) 0 [] g [] s (fun i ao hao => by
  have hik : i < k := by
   have := (List.getElem?_eq_some_iff.1 hao).1
   simp at this; omega
  have hao' : os[i]? = some ao := by rwa [List.getElem?_take_of_lt hik] at hao
  have hi : i < (preOps ops m).size := by omega
  have ho : (preOps ops m)[i]? = some (preOps ops m)[i] := by simp [hi]
  obtain ⟨ao', h1, _, _, _, h5⟩ := T.op i _ ho
  rw [hao'] at h1
  cases h1
  refine ⟨?_, T.call i ao hao'⟩
  rw [Nat.zero_add, ho]
  exact h5) h
 simp only [Nat.zero_add] at e5
 have htk : (os.take k).length = k := by simp; omega
 rw [htk] at e6 e7 e8
 have hstep1 : ∀ i, i < k → ∃ o, os[i]? = some o ∧ StepAt P i o (E1 i) (S1 i) (nx1 i) (ac1 i) (rec1 i) (E1 (i + 1)) (S1 (i + 1)) (nx1 (i + 1)) (ac1 (i + 1)) ∧ (rec1 i).done = false := by
  intro i hi
  have ho : os[i]? = some (os[i]'(by omega)) := by simp
  exact ⟨_, ho, e5 i _ (by rw [List.getElem?_take_of_lt hi]; exact ho)⟩
 have hconst : ∀ i, i ≤ k → S1 i = s.m ∧ nx1 i = s.nx := by
  intro i
  induction i with
  | zero => intro _; exact ⟨e2, e3⟩
  | succ i ih =>
   intro hi
   obtain ⟨o, ho, st, hd⟩ := hstep1 i (by omega)
   obtain ⟨_, _, k1, k2⟩ := st.keep (T.still i o ho) hd (T.call i o ho)
   obtain ⟨k3, k4⟩ := ih (by omega)
   exact ⟨k1.trans k3, k2.trans k4⟩
 have hE1 : ∀ i, i ≤ k → E1 i = wkE os rec1 (merge gs g []) i := by
  intro i
  induction i with
  | zero => intro _; exact e1
  | succ i ih =>
   intro hi
   obtain ⟨o, ho, st, hd⟩ := hstep1 i (by omega)
   rw [st.env, ih (by omega)]
   simp [wkE, dstF, ho]
 rw [(hconst k (Nat.le_refl _)).1] at e7
 rw [(hconst k (Nat.le_refl _)).2] at e8
 -- the records ahead of the call
 obtain ⟨recA, hrecA⟩ : ∃ recA : Nat → Rec, recA = fun i => if i < k then { rec1 i with nid := s.nx } else ⟨false, .any, none, .keep, none, s.nx, true⟩ := ⟨_, rfl⟩
 have hEA : ∀ i, i ≤ k → wkE os recA (merge gs g []) i = E1 i := by
  intro i hi
  rw [hE1 i hi]
  exact wkE_congr fun j hj => by rw [hrecA]; simp only; rw [if_pos (by omega)]
 have hhowA : ∀ (i : Nat) o, os[i]? = some o → HowR P o (wkE os recA (merge gs g []) i) s.m s.nx (recA i) := by
  intro i o ho
  by_cases hik : i < k
  ·obtain ⟨o', ho', st, hd⟩ := hstep1 i hik
   rw [ho] at ho'; cases ho'
   rw [hEA i (by omega), hrecA]
   try simp only
   rw [if_pos hik]
   exact HowR.of st (T.still i o ho) hd (T.call i o ho) (fun q _ => by rw [(hconst i (by omega)).1])
  ·rw [hrecA]
   try simp only
   rw [if_neg hik]
   exact ⟨rfl, rfl, .inl rfl, .inr (.inr ⟨rfl, rfl, rfl⟩)⟩
 have DA := T.draw (rec := recA) (E0 := merge gs g []) (S0 := s.m) (n := s.nx) (fun q ob hq => hrel.bnd.lt q ob hq) hhowA
 have hSLA : ∀ L, SL recA s.m (preOps ops m).size L = s.m := SL_still (by rw [hpsz]; exact hlen) hhowA
 -- all that comes behind the call
 have hbehind : ∀ (listed : Array Bool) (ι1 : Nat → Option Nat) (M1 : Nat) (a1 : Act) (w1 : World), DI gs N (preOps ops m) os recA (wkE os recA (merge gs g [])) (fun _ => s.m) (fun _ => s.nx) ι0 s0 w0 listed ι1 M1 a1 w1 →
   (∀ i, LA listed i = true → i < k) → (∀ e ∈ oc.after.toList, Region.binds .any e = true → LA listed e.on = true) → ∀ fuel, ((List.range m).filter fun i => !LA (listed.setIfInBounds k true) i).length + (ops.size - m) ≤ fuel → wpOpR ro P ops Q k (wpAnyR ro P .any ops Q fuel (padA ops.size (listed.setIfInBounds k true))) a1 w1 := by
  intro listed ι1 M1 a1 w1 hd1 hlt hready fuel hfuel
  have hin := LA_in hd1.sz
  have hLk : LA listed k = false := by
   cases hx : LA listed k with
   | false => rfl
   | true => have := hlt k hx; omega
  have hlk : k < listed.size := by rw [hd1.sz, hpsz]; exact hkm
  have hbef : ∀ i, i < k → LA listed i = false → i ∉ (befores (preOps ops m).toList []).getD k [] := by
   intro i hi hL hm
   have := closed_before hd1.closed hin k oc hpoc hready i hm
   rw [hL] at this; cases this
  obtain ⟨ao, hao, hcmp, hcd, hcg, haok⟩ := T.op k oc hpoc
  -- what the call is
  have hwf1 := hd1.wf
  try simp only at hwf1
  rw [hSLA] at hwf1
  have hslot : ∀ t, (namesOf (preOps ops m) oc).contains t = true → EL (dstF os) recA (merge gs g []) (preOps ops m).size (LA listed) t = E1 k t := by
   intro t ht
   have := DA.slot_agree hd1.closed hin hpoc hLk hready ht
   rw [← hEA k (Nat.le_refl _)]
   exact this
  have hsl1 := hd1.slots
  have hbnd1 : Bnd ι1 s.m M1 := by
   refine ⟨fun q ob hq => ?_, hd1.ιM⟩
   have := hrel.bnd.lt q ob hq
   have := hd1.nM
   try simp only at this
   omega
  obtain ⟨env, henv⟩ : ∃ env, env = namesEnv (E1 k) (namesOf (preOps ops m) oc) := ⟨_, rfl⟩
  have hgetE : ∀ t, Rep ι1 (Foot ι1 s.m) w1 (a1.tmps.getD t undef) (env.get t) := by
   intro t
   rw [henv, namesEnv_get]
   split
   ·rename_i ht
    rw [← hslot t ht]
    have := hsl1 t
    try simp only at this
    rw [hSLA] at this
    exact this
   ·exact .any _
  have hrel0 : Rel gs N ι1 env env ⟨s.m, M1⟩ a1 w1 := ⟨hwf1, hbnd1, hd1.size, hd1.defers, fun t _ => hgetE t, fun t _ => hgetE t⟩
  have hMs : s'.nx ≤ M1 := by
   have := hd1.nM
   try simp only at this
   omega
  have hK := e9 M1 hMs
  have hbump : s'.bump M1 = ⟨s.m, M1⟩ := by rw [St.bump, e7]
  rw [hbump] at hK
  unfold floatE at hK
  simp only [aoperOK, Bool.and_eq_true] at haok
  obtain ⟨⟨hopn, hdstn⟩, _⟩ := haok
  have hcallA : ao.op.isCall = true := by
   obtain ⟨f1, _, _⟩ := compileAny_flag hcmp hac
   rw [f1]; exact hcall
  obtain ⟨f, as, hfas⟩ := T.call k ao hao hcallA
  rw [hfas] at hcmp hopn
  have hacc := compileAny_call hcmp hac
  subst hacc
  have hopd : ∀ x ∈ (AOp.call true f as).opnds, AOpd.val g' l' x = AOpd.val env env x := by
   intro x hx
   have hok := List.all_eq_true.1 hopn x hx
   rw [Ev_val hok, e6]
   cases x with
   | g t =>
    simp only [opndOK, Bool.and_eq_true] at hok
    simp only [Ev, AOpd.val, henv, namesEnv_get, hok.2, if_true]
   | l t =>
    simp only [opndOK, Bool.and_eq_true] at hok
    simp only [Ev, AOpd.val, henv, namesEnv_get, hok.2, if_true]
   | c v => rfl
  have hcs : AOp.step P (.call false f as) env env ⟨s.m, M1⟩ (fun v s2 => frs g' l' ⟨s.m, M1⟩ s2 fr ∧ setDst dc v g' l' fun g1 l1 => aopsD P (k + 1) [] (os.drop (k + 1)) (fun g2 l2 s3 => aops P suf K g2 l2 s3) g1 l1 s2) := by
   have e1' : AOpd.val g' l' f = AOpd.val env env f := hopd f (by simp [AOp.opnds])
   have e2' : as.map (AOpd.val g' l') = as.map (AOpd.val env env) := List.map_congr_left fun x hx => hopd x (by simp [AOp.opnds, hx])
   simp only [AOp.step, e1', e2'] at hK ⊢
   exact hK
  unfold wpOpR
  simp only [hoc]
  have hwn : Region.wanted oc (yielded ops a1.tmps) = true := by simp [Region.wanted, hgc]
  rw [if_pos hwn]
  refine .inl (step_sound hac rfl hrel0 hcs fun ι3 cv v s3 w3 q1 q2 q3 q4 q5 q6 => ?_)
  obtain ⟨hfr, q6⟩ := q6
  have hdc' : ao.dst = dc := by rw [hcd] at hdc; cases hdc; rfl
  rw [hdc'] at hdstn
  obtain ⟨g1, l1, hpost, hm1⟩ := merge_setDst (gs := gs) (names := namesOf (preOps ops m) oc) hdstn q6
  -- the walk behind the call
  obtain ⟨rec3, E3, S3, nx3, ac3, d1, d2, d3, d4, d5, g'', l'', s'', d6, d7, d8, d9⟩ := extract (gs := gs) (namesOf := fun i => ((preOps ops m)[i]?).elim [] (namesOf (preOps ops m))) (os.drop (k + 1)) (k + 1) [] g1 l1 s3 (fun i ao hao => by
   have hao' : os[k + 1 + i]? = some ao := by rwa [List.getElem?_drop] at hao
   have hi : k + 1 + i < (preOps ops m).size := by rw [hpsz, ← hlen]; exact (List.getElem?_eq_some_iff.1 hao').1
   have ho : (preOps ops m)[k + 1 + i]? = some (preOps ops m)[k + 1 + i] := by simp [hi]
   obtain ⟨ao', h1, _, _, _, h5⟩ := T.op _ _ ho
   rw [hao'] at h1
   cases h1
   refine ⟨?_, T.call _ ao hao'⟩
   rw [ho]
   exact h5) hpost
  have hdl : (os.drop (k + 1)).length = m - (k + 1) := by simp; omega
  rw [hdl] at d6 d7 d8
  have hstep3 : ∀ i, k < i → i < m → ∃ o, os[i]? = some o ∧ StepAt P i o (E3 (i - (k + 1))) (S3 (i - (k + 1))) (nx3 (i - (k + 1))) (ac3 (i - (k + 1))) (rec3 (i - (k + 1))) (E3 (i - (k + 1) + 1)) (S3 (i - (k + 1) + 1)) (nx3 (i - (k + 1) + 1)) (ac3 (i - (k + 1) + 1)) ∧ (rec3 (i - (k + 1))).done = false := by
   intro i hi him
   have ho : os[i]? = some (os[i]'(by omega)) := by simp
   have e : k + 1 + (i - (k + 1)) = i := by omega
   have := d5 (i - (k + 1)) (os[i]'(by omega)) (by rw [List.getElem?_drop, e]; exact ho)
   rw [e] at this
   exact ⟨_, ho, this⟩
  have hconst3 : ∀ j, k + 1 + j ≤ m → S3 j = s3.m ∧ nx3 j = s3.nx := by
   intro j
   induction j with
   | zero => intro _; exact ⟨d2, d3⟩
   | succ j ih =>
    intro hj
    obtain ⟨o, ho, st, hd⟩ := hstep3 (k + 1 + j) (by omega) (by omega)
    rw [show k + 1 + j - (k + 1) = j by omega] at st hd
    obtain ⟨_, _, k1, k2⟩ := st.keep (T.still _ o ho) hd (T.call _ o ho)
    obtain ⟨k3, k4⟩ := ih (by omega)
    exact ⟨k1.trans k3, k2.trans k4⟩
  -- all records
  obtain ⟨recB, hrecB⟩ : ∃ recB : Nat → Rec, recB = fun i => if i < k then (if LA listed i then ⟨(rec1 i).ran, (rec1 i).v, none, .keep, none, s3.nx, true⟩ else { rec1 i with nid := s3.nx })
    else if i = k then ⟨true, v, none, .keep, none, s3.nx, true⟩ else { rec3 (i - (k + 1)) with nid := s3.nx } := ⟨_, rfl⟩
  have hBlt : ∀ i, i < k → (recB i).v = (rec1 i).v := by
   intro i hi
   rw [hrecB]
   try simp only
   rw [if_pos hi]
   split <;> rfl
  have hBk : recB k = ⟨true, v, none, .keep, none, s3.nx, true⟩ := by
   rw [hrecB]
   try simp only
   rw [if_neg (by omega), if_pos trivial]
  have hBgt : ∀ i, k < i → recB i = { rec3 (i - (k + 1)) with nid := s3.nx } := by
   intro i hi
   rw [hrecB]
   try simp only
   rw [if_neg (by omega), if_neg (by omega)]
  have hEB : ∀ i, i ≤ k → wkE os recB (merge gs g []) i = E1 i := by
   intro i hi
   rw [hE1 i hi]
   exact wkE_congr fun j hj => hBlt j (by omega)
  have hEBk : wkE os recB (merge gs g []) (k + 1) = E3 0 := by
   have hdk : dstF os k = dc := by simp [dstF, hao, hdc']
   simp only [wkE]
   rw [hEB k (Nat.le_refl _), hBk, hdk, d1, hm1, e6]
  have hEB3 : ∀ j, k + 1 + j ≤ m → wkE os recB (merge gs g []) (k + 1 + j) = E3 j := by
   intro j
   induction j with
   | zero => intro _; exact hEBk
   | succ j ih =>
    intro hj
    obtain ⟨o, ho, st, hd⟩ := hstep3 (k + 1 + j) (by omega) (by omega)
    rw [show k + 1 + j - (k + 1) = j by omega] at st hd
    rw [show k + 1 + (j + 1) = (k + 1 + j) + 1 by omega]
    simp only [wkE]
    rw [ih (by omega), st.env, hBgt _ (by omega), show k + 1 + j - (k + 1) = j by omega]
    simp [dstF, ho]
  have hhowB : ∀ (i : Nat) o, os[i]? = some o → HowR P o (wkE os recB (merge gs g []) i) s3.m s3.nx (recB i) := by
   intro i o ho
   have him : i < m := by rw [← hlen]; exact (List.getElem?_eq_some_iff.1 ho).1
   rcases Nat.lt_trichotomy i k with hik | rfl | hik
   ·rw [hEB i (by omega), hrecB]
    try simp only
    rw [if_pos hik]
    split
    ·exact ⟨rfl, rfl, .inl rfl, .inr (.inr ⟨rfl, rfl, rfl⟩)⟩
    ·rename_i hL
     obtain ⟨o', ho', st, hd⟩ := hstep1 i hik
     rw [ho] at ho'; cases ho'
     refine HowR.of st (T.still i o ho) hd (T.call i o ho) fun q hq => ?_
     rw [(hconst i (by omega)).1]
     obtain ⟨o2, ho2, hmem, hfree⟩ := hF i hik (hbef i hik (by simpa using hL))
     rw [ho] at ho2; cases ho2
     have hval : ∀ x ∈ o.op.opnds, AOpd.val g' l' x = Ev (E1 i) x := by
      intro x hx
      have hi' : i < (preOps ops m).size := by rw [hpsz]; exact him
      obtain ⟨oi, hoi⟩ : ∃ oi, (preOps ops m)[i]? = some oi := ⟨(preOps ops m)[i], by simp [hi']⟩
      obtain ⟨ao', h1, _, _, _, h5⟩ := T.op i _ hoi
      rw [ho] at h1; cases h1
      simp only [aoperOK, Bool.and_eq_true] at h5
      have hok := List.all_eq_true.1 h5.1.1 x hx
      rw [Ev_val hok, e6]
      have hsame : ∀ t, (((os.take k).drop i).map (·.dst)).all (fun d => match d with | some (_, u) => u != t | none => true) = true → E1 k t = E1 i t := by
       intro t ht
       rw [hE1 k (Nat.le_refl _), hE1 i (by omega)]
       refine wkE_same (by omega) fun j hj1 hj2 => ?_
       have hoj : os[j]? = some (os[j]'(by omega)) := by simp
       have : (os[j]'(by omega)).dst ∈ ((os.take k).drop i).map (·.dst) := by
        refine List.mem_map_of_mem (List.mem_of_getElem? (i := j - i) ?_)
        rw [List.getElem?_drop, show i + (j - i) = j by omega, List.getElem?_take_of_lt hj2]
        exact hoj
       have := List.all_eq_true.1 ht _ this
       simpa [dstF, hoj] using this
      have hfx := hfree x hx
      cases x with
      | g t => exact hsame t hfx
      | l t => exact hsame t hfx
      | c v => rfl
     obtain ⟨c1, _, _⟩ := op_congr o.op hval
     exact frs_mem hfr hmem (by rw [c1]; exact hq)
   ·rw [hBk]
    exact ⟨rfl, rfl, .inl rfl, .inr (.inr ⟨rfl, rfl, rfl⟩)⟩
   ·obtain ⟨o', ho', st, hd⟩ := hstep3 i hik him
    rw [ho] at ho'; cases ho'
    have e : k + 1 + (i - (k + 1)) = i := by omega
    have h1 := hEB3 (i - (k + 1)) (by omega)
    rw [e] at h1
    rw [h1, hBgt i hik]
    exact HowR.of st (T.still i o ho) hd (T.call i o ho) (fun q _ => by rw [(hconst3 (i - (k + 1)) (by omega)).1])
  have DB := T.draw (rec := recB) (E0 := merge gs g []) (S0 := s3.m) (n := s3.nx) (fun q ob hq => q3.lt q ob hq) hhowB
  have hSLB : ∀ L, SL recB s3.m (preOps ops m).size L = s3.m := SL_still (by rw [hpsz]; exact hlen) hhowB
  have hLA : LA (listed.setIfInBounds k true) = addL k (LA listed) := LA_set hlk
  have hstp : Step ι0 s0.m w0 ι1 s.m w1 := by have := hd1.step; (try simp only at this); rwa [hSLA] at this
  have hst3 := hstp.trans q1
  have hs0M : s0.nx ≤ M1 := by have := hd1.nM; have := hn.1; (try simp only at *); omega
  have hdi2 : DI gs N (preOps ops m) os recB (wkE os recB (merge gs g [])) (fun _ => s3.m) (fun _ => s3.nx) ι0 s0 w0 (listed.setIfInBounds k true) ι3 s3.nx (a1.put oc.dst cv) w3 := by
   refine ⟨by simp [hd1.sz], ?_, ?_, q3.ilt, Nat.le_refl _, fun i hi _ hnew => ?_, ?_, ?_, fun t => ?_, ?_, fun q b hq hlt' => ?_⟩
   ·rw [hLA]
    intro j oj hoj hLj e he hb
    simp only [addL, Bool.or_eq_true, beq_iff_eq] at hLj ⊢
    rcases hLj with hLj | rfl
    ·exact .inl (hd1.closed j oj hoj hLj e he hb)
    ·rw [hpoc] at hoj
     cases hoj
     exact .inl (hready e he hb)
   ·(try simp only); rw [hSLB]; exact q2
   ·obtain ⟨_, h2, _⟩ := hhowB i (os[i]'(by omega)) (by simp)
    rw [h2] at hnew; cases hnew
   ·cases oc.dst with
    | none => exact hd1.size
    | some t => simp [Act.put, hd1.size]
   ·cases oc.dst with
    | none => exact hd1.defers
    | some t => exact hd1.defers
   ·try simp only
    rw [hSLB, hLA, DB.EL_add hd1.closed hin hpoc hLk hao t]
    have heq : EL (dstF os) recB (merge gs g []) (preOps ops m).size (LA listed) = EL (dstF os) recA (merge gs g []) (preOps ops m).size (LA listed) := by
     funext u
     refine EL_rec (fun j hj => ?_) u
     have := hlt j hj
     rw [hBlt j this, hrecA]
     try simp only
     rw [if_pos this]
    have e0 : wkE os recB (merge gs g []) 0 = merge gs g [] := rfl
    rw [e0, heq, hBk, hdc']
    have hold : ∀ t, Rep ι3 (Foot ι3 s3.m) w3 (a1.tmps.getD t undef) (EL (dstF os) recA (merge gs g []) (preOps ops m).size (LA listed) t) := by
     intro t
     have := hsl1 t
     try simp only at this
     rw [hSLA] at this
     exact this.step q1
    cases hd : oc.dst with
    | none =>
     rw [hd] at hdc
     simp only [cdst, Option.some.injEq] at hdc
     rw [← hdc]
     exact hold t
    | some u =>
     rw [hd] at hdc
     simp only [cdst] at hdc
     split at hdc
     ·rename_i hu
      simp only [Option.some.injEq] at hdc
      rw [← hdc, getD_put (by rw [hd1.size]; exact hu)]
      simp only [setE]
      split
      ·exact q5
      ·exact hold t
     ·cases hdc
   ·(try simp only); rw [hSLB]; exact hst3
   ·exact hd1.inc q b (q4.2 q b hq (by (try simp only); omega)) hlt'
  refine draw_pre hS DB (by have := q4.1; (try simp only at *); omega) (fun listed2 ι4 M4 a4 w4 k1 k2 => ?_) fuel _ _ _ _ _ ?_ (fun i hi hx => ?_) hdi2
  ·-- at the end
   have hall : ∀ t, EL (dstF os) recB (merge gs g []) (preOps ops m).size (LA listed2) t = merge gs g'' l'' t := by
    intro t
    have h1 := DB.E_eq (preOps ops m).size (Nat.le_refl _) t
    have h2 : wkE os recB (merge gs g []) (preOps ops m).size = E3 (m - (k + 1)) := by
     rw [hpsz]
     have := hEB3 (m - (k + 1)) (by omega)
     rwa [show k + 1 + (m - (k + 1)) = m by omega] at this
    rw [h2] at h1
    rw [d6, h1]
    unfold EL
    rw [lw_congr fun j hj _ => (by rw [k2 j hj]; simp [pre, hj] : LA listed2 j = pre (preOps ops m).size j)]
    rfl
   have hs4 : s''.m = s3.m := by rw [d7]; exact (hconst3 _ (by omega)).1
   have hn4 : s''.nx = s3.nx := by rw [d8]; exact (hconst3 _ (by omega)).2
   have hnM4 := k1.nM
   try simp only at hnM4
   have hwf4 := k1.wf
   have hstp4 := k1.step
   try simp only at hwf4 hstp4
   rw [hSLB] at hwf4 hstp4
   have hrel4 : Rel gs N ι4 g'' l'' ⟨s3.m, M4⟩ a4 w4 := by
    refine ⟨hwf4, ⟨fun q ob hq => ?_, k1.ιM⟩, k1.size, k1.defers, fun t ht => ?_, fun t ht => ?_⟩
    ·have := q3.lt q ob hq
     try simp only
     omega
    ·have := k1.slots t
     try simp only at this
     rw [hSLB] at this
     have e0 : wkE os recB (merge gs g []) 0 = merge gs g [] := rfl
     rw [e0, hall t] at this
     simp only [merge, ht, if_true] at this
     exact this
    ·have := k1.slots t
     try simp only at this
     rw [hSLB] at this
     have e0 : wkE os recB (merge gs g []) 0 = merge gs g [] := rfl
     rw [e0, hall t] at this
     simp only [merge, ht, Bool.false_eq_true, if_false] at this
     exact this
   have hfin := d9 M4 (by omega)
   have hb4 : s''.bump M4 = ⟨s3.m, M4⟩ := by rw [St.bump, hs4]
   rw [hb4] at hfin
   have := seq_from (ro := ro) hQ (ops.toList.drop m) m suf rfl hsuf ι4 g'' l'' ⟨s3.m, M4⟩ a4 w4 hfin hrel4 hstp4 ⟨by have := q4.1; (try simp only at *); omega, k1.inc⟩
   simpa using this
  ·exact hfuel
  ·rw [hLA]
   simp only [addL, Bool.or_eq_true, beq_iff_eq]
   rcases Nat.lt_trichotomy i k with hik | rfl | hik
   ·left
    rw [hrecB] at hx
    try simp only at hx
    rw [if_pos hik] at hx
    split at hx
    ·assumption
    ·obtain ⟨_, _, _, hd⟩ := hstep1 i hik
     rw [hd] at hx; cases hx
   ·exact .inr rfl
   ·exfalso
    rw [hBgt i hik] at hx
    obtain ⟨_, _, _, hd⟩ := hstep3 i hik hi
    rw [hd] at hx; cases hx
 -- the tree of orders
 have key : ∀ (fuel : Nat) (listed : Array Bool) (ι1 : Nat → Option Nat) (M1 : Nat) (a1 : Act) (w1 : World), DI gs N (preOps ops m) os recA (wkE os recA (merge gs g [])) (fun _ => s.m) (fun _ => s.nx) ι0 s0 w0 listed ι1 M1 a1 w1 →
   (∀ i, LA listed i = true → i < k) → ((List.range m).filter fun i => !LA listed i).length + (ops.size - m) ≤ fuel → wpAnyR ro P .any ops Q fuel (padA ops.size listed) a1 w1 := by
  intro fuel
  induction fuel with
  | zero =>
   intro listed ι1 M1 a1 w1 _ hlt hf
   exfalso
   have hLk : LA listed k = false := by
    cases hx : LA listed k with
    | false => rfl
    | true => have := hlt k hx; omega
   have hm : k ∈ (List.range m).filter fun i => !LA listed i := by simp [List.mem_filter, hkm, hLk]
   have := List.length_pos_of_mem hm
   omega
  | succ fuel ih =>
   intro listed ι1 M1 a1 w1 hd1 hlt hf
   have hsz : listed.size = m := by rw [hd1.sz, hpsz]
   have hin := LA_in hd1.sz
   have hpad : (padA ops.size listed).size = ops.size := pad_size (by rw [hsz]; exact hmn)
   have hLk : LA listed k = false := by
    cases hx : LA listed k with
    | false => rfl
    | true => have := hlt k hx; omega
   have hcl : Closed ops (LA (padA ops.size listed)) := by
    rw [LA_pad]
    intro j o ho hj e he hb
    have hjk := hlt j hj
    exact hd1.closed j o (by rw [preOps_get (by omega)]; exact ho) hj e he hb
   refine ⟨fun hr => ?_, fun i hi => ?_⟩
   ·exfalso
    have hless : ∃ i, i ∈ Region.ready .any (preOps ops m) listed := by
     cases hr' : Region.ready .any (preOps ops m) listed with
     | nil =>
      have := all_listed DA hd1.sz hr' k (by rw [hpsz]; exact hkm)
      rw [hLk] at this; cases this
     | cons i r => exact ⟨i, by simp⟩
    obtain ⟨i, hi⟩ := hless
    obtain ⟨o, ho, hL, hd⟩ := ready_mem hd1.sz hi
    have him := (Array.getElem?_eq_some_iff.1 ho).1
    rw [hpsz] at him
    rw [preOps_get him] at ho
    have := mem_ready (listed := padA ops.size listed) hpad ho (by rw [LA_pad]; exact hL) (by rw [LA_pad]; exact hd)
    rw [hr] at this
    cases this
   ·obtain ⟨o, ho, hL, hd⟩ := ready_mem hpad hi
    have hio := (Array.getElem?_eq_some_iff.1 ho).1
    rw [LA_pad] at hL hd
    have him : i < m := by
     rcases Nat.lt_or_ge i m with h1 | h1
     ·exact h1
     ·exfalso
      have hin' : ∀ i, LA (padA ops.size listed) i = true → i < ops.size := fun i h' => by rw [LA_pad] at h'; have := hlt i h'; omega
      have := closed_before hcl hin' i o ho (by rw [LA_pad]; exact hd) k (hS.all i h1 hio k (by omega))
      rw [LA_pad, hLk] at this; cases this
    have hpo : (preOps ops m)[i]? = some o := by rw [preOps_get him]; exact ho
    have hik : i ≤ k := by
     rcases Nat.lt_or_ge k i with h1 | h1
     ·exfalso
      have := closed_before hd1.closed hin i o hpo hd k (hafter i h1 him)
      rw [hLk] at this; cases this
     ·exact h1
    rw [pad_set (by rw [hsz]; exact him)]
    have hless : ((List.range m).filter fun j => !LA (listed.setIfInBounds i true) j).length < ((List.range m).filter fun j => !LA listed j).length := by
     rw [LA_set (by rw [hsz]; exact him)]
     have hsub : ((List.range m).filter fun j => !addL i (LA listed) j) = (((List.range m).filter fun j => !LA listed j).filter fun j => j != i) := by
      rw [List.filter_filter]
      congr 1
      funext j
      simp only [addL, Bool.not_or]
      cases LA listed j <;> simp [bne]
     rw [hsub]
     have hmem : i ∈ (List.range m).filter fun j => !LA listed j := by simp [List.mem_filter, him, hL]
     exact List.length_filter_lt_length_iff_exists.2 ⟨i, hmem, by simp⟩
    by_cases e : i = k
    ·subst e
     rw [hoc] at ho
     cases ho
     exact hbehind listed ι1 M1 a1 w1 hd1 hlt hd fuel (by omega)
    ·have hik' : i < k := by omega
     refine wpOp_pre hS him (draw_step DA hd1 hn.1 hpo hL (by rw [hrecA]; simp only; rw [if_pos hik']; exact (hstep1 i hik').elim fun _ h => h.2.2) hd fun ι' M' a' w' h' => ih _ ι' M' a' w' h' (fun j hj => ?_) ?_)
     ·rw [LA_set (by rw [hsz]; exact him)] at hj
      simp only [addL, Bool.or_eq_true, beq_iff_eq] at hj
      rcases hj with hj | rfl
      ·exact hlt j hj
      ·exact hik'
     ·omega
 have e : padA ops.size (Array.replicate (preOps ops m).size false) = Array.replicate ops.size false := by
  apply Array.ext_getElem?
  intro j
  simp only [padA, hpsz, Array.size_replicate]
  by_cases hj : j < m
  ·rw [Array.getElem?_append_left (by simpa using hj)]
   have : j < ops.size := by omega
   simp [Array.getElem?_replicate, hj, this]
  ·rw [Array.getElem?_append_right (by simp; omega)]
   simp only [Array.getElem?_replicate, Array.size_replicate]
   by_cases h2 : j < ops.size
   ·rw [if_pos (by omega), if_pos h2]
   ·rw [if_neg (by omega), if_neg h2]
 have hLA0 : LA (Array.replicate (preOps ops m).size false) = pre 0 := by
  funext j
  simp only [LA, pre]
  by_cases hj : j < (preOps ops m).size <;> simp [hj]
 rw [← e]
 refine key ops.size _ ι (max s.nx s.nx) a _ ?_ (fun i hi => ?_) ?_
 ·refine ⟨by simp, ?_, ?_, fun q b hq => ?_, Nat.le_max_right _ _, fun i hi _ hnew => ?_, hrel.size, hrel.defers, fun t => ?_, ?_, fun q b hq hlt => hn.2 q b hq hlt⟩
  ·rw [hLA0]
   intro i o ho hL
   simp [pre] at hL
  ·try simp only
   rw [hSLA]; exact hrel.wf.drew
  ·have := hrel.bnd.ilt q b hq
   omega
  ·obtain ⟨_, h2, _⟩ := hhowA i (os[i]'(by omega)) (by simp)
   rw [h2] at hnew; cases hnew
  ·try simp only
   rw [hSLA, hLA0]
   have hlw : ∀ n, lw (pre 0) (slotW (dstF os) recA t) n = none := by
    intro n
    induction n with
    | zero => rfl
    | succ n ih => simp [lw, pre, ih]
   have e0 : wkE os recA (merge gs g []) 0 = merge gs g [] := rfl
   rw [e0]
   simp only [EL, hlw, Option.getD_none]
   refine Rep.step (drew_step ι s.m w) ?_
   simp only [merge]
   split
   ·rename_i ht; exact hrel.glob t ht
   ·rename_i ht; exact hrel.loc t (by simpa using ht)
  ·try simp only
   rw [hSLA]
   exact hst.trans (drew_step ι s.m w)
 ·rw [hLA0] at hi; simp [pre] at hi
 ·have := List.length_filter_le (fun i => !LA (Array.replicate (preOps ops m).size false) i) (List.range m)
  simp only [List.length_range] at this
  omega
theorem float_sound [Glob] {ops : Array Oper} {k m : Nat} {os suf : List AOper} {oc : Oper} {ac : AOp} {dc : Option (Bool × Nat)} {fr : List AOp} {id : Nat} {ι0 : Nat → Option Nat} {s0 : St} {w0 : World} {K : Env → Env → St → Prop} {Q : Exit → Act → World → Prop}
  (d : List Deferred) (htame : tame ops = true) (hdraws : P.follows .mixedOrders = true) (hkm : k < m) (hs : sufOK ops m = true) (T : Text P gs N (preOps ops m) os) (hafter : ∀ j, k < j → j < m → k ∈ (befores (preOps ops m).toList []).getD j [])
  (hoc : ops[k]? = some oc) (hac : compileAny P gs false oc = some ac) (hcall : ac.isCall = true) (hgc : oc.guard = none) (hdc : cdst gs N oc.dst = some dc)
  (hF : ∀ i, i < k → i ∉ (befores (preOps ops m).toList []).getD k [] → ∃ o, os[i]? = some o ∧ o.op ∈ fr ∧ ∀ x ∈ o.op.opnds, opndFree (((os.take k).drop i).map (·.dst)) x = true)
  (hsuf : compileSeq P gs N ops (ops.toList.drop m) = some suf)
  (hQ : ∀ ι' g' l' s' a' w', Rel gs N ι' g' l' s' a' w' → Step ι0 s0.m w0 ι' s'.m w' → Inc ι0 ι' s0.nx s'.nx → K g' l' s' → Q .normal (appD d a') w')
  (h : aopsD P 0 [] (os.take k) (floatE P fr ac dc k (os.drop (k + 1)) suf K) g [] s)
  (hrel : Rel gs N ι g [] s a w) (hst : Step ι0 s0.m w0 ι s.m w) (hn : Inc ι0 ι s0.nx s.nx) : (Code.region id ops true).wpIn (inR ro) 0 P Q (appD d a) w :=
 wpR_region_any htame hdraws (float_any0 (Q := fun e a w => Q e (appD d a) w) hkm hs T hafter hoc hac hcall hgc hdc hF hsuf hQ h hrel hst hn)
end Go.AL
namespace Go.AL
variable {ro : Option Nat} {P : Program} {gs : List Nat} {N : Nat} {ι ι' : Nat → Option Nat} {g l : Env} {s s' : St} {a : Act} {w w' : World}
theorem rep_keepc {ι ι' : Nat → Option Nat} {F F' : Nat → Nat → Prop} {w w' : World}
  (hext : ∀ o b, ι o = some b → ι' o = some b)
  (hcell : ∀ b off v, w.cell? ⟨b, off, none⟩ = some v → ¬ F b off → w'.cell? ⟨b, off, none⟩ = some v)
  (hfoot : ∀ b off, b < w.heap.size → F' b off → F b off)
  (hshape : ∀ b n, BlockOf w b n → BlockOf w' b n) (hmaps : ∀ b ces c, w.heap[b]? = some (.map ces c) → (∀ off, ¬ F b off) → w'.heap[b]? = some (.map ces c)) {v : Value} {x : AV} (h : Rep ι F w v x) : Rep ι' F' w' v x := by
 induction h with
 | any v => exact .any v
 | bool b => exact .bool b
 | int k n => exact .int k n
 | str s => exact .str s
 | @list a len cap sz t xs cs hlen hcap hsz ht hnone hc hr ih =>
  refine .list cs hlen hcap hsz ?_ hnone (fun j hj => ?_) ih
  ·cases t with
   | none => trivial
   | full => exact ht
   | own o =>
    rcases ht with ht | ⟨b, h1, h2, h3⟩
    ·exact .inl ht
    ·exact .inr ⟨b, hext _ _ h1, h2, hshape _ _ h3⟩
  ·obtain ⟨ad, h1, h2, h3, h4, h5⟩ := hc j hj
   have hb := lt_of_cell h3
   exact ⟨ad, h1, h2, hcell _ _ _ h3 h4, fun hf => h4 (hfoot _ _ hb hf), h5⟩
 | agg hl hc hr ih => exact .agg hl hc ih
 | tup hl hr ih => exact .tup hl ih
 | ptr off h => exact .ptr off (hext _ _ h)
 | cptr cs ha hc hr ih =>
  refine .cptr cs ha (fun j hj => ?_) ih
  obtain ⟨h3, h4, h5⟩ := hc j hj
  have hb := lt_of_cell h3
  exact ⟨hcell _ _ _ h3 h4, fun hf => h4 (hfoot _ _ hb hf), h5⟩
 | nilptr => exact .nilptr
 | fn f hl hl' hf hr ih1 ih2 => exact .fn f hl hl' ih1 ih2
 | nilfn => exact .nilfn
 | map h => exact .map (hext _ _ h)
 | nilmap => exact .nilmap
 | cmap h hf hin hout hnd => exact .cmap (hmaps _ _ _ h hf) (fun off h' => hf off (hfoot _ off (Array.getElem?_eq_some_iff.1 h).1 h')) hin hout hnd
 | kmap σ h hf hsz hσ hinj hsur hborn hnd hk hv ih1 ih2 => exact .kmap σ (hmaps _ _ _ h hf) (fun off h' => hf off (hfoot _ off (Array.getElem?_eq_some_iff.1 h).1 h')) hsz hσ hinj hsur hborn hnd ih1 ih2
 | mref h hcap hb => exact .mref (hext _ _ h) hcap (hshape _ _ hb)
 | mnil => exact .mnil
 | aptr h => exact .aptr (hext _ _ h)
 | yld h => exact .yld (hext _ _ h)
section
variable {S : Store} {row : Option Nat}
structure Grown (S : Store) (ι : Nat → Option Nat) (w w' : World) (row : Option Nat) : Prop where
 by' : w.grownBy w' row
 row : ∀ r, row = some r → (∃ o, w.heap[r]? = some o ∧ o.isCells = false ∧ ∀ ces c, o ≠ .map ces c) ∧ ¬ Blk ι S r
theorem Grown.cell (h : Grown S ι w w' row) {b off : Nat} {v : Value} (hc : w.cell? ⟨b, off, none⟩ = some v) : w'.cell? ⟨b, off, none⟩ = some v := by
 refine (World.cell?_of_block (h.by'.block b (lt_of_cell hc) fun e => ?_)).trans hc
 obtain ⟨⟨o, ho, hn, _⟩, _⟩ := h.row b e.symm
 cases o <;> simp [World.cell?, ho, Obj.isCells] at hc hn
theorem Grown.shape (h : Grown S ι w w' row) {b n : Nat} (hb : BlockOf w b n) : BlockOf w' b n := by
 obtain ⟨c, e, hc, hn⟩ := hb
 refine ⟨c, e, (h.by'.block b (Array.getElem?_eq_some_iff.1 hc).1 fun e' => ?_).trans hc, hn⟩
 obtain ⟨⟨o, ho, hno, _⟩, _⟩ := h.row b e'.symm
 rw [hc] at ho; cases ho; cases hno
theorem Grown.maps (h : Grown S ι w w' row) {b : Nat} {ces : Array MapEntry} {c : Nat} (hb : w.heap[b]? = some (.map ces c)) : w'.heap[b]? = some (.map ces c) := by
 refine (h.by'.block b (Array.getElem?_eq_some_iff.1 hb).1 fun e => ?_).trans hb
 obtain ⟨⟨o, ho, _, hno⟩, _⟩ := h.row b e.symm
 rw [hb] at ho; cases ho; exact hno _ _ rfl
theorem Grown.rep [Glob] (h : Grown S ι w w' row) {F : Nat → Nat → Prop} {v : Value} {x : AV} (hr : Rep ι F w v x) : Rep ι F w' v x :=
 rep_keepc (fun _ _ h => h) (fun _ _ _ hc _ => h.cell hc) (fun _ _ _ h => h) (fun _ _ h' => h.shape h') (fun _ _ _ h' _ => h.maps h') hr
theorem Grown.wf [Glob] (h : Grown S ι w w' row) (hw : WF ι S w) : WF ι S w' :=
 ⟨fun o b ho => Nat.lt_of_lt_of_le (hw.blt o b ho) h.by'.size, hw.inj, fun o obj b ho hb =>
  (hw.rep o obj b ho hb).keep (fun v x hr => h.rep hr) (h.by'.block b (hw.blt o b hb) fun e => (h.row b e.symm).2 ⟨o, obj, ho, hb⟩), fun g x hg => h.rep (hw.laid g x hg)⟩
theorem Grown.step [Glob] (h : Grown S ι w w' row) {ι0 : Nat → Option Nat} {S0 : Store} {w0 : World} (hs : Step ι0 S0 w0 ι S w) (hr : ∀ r, row = some r → w0.heap.size ≤ r) : Step ι0 S0 w0 ι S w' where
 os := h.by'.os.trans hs.os
 tape := h.by'.tape.trans hs.tape
 output := h.by'.output.trans hs.output
 size := Nat.le_trans hs.size h.by'.size
 blk b hb hn := (h.by'.block b (Nat.lt_of_lt_of_le hb hs.size) fun e => by have := hr b e.symm; omega).trans (hs.blk b hb hn)
 cell b off hb hn := (World.cell?_of_block (h.by'.block b (Nat.lt_of_lt_of_le hb hs.size) fun e => by have := hr b e.symm; omega)).trans (hs.cell b off hb hn)
 shape b n hb := h.shape (hs.shape b n hb)
 maps b ces c hb hn := h.maps (hs.maps b ces c hb hn)
 ext := hs.ext
 foot := hs.foot
 nblk := hs.nblk
end
def markD (D : Nat) : Deferred := { target := .collected D, args := #[] }
def DefOK (B : Nat) (ι : Nat → Option Nat) (S : Store) (d : List Deferred) (w : World) : Prop :=
 B ≤ w.heap.size ∧ ∃ Ds : List Nat, d = Ds.map markD ∧ Ds.Nodup ∧ ∀ D ∈ Ds, B ≤ D ∧ w.heap[D]? = some (.deferred (some [])) ∧ ¬ Blk ι S D
theorem DefOK.nil {B : Nat} {S : Store} (h : B ≤ w.heap.size) : DefOK B ι S [] w := ⟨h, [], rfl, by simp, by simp⟩
theorem DefOK.step {B : Nat} {S S' : Store} {d : List Deferred} (hs : Step ι S w ι' S' w') (h : DefOK B ι S d w) : DefOK B ι' S' d w' := by
 obtain ⟨h0, Ds, h1, h2, h3⟩ := h
 refine ⟨Nat.le_trans h0 hs.size, Ds, h1, h2, fun D hD => ?_⟩
 obtain ⟨k0, k1, k2⟩ := h3 D hD
 have hlt := (Array.getElem?_eq_some_iff.1 k1).1
 exact ⟨k0, (hs.blk D hlt k2).trans k1, fun hb => k2 (hs.nblk D hlt hb)⟩
theorem Rel.move [Glob] (h : Rel gs N ι g l s a w) (hst : Step ι s.m w ι' s'.m w') (hwf : WF ι' s'.m w') (hb : Bnd ι' s'.m s'.nx) : Rel gs N ι' g l s' a w' :=
 ⟨hwf, hb, h.size, h.defers, fun t ht => (h.glob t ht).step hst, fun t ht => (h.loc t ht).step hst⟩
theorem bnd_set {o : Nat} {ob ob' : AObj} (h : Bnd ι s.m s.nx) (ho : s.m o = some ob) : Bnd ι (s.set o ob').m (s.set o ob').nx :=
 ⟨fun r x hr => by
  by_cases e : r = o
  ·subst e; exact h.lt r _ ho
  ·simp [St.set, e] at hr; exact h.lt r x hr, h.ilt⟩
theorem bnd_del [Glob] {o : Nat} (h : Bnd ι s.m s.nx) : Bnd ι (s.del o).m (s.del o).nx := ⟨fun r x hr => h.lt r x (delS_sub s.m o r x hr), h.ilt⟩
theorem put_loop [Glob] {o b : Nat} {st n : Nat} {j : Option (Option Nat)} {env : Env} {ps : List Nat} {ca cb : Code} (hwf : WF ι s.m w) (ho : s.m o = some (.loop st j env ps n ca cb)) (hb : ι o = some b) :
  ∃ r : Loop, w.heap[b]? = some (.loop r) ∧ r.state = lst st ∧ r.pending = j.map jcode ∧ r.params = ps.toArray ∧ r.assign = ca ∧ r.body = cb ∧ r.tmps.size = n ∧
   (∀ t, Rep ι (Foot ι s.m) w (r.tmps.getD t undef) (env.get t)) ∧
   ∀ st' j', Step ι s.m w ι (s.set o (.loop st' j' env ps n ca cb)).m (w.putObj b (.loop { r with state := lst st', pending := j'.map jcode })) ∧
    WF ι (s.set o (.loop st' j' env ps n ca cb)).m (w.putObj b (.loop { r with state := lst st', pending := j'.map jcode })) := by
 obtain ⟨D, fn, tmps, h1, h2, h3⟩ := hwf.rep o _ b ho hb
 refine ⟨_, h1, rfl, rfl, rfl, rfl, rfl, h2, h3, fun st' j' => ?_⟩
 exact put_obj (co' := .loop { state := lst st', pending := j'.map jcode, fn, tmps, params := ps.toArray, assign := ca, body := cb, defers := D }) (obj' := .loop st' j' env ps n ca cb) hwf ho hb h1 (fun _ _ _ h => by cases h) (fun _ _ _ h => by cases h)
  (fun _ => trivial) fun hR hh => ⟨D, fn, tmps, hh, h2, fun t => hR _ _ (h3 t)⟩
theorem new_loop [Glob] (hwf : WF ι s.m w) (hι : ι s.nx = none) (r : Loop) {n : Nat} {env : Env} {ps : List Nat} (h0 : r.state = .ready) (h1 : r.pending = none) (h2 : r.params = ps.toArray) (h3 : r.tmps.size = n) (h4 : ∀ t, Rep ι (Foot ι s.m) w (r.tmps.getD t undef) (env.get t)) :
  Step ι s.m w (putι ι s.nx w.heap.size) (s.new (.loop 0 none env ps n r.assign r.body)).m (w.alloc (.loop r)) ∧ WF (putι ι s.nx w.heap.size) (s.new (.loop 0 none env ps n r.assign r.body)).m (w.alloc (.loop r)) := by
 have hs := alloc_obj_step hwf hι (.loop r) (.loop 0 none env ps n r.assign r.body)
 refine ⟨hs, alloc_obj_wf hwf hι _ _ ⟨r.defers, r.fn, r.tmps, ?_, h3, fun t => (h4 t).step hs⟩⟩
 rw [heap_alloc_eq]
 obtain ⟨st, pe, fn, tmps, ps', as, bd, df⟩ := r
 simp only at h0 h1 h2
 subst h0 h1 h2
 rfl
theorem bindPs_rep : ∀ (ps : List Nat) (vs : List Value) (args : List AV) (tmps : Array Value) (env : Env) {F : Nat → Nat → Prop}, (∀ p ∈ ps, p < tmps.size) → vs.length = ps.length → args.length = ps.length →
  (∀ (j : Nat) v x, vs[j]? = some v → args[j]? = some x → Rep ι F w v x) → (∀ t, Rep ι F w (tmps.getD t undef) (env.get t)) →
  ((ps.zip vs).foldl (fun t (p : Nat × Value) => t.setIfInBounds p.1 p.2) tmps).size = tmps.size ∧
   ∀ t, Rep ι F w (((ps.zip vs).foldl (fun t (p : Nat × Value) => t.setIfInBounds p.1 p.2) tmps).getD t undef) ((bindPs ps args env).get t)
 | [], vs, args, tmps, env, F, _, _, _, _, h => ⟨rfl, fun t => by cases args <;> exact h t⟩
 | p :: ps, v :: vs, x :: args, tmps, env, F, hp, h1, h2, hr, h => by
  have hp0 : p < tmps.size := hp p (by simp)
  have := bindPs_rep ps vs args (tmps.setIfInBounds p v) ((p, x) :: env) (F := F) (fun q hq => by simpa using hp q (by simp [hq])) (by simpa using h1) (by simpa using h2) (fun j u y hu hy => hr (j + 1) u y hu hy) (fun t => by
   simp only [Env.get]
   by_cases e : p = t
   ·subst e
    simpa [hp0] using hr 0 v x rfl rfl
   ·have := h t
    simpa [e, Array.getElem?_setIfInBounds_ne e, Array.getD_eq_getD_getElem?] using this)
  simpa [bindPs] using this
 | p :: ps, [], _, _, _, _, _, h1, _, _, _ => by simp at h1
 | p :: ps, _ :: _, [], _, _, _, _, _, h2, _, _ => by simp at h2
theorem envK_get (keep : List Nat) (g : Env) (t : Nat) : (envK keep g).get t = if t ∈ keep then g.get t else .any := by
 induction keep with
 | nil => rfl
 | cons k r ih =>
  simp only [envK, List.map_cons, Env.get] at ih ⊢
  by_cases e : k = t
  ·subst e; simp
  ·rw [if_neg e, ih]
   simp [Ne.symm e]
section
variable {F : Fence} {n : Nat} {Q : Exit → Act → World → Prop}
theorem wpIn_loop_ix {c : Code} (J : Nat → Act → World → Prop) {m : Nat} (h₀ : J m a w)
  (round : ∀ m a w, J m a w → c.wpIn F n P (Exit.then (fun a' w' => ∃ j, j < m ∧ J j a' w') Q) a w) : (Code.loop c).wpIn F n P Q a w := by
 intro b k cs hro hb hr
 have key : ∀ m a w, J m a w →
   ∃ e a' w', Q e a' w' ∧ ArrivesIn (Machine.fenced P F) P (lone (b.atR a (.code c :: .inLoop c :: k)) cs w) b k cs e a' w' := by
  intro m
  induction m using Nat.strongRecOn with
  | _ m ih =>
   intro a w hI
   obtain ⟨e, a₁, w₁, hq, harr⟩ := round m a w hI b (.inLoop c :: k) cs hro hb hr
   cases e with
   | normal =>
    obtain ⟨j, hlt, hI₁⟩ := hq
    obtain ⟨e₂, a₂, w₂, hq₂, harr₂⟩ := ih j hlt a₁ w₁ hI₁
    exact ⟨e₂, a₂, w₂, hq₂, .of_steps (StepsIn.trans harr (.one (fenced_calm hb hr rfl) stepR_inLoop)) harr₂⟩
   | exit id => exact ⟨_, a₁, w₁, hq, .pass (x := .inLoop c) rfl (fun _ _ => .inl (by simp)) harr⟩
   | goto l => exact ⟨_, a₁, w₁, hq, .pass (x := .inLoop c) rfl (fun _ _ => .inl (by simp)) harr⟩
   | ret => exact ⟨_, a₁, w₁, hq, .pass (x := .inLoop c) rfl (fun _ _ => .inl (by simp)) harr⟩
   | panic ch => exact ⟨_, a₁, w₁, hq, .pass (x := .inLoop c) rfl (fun _ _ => .inl (by simp)) harr⟩
   | outgrown => exact ⟨_, a₁, w₁, hq, .pass (x := .inLoop c) rfl (fun _ _ => .inl (by simp)) harr⟩
 obtain ⟨e, a', w', hq, harr⟩ := key m a w h₀
 exact ⟨e, a', w', hq, .of_steps (.one (fenced_calm hb hr rfl) stepR_loop) harr⟩
theorem stepR_scope {b : Frame} {k : List Item} {cs : List Frame} {c : Code} : step P (lone (b.atR a (.code (.scope c) :: k)) cs w) = .next (lone (b.atR a (.code c :: .inScope c :: k)) cs w) :=
 step_lone_go (by simp [stepG, stepG.exec, Frame.atR])
theorem stepR_inScope {b : Frame} {k : List Item} {cs : List Frame} {c : Code} : step P (lone (b.atR a (.inScope c :: k)) cs w) = .next (lone (b.atR a k) cs w) :=
 step_lone_go (by simp [stepG, stepG.exec, Frame.atR])
theorem wpIn_scope0 [Glob] {c : Code} (hg : ∀ l a w, ¬ Q (.goto l) a w) (h : c.wpIn F n P Q a w) : (Code.scope c).wpIn F n P Q a w := by
 intro b k cs hro hb hr
 have h0 : (lone (b.atR a (.code (.scope c) :: k)) cs w).fenced P F := fenced_calm hb hr rfl
 obtain ⟨e, a₁, w₁, hq, harr⟩ := h b (.inScope c :: k) cs hro hb hr
 cases e with
 | normal => exact ⟨.normal, a₁, w₁, hq, .head h0 stepR_scope (StepsIn.trans harr (.one (fenced_calm hb hr rfl) stepR_inScope))⟩
 | exit id' =>
  have hx : exitTo id' (.inScope c :: k) = exitTo id' k := by simp [exitTo]
  exact ⟨.exit id', a₁, w₁, hq, fun k' hk => .head h0 stepR_scope (harr.1 k' (by rw [hx]; exact hk)),
    fun hr' hk => let ⟨k₁, h1, h2⟩ := harr.2 hr' (by rw [hx]; exact hk); ⟨k₁, h1, .head h0 stepR_scope h2⟩⟩
 | goto l => exact absurd hq (hg _ _ _)
 | ret => exact ⟨_, a₁, w₁, hq, .of_steps (.one h0 stepR_scope) harr⟩
 | panic ch => exact ⟨_, a₁, w₁, hq, .of_steps (.one h0 stepR_scope) harr⟩
 | outgrown => exact ⟨_, a₁, w₁, hq, .of_steps (.one h0 stepR_scope) harr⟩
end
end Go.AL
namespace Go.AL
variable {ro : Option Nat} {P : Program} {gs : List Nat} {N : Nat} {ι ι' : Nat → Option Nat} {g l : Env} {s s' : St} {a : Act} {w w' : World}
def After [Glob] (B : Nat) (gs : List Nat) (N : Nat) (ι0 : Nat → Option Nat) (s0 : St) (w0 : World) (Q : AExit → Env → St → Prop) (e : Exit) (a : Act) (w : World) : Prop :=
 ∃ ι g l s d a0, a = appD d a0 ∧ DefOK B ι s.m d w ∧ Rel gs N ι g l s a0 w ∧ Step ι0 s0.m w0 ι s.m w ∧ Inc ι0 ι s0.nx s.nx ∧ match e with | .normal => Q .normal g s | .exit i => Q (.exit i) g s | .ret => Q .ret g s | _ => False
theorem condOpd_val [Glob] {c : Operand} {y : AOpd} (h : condOpd gs c = some y) : opd gs c = some y ∧ ∀ l l', y.val g l = y.val g l' := by
 unfold condOpd at h
 split at h
 ·cases h
 ·rename_i hne
  refine ⟨h, fun l l' => ?_⟩
  cases y with
  | l t => exact absurd h (hne t)
  | _ => rfl
theorem Rel.frz [Glob] (h : Rel gs N ι g l s a w) {t o off : Nat} {cs : List AV} (ht : gs.contains t = true) (hg : g.get t = .ptr o off) (ho : s.m o = some (.box cs)) :
  Rel gs N ι ((t, .cptr (cs.drop off)) :: g) l (s.del o) a w ∧ Step ι s.m w ι (s.del o).m w := by
 have hsub := delS_sub s.m o
 have hst : Step ι s.m w ι (s.del o).m w := drop_step s.m (delS s.m o) hsub ι w
 have hwf : WF ι (s.del o).m w := h.wf.drop hsub
 refine ⟨⟨hwf, ⟨fun q ob hq => h.bnd.lt q ob (hsub q ob hq), h.bnd.ilt⟩, h.size, h.defers, fun u hu => ?_, fun u hu => (h.loc u hu).step hst⟩, hst⟩
 simp only [Env.get]
 split
 ·rename_i e
  subst e
  have hp := h.glob t ht
  rw [hg] at hp
  obtain ⟨b, hb, hv⟩ := rep_ptr hp
  rw [hv]
  have hc := (box_cellsAt (h.wf.rep o _ b ho hb)).drop off
  simp only [Nat.zero_add] at hc
  obtain ⟨_, f, hf⟩ := hc
  refine .cptr f rfl (fun j hj => ?_) (fun j x hx => ((hf j x hx).2.2).step hst)
  have hx : (cs.drop off)[j]? = some (cs.drop off)[j] := by simp [hj]
  obtain ⟨h1, h2, h3⟩ := hf j _ hx
  refine ⟨h1, ?_, h2⟩
  rintro ⟨q, ob, k1, k2, k3⟩
  have hq : q ≠ o := by
   intro e
   simp [St.del, e] at k1
  exact hq (h.wf.inj q o ob _ b (hsub q ob k1) ho k2 hb)
 ·exact (h.glob u hu).step hst
theorem frzs_sound [Glob] {B : Nat} {ι0 : Nat → Option Nat} {s0 : St} {w0 : World} {c : Code} : ∀ (ts : List Nat) (x : ACode), ts.all gs.contains = true →
  (∀ Q, awp P x Q g s → c.wpIn (inR ro) 0 P (After B gs N ι0 s0 w0 Q) a w) → ∀ Q, awp P (frzs ts x) Q g s → c.wpIn (inR ro) 0 P (After B gs N ι0 s0 w0 Q) a w
 | [], x, _, hx, Q, h => hx Q h
 | t :: r, x, ht, hx, Q, h => by
  simp only [List.all_cons, Bool.and_eq_true] at ht
  refine frzs_sound r (.seq x (.frz t)) ht.2 (fun Q' h' => ?_) Q h
  refine wpIn_mono (hx _ h') fun e a' w' ⟨ι', g', l', s', d, a0, h0, hd, h1, h2, h3, h4⟩ => ?_
  cases e with
  | normal =>
   simp only [awp] at h4
   split at h4
   ·rename_i o off hg
    split at h4
    ·rename_i cs ho
     obtain ⟨k1, k2⟩ := h1.frz ht.1 hg ho
     exact ⟨ι', _, l', _, d, a0, h0, hd.step k2, k1, h2.trans k2, h3, h4⟩
    ·exact h4.elim
   ·exact h4.elim
  | exit i => exact ⟨ι', g', l', s', d, a0, h0, hd, h1, h2, h3, h4⟩
  | ret => exact ⟨ι', g', l', s', d, a0, h0, hd, h1, h2, h3, h4⟩
  | _ => exact h4.elim
def CS [Glob] (P : Program) (gs : List Nat) (N : Nat) (c : Code) : Prop :=
 ∀ (B : Nat) (ro : Option Nat) (ac : ACode), (ro = none ∨ flatC c = true) → compileCode P gs N c = some ac → ∀ (ι0 : Nat → Option Nat) (s0 : St) (w0 : World) (Q : AExit → Env → St → Prop) (ι : Nat → Option Nat) (g l : Env) (s : St) (a : Act) (d : List Deferred) (w : World),
  awp P ac Q g s → Rel gs N ι g l s a w → DefOK B ι s.m d w → Step ι0 s0.m w0 ι s.m w → Inc ι0 ι s0.nx s.nx → c.wpIn (inR ro) 0 P (After B gs N ι0 s0 w0 Q) (appD d a) w
theorem loop_eq {r : Loop} {st : LoopState} {j : Option Code} (h1 : r.pending = j) : ({ r with state := st } : Loop) = { r with state := st, pending := j } := by
 subst h1; rfl
theorem rnd_sound [Glob] {as bd : Code} {a' b' : ACode} {ps : List Nat} {o : Nat} {env : Env} (iha : CS P gs N as) (ihb : CS P gs N bd) (hfa : flatC as = true) (hfb : flatC bd = true) (hps : ∀ p ∈ ps, p < N)
  (ha : compileCode P gs N as = some a') (hb : compileCode P gs N bd = some b') (henv : ∀ t, gs.contains t = true ∨ env.get t = .any) : rndOK P o env ps N as bd (awp P a') (awp P b') := by
 intro args s1 K hobj hlen hawp ι1 w1 vs L hwf hbnd hL hvs
 obtain ⟨r, hr, r1, r2, r3, r4, r5, r6, r7, r8⟩ := put_loop hwf hobj hL
 have hsz : vs.size = r.params.size := by rw [hvs.1, hlen, r3]; simp
 refine ⟨r.fn, _, r.assign, r.body, run_yield hr hsz, roundIn_of_wpIn trivial ?_⟩
 obtain ⟨b1, b2⟩ := bindPs_rep ps vs.toList args r.tmps env (F := Foot ι1 s1.m) (fun p hp => by rw [r6]; exact hps p hp) (by rw [Array.length_toList, hsz, r3]; simp) hlen (fun j v x hv hx => hvs.2 j v x (by simpa using hv) hx) r7
 have hfold : (r.params.zip vs).foldl (fun tmps (x : Nat × Value) => tmps.setIfInBounds x.1 x.2) r.tmps = (ps.zip vs.toList).foldl (fun t (p : Nat × Value) => t.setIfInBounds p.1 p.2) r.tmps := by
  rw [r3, ← Array.foldl_toList]
  congr 1
  simp [Array.toList_zip]
 have hrel : Rel gs N ι1 (bindPs ps args env) [] s1 { tmps := (r.params.zip vs).foldl (fun tmps (x : Nat × Value) => tmps.setIfInBounds x.1 x.2) r.tmps, defers := [] } w1 := by
  refine ⟨hwf, hbnd, ?_, rfl, fun t ht => ?_, fun t ht => .any _⟩
  ·simp only [hfold]; rw [b1, r6]
  ·simp only [hfold]; exact b2 t
 have h1 := iha 0 (some L) a' (.inr hfa) ha ι1 s1 w1 _ ι1 _ [] s1 _ [] w1 hawp hrel (DefOK.nil (Nat.zero_le _)) (Step.refl _ _ _) (Inc.refl _ _)
 rw [appD_nil] at h1
 rw [r4, r5]
 refine wpIn_mono h1 ?_
 rintro e a2 w2 ⟨ι2, g2, l2, s2, d2, a0, rfl, hd2, hrel2, hst2, hinc2, hq⟩
 cases e with
 | normal =>
  obtain ⟨hobj2, hbody⟩ := hq
  have hL2 := hst2.ext _ _ hL
  obtain ⟨r', k0, k1, k2, k3, k4, k5, k6, k7, k8⟩ := put_loop hrel2.wf hobj2 hL2
  obtain ⟨m1, m2⟩ := k8 1 none
  refine ⟨_, run_beginRound k0 k1, ?_⟩
  rw [loop_eq k2]
  have hrel3 := hrel2.move (s' := s2.set o _) m1 m2 (bnd_set hrel2.bnd hobj2)
  refine wpIn_mono (ihb 0 (some L) b' (.inr hfb) hb ι1 s1 w1 _ ι2 _ _ _ a0 d2 _ hbody hrel3 (hd2.step m1) (hst2.trans m1) hinc2) ?_
  rintro e a3 w3 ⟨ι3, g3, l3, s3, d3, a0', rfl, hd3, hrel3, hst3, hinc3, hq⟩
  have hL3 := hst3.ext _ _ hL
  cases e with
  | normal =>
   obtain ⟨hobj3, hK⟩ := hq
   obtain ⟨r', k0, k1, k2, k3, k4, k5, k6, k7, k8⟩ := put_loop hrel3.wf hobj3 hL3
   obtain ⟨m1, m2⟩ := k8 0 none
   exact ⟨_, _, run_endRound none k0, _, _, _, ι3, rfl, hst3.trans m1, m2, bnd_set hrel3.bnd hobj3, hinc3, .bool _, hK⟩
  | ret =>
   obtain ⟨hobj3, hK⟩ := hq
   obtain ⟨r', k0, k1, k2, k3, k4, k5, k6, k7, k8⟩ := put_loop hrel3.wf hobj3 hL3
   obtain ⟨m1, m2⟩ := k8 2 (some none)
   exact ⟨_, _, run_endRound _ k0, _, _, _, ι3, rfl, hst3.trans m1, m2, bnd_set hrel3.bnd hobj3, hinc3, .bool _, hK⟩
  | exit i =>
   obtain ⟨hobj3, hK⟩ := hq
   obtain ⟨r', k0, k1, k2, k3, k4, k5, k6, k7, k8⟩ := put_loop hrel3.wf hobj3 hL3
   obtain ⟨m1, m2⟩ := k8 2 (some (some i))
   exact ⟨_, _, run_endRound _ k0, _, _, _, ι3, rfl, hst3.trans m1, m2, bnd_set hrel3.bnd hobj3, hinc3, .bool _, hK⟩
  | _ => exact hq.elim
 | exit i => exact hq.elim
 | ret => exact hq.elim
 | _ => exact hq.elim
theorem rangeF_sound [Glob] {B : Nat} {f : Operand} {f' : AOpd} {as bd : Code} {a' b' : ACode} {ps : Array Nat} {ι0 : Nat → Option Nat} {s0 : St} {w0 : World} {Q : AExit → Env → St → Prop} {d : List Deferred} (iha : CS P gs N as) (ihb : CS P gs N bd) (hfa : flatC as = true) (hfb : flatC bd = true)
  (hps : ∀ p ∈ ps.toList, p < N) (hf : condOpd gs f = some f') (ha : compileCode P gs N as = some a') (hb : compileCode P gs N bd = some b')
  (h : awp P (.rfunc f' ps.toList N (keepOf gs N as bd) a' b') Q g s) (hr : Rel gs N ι g l s a w) (hd : DefOK B ι s.m d w) (hs : Step ι0 s0.m w0 ι s.m w) (hn : Inc ι0 ι s0.nx s.nx) :
  (Code.rangeFunc f ps as bd).wpIn (inR none) 0 P (After B gs N ι0 s0 w0 Q) (appD d a) w := by
 obtain ⟨ho, hv⟩ := condOpd_val (g := g) hf
 have hval := hr.val f f' ho
 rw [hv l []] at hval
 have hY : rndOK P s.nx (envK (keepOf gs N as bd) g) ps.toList N as bd (awp P a') (awp P b') := rnd_sound iha ihb hfa hfb hps ha hb fun t => by
  rw [envK_get]
  by_cases ht : t ∈ keepOf gs N as bd
  ·exact .inl (keepOf_gs ht)
  ·exact .inr (if_neg ht)
 have h := h as bd hY
 have hda : a.defers = [] := hr.defers
 refine wpIn_rangeFunc fun fn hfn => ?_
 -- the block for deferred calls
 have hg1 : w.grownBy (w.alloc (.deferred (some []))) none := by
  refine ⟨rfl, rfl, rfl, by simp, fun k hk _ => RowKit.Below.heap_alloc w _ k hk⟩
 have hG : Grown s.m ι w (w.alloc (.deferred (some []))) none := ⟨hg1, fun r e => by cases e⟩
 have hst1 := hG.step (Step.refl ι s.m w) (fun r e => by cases e)
 have hwf1 := hG.wf hr.wf
 have hι : ι s.nx = none := by
  cases h : ι s.nx with
  | none => rfl
  | some b => exact absurd (hr.bnd.ilt _ b h) (Nat.lt_irrefl _)
 have hr1 : ∀ t, Rep ι (Foot ι s.m) (w.alloc (.deferred (some []))) (a.tmps.getD t undef) ((envK (keepOf gs N as bd) g).get t) := fun t => by
  rw [envK_get]
  split
  ·rename_i ht; exact hG.rep (hr.glob t (keepOf_gs ht))
  ·exact .any _
 obtain ⟨m1, m2⟩ := new_loop (s := s) hwf1 hι { state := .ready, pending := none, fn, tmps := a.tmps, params := ps, assign := as, body := bd, defers := w.heap.size } (n := N) (ps := ps.toList) (env := envK (keepOf gs N as bd) g) rfl rfl (by simp) hr.size hr1
 simp only [World.size_alloc] at m1 m2
 have hstL := hst1.trans m1
 have hbnd1 : Bnd (putι ι s.nx (w.heap.size + 1)) (s.new (.loop 0 none (envK (keepOf gs N as bd) g) ps.toList N as bd)).m (s.nx + 1) := by
  refine ⟨fun q ob hq => ?_, fun q b hq => ?_⟩
  ·by_cases e : q = s.nx
   ·omega
   ·simp [St.new, e] at hq; have := hr.bnd.lt q ob hq; omega
  ·by_cases e : q = s.nx
   ·omega
   ·simp [putι, e] at hq; have := hr.bnd.ilt q b hq; omega
 have hinc1 : Inc ι (putι ι s.nx (w.heap.size + 1)) s.nx (s.nx + 1) := ⟨by omega, fun q b hq hlt => by
  have e : q ≠ s.nx := by omega
  simpa [putι, e] using hq⟩
 have hDk : ((w.alloc (.deferred (some []))).alloc (.loop { state := .ready, pending := none, fn, tmps := a.tmps, params := ps, assign := as, body := bd, defers := w.heap.size })).heap[w.heap.size]? = some (.deferred (some [])) :=
  (RowKit.Below.heap_alloc _ _ _ (by simp)).trans (World.alloc_heap_new w _)
 have hDb : ¬ Blk (putι ι s.nx (w.heap.size + 1)) (s.new (.loop 0 none (envK (keepOf gs N as bd) g) ps.toList N as bd)).m w.heap.size := by
  rintro ⟨q, ob, q1, q2⟩
  by_cases e : q = s.nx
  ·subst e; simp [putι] at q2
  ·simp [putι, e] at q2; exact absurd (hr.wf.blt q _ q2) (Nat.lt_irrefl _)
 have hd1 : DefOK B (putι ι s.nx (w.heap.size + 1)) (s.new (.loop 0 none (envK (keepOf gs N as bd) g) ps.toList N as bd)).m (markD w.heap.size :: d) ((w.alloc (.deferred (some []))).alloc (.loop { state := .ready, pending := none, fn, tmps := a.tmps, params := ps, assign := as, body := bd, defers := w.heap.size })) := by
  obtain ⟨e0, Ds, e1, e2, e3⟩ := hd.step hstL
  have hlt : ∀ D ∈ Ds, D < w.heap.size := by
   obtain ⟨f0, Ds', f1, f2, f3⟩ := hd
   intro D hD
   have : Ds = Ds' := by
    have := e1.symm.trans f1
    exact (List.map_inj_right (fun x y (h : markD x = markD y) => by simpa [markD] using h)).1 this
   subst this
   exact (Array.getElem?_eq_some_iff.1 (f3 D hD).2.1).1
  refine ⟨e0, w.heap.size :: Ds, by simp [e1], List.nodup_cons.2 ⟨fun hm => absurd (hlt _ hm) (Nat.lt_irrefl _), e2⟩, fun D hD => ?_⟩
  rcases List.mem_cons.1 hD with rfl | hD
  ·exact ⟨hd.1, hDk, hDb⟩
  ·exact e3 D hD
 cases hfv : f'.val g [] <;> rw [hfv] at h hval <;> simp only [callee] at h
 rename_i fid first cap
 obtain ⟨hcb, hcall⟩ := h
 cases hav : a.eval f <;> rw [hav] at hval <;> try (cases hval; done)
 rename_i fn0 fs cs
 cases fn0 <;> try (cases hval; done)
 rename_i fid0
 obtain ⟨rfl, hvs⟩ : fid0 = fid ∧ RepL (putι ι s.nx (w.heap.size + 1)) (Foot (putι ι s.nx (w.heap.size + 1)) (s.new (.loop 0 none (envK (keepOf gs N as bd) g) ps.toList N as bd)).m) ((w.alloc (.deferred (some []))).alloc (.loop { state := .ready, pending := none, fn, tmps := a.tmps, params := ps, assign := as, body := bd, defers := w.heap.size }))
   (fs ++ #[.func (.yield (w.heap.size + 1)) #[] #[]] ++ cs) (first ++ [.yld s.nx] ++ cap) := by
  cases hval with
  | fn _ hl hl' hff hrr =>
   refine ⟨rfl, RepL.append (RepL.append ⟨hl, fun j v x hv hx => (hff j v x hv hx).step hstL⟩ ⟨rfl, fun j v x hv hx => ?_⟩) ⟨hl', fun j v x hv hx => (hrr j v x hv hx).step hstL⟩⟩
   cases j with
   | zero => simp at hv hx; subst hv hx; exact .yld (by simp [putι])
   | succ j => simp at hv
 have henter := run_enterLoop_outer (P := P) (w := w) fn a.tmps ps as bd
 generalize hW1 : (w.alloc (.deferred (some []))).alloc (.loop { state := .ready, pending := none, fn, tmps := a.tmps, params := ps, assign := as, body := bd, defers := w.heap.size }) = W1 at henter hvs hd1 hDk hstL m1 m2
 refine ⟨w.heap.size + 1, [markD w.heap.size], W1, { target := .fn (.func fid0) cs, args := fs ++ #[.func (.yield (w.heap.size + 1)) #[] #[]] }, W1, fid0, fs ++ #[.func (.yield (w.heap.size + 1)) #[] #[]] ++ cs, W1,
  henter, ?_, fun _ _ => trivial, ?_, by simp [inR, Fence.wide], ?_⟩
 ·simp [resolve, appD_eval, hav, Deferred.ofValue]
  rfl
 ·have := hcb (fs.push (.func (.yield (w.heap.size + 1)) #[] #[]) ++ cs) W1
  simp [invoke]
  exact this
 refine CallsIn.mono (calls_inR (hcall _ _ _ m2 hbnd1 hvs)) ?_
 rintro e w3 ⟨v, r, s3, ι3, rfl, hst3, hwf3, hbnd3, hinc3, hrep3, st, j, hobj3, hne, hm⟩
 have hL3 : ι3 s.nx = some (w.heap.size + 1) := hst3.ext _ _ (by simp [putι])
 obtain ⟨r', k0, k1, k2, k3, k4, k5, k6, k7, k8⟩ := put_loop hwf3 hobj3 hL3
 obtain ⟨p1, p2⟩ := k8 3 j
 have hbusy : r'.state ≠ .busy := by
  rw [k1]
  match st, hne with
  | 0, _ => simp [lst]
  | 2, _ => simp [lst]
  | n + 3, _ => simp [lst]
 have hsub : ∀ q ob, (s3.del s.nx).m q = some ob → (s3.set s.nx (.loop 3 j (envK (keepOf gs N as bd) g) ps.toList N as bd)).m q = some ob := by
  intro q ob hq
  by_cases e : q = s.nx
  ·subst e; simp [St.del] at hq
  ·simp [St.del, e] at hq; simp [St.set, e, hq]
 have q1 := drop_step _ _ hsub ι3 (w3.putObj (w.heap.size + 1) (.loop { r' with state := lst 3, pending := j.map jcode }))
 have q2 := p2.drop hsub
 refine ⟨_, _, run_endLoop k0 hbusy, ?_⟩
 rw [k2]
 have hst4 : Step ι s.m w ι3 (s3.del s.nx).m (w3.putObj (w.heap.size + 1) (.loop { r' with state := lst 3, pending := j.map jcode })) := hstL.trans (hst3.trans (p1.trans q1))
 have hrel4 : Rel gs N ι3 g l (s3.del s.nx) a (w3.putObj (w.heap.size + 1) (.loop { r' with state := lst 3, pending := j.map jcode })) := hr.move hst4 q2 (bnd_del hbnd3)
 have hd4 := hd1.step (hst3.trans (p1.trans q1))
 have happ : ({ appD d a with defers := [markD w.heap.size] ++ (appD d a).defers } : Act) = appD (markD w.heap.size :: d) a := by simp [appD, hda]
 rw [happ]
 match j, hm with
 | none, hm => exact ⟨ι3, g, l, _, _, a, rfl, hd4, hrel4, hs.trans hst4, hn.trans (hinc1.trans hinc3), hm⟩
 | some none, hm => exact wpIn_ret ⟨ι3, g, l, _, _, a, rfl, hd4, hrel4, hs.trans hst4, hn.trans (hinc1.trans hinc3), hm⟩
 | some (some i), hm => exact wpIn_exit ⟨ι3, g, l, _, _, a, rfl, hd4, hrel4, hs.trans hst4, hn.trans (hinc1.trans hinc3), hm⟩
theorem code_sound [Glob] (hdraws : P.follows .mixedOrders = true) : ∀ (c : Code), CS P gs N c := by
 intro c
 induction c with
 | skip =>
  intro B ro ac hro hc ι0 s0 w0 Q ι g l s a d w h hr hd hs hn
  cases hc
  exact wpIn_skip ⟨ι, g, l, s, d, a, rfl, hd, hr, hs, hn, h⟩
 | region id ops draw =>
  intro B ro ac hro hc ι0 s0 w0 Q ι g l s a d w h hr hd hs hn
  simp only [compileCode] at hc
  split at hc
  rotate_left
  ·cases hc
  rename_i hfr
  rw [Bool.and_eq_true] at hfr
  obtain ⟨hfr, htame⟩ := hfr
  simp only [Option.map_eq_some_iff] at hc
  obtain ⟨ac, hc, rfl⟩ := hc
  refine frzs_sound _ ac hfr (fun Q' h' => ?_) Q h
  clear h
  have h := h'
  clear h'
  split at hc
  ·rename_i k hmk
   clear hmk
   split at hc
   rotate_left
   ·cases hc
   rename_i hdr
   subst hdr
   simp only [compileRegion4] at hc
   generalize ((List.range (ops.size + 1)).find? fun j => decide (k < j) && sufOK ops j).getD 0 = m at hc
   split at hc
   rotate_left
   ·cases hc
   rename_i hchk
   simp only [Bool.and_eq_true, decide_eq_true_eq, List.all_eq_true, List.mem_range, Bool.or_eq_true, List.contains_iff_mem] at hchk
   obtain ⟨⟨⟨hkm, hsuf⟩, hsl⟩, haf⟩ := hchk
   split at hc
   rotate_left
   ·cases hc
   rename_i kinds oc hk hoc
   split at hc
   rotate_left
   ·cases hc
   rename_i hw
   rw [Bool.and_eq_true] at hw
   split at hc
   rotate_left
   ·cases hc
   rename_i ac' dc os suf hac hdc hos hsf
   split at hc
   rotate_left
   ·cases hc
   rename_i hfl
   simp only [Bool.and_eq_true] at hfl
   obtain ⟨⟨hcl, hfl⟩, hcn⟩ := hfl
   cases hc
   have T := text_of (by rw [Bool.and_eq_true]; exact hsl) hk hos hw.1 hcn
   have hln := T.len
   rw [preOps_size (sufOK_spec hsuf).le] at hln
   have htk : (os.take k).length = k := by simp; omega
   rw [awp, htk] at h
   refine float_sound d htame hdraws hkm hsuf T (fun j h1 h2 => ?_) hoc hac hcl (by simpa using hw.2) hdc (fun i hi hb => ?_) hsf (fun ι' g' l' s' a' w' h1 h2 h3 h4 => ⟨ι', g', l', s', d, a', rfl, hd.step h2, h1, hs.trans h2, hn.trans h3, h4⟩) h hr.clear (Step.refl _ _ _) (Inc.refl _ _)
   ·rcases haf j h2 with h3 | h3
    ·omega
    ·exact h3
   ·have hmem : i ∈ floats ((befores (preOps ops m).toList []).getD k []) k := by
     simp only [floats, List.mem_filter, List.mem_range, Bool.not_eq_true', hi, true_and]
     rw [← Bool.not_eq_true, List.contains_iff_mem]
     exact hb
    have h1 := List.all_eq_true.1 hfl i hmem
    have hoi : os[i]? = some (os[i]'(by omega)) := by simp
    rw [hoi] at h1
    refine ⟨_, hoi, ?_, fun x hx => List.all_eq_true.1 h1 x hx⟩
    rw [List.mem_filterMap]
    exact ⟨i, hmem, by rw [hoi]; rfl⟩
  rename_i hmk0
  clear hmk0
  split at hc
  ·rename_i hms
   simp only [Bool.and_eq_true] at hms
   obtain ⟨_, rfl⟩ := hms
   simp only [compileRegion3] at hc
   generalize ((List.range (ops.size + 1)).find? (lateOK ops)).getD ops.size = k at hc
   split at hc
   rotate_left
   ·cases hc
   rename_i hchk
   simp only [Bool.and_eq_true] at hchk
   split at hc
   rotate_left
   ·cases hc
   rename_i kinds oc oa hk hoc hoa
   split at hc
   rotate_left
   ·cases hc
   rename_i hw
   split at hc
   rotate_left
   ·cases hc
   rename_i e t hae hda hgc hga
   split at hc
   rotate_left
   ·cases hc
   rename_i hts
   simp only [Bool.and_eq_true, decide_eq_true_eq, bne_iff_ne, ne_eq, List.all_eq_true, List.mem_range] at hts
   split at hc
   rotate_left
   ·cases hc
   rename_i zs' acl dc os suf hz hac hdc hos hsf
   cases hc
   exact late_sound d htame hdraws hchk.1 (by simpa using hchk.2) hk hw hos hoc hac hgc hdc hts.1.2 hoa hae hga hda hts.1.1 hz (fun i hi o ho => by have := hts.2 i hi; rw [ho] at this; simpa using this) hsf (fun ι' g' l' s' a' w' h1 h2 h3 h4 => ⟨ι', g', l', s', d, a', rfl, hd.step h2, h1, hs.trans h2, hn.trans h3, h4⟩) h hr.clear (Step.refl _ _ _) (Inc.refl _ _)
  rename_i hms0
  clear hms0
  split at hc
  ·rename_i hms
   simp only [Bool.and_eq_true] at hms
   obtain ⟨_, rfl⟩ := hms
   simp only [compileRegion2] at hc
   generalize ((List.range (ops.size + 1)).find? (sufOK ops)).getD ops.size = k at hc
   split at hc
   ·rename_i hchk
    simp only [Bool.and_eq_true] at hchk
    split at hc
    ·rename_i kinds hk
     split at hc
     ·rename_i os suf hos hsf
      cases hc
      exact suf_sound d htame hdraws hchk.1 (by simpa using hchk.2) hk hos hsf (fun ι' g' l' s' a' w' h1 h2 h3 h4 => ⟨ι', g', l', s', d, a', rfl, hd.step h2, h1, hs.trans h2, hn.trans h3, h4⟩) h hr.clear (Step.refl _ _ _) (Inc.refl _ _)
     ·cases hc
    ·cases hc
   ·cases hc
  rename_i hms
  clear hms
  simp only [compileRegion] at hc
  split at hc
  ·rename_i hd
   subst hd
   split at hc
   ·rename_i hchk
    split at hc
    ·rename_i kinds hk
     simp only [Option.map_eq_some_iff] at hc
     obtain ⟨os, hos, rfl⟩ := hc
     exact draw_sound d htame hdraws hchk hk hos (fun ι' g' l' s' a' w' h1 h2 h3 h4 => ⟨ι', g', l', s', d, a', rfl, hd.step h2, h1, hs.trans h2, hn.trans h3, h4⟩) h hr.clear (Step.refl _ _ _) (Inc.refl _ _)
    ·cases hc
   ·cases hc
  ·rename_i hd
   simp only [Bool.not_eq_true] at hd
   subst hd
   simp only [Option.map_eq_some_iff] at hc
   obtain ⟨os, hos, rfl⟩ := hc
   exact wpR_region htame (seq_sound (Q := fun e a w => After B gs N ι0 s0 w0 _ e (appD d a) w) hos (fun ι' g' l' s' a' w' h1 h2 h3 h4 => ⟨ι', g', l', s', d, a', rfl, hd.step h2, h1, hs.trans h2, hn.trans h3, h4⟩) h hr.clear (Step.refl _ _ _) (Inc.refl _ _))
 | seq x y ihx ihy =>
  intro B ro ac hro hc ι0 s0 w0 Q ι g l s a d w h hr hd hs hn
  simp only [compileCode] at hc
  split at hc
  ·rename_i x' y' hx hy
   cases hc
   have hrx : ro = none ∨ flatC x = true := hro.imp (fun h => h) fun h => by simp only [flatC, Bool.and_eq_true] at h; exact h.1
   have hry : ro = none ∨ flatC y = true := hro.imp (fun h => h) fun h => by simp only [flatC, Bool.and_eq_true] at h; exact h.2
   refine wpIn_seq (wpIn_mono (ihx B ro x' hrx hx ι0 s0 w0 _ ι g l s a d w h hr hd hs hn) fun e a' w' ⟨ι', g', l', s', d', a0, h0, hd', h1, h2, h3, h4⟩ => ?_)
   subst h0
   cases e with
   | normal => exact ihy B ro y' hry hy ι0 s0 w0 Q ι' g' l' s' a0 d' w' h4 h1 hd' h2 h3
   | exit i => exact ⟨ι', g', l', s', d', a0, rfl, hd', h1, h2, h3, h4⟩
   | ret => exact ⟨ι', g', l', s', d', a0, rfl, hd', h1, h2, h3, h4⟩
   | _ => exact h4.elim
  ·cases hc
 | cond c x y ihx ihy =>
  intro B ro ac hro hc ι0 s0 w0 Q ι g l s a d w h hr hd hs hn
  simp only [compileCode] at hc
  split at hc
  ·rename_i c' x' y' hcc hx hy
   cases hc
   have hrx : ro = none ∨ flatC x = true := hro.imp (fun h => h) fun h => by simp only [flatC, Bool.and_eq_true] at h; exact h.1
   have hry : ro = none ∨ flatC y = true := hro.imp (fun h => h) fun h => by simp only [flatC, Bool.and_eq_true] at h; exact h.2
   obtain ⟨ho, hv⟩ := condOpd_val (g := g) hcc
   have hval := hr.val c c' ho
   simp only [awp] at h
   rw [hv l []] at hval
   split at h
   ·rename_i t ht
    rw [ht] at hval
    exact wpIn_cond_split (by rw [appD_eval]; exact rep_bool hval) (fun e => ihx B ro x' hrx hx ι0 s0 w0 Q ι g l s a d w (h.1 e) hr hd hs hn) (fun e => ihy B ro y' hry hy ι0 s0 w0 Q ι g l s a d w (h.2 e) hr hd hs hn)
   ·exact h.elim
  ·cases hc
 | block id b ih =>
  intro B ro ac hro hc ι0 s0 w0 Q ι g l s a d w h hr hd hs hn
  simp only [compileCode, Option.map_eq_some_iff] at hc
  obtain ⟨b', hb, rfl⟩ := hc
  refine wpIn_block (wpIn_mono (ih B ro b' (hro.imp (fun h => h) fun h => by simpa only [flatC] using h) hb ι0 s0 w0 _ ι g l s a d w h hr hd hs hn) fun e a' w' ⟨ι', g', l', s', d', a0, h0, hd', h1, h2, h3, h4⟩ => ?_)
  cases e with
  | normal => exact ⟨ι', g', l', s', d', a0, h0, hd', h1, h2, h3, h4⟩
  | exit i =>
   simp only [Exit.inBlock]
   simp only at h4
   split at h4
   ·rename_i e; rw [if_pos e]; exact ⟨ι', g', l', s', d', a0, h0, hd', h1, h2, h3, h4⟩
   ·rename_i e; rw [if_neg e]; exact ⟨ι', g', l', s', d', a0, h0, hd', h1, h2, h3, h4⟩
  | ret => exact ⟨ι', g', l', s', d', a0, h0, hd', h1, h2, h3, h4⟩
  | _ => exact h4.elim
 | scope b ih =>
  intro B ro ac hro hc ι0 s0 w0 Q ι g l s a d w h hr hd hs hn
  simp only [compileCode] at hc
  exact wpIn_scope0 (fun _ _ _ ⟨_, _, _, _, _, _, _, _, _, _, _, h⟩ => h) (ih B ro ac (hro.imp (fun h => h) fun h => by simpa only [flatC] using h) hc ι0 s0 w0 Q ι g l s a d w h hr hd hs hn)
 | label b =>
  intro B ro ac hro hc ι0 s0 w0 Q ι g l s a d w h hr hd hs hn
  cases hc
  exact wpIn_label ⟨ι, g, l, s, d, a, rfl, hd, hr, hs, hn, h⟩
 | loop b ih =>
  intro B ro ac hro hc ι0 s0 w0 Q ι g l s a d w h hr hd hs hn
  simp only [compileCode, Option.map_eq_some_iff] at hc
  obtain ⟨b', hb, rfl⟩ := hc
  obtain ⟨I, n, hI, hstep⟩ := h
  refine wpIn_loop_ix (fun n a w => ∃ ι g l s d a0, a = appD d a0 ∧ DefOK B ι s.m d w ∧ Rel gs N ι g l s a0 w ∧ Step ι0 s0.m w0 ι s.m w ∧ Inc ι0 ι s0.nx s.nx ∧ I n g s) (m := n) ⟨ι, g, l, s, d, a, rfl, hd, hr, hs, hn, hI⟩ ?_
  rintro n a w ⟨ι, g, l, s, d, a0, rfl, hd, hr, hs, hn, hI⟩
  refine wpIn_mono (ih B ro b' (hro.imp (fun h => h) fun h => by simpa only [flatC] using h) hb ι0 s0 w0 _ ι g l s a0 d w (hstep n g s hI) hr hd hs hn) fun e a' w' ⟨ι', g', l', s', d', a1, h0, hd', h1, h2, h3, h4⟩ => ?_
  cases e with
  | normal =>
   obtain ⟨m, hm, hI'⟩ := h4
   exact ⟨m, hm, ι', g', l', s', d', a1, h0, hd', h1, h2, h3, hI'⟩
  | exit i => exact ⟨ι', g', l', s', d', a1, h0, hd', h1, h2, h3, h4⟩
  | ret => exact ⟨ι', g', l', s', d', a1, h0, hd', h1, h2, h3, h4⟩
  | _ => exact h4.elim
 | exit id =>
  intro B ro ac hro hc ι0 s0 w0 Q ι g l s a d w h hr hd hs hn
  cases hc
  exact wpIn_exit ⟨ι, g, l, s, d, a, rfl, hd, hr, hs, hn, h⟩
 | ret =>
  intro B ro ac hro hc ι0 s0 w0 Q ι g l s a d w h hr hd hs hn
  cases hc
  exact wpIn_ret ⟨ι, g, l, s, d, a, rfl, hd, hr, hs, hn, h⟩
 | rangeFunc f ps as bd iha ihb =>
  intro B ro ac hro hc ι0 s0 w0 Q ι g l s a d w h hr hd hs hn
  simp only [compileCode] at hc
  split at hc
  rotate_left
  ·cases hc
  rename_i f' a' b' hf ha hb
  split at hc
  rotate_left
  ·cases hc
  rename_i hchk
  cases hc
  simp only [Bool.and_eq_true, List.all_eq_true, decide_eq_true_eq] at hchk
  obtain ⟨⟨hfa, hfb⟩, hps⟩ := hchk
  obtain rfl : ro = none := hro.resolve_right (by simp [flatC])
  exact rangeF_sound iha ihb hfa hfb hps hf ha hb h hr hd hs hn
 | _ => intro B ro ac hro hc; cases hc
theorem argEnv_get : ∀ (i : Nat) (args : List AV) (t : Nat), (argEnv i args).get t = if i ≤ t then args.getD (t - i) .any else .any
 | i, [], t => by simp [argEnv, Env.get]
 | i, v :: r, t => by
  simp only [argEnv, Env.get]
  by_cases h : i = t
  ·subst h; simp
  ·rw [if_neg h, argEnv_get (i + 1) r t]
   by_cases h1 : i + 1 ≤ t
   ·rw [if_pos h1, if_pos (by omega)]
    have : t - i = t - (i + 1) + 1 := by omega
    rw [this]; simp
   ·rw [if_neg h1, if_neg (by omega)]
theorem results_sound [Glob] {fn : Func} {rs : List ARes} (hc : compileRes P gs fn.results.toList = some rs) (hr : Rel gs N ι g l s a w) {vs : List AV} (hv : resVals rs g s = some vs) :
  ∃ cv, (results fn a.tmps).run P w = .ok cv w ∧ Rep ι (Foot ι s.m) w cv (oneOf vs) := by
 have key : ∀ (l0 : List ResultVar) (rs : List ARes) (vs : List AV), compileRes P gs l0 = some rs → resVals rs g s = some vs →
   ∃ cvs : List Value, (l0.mapM fun (r : ResultVar) => match r with | .tmp t => (Pure.pure (a.tmps.getD t undef) : Sem Value) | .cell c t => do loadVar t (← asAddr (a.tmps.getD c undef))).run P w = .ok cvs w ∧
    cvs.length = vs.length ∧ ∀ (j : Nat) v x, cvs[j]? = some v → vs[j]? = some x → Rep ι (Foot ι s.m) w v x := by
  intro l0
  induction l0 with
  | nil =>
   intro rs vs h1 h2
   simp [compileRes] at h1; subst h1
   simp [resVals] at h2; subst h2
   exact ⟨[], by simp, rfl, by simp⟩
  | cons x l0 ih =>
   intro rs vs h1 h2
   have fin : ∀ {cv v r' vs'}, (match x with | .tmp t => (Pure.pure (a.tmps.getD t undef) : Sem Value) | .cell c t => do loadVar t (← asAddr (a.tmps.getD c undef))).run P w = .ok cv w →
     Rep ι (Foot ι s.m) w cv v → compileRes P gs l0 = some r' → resVals r' g s = some vs' → vs = v :: vs' →
     ∃ cvs : List Value, ((x :: l0).mapM fun (r : ResultVar) => match r with | .tmp t => (Pure.pure (a.tmps.getD t undef) : Sem Value) | .cell c t => do loadVar t (← asAddr (a.tmps.getD c undef))).run P w = .ok cvs w ∧
      cvs.length = vs.length ∧ ∀ (j : Nat) v x, cvs[j]? = some v → vs[j]? = some x → Rep ι (Foot ι s.m) w v x := by
    intro cv v r' vs' k1 k2 k3 k4 k5
    subst k5
    obtain ⟨cvs, m1, m2, m3⟩ := ih r' vs' k3 k4
    refine ⟨cv :: cvs, ?_, by simp [m2], fun j u y hu hy => ?_⟩
    ·simp only [List.mapM_cons, Sem.run_bind, k1, Result.andThen_ok, m1]
     rfl
    ·cases j with
     | zero => simp at hu hy; subst hu hy; exact k2
     | succ j => simp at hu hy; exact m3 j u y hu hy
   cases x with
   | tmp t =>
    simp only [compileRes, Option.map_eq_some_iff] at h1
    obtain ⟨r', hr', rfl⟩ := h1
    cases hg : gs.contains t with
    | false => rw [hg] at h2; simp [resVals] at h2
    | true =>
     rw [hg] at h2
     simp only [resVals, Option.map_eq_some_iff] at h2
     obtain ⟨vs', hvs', rfl⟩ := h2
     exact fin (by rfl) (hr.glob t hg) hr' hvs' rfl
   | cell c t =>
    simp only [compileRes] at h1
    split at h1
    ·rename_i n agg r' hn hagg hr'
     cases h1
     cases hg : gs.contains c with
     | false => rw [hg] at h2; simp [resVals] at h2
     | true =>
      rw [hg] at h2
      simp only [resVals] at h2
      split at h2
      ·rename_i o off hp
       split at h2
       ·rename_i cs ho
        split at h2
        ·rename_i hfit
         split at h2
         ·rename_i v vs' hl hvs'
          cases h2
          have hrep := hr.glob c hg
          rw [hp] at hrep
          obtain ⟨b, hb, hv⟩ := rep_ptr hrep
          have hcells := (box_cellsAt (hr.wf.rep o _ b ho hb)).drop off
          simp only [Nat.zero_add] at hcells
          obtain ⟨cv, hrun, hcv⟩ := load_cells (P := P) t n agg (run_isAgg hagg) (run_sizeOf hn) hcells (by simp; omega) hl
          refine fin ?_ hcv hr' hvs' rfl
          simp only [Instr.loadAt, Instr.sureAddr, Sem.run_bind, Sem.run_pure, Result.andThen_ok] at hrun
          simp [hv, asAddr, hrun]
         ·cases h2
        ·cases h2
       ·cases h2
      ·cases h2
    ·cases h1
 obtain ⟨cvs, m1, m2, m3⟩ := key _ rs vs hc hv
 have hrun : (fn.results.mapM fun (r : ResultVar) => match r with | .tmp t => (Pure.pure (a.tmps.getD t undef) : Sem Value) | .cell c t => do loadVar t (← asAddr (a.tmps.getD c undef))).run P w = .ok cvs.toArray w := by
  rw [Array.mapM_eq_mapM_toList]
  simp only [Sem.run_map, m1, Result.andThen_ok]
 refine ⟨if h : cvs.toArray.size = 1 then cvs.toArray[0] else .tuple cvs.toArray, ?_, ?_⟩
 ·unfold results
  rw [Sem.run_bind]
  exact congrArg (fun r => Result.andThen r fun vs w' => Result.ok (if h : vs.size = 1 then vs[0] else Value.tuple vs) w') hrun
 ·match cvs, vs, m2, m3 with
  | [c], [v], _, m3 => exact m3 0 c v rfl rfl
  | [], [], _, m3 => exact .tup rfl (by simp)
  | c :: c' :: cs, v :: v' :: vs, m2, m3 =>
   have hne : ¬ ((c :: c' :: cs).toArray.size = 1) := by simp
   rw [dif_neg hne]
   exact .tup (by simpa using m2) (fun j u y hu hy => m3 j u y (by simpa using hu) hy)
theorem leaves_marks [Glob] {fn : Func} {rs : List ARes} {vs : List AV} {K : AV → St → Prop} {ι0 : Nat → Option Nat} {s0 : St} {w0 : World} (hrs : compileRes P gs fn.results.toList = some rs) (hvs : resVals rs g s = some vs) (hK : K (oneOf vs) s) :
  ∀ (Ds : List Nat) (w : World), Ds.Nodup → (∀ D ∈ Ds, w.heap[D]? = some (.deferred (some [])) ∧ ¬ Blk ι s.m D) → Rel gs N ι g l s a w → Step ι0 s0.m w0 ι s.m w → (∀ D ∈ Ds, w0.heap.size ≤ D) → Inc ι0 ι s0.nx s.nx →
   LeavesInM (inR none) 0 P fn a.tmps (fun e w' => ∃ v r s' ι', e = .returned v ∧ Step ι0 s0.m w0 ι' s'.m w' ∧ WF ι' s'.m w' ∧ Bnd ι' s'.m s'.nx ∧ Inc ι0 ι' s0.nx s'.nx ∧ Rep ι' (Foot ι' s'.m) w' v r ∧ K r s') (Ds.map markD) .returning w
 | [], w, _, _, hr, hs, _, hn => by
  obtain ⟨cv, k1, k2⟩ := results_sound hrs hr hvs
  exact ⟨cv, k1, cv, _, s, ι, rfl, hs, hr.wf, hr.bnd, hn, k2, hK⟩
 | D :: Ds, w, hnd, hall, hr, hs, hlo, hn => by
  obtain ⟨k1, k2⟩ := hall D (by simp)
  have hG : Grown s.m ι w (w.putObj D (.deferred none)) (some D) := ⟨grownBy_putObj' _ _ _, fun r e => by cases e; exact ⟨⟨_, k1, rfl, by simp⟩, k2⟩⟩
  refine ⟨by simp, .inl ⟨D, _, rfl, run_takeDeferred k1, ?_⟩⟩
  refine leaves_marks hrs hvs hK Ds _ (List.nodup_cons.1 hnd).2 (fun D' hD' => ?_) ⟨hG.wf hr.wf, hr.bnd, hr.size, hr.defers, fun t ht => hG.rep (hr.glob t ht), fun t ht => hG.rep (hr.loc t ht)⟩ (hG.step hs fun r e => by cases e; exact hlo D (by simp)) (fun D' hD' => hlo D' (by simp [hD'])) hn
  obtain ⟨q1, q2⟩ := hall D' (by simp [hD'])
  have hne : D' ≠ D := fun e => (List.nodup_cons.1 hnd).1 (e ▸ hD')
  exact ⟨(World.putObj_heap_other hne).trans q1, q2⟩
theorem fun_sound [Glob] {f : FuncId} {fn : Func} {af : AFun} (hdraws : P.follows .mixedOrders = true) (hf : P.funcs[f]? = some fn) (hcb : Callable P f) (hc : compileFun P gs fn = some af) {args : List AV} (hargs : args.length = af.np) {s : St}
  {K : AV → St → Prop} (h : awpFun P af args s K) : ACalls P f args s K := by
 refine ⟨hcb, fun ι w vs hwf hbnd hvs => ?_⟩
 unfold compileFun at hc
 split at hc
 ·rename_i body rs hb hrs
  split at hc
  ·rename_i hnp
   cases hc
   cases hbody : fn.body with
   | none => simp [hbody] at hb
   | some c =>
    simp only [hbody, Option.bind_some] at hb
    have hsz : vs.size = fn.params.size + fn.nfree := hvs.1.trans hargs
    have hrel : Rel gs fn.ntmps ι (argEnv 0 args) [] s { tmps := vs ++ Array.replicate (fn.ntmps - vs.size) undef, defers := [] } w := by
     refine ⟨hwf, hbnd, by simp; omega, rfl, fun t ht => ?_, fun t ht => .any _⟩
     rw [argEnv_get]
     simp only [Nat.zero_le, if_true, Nat.sub_zero]
     by_cases hlt : t < vs.size
     ·have hlt' : t < args.length := by rw [← hvs.1]; exact hlt
      have e1 : (vs ++ Array.replicate (fn.ntmps - vs.size) undef).getD t undef = vs[t] := by
       simp [Array.getElem?_append_left hlt, hlt]
      have e2 : args.getD t .any = args[t] := by simp [hlt']
      rw [e1, e2]
      exact hvs.2 t _ _ (by simp [hlt]) (by simp [hlt'])
     ·have : args.getD t .any = .any := by
       have : args.length ≤ t := by rw [← hvs.1]; omega
       simp [List.getElem?_eq_none this]
      rw [this]
      exact .any _
    have hw := code_sound hdraws c w.heap.size none body (.inl rfl) hb ι s w _ ι _ [] s _ [] w h hrel (DefOK.nil (Nat.le_refl _)) (Step.refl _ _ _) (Inc.refl _ _)
    rw [appD_nil] at hw
    refine (callsIn_wide (n := 0)).1 (callsIn_of_wp_marks hf hbody trivial (wpIn_mono hw fun e a' w' ⟨ι', g', l', s', d, a0, h0, hd, h1, h2, h3, h4⟩ => ?_))
    subst h0
    have fin : (match resVals rs g' s' with | some vs => K (oneOf vs) s' | none => False) → LeavesInM (inR none) 0 P fn (appD d a0).tmps (fun e w' => ∃ v r s' ι', e = .returned v ∧ Step ι s.m w ι' s'.m w' ∧ WF ι' s'.m w' ∧ Bnd ι' s'.m s'.nx ∧ Inc ι ι' s.nx s'.nx ∧ Rep ι' (Foot ι' s'.m) w' v r ∧ K r s') (appD d a0).defers .returning w' := by
     intro h
     split at h
     ·rename_i vs' hvs'
      obtain ⟨_, Ds, e1, e2, e3⟩ := hd
      have hdf : (appD d a0).defers = Ds.map markD := by simp [appD, h1.defers, e1]
      rw [hdf]
      exact leaves_marks (a := a0) hrs hvs' h Ds w' e2 (fun D hD => (e3 D hD).2) h1 h2 (fun D hD => (e3 D hD).1) h3
     ·exact h.elim
    cases e with
    | normal => exact fin h4
    | ret => exact fin h4
    | exit i => exact h4.elim
    | _ => exact h4.elim
  ·cases hc
 ·cases hc
end Go.AL
namespace Go.AL
variable {P : Program}
section
variable (k : IntKind) (n : Int) (b : Bool) (s : ByteArray) (sz o off f : Nat) (t : Tok) (xs ys : List AV)
@[simp] theorem isVal_bool : (AV.bool b).isVal = true := rfl
@[simp] theorem isVal_int : (AV.int k n).isVal = true := rfl
@[simp] theorem isVal_str : (AV.str s).isVal = true := rfl
@[simp] theorem isVal_list : (AV.list sz t xs).isVal = true := rfl
@[simp] theorem isVal_agg : (AV.agg xs).isVal = true := rfl
@[simp] theorem isVal_ptr : (AV.ptr o off).isVal = true := rfl
@[simp] theorem isVal_cptr : (AV.cptr xs).isVal = true := rfl
@[simp] theorem isVal_nilptr : AV.nilptr.isVal = true := rfl
@[simp] theorem isVal_fn : (AV.fn f xs ys).isVal = true := rfl
@[simp] theorem isVal_yld : (AV.yld o).isVal = true := rfl
@[simp] theorem isVal_nilfn : AV.nilfn.isVal = true := rfl
@[simp] theorem isVal_map : (AV.map o).isVal = true := rfl
@[simp] theorem isVal_nilmap : AV.nilmap.isVal = true := rfl
@[simp] theorem cells_bool : (AV.bool b).cells = [.bool b] := rfl
@[simp] theorem cells_int : (AV.int k n).cells = [.int k n] := rfl
@[simp] theorem cells_str : (AV.str s).cells = [.str s] := rfl
@[simp] theorem cells_list : (AV.list sz t xs).cells = [.list sz t xs] := rfl
@[simp] theorem cells_ptr : (AV.ptr o off).cells = [.ptr o off] := rfl
@[simp] theorem cells_cptr : (AV.cptr xs).cells = [.cptr xs] := rfl
@[simp] theorem cells_nilptr : AV.nilptr.cells = [.nilptr] := rfl
@[simp] theorem cells_fn : (AV.fn f xs ys).cells = [.fn f xs ys] := rfl
@[simp] theorem cells_yld : (AV.yld o).cells = [.yld o] := rfl
@[simp] theorem cells_nilfn : AV.nilfn.cells = [.nilfn] := rfl
@[simp] theorem cells_map : (AV.map o).cells = [.map o] := rfl
@[simp] theorem cells_nilmap : AV.nilmap.cells = [.nilmap] := rfl
end
@[simp] theorem fillAV_nil (zs : List AV) : fillAV zs [] = zs := rfl
@[simp] theorem fillAV_cons (zs : List AV) (off : Nat) (x : AV) (r : List (Nat × AV)) : fillAV zs ((off, x) :: r) = fillAV (zs.take off ++ x.cells ++ zs.drop (off + x.cells.length)) r := rfl
@[simp] theorem Env.get_nil (t : Nat) : Env.get [] t = .any := rfl
@[simp] theorem Env.get_cons (k t : Nat) (v : AV) (e : Env) : Env.get ((k, v) :: e) t = if k = t then v else Env.get e t := rfl
@[simp] theorem val_g (g l : Env) (t : Nat) : (AOpd.g t).val g l = g.get t := rfl
@[simp] theorem val_l (g l : Env) (t : Nat) : (AOpd.l t).val g l = l.get t := rfl
@[simp] theorem val_c (g l : Env) (v : AV) : (AOpd.c v).val g l = v := rfl
@[simp] theorem St.new_nx (s : St) (o : AObj) : (s.new o).nx = s.nx + 1 := rfl
@[simp] theorem St.set_nx (s : St) (o : Nat) (ob : AObj) : (s.set o ob).nx = s.nx := rfl
@[simp] theorem St.del_nx (s : St) (o : Nat) : (s.del o).nx = s.nx := rfl
@[simp] theorem St.bump_nx (s : St) (n : Nat) : (s.bump n).nx = n := rfl
@[simp] theorem St.bump_m (s : St) (n : Nat) : (s.bump n).m = s.m := rfl
@[simp] theorem St.new_eq (s : St) (o : AObj) : (s.new o).m s.nx = some o := by simp [St.new]
@[simp] theorem St.new_ne (s : St) (o : AObj) (q : Nat) (h : q ≠ s.nx) : (s.new o).m q = s.m q := by simp [St.new, h]
@[simp] theorem St.set_eq (s : St) (o : Nat) (ob : AObj) : (s.set o ob).m o = some ob := by simp [St.set]
@[simp] theorem St.set_ne (s : St) (o q : Nat) (ob : AObj) (h : q ≠ o) : (s.set o ob).m q = s.m q := by simp [St.set, h]
@[simp] theorem St.del_ne (s : St) (o q : Nat) (h : q ≠ o) : (s.del o).m q = s.m q := by simp [St.del, h]
def go (X : Prop) : Prop := X
theorem go_of {X : Prop} (h : go X) : X := h
abbrev KS := AV → St → Prop
def ldK (n : Nat) (agg : Bool) (cs : List AV) (s : St) (K : KS) : Prop := n ≤ cs.length ∧ match loadAV n agg cs with | some v => K v s | none => False
def ldO (n : Nat) (agg : Bool) (off : Nat) (ob : Option AObj) (s : St) (K : KS) : Prop := match ob with | some (.box cs) => off + n ≤ cs.length ∧ (match loadAV n agg (cs.drop off) with | some v => K v s | none => False) | _ => False
def ldV (n : Nat) (agg : Bool) (v : AV) (s : St) (K : KS) : Prop := match v with | .ptr o off => ldO n agg off (s.m o) s K | .cptr cs => ldK n agg cs s K | _ => False
def stO (n o off : Nat) (x : AV) (ob : Option AObj) (s : St) (K : KS) : Prop := match ob with | some (.box cs) => x.isVal = true ∧ x.cells.length = n ∧ off + n ≤ cs.length ∧ K (.tup []) (s.set o (.box (storeAV cs off x))) | _ => False
def stV (n : Nat) (a x : AV) (s : St) (K : KS) : Prop := match a with | .ptr o off => stO n o off x (s.m o) s K | _ => False
def bxV (x : AV) (s : St) (K : KS) : Prop := x.isVal = true ∧ K (.ptr s.nx 0) (s.new (.box x.cells))
def pkV (c a b : AV) (s : St) (K : KS) : Prop := match c with | .bool t => K (pickAV t a b) s | _ => False
def bdV (zs : List AV) (ps : List (Nat × Nat × AV)) (s : St) (K : KS) : Prop := (∀ p ∈ ps, p.2.2.isVal = true ∧ p.2.2.cells.length = p.2.1 ∧ p.1 + p.2.1 ≤ zs.length) ∧ K (.agg (fillAV zs (ps.map fun p => (p.1, p.2.2)))) s
def bsV (sz : Nat) (z : AV) (m : Nat) (ps : List (Nat × AV)) (s : St) (K : KS) : Prop := (∀ p ∈ ps, p.2.isVal = true ∧ p.2.cells.length = sz ∧ p.1 < m) ∧ K (.list sz .full (ps.foldl (fun xs p => xs.set p.1 p.2) (List.replicate m z))) s
def ncV (x : AV) (s : St) (K : KS) : Prop := match x with | .ptr .. | .aptr .. | .cptr .. | .fn .. => K x s | _ => False
def bnV (op : BinOp) (x y : AV) (s : St) (K : KS) : Prop := binSide op x y ∧ match binAV op x y with | some v => K v s | none => False
def eaV (neg : Bool) (m : Nat) (x y : AV) (s : St) (K : KS) : Prop := match x, y with | .agg as, .agg bs => (match bools as, bools bs with | some a, some b => a.length = m ∧ b.length = m ∧ K (.bool (if neg then !decide (a = b) else decide (a = b))) s | _, _ => False) | _, _ => False
def inV (neg : Bool) (x : AV) (s : St) (K : KS) : Prop := match x with | .list _ _ xs => ∀ b : Bool, (xs ≠ [] → b = neg) → K (.bool b) s | _ => False
def eqV (neg : Bool) (x y : AV) (s : St) (K : KS) : Prop := match x, y with | .bool a, .bool b => K (.bool (if neg then !decide (a = b) else decide (a = b))) s | _, _ => False
def unV (op : UnOp) (x : AV) (s : St) (K : KS) : Prop := match op, x with | .not, .bool b => K (.bool (!b)) s | .neg, .int k n => K (.int k (k.wrap (0 - n))) s | _, _ => False
def cvV (k : IntKind) (x : AV) (s : St) (K : KS) : Prop := match x with | .int _ n => K (.int k (k.wrap n)) s | _ => False
def faV (f : Nat) (x : AV) (s : St) (K : KS) : Prop := match x with | .ptr o off => K (.ptr o (off + f)) s | .cptr cs => f < cs.length ∧ K (.cptr (cs.drop f)) s | _ => False
def fdV (off n : Nat) (agg : Bool) (x : AV) (s : St) (K : KS) : Prop := match x with | .agg cs => off + n ≤ cs.length ∧ (match loadAV n agg (cs.drop off) with | some v => K v s | none => False) | _ => False
def iaV (sz : Nat) (x i : AV) (s : St) (K : KS) : Prop := match x, i with
 | .list sz' _ xs, .int _ n => (sz' = sz ∧ 0 ≤ n ∧ n < xs.length) ∧ K (.cptr (xs.getD n.toNat .any).cells) s
 | .mref sz' o off m, .int _ n => (sz' = sz ∧ 0 ≤ n ∧ n < m) ∧ K (.ptr o ((off + n.toNat) * sz)) s
 | _, _ => False
def isV (x i : AV) (s : St) (K : KS) : Prop := match x, i with | .str t, .int _ n => (0 ≤ n ∧ n < t.size) ∧ K (.int .u8 ((t.data.toList.getD n.toNat 0).toNat)) s | _, _ => False
def aaV (sz n : Nat) (x i : AV) (s : St) (K : KS) : Prop := match x, i with | .ptr o off, .int _ k => (0 ≤ k ∧ k < n) ∧ K (.ptr o (off + k.toNat * sz)) s | .cptr cs, .int _ k => (0 ≤ k ∧ k < n) ∧ K (.cptr (cs.drop (k.toNat * sz))) s | _, _ => False
def saV (n : Nat) (x h : AV) (s : St) (K : KS) : Prop := match x, h with | .cptr cs, .int _ h => ((0 < n ∧ n ≤ cs.length) ∧ (0 ≤ h ∧ h ≤ n) ∧ ∀ y ∈ cs.take n, y.cells = [y]) ∧ K (.list 1 .none ((cs.take n).take h.toNat)) s | _, _ => False
def exV (i : Nat) (x : AV) (s : St) (K : KS) : Prop := match x with | .tup vs => (match vs[i]? with | some v => K v s | none => False) | _ => False
def lnV (x : AV) (s : St) (K : KS) : Prop := match x with | .list _ _ xs => K (.int .i64 xs.length) s | .mref _ _ _ n => K (.int .i64 n) s | _ => False
def lsV (x : AV) (s : St) (K : KS) : Prop := match x with | .str t => K (.int .i64 t.size) s | _ => False
def apS (sz bytes sz0 : Nat) (t : Tok) (xs : List AV) (sz1 : Nat) (ys : List AV) : Prop := (sz0 = sz ∨ (xs = [] ∧ t = .full)) ∧ (sz1 = sz ∨ ys = []) ∧ (xs.length + ys.length) * bytes ≤ 140737488355328 ∧ xs.length + ys.length ≤ 9223372036854775807
def apO (sz o : Nat) (xs ys : List AV) (ob : Option AObj) (s : St) (K : KS) : Prop := match ob with | some (.spare n) => n = xs.length * sz ∧ K (.list sz (.own s.nx) (xs ++ ys)) ((s.del o).new (.spare ((xs.length + ys.length) * sz))) | _ => False
def amO (sz n : Nat) (ys : List AV) (ob : Option AObj) (s s1 : St) (K : KS) : Prop := match ob with | some (.box cs) => cs.length = n * sz ∧ K (.mref sz s.nx 0 (n + ys.length)) (s1.new (.box (cs ++ flat ys))) | _ => False
def apV (sz bytes : Nat) (a x : AV) (s : St) (K : KS) : Prop :=
 match a, x with
 | .mref sz0 o off n, .list sz1 _ ys => (sz0 = sz ∧ off = 0 ∧ (sz1 = sz ∨ ys = []) ∧ (n + ys.length) * bytes ≤ 140737488355328 ∧ n + ys.length ≤ 9223372036854775807) ∧ amO sz n ys (s.m o) s (s.del o) K
 | .list sz0 .full xs, .list sz1 _ ys => apS sz bytes sz0 .full xs sz1 ys ∧ K (.list sz (.own s.nx) (xs ++ ys)) (s.new (.spare ((xs.length + ys.length) * sz)))
 | .list sz0 (.own o) xs, .list sz1 _ ys => apS sz bytes sz0 (.own o) xs sz1 ys ∧ apO sz o xs ys (s.m o) s K
 | _, _ => False
def mnV (x y : AV) (s : St) (K : KS) : Prop := match x, y with | .int k a, .int k' b => k = k' ∧ K (.int k (if b < a then b else a)) s | _, _ => False
def mxV (x y : AV) (s : St) (K : KS) : Prop := match x, y with | .int k a, .int k' b => k = k' ∧ K (.int k (if a < b then b else a)) s | _, _ => False
def clV [Glob] (P : Program) (f : AV) (args : List AV) (s : St) (K : KS) : Prop := match f with | .fn f first captured => ACalls P f (first ++ args ++ captured) s K | .yld o => AYields P o args s K | _ => False
def cpV [Glob] (P : Program) (f : AV) (args : List AV) (s : St) (K : KS) : Prop := match f with | .fn f first captured => ∃ r, PureC P f (first ++ args ++ captured) r ∧ K r s | _ => False
def msV (sz bytes : Nat) (zs : List AV) (x y : AV) (s : St) (K : KS) : Prop := match x, y with
 | .int _ n, .int _ m => (n = m ∧ 0 ≤ n ∧ n.toNat * bytes ≤ 140737488355328 ∧ n ≤ 9223372036854775807) ∧ K (.mref sz s.nx 0 n.toNat) (s.new (.box (List.replicate n.toNat zs).flatten))
 | _, _ => False
def lkR (c : Bool) (zs : List AV) (agg : Bool) (es : List (Nat × AV × AV)) (r : Option (Option Nat)) (s : St) (K : KS) : Prop := match r with | some r => K (lookAV c zs agg (r.bind fun i => (es[i]?).map (·.2.2))) s | none => False
def lkO (c : Bool) (zs : List AV) (agg : Bool) (k : AV) (ob : Option AObj) (s : St) (K : KS) : Prop := match ob with | some (.map es _) => lkR c zs agg es (mfind k es 0) s K | _ => False
def lkC (c : Bool) (zs : List AV) (agg : Bool) (r : Option (Option AV)) (s : St) (K : KS) : Prop := match r with | some r => K (lookAV c zs agg r) s | none => False
def lkV (str c : Bool) (zs : List AV) (agg : Bool) (m k : AV) (s : St) (K : KS) : Prop := match m with | .map o => keyOK str k ∧ lkO c zs agg k (s.m o) s K | .nilmap => keyOK str k ∧ K (lookAV c zs agg none) s | .cmap es => keyOK str k ∧ lkC c zs agg (cfind k es) s K | .kmap es => keyOK str k ∧ lkC c zs agg (kfind k es) s K | _ => False
def upR (o : Nat) (es : List (Nat × AV × AV)) (clock : Nat) (k x : AV) (r : Option (Option Nat)) (s : St) (K : KS) : Prop := match r with | some r => K (.tup []) (s.set o (mapSet es clock k x r)) | none => False
def upO (o : Nat) (k x : AV) (ob : Option AObj) (s : St) (K : KS) : Prop := match ob with | some (.map es clock) => upR o es clock k x (mfind k es 0) s K | _ => False
def upV (str : Bool) (m k x : AV) (s : St) (K : KS) : Prop := match m with | .map o => keyOK str k ∧ upO o k x (s.m o) s K | _ => False
def dlR (o : Nat) (es : List (Nat × AV × AV)) (clock : Nat) (r : Option (Option Nat)) (s : St) (K : KS) : Prop := match r with | some r => K (.tup []) (s.set o (mapDel es clock r)) | none => False
def dlO (o : Nat) (k : AV) (ob : Option AObj) (s : St) (K : KS) : Prop := match ob with | some (.map es clock) => dlR o es clock (mfind k es 0) s K | _ => False
def dlV (str : Bool) (m k : AV) (s : St) (K : KS) : Prop := match m with | .map o => keyOK str k ∧ dlO o k (s.m o) s K | .nilmap => keyOK str k ∧ K (.tup []) s | _ => False
def lmO (ob : Option AObj) (s : St) (K : KS) : Prop := match ob with | some (.map es _) => K (.int .i64 es.length) s | _ => False
def lmV (m : AV) (s : St) (K : KS) : Prop := match m with | .map o => lmO (s.m o) s K | .nilmap => K (.int .i64 0) s | _ => False
def rgO (o : Nat) (ob : Option AObj) (s : St) (K : KS) : Prop := match ob with | some (.map _ clock) => K (.ptr s.nx 0) (s.new (.iter (some o) clock [] clock)) | _ => False
def rgV (m : AV) (s : St) (K : KS) : Prop := match m with | .map o => rgO o (s.m o) s K | .nilmap => K (.ptr s.nx 0) (s.new (.iter none 0 [] 0)) | _ => False
def nxM (q o since : Nat) (seen : List Nat) (last : Nat) (ob : Option AObj) (s : St) (K : KS) : Prop := match ob with
 | some (.map es clock) => (seen = [] ∨ es = [] ∨ ∃ e ∈ es, e.1 < last) ∧ ((∀ e ∈ es, e.1 < since → e.1 ∈ seen) → K (.tup [.bool false]) s) ∧
   ∀ e ∈ es, e.1 ∉ seen → K (.tup [.bool true, e.2.1, e.2.2]) (s.set q (.iter (some o) since (seen ++ [e.1]) clock))
 | _ => False
def nxO (q : Nat) (ob : Option AObj) (s : St) (K : KS) : Prop := match ob with
 | some (.iter none _ _ _) => K (.tup [.bool false]) s
 | some (.iter (some o) since seen last) => nxM q o since seen last (s.m o) s K
 | _ => False
def nxV (x : AV) (s : St) (K : KS) : Prop := match x with | .ptr q 0 => nxO q (s.m q) s K | _ => False
def enM (seen : List Nat) (last : Nat) (ob : Option AObj) (s : St) (K : KS) : Prop := match ob, seen.getLast? with
 | some (.map es clock), some st => clock = last ∧ (match es.find? fun e => e.1 == st with | some e => K (.tup [e.2.1, e.2.2]) s | none => False)
 | _, _ => False
def enO (ob : Option AObj) (s : St) (K : KS) : Prop := match ob with
 | some (.iter (some o) _ seen last) => enM seen last (s.m o) s K
 | _ => False
def enV (x : AV) (s : St) (K : KS) : Prop := match x with | .ptr q 0 => enO (s.m q) s K | _ => False
section
variable {g l : Env} {s : St} {K : KS}
theorem step_mv [Glob] (x : AOpd) : AOp.step P (.mv x) g l s K = K (x.val g l) s := by simp [AOp.step, AOp.stepP, AOp.touch, AOp.ev, AOp.side, St.app2]
@[simp] theorem go_step_mv [Glob] (x : AOpd)  : go (AOp.step P (.mv x) g l s K) = go (K (x.val g l) s) := by rw [step_mv]
theorem step_pick [Glob] (c a b : AOpd) : AOp.step P (.pick c a b) g l s K = pkV (c.val g l) (a.val g l) (b.val g l) s K := by
 simp only [AOp.step, AOp.stepP, AOp.touch, AOp.ev, AOp.side, St.app2, pkV]
 cases c.val g l <;> simp
@[simp] theorem go_step_pick [Glob] (c a b : AOpd)  : go (AOp.step P (.pick c a b) g l s K) = go (pkV (c.val g l) (a.val g l) (b.val g l) s K) := by rw [step_pick]
theorem step_alloc [Glob] (zs : List AV) : AOp.step P (.alloc zs) g l s K = K (.ptr s.nx 0) (s.new (.box zs)) := by simp [AOp.step, AOp.stepP, AOp.touch, AOp.ev, AOp.side, St.app2]
@[simp] theorem go_step_alloc [Glob] (zs : List AV)  : go (AOp.step P (.alloc zs) g l s K) = go (K (.ptr s.nx 0) (s.new (.box zs))) := by rw [step_alloc]
theorem step_box [Glob] (x : AOpd) : AOp.step P (.box x) g l s K = bxV (x.val g l) s K := by simp [AOp.step, AOp.stepP, AOp.touch, AOp.ev, AOp.side, St.app2, bxV]
@[simp] theorem go_step_box [Glob] (x : AOpd)  : go (AOp.step P (.box x) g l s K) = go (bxV (x.val g l) s K) := by rw [step_box]
theorem step_build [Glob] (zs : List AV) (ps : List (Nat × Nat × AOpd)) : AOp.step P (.build zs ps) g l s K = bdV zs (ps.map fun p => (p.1, p.2.1, p.2.2.val g l)) s K := by
 simp only [AOp.step, AOp.stepP, AOp.touch, AOp.ev, AOp.side, St.app2, bdV, List.forall_mem_map, List.map_map, Function.comp_def]
@[simp] theorem go_step_build [Glob] (zs : List AV) (ps : List (Nat × Nat × AOpd))  : go (AOp.step P (.build zs ps) g l s K) = go (bdV zs (ps.map fun p => (p.1, p.2.1, p.2.2.val g l)) s K) := by rw [step_build]
theorem step_buildSlice [Glob] (sz : Nat) (agg : Bool) (zs : List AV) (m : Nat) (ps : List (Nat × AOpd)) : AOp.step P (.buildSlice sz agg zs m ps) g l s K = bsV sz (if agg then .agg zs else zs.headD .any) m (ps.map fun p => (p.1, p.2.val g l)) s K := by
 simp only [AOp.step, AOp.stepP, AOp.touch, AOp.ev, AOp.side, St.app2, bsV, List.forall_mem_map, List.map_map, Function.comp_def]
@[simp] theorem go_step_buildSlice [Glob] (sz : Nat) (agg : Bool) (zs : List AV) (m : Nat) (ps : List (Nat × AOpd))  : go (AOp.step P (.buildSlice sz agg zs m ps) g l s K) = go (bsV sz (if agg then .agg zs else zs.headD .any) m (ps.map fun p => (p.1, p.2.val g l)) s K) := by rw [step_buildSlice]
theorem step_load [Glob] (n : Nat) (agg : Bool) (a : AOpd) : AOp.step P (.load n agg a) g l s K = ldV n agg (a.val g l) s K := by
 simp only [AOp.step, AOp.stepP, AOp.touch, AOp.ev, AOp.side, ldV]
 cases a.val g l <;> simp only
 case ptr o off =>
  cases s.m o with
  | none => rfl
  | some ob =>
   cases ob <;> simp only [ldO]
   rename_i cs
   cases loadAV n agg (cs.drop off) <;> simp [St.app1, St.app2]
 case cptr cs =>
  simp only [ldK]
  cases loadAV n agg cs <;> simp [St.app1, St.app2]
 case aptr a b c d =>
  cases s.m b <;> rfl
@[simp] theorem go_step_load [Glob] (n : Nat) (agg : Bool) (a : AOpd)  : go (AOp.step P (.load n agg a) g l s K) = go (ldV n agg (a.val g l) s K) := by rw [step_load]
theorem step_store [Glob] (n : Nat) (a x : AOpd) : AOp.step P (.store n a x) g l s K = stV n (a.val g l) (x.val g l) s K := by
 simp only [AOp.step, AOp.stepP, AOp.touch, AOp.ev, AOp.side, stV]
 cases a.val g l <;> simp only
 case ptr o off =>
  cases s.m o with
  | none => rfl
  | some ob => cases ob <;> simp [stO, St.app1, St.app2, and_assoc]
 case aptr a b c d =>
  cases s.m b <;> rfl
@[simp] theorem go_step_store [Glob] (n : Nat) (a x : AOpd)  : go (AOp.step P (.store n a x) g l s K) = go (stV n (a.val g l) (x.val g l) s K) := by rw [step_store]
theorem step_nilCheck [Glob] (x : AOpd) : AOp.step P (.nilCheck x) g l s K = ncV (x.val g l) s K := by
 simp only [AOp.step, AOp.stepP, AOp.touch, AOp.ev, AOp.side, ncV]
 cases h : x.val g l <;> simp [St.app2, h]
@[simp] theorem go_step_nilCheck [Glob] (x : AOpd)  : go (AOp.step P (.nilCheck x) g l s K) = go (ncV (x.val g l) s K) := by rw [step_nilCheck]
theorem step_bin [Glob] (op : BinOp) (x y : AOpd) : AOp.step P (.bin op x y) g l s K = bnV op (x.val g l) (y.val g l) s K := by
 simp only [AOp.step, AOp.stepP, AOp.touch, AOp.ev, AOp.side, bnV]
 cases binAV op (x.val g l) (y.val g l) <;> simp [St.app2]
@[simp] theorem go_step_bin [Glob] (op : BinOp) (x y : AOpd)  : go (AOp.step P (.bin op x y) g l s K) = go (bnV op (x.val g l) (y.val g l) s K) := by rw [step_bin]
theorem step_eqb [Glob] (n : Bool) (x y : AOpd) : AOp.step P (.eqb n x y) g l s K = eqV n (x.val g l) (y.val g l) s K := by
 simp only [AOp.step, AOp.stepP, AOp.touch, AOp.ev, AOp.side, eqV]
 cases x.val g l <;> cases y.val g l <;> simp [St.app2]
@[simp] theorem go_step_eqb [Glob] (n : Bool) (x y : AOpd)  : go (AOp.step P (.eqb n x y) g l s K) = go (eqV n (x.val g l) (y.val g l) s K) := by rw [step_eqb]
theorem step_eqa [Glob] (n : Bool) (m : Nat) (x y : AOpd) : AOp.step P (.eqa n m x y) g l s K = eaV n m (x.val g l) (y.val g l) s K := by
 simp only [AOp.step, AOp.stepP, AOp.touch, AOp.ev, AOp.side, eaV]
 cases x.val g l <;> cases y.val g l <;> simp only
 rename_i as bs
 cases bools as <;> cases bools bs <;> simp only
 rename_i a b
 by_cases h : a.length = m ∧ b.length = m
 ·simp [h, St.app2]
 ·simp only [h, if_false]
  exact propext ⟨False.elim, fun h' => h ⟨h'.1, h'.2.1⟩⟩
@[simp] theorem go_step_eqa [Glob] (n : Bool) (m : Nat) (x y : AOpd)  : go (AOp.step P (.eqa n m x y) g l s K) = go (eaV n m (x.val g l) (y.val g l) s K) := by rw [step_eqa]
theorem step_isnil [Glob] (n : Bool) (x : AOpd) : AOp.step P (.isnil n x) g l s K = inV n (x.val g l) s K := by
 simp only [AOp.step, isnilP, inV]
 cases x.val g l <;> rfl
@[simp] theorem go_step_isnil [Glob] (n : Bool) (x : AOpd)  : go (AOp.step P (.isnil n x) g l s K) = go (inV n (x.val g l) s K) := by rw [step_isnil]
theorem step_un [Glob] (op : UnOp) (x : AOpd) : AOp.step P (.un op x) g l s K = unV op (x.val g l) s K := by
 simp only [AOp.step, AOp.stepP, AOp.touch, AOp.ev, AOp.side, unV]
 cases op <;> cases x.val g l <;> simp [St.app2]
@[simp] theorem go_step_un [Glob] (op : UnOp) (x : AOpd)  : go (AOp.step P (.un op x) g l s K) = go (unV op (x.val g l) s K) := by rw [step_un]
theorem step_conv [Glob] (k : IntKind) (x : AOpd) : AOp.step P (.conv k x) g l s K = cvV k (x.val g l) s K := by
 simp only [AOp.step, AOp.stepP, AOp.touch, AOp.ev, AOp.side, cvV]
 cases x.val g l <;> simp [St.app2]
@[simp] theorem go_step_conv [Glob] (k : IntKind) (x : AOpd)  : go (AOp.step P (.conv k x) g l s K) = go (cvV k (x.val g l) s K) := by rw [step_conv]
theorem step_mkfn [Glob] (f : FuncId) (a b : List AOpd) : AOp.step P (.mkfn f a b) g l s K = K (.fn f (a.map (AOpd.val g l)) (b.map (AOpd.val g l))) s := by simp [AOp.step, AOp.stepP, AOp.touch, AOp.ev, AOp.side, St.app2]
@[simp] theorem go_step_mkfn [Glob] (f : FuncId) (a b : List AOpd)  : go (AOp.step P (.mkfn f a b) g l s K) = go (K (.fn f (a.map (AOpd.val g l)) (b.map (AOpd.val g l))) s) := by rw [step_mkfn]
theorem step_fieldAddr [Glob] (f : Nat) (x : AOpd) : AOp.step P (.fieldAddr f x) g l s K = faV f (x.val g l) s K := by
 simp only [AOp.step, AOp.stepP, AOp.touch, AOp.ev, AOp.side, faV]
 cases x.val g l <;> simp [St.app2]
@[simp] theorem go_step_fieldAddr [Glob] (f : Nat) (x : AOpd)  : go (AOp.step P (.fieldAddr f x) g l s K) = go (faV f (x.val g l) s K) := by rw [step_fieldAddr]
theorem step_field [Glob] (off n : Nat) (agg : Bool) (x : AOpd) : AOp.step P (.field off n agg x) g l s K = fdV off n agg (x.val g l) s K := by
 simp only [AOp.step, AOp.stepP, AOp.touch, AOp.ev, AOp.side, fdV]
 cases x.val g l <;> simp only
 rename_i cs
 cases loadAV n agg (cs.drop off) <;> simp [St.app2]
@[simp] theorem go_step_field [Glob] (off n : Nat) (agg : Bool) (x : AOpd)  : go (AOp.step P (.field off n agg x) g l s K) = go (fdV off n agg (x.val g l) s K) := by rw [step_field]
theorem step_indexAddr [Glob] (sz : Nat) (x i : AOpd) : AOp.step P (.indexAddr sz x i) g l s K = iaV sz (x.val g l) (i.val g l) s K := by
 simp only [AOp.step, AOp.stepP, AOp.touch, AOp.ev, AOp.side, iaV]
 cases x.val g l <;> cases i.val g l <;> simp [St.app2]
@[simp] theorem go_step_indexAddr [Glob] (sz : Nat) (x i : AOpd)  : go (AOp.step P (.indexAddr sz x i) g l s K) = go (iaV sz (x.val g l) (i.val g l) s K) := by rw [step_indexAddr]
theorem step_indexStr [Glob] (x i : AOpd) : AOp.step P (.indexStr x i) g l s K = isV (x.val g l) (i.val g l) s K := by
 simp only [AOp.step, AOp.stepP, AOp.touch, AOp.ev, AOp.side, isV]
 cases x.val g l <;> cases i.val g l <;> simp [St.app2]
@[simp] theorem go_step_indexStr [Glob] (x i : AOpd)  : go (AOp.step P (.indexStr x i) g l s K) = go (isV (x.val g l) (i.val g l) s K) := by rw [step_indexStr]
theorem step_extract [Glob] (x : AOpd) (i : Nat) : AOp.step P (.extract x i) g l s K = exV i (x.val g l) s K := by
 simp only [AOp.step, AOp.stepP, AOp.touch, AOp.ev, AOp.side, exV]
 cases x.val g l <;> simp only
 rename_i vs
 cases vs[i]? <;> simp [St.app2]
@[simp] theorem go_step_extract [Glob] (x : AOpd) (i : Nat)  : go (AOp.step P (.extract x i) g l s K) = go (exV i (x.val g l) s K) := by rw [step_extract]
theorem step_len [Glob] (x : AOpd) : AOp.step P (.len x) g l s K = lnV (x.val g l) s K := by
 simp only [AOp.step, AOp.stepP, AOp.touch, AOp.ev, AOp.side, lnV]
 cases x.val g l <;> simp [St.app2]
@[simp] theorem go_step_len [Glob] (x : AOpd)  : go (AOp.step P (.len x) g l s K) = go (lnV (x.val g l) s K) := by rw [step_len]
theorem step_lenStr [Glob] (x : AOpd) : AOp.step P (.lenStr x) g l s K = lsV (x.val g l) s K := by
 simp only [AOp.step, AOp.stepP, AOp.touch, AOp.ev, AOp.side, lsV]
 cases x.val g l <;> simp [St.app2]
@[simp] theorem go_step_lenStr [Glob] (x : AOpd)  : go (AOp.step P (.lenStr x) g l s K) = go (lsV (x.val g l) s K) := by rw [step_lenStr]
theorem step_append [Glob] (sz bytes : Nat) (a x : AOpd) : AOp.step P (.append sz bytes a x) g l s K = apV sz bytes (a.val g l) (x.val g l) s K := by
 simp only [AOp.step, AOp.stepP, AOp.touch, AOp.ev, AOp.side, apV]
 cases a.val g l <;> try (rfl; done)
 case mref sz0 o off n =>
  cases ho : s.m o with
  | none => cases x.val g l <;> simp [ho, amO]
  | some ob =>
   cases ob <;> cases x.val g l <;> simp [ho, amO]
   rename_i cs sz1 t1 ys
   by_cases h : sz0 = sz ∧ off = 0 ∧ cs.length = n * sz
   ·obtain ⟨h1, h2, h3⟩ := h
    simp [h1, h2, h3, St.app1, St.app2]
   ·simp only [if_neg h]
    simp only [false_iff]
    rintro ⟨⟨h1, h2, _⟩, h3, _⟩
    exact h ⟨h1, h2, h3⟩
 rename_i sz0 t xs
 cases t with
 | none => cases x.val g l <;> simp
 | full => cases x.val g l <;> simp [St.app2, apS]
 | own o =>
  cases ho : s.m o with
  | none => cases x.val g l <;> simp [ho, apO, apS]
  | some ob =>
   cases ob <;> cases x.val g l <;> simp [ho, apO, apS]
   rename_i n sz1 t1 ys
   by_cases h : n = xs.length * sz <;> simp [h, St.app1, St.app2]
@[simp] theorem go_step_append [Glob] (sz bytes : Nat) (a x : AOpd)  : go (AOp.step P (.append sz bytes a x) g l s K) = go (apV sz bytes (a.val g l) (x.val g l) s K) := by rw [step_append]
theorem step_nilSlice [Glob] (sz bytes : Nat) (zs : List AV) (x y : AOpd) : AOp.step P (.mkslice sz bytes zs true x y) g l s K = K (.mref sz s.nx 0 0) (s.new (.box [])) := by
 simp [AOp.step, AOp.stepP, AOp.touch, AOp.ev, AOp.side, St.app2]
@[simp] theorem go_step_nilSlice [Glob] (sz bytes : Nat) (zs : List AV) (x y : AOpd)  : go (AOp.step P (.mkslice sz bytes zs true x y) g l s K) = go (K (.mref sz s.nx 0 0) (s.new (.box []))) := by rw [step_nilSlice]
theorem step_min [Glob] (x y : AOpd) : AOp.step P (.min x y) g l s K = mnV (x.val g l) (y.val g l) s K := by
 simp only [AOp.step, AOp.stepP, AOp.touch, AOp.ev, AOp.side, mnV]
 cases x.val g l <;> cases y.val g l <;> simp [St.app2]
@[simp] theorem go_step_min [Glob] (x y : AOpd)  : go (AOp.step P (.min x y) g l s K) = go (mnV (x.val g l) (y.val g l) s K) := by rw [step_min]
theorem step_sliceArr [Glob] (n : Nat) (x y : AOpd) : AOp.step P (.sliceArr n x y) g l s K = saV n (x.val g l) (y.val g l) s K := by
 simp only [AOp.step, AOp.stepP, AOp.touch, AOp.ev, AOp.side, saV]
 cases x.val g l <;> cases y.val g l <;> simp [St.app2]
@[simp] theorem go_step_sliceArr [Glob] (n : Nat) (x y : AOpd)  : go (AOp.step P (.sliceArr n x y) g l s K) = go (saV n (x.val g l) (y.val g l) s K) := by rw [step_sliceArr]
theorem step_arrAddr [Glob] (sz n : Nat) (x y : AOpd) : AOp.step P (.arrAddr sz n x y) g l s K = aaV sz n (x.val g l) (y.val g l) s K := by
 simp only [AOp.step, AOp.stepP, AOp.touch, AOp.ev, AOp.side, aaV]
 cases x.val g l <;> cases y.val g l <;> simp [St.app2]
@[simp] theorem go_step_arrAddr [Glob] (sz n : Nat) (x y : AOpd)  : go (AOp.step P (.arrAddr sz n x y) g l s K) = go (aaV sz n (x.val g l) (y.val g l) s K) := by rw [step_arrAddr]
theorem step_max [Glob] (x y : AOpd) : AOp.step P (.max x y) g l s K = mxV (x.val g l) (y.val g l) s K := by
 simp only [AOp.step, AOp.stepP, AOp.touch, AOp.ev, AOp.side, mxV]
 cases x.val g l <;> cases y.val g l <;> simp [St.app2]
@[simp] theorem go_step_max [Glob] (x y : AOpd)  : go (AOp.step P (.max x y) g l s K) = go (mxV (x.val g l) (y.val g l) s K) := by rw [step_max]
theorem step_call [Glob] (f : AOpd) (args : List AOpd) : AOp.step P (.call false f args) g l s K = clV P (f.val g l) (args.map (AOpd.val g l)) s K := by
 simp only [AOp.step, callee, clV]
 cases f.val g l <;> simp
@[simp] theorem go_step_call [Glob] (f : AOpd) (args : List AOpd)  : go (AOp.step P (.call false f args) g l s K) = go (clV P (f.val g l) (args.map (AOpd.val g l)) s K) := by rw [step_call]
theorem step_callp [Glob] (f : AOpd) (args : List AOpd) : AOp.step P (.call true f args) g l s K = cpV P (f.val g l) (args.map (AOpd.val g l)) s K := by
 simp only [AOp.step, callee, cpV]
 cases f.val g l <;> simp
@[simp] theorem go_step_callp [Glob] (f : AOpd) (args : List AOpd)  : go (AOp.step P (.call true f args) g l s K) = go (cpV P (f.val g l) (args.map (AOpd.val g l)) s K) := by rw [step_callp]
theorem step_mkmap [Glob] : AOp.step P .mkmap g l s K = K (.map s.nx) (s.new (.map [] 0)) := by
 simp [AOp.step, AOp.stepP, AOp.touch, AOp.ev, AOp.side, St.app2]
@[simp] theorem go_step_mkmap [Glob]  : go (AOp.step P .mkmap g l s K) = go (K (.map s.nx) (s.new (.map [] 0))) := by rw [step_mkmap]
theorem step_mkslice [Glob] (sz bytes : Nat) (zs : List AV) (x y : AOpd) : AOp.step P (.mkslice sz bytes zs false x y) g l s K = msV sz bytes zs (x.val g l) (y.val g l) s K := by
 simp only [AOp.step, AOp.stepP, AOp.touch, AOp.ev, AOp.side, msV, Bool.false_eq_true, if_false]
 cases x.val g l <;> cases y.val g l <;> simp
 rename_i k n k' m
 by_cases h : n = m <;> simp [h, St.app2, and_assoc]
@[simp] theorem go_step_mkslice [Glob] (sz bytes : Nat) (zs : List AV) (x y : AOpd)  : go (AOp.step P (.mkslice sz bytes zs false x y) g l s K) = go (msV sz bytes zs (x.val g l) (y.val g l) s K) := by rw [step_mkslice]
theorem step_lookup [Glob] (str c : Bool) (zs : List AV) (agg : Bool) (m k : AOpd) : AOp.step P (.lookup str c zs agg m k) g l s K = lkV str c zs agg (m.val g l) (k.val g l) s K := by
 simp only [AOp.step, AOp.stepP, AOp.touch, AOp.ev, AOp.side, lkV]
 cases m.val g l <;> simp [St.app2]
 rename_i o
 cases s.m o with
 | none => simp [lkO]
 | some ob =>
  cases ob <;> simp [lkO]
  rename_i es clock
  cases mfind (k.val g l) es 0 <;> simp [lkR, St.app1, St.app2]
 ·rename_i es
  cases cfind (k.val g l) es <;> simp [lkC, St.app2]
 ·rename_i es
  cases kfind (k.val g l) es <;> simp [lkC, St.app2]
@[simp] theorem go_step_lookup [Glob] (str c : Bool) (zs : List AV) (agg : Bool) (m k : AOpd)  : go (AOp.step P (.lookup str c zs agg m k) g l s K) = go (lkV str c zs agg (m.val g l) (k.val g l) s K) := by rw [step_lookup]
theorem step_mapUpdate [Glob] (str : Bool) (m k x : AOpd) : AOp.step P (.mapUpdate str m k x) g l s K = upV str (m.val g l) (k.val g l) (x.val g l) s K := by
 simp only [AOp.step, AOp.stepP, AOp.touch, AOp.ev, AOp.side, upV]
 cases m.val g l <;> simp
 rename_i o
 cases s.m o with
 | none => simp [upO]
 | some ob =>
  cases ob <;> simp [upO]
  rename_i es clock
  cases mfind (k.val g l) es 0 <;> simp [upR, St.app1, St.app2]
@[simp] theorem go_step_mapUpdate [Glob] (str : Bool) (m k x : AOpd)  : go (AOp.step P (.mapUpdate str m k x) g l s K) = go (upV str (m.val g l) (k.val g l) (x.val g l) s K) := by rw [step_mapUpdate]
theorem step_delete [Glob] (str : Bool) (m k : AOpd) : AOp.step P (.delete str m k) g l s K = dlV str (m.val g l) (k.val g l) s K := by
 simp only [AOp.step, AOp.stepP, AOp.touch, AOp.ev, AOp.side, dlV]
 cases m.val g l <;> simp [St.app2]
 rename_i o
 cases s.m o with
 | none => simp [dlO]
 | some ob =>
  cases ob <;> simp [dlO]
  rename_i es clock
  cases mfind (k.val g l) es 0 <;> simp [dlR, St.app1, St.app2]
@[simp] theorem go_step_delete [Glob] (str : Bool) (m k : AOpd)  : go (AOp.step P (.delete str m k) g l s K) = go (dlV str (m.val g l) (k.val g l) s K) := by rw [step_delete]
theorem step_lenMap [Glob] (x : AOpd) : AOp.step P (.lenMap x) g l s K = lmV (x.val g l) s K := by
 simp only [AOp.step, AOp.stepP, AOp.touch, AOp.ev, AOp.side, lmV]
 cases x.val g l <;> simp [St.app2]
 rename_i o
 cases s.m o with
 | none => simp [lmO]
 | some ob => cases ob <;> simp [lmO, St.app1, St.app2]
@[simp] theorem go_step_lenMap [Glob] (x : AOpd)  : go (AOp.step P (.lenMap x) g l s K) = go (lmV (x.val g l) s K) := by rw [step_lenMap]
theorem step_range [Glob] (x : AOpd) : AOp.step P (.range x) g l s K = rgV (x.val g l) s K := by
 simp only [AOp.step, AOp.stepP, AOp.touch, AOp.ev, AOp.side, rgV]
 cases x.val g l <;> simp [St.app2]
 rename_i o
 cases s.m o with
 | none => simp [rgO]
 | some ob => cases ob <;> simp [rgO, St.app1, St.app2]
@[simp] theorem go_step_range [Glob] (x : AOpd)  : go (AOp.step P (.range x) g l s K) = go (rgV (x.val g l) s K) := by rw [step_range]
theorem step_next [Glob] (x : AOpd) : AOp.step P (.next x) g l s K = nxV (x.val g l) s K := by
 rfl
@[simp] theorem go_step_next [Glob] (x : AOpd)  : go (AOp.step P (.next x) g l s K) = go (nxV (x.val g l) s K) := by rw [step_next]
theorem step_entry [Glob] (x : AOpd) : AOp.step P (.entry x) g l s K = enV (x.val g l) s K := by
 rfl
@[simp] theorem go_step_entry [Glob] (x : AOpd)  : go (AOp.step P (.entry x) g l s K) = go (enV (x.val g l) s K) := by rw [step_entry]
end
end Go.AL
