/- The abstract layer: regions of open order with a call that turns objects, and reads that may come ahead of it or behind it: the theorem. -/
import Derived.Test.YtkegioliclbbhaaA12j
set_option linter.unusedVariables false
set_option linter.unusedSimpArgs false
namespace Go.AL
variable {P : Program} {gs : List Nat} {N : Nat} {ι ι' : Nat → Option Nat} {g l : Env} {s s' : St} {a : Act} {w w' : World}

theorem wkE_congr {os : List AOper} {rec rec' : Nat → Rec} {E0 : Nat → AV} : ∀ {n : Nat}, (∀ j, j < n → (rec j).v = (rec' j).v) → wkE os rec E0 n = wkE os rec' E0 n
  | 0, _ => rfl
  | n + 1, h => by simp only [wkE]; rw [wkE_congr fun j hj => h j (by omega), h n (by omega)]
theorem wkE_same {os : List AOper} {rec : Nat → Rec} {E0 : Nat → AV} {t i : Nat} : ∀ {n : Nat}, i ≤ n → (∀ j, i ≤ j → j < n → (match dstF os j with | some (_, u) => u != t | none => true) = true) → wkE os rec E0 n t = wkE os rec E0 i t := by
  intro n
  induction n with
  | zero => intro h _; have : i = 0 := by omega
            rw [this]
  | succ n ih =>
    intro h hd
    by_cases e : i = n + 1
    · rw [e]
    · have h1 := ih (by omega) fun j h1 h2 => hd j h1 (by omega)
      have h2 := hd n (by omega) (by omega)
      simp only [wkE]
      cases hdd : dstF os n with
      | none => exact h1
      | some p =>
        obtain ⟨b, u⟩ := p
        rw [hdd] at h2
        have : ¬ t = u := fun e => by rw [e] at h2; simp at h2
        simp only [setE, if_neg this]
        exact h1

def namesEnv (E : Nat → AV) : List Nat → Env
  | [] => []
  | t :: r => (t, E t) :: namesEnv E r
theorem namesEnv_get (E : Nat → AV) (t : Nat) : ∀ (ns : List Nat), (namesEnv E ns).get t = if ns.contains t = true then E t else .any
  | [] => by simp [namesEnv, Env.get]
  | u :: r => by
    simp only [namesEnv, Env.get, namesEnv_get E t r]
    by_cases e : u = t
    · subst e; simp
    · have e' : ¬ t = u := fun h => e h.symm
      simp [e, e']

theorem frs_mem {fr : List AOp} {g l : Env} {s' s2 : St} (h : frs g l s' s2 fr) {op : AOp} (ho : op ∈ fr) {q : Nat} (hq : op.touch (AOpd.val g l) = some q) : s2.m q = s'.m q := by
  induction fr with
  | nil => cases ho
  | cons x r ih =>
    simp only [frs] at h
    rcases List.mem_cons.1 ho with rfl | ho
    · have := h.1; rw [hq] at this; exact this
    · exact ih h.2 ho

theorem float_sound {ops : Array Oper} {k m : Nat} {os suf : List AOper} {oc : Oper} {ac : AOp} {dc : Option (Bool × Nat)} {fr : List AOp} {id : Nat} {ι0 : Nat → Option Nat} {s0 : St} {w0 : World} {K : Env → Env → St → Prop} {Q : Exit → Act → World → Prop}
    (hdraws : P.follows .mixedOrders = true) (hkm : k < m) (hs : sufOK ops m = true) (T : Text P gs N (preOps ops m) os) (hafter : ∀ j, k < j → j < m → k ∈ (befores (preOps ops m).toList []).getD j [])
    (hoc : ops[k]? = some oc) (hac : compileAny P gs false oc = some ac) (hcall : ac.isCall = true) (hgc : oc.guard = none) (hdc : cdst gs N oc.dst = some dc)
    (hF : ∀ i, i < k → i ∉ (befores (preOps ops m).toList []).getD k [] → ∃ o, os[i]? = some o ∧ o.op ∈ fr ∧ ∀ x ∈ o.op.opnds, opndFree (((os.take k).drop i).map (·.dst)) x = true)
    (hsuf : compileSeq P gs N ops (ops.toList.drop m) = some suf)
    (hQ : ∀ ι' g' l' s' a' w', Rel gs N ι' g' l' s' a' w' → Step ι0 s0.m w0 ι' s'.m w' → Inc ι0 ι' s0.nx s'.nx → K g' l' s' → Q .normal a' w')
    (h : aopsD P 0 [] (os.take k) (floatE P fr ac dc k (os.drop (k + 1)) suf K) g [] s)
    (hrel : Rel gs N ι g [] s a w) (hst : Step ι0 s0.m w0 ι s.m w) (hn : Inc ι0 ι s0.nx s.nx) : (Code.region id ops true).wp P Q a w := by
  have hS := sufOK_spec hs
  have hmn := hS.le
  have hpsz := preOps_size hmn
  have hlen := T.len
  rw [hpsz] at hlen
  have hpoc : (preOps ops m)[k]? = some oc := by rw [preOps_get hkm]; exact hoc
  -- the walk ahead of the call
  obtain ⟨rec1, E1, S1, nx1, ac1, e1, e2, e3, e4, e5, g', l', s', e6, e7, e8, e9⟩ := extract (gs := gs) (namesOf := fun i => ((preOps ops m)[i]?).elim [] (namesOf (preOps ops m))) (os.take k) 0 [] g [] s (fun i ao hao => by
    have hik : i < k := by
      have := (List.getElem?_eq_some_iff.1 hao).1
      simp at this; omega
    have hao' : os[i]? = some ao := by rwa [List.getElem?_take_of_lt hik] at hao
    have hi : i < (preOps ops m).size := by omega
    have ho : (preOps ops m)[i]? = some (preOps ops m)[i] := by simp [hi]
    obtain ⟨ao', h1, _, _, _, h5⟩ := T.op i _ ho
    rw [hao'] at h1
    cases h1
    refine ⟨?_, T.call i ao hao'⟩
    rw [Nat.zero_add, ho]
    exact h5) h
  simp only [Nat.zero_add] at e5
  have htk : (os.take k).length = k := by simp; omega
  rw [htk] at e6 e7 e8
  have hstep1 : ∀ i, i < k → ∃ o, os[i]? = some o ∧ StepAt P i o (E1 i) (S1 i) (nx1 i) (ac1 i) (rec1 i) (E1 (i + 1)) (S1 (i + 1)) (nx1 (i + 1)) (ac1 (i + 1)) ∧ (rec1 i).done = false := by
    intro i hi
    have ho : os[i]? = some (os[i]'(by omega)) := by simp
    exact ⟨_, ho, e5 i _ (by rw [List.getElem?_take_of_lt hi]; exact ho)⟩
  have hconst : ∀ i, i ≤ k → S1 i = s.m ∧ nx1 i = s.nx := by
    intro i
    induction i with
    | zero => intro _; exact ⟨e2, e3⟩
    | succ i ih =>
      intro hi
      obtain ⟨o, ho, st, hd⟩ := hstep1 i (by omega)
      obtain ⟨_, _, k1, k2⟩ := st.keep (T.still i o ho) hd (T.call i o ho)
      obtain ⟨k3, k4⟩ := ih (by omega)
      exact ⟨k1.trans k3, k2.trans k4⟩
  have hE1 : ∀ i, i ≤ k → E1 i = wkE os rec1 (merge gs g []) i := by
    intro i
    induction i with
    | zero => intro _; exact e1
    | succ i ih =>
      intro hi
      obtain ⟨o, ho, st, hd⟩ := hstep1 i (by omega)
      rw [st.env, ih (by omega)]
      simp [wkE, dstF, ho]
  rw [(hconst k (Nat.le_refl _)).1] at e7
  rw [(hconst k (Nat.le_refl _)).2] at e8
  -- the records ahead of the call
  obtain ⟨recA, hrecA⟩ : ∃ recA : Nat → Rec, recA = fun i => if i < k then { rec1 i with nid := s.nx } else ⟨false, .any, none, .keep, none, s.nx, true⟩ := ⟨_, rfl⟩
  have hEA : ∀ i, i ≤ k → wkE os recA (merge gs g []) i = E1 i := by
    intro i hi
    rw [hE1 i hi]
    exact wkE_congr fun j hj => by rw [hrecA]; simp only; rw [if_pos (by omega)]
  have hhowA : ∀ (i : Nat) o, os[i]? = some o → HowR P o (wkE os recA (merge gs g []) i) s.m s.nx (recA i) := by
    intro i o ho
    by_cases hik : i < k
    · obtain ⟨o', ho', st, hd⟩ := hstep1 i hik
      rw [ho] at ho'; cases ho'
      rw [hEA i (by omega), hrecA]
      try simp only
      rw [if_pos hik]
      exact HowR.of st (T.still i o ho) hd (T.call i o ho) (fun q _ => by rw [(hconst i (by omega)).1])
    · rw [hrecA]
      try simp only
      rw [if_neg hik]
      exact ⟨rfl, rfl, .inl rfl, .inr (.inr ⟨rfl, rfl, rfl⟩)⟩
  have DA := T.draw (rec := recA) (E0 := merge gs g []) (S0 := s.m) (n := s.nx) (fun q ob hq => hrel.bnd.lt q ob hq) hhowA
  have hSLA : ∀ L, SL recA s.m (preOps ops m).size L = s.m := SL_still (by rw [hpsz]; exact hlen) hhowA
  -- all that comes behind the call
  have hbehind : ∀ (listed : Array Bool) (ι1 : Nat → Option Nat) (M1 : Nat) (a1 : Act) (w1 : World), DI gs N (preOps ops m) os recA (wkE os recA (merge gs g [])) (fun _ => s.m) (fun _ => s.nx) ι0 s0 w0 listed ι1 M1 a1 w1 →
      (∀ i, LA listed i = true → i < k) → (∀ e ∈ oc.after.toList, Region.binds .any e = true → LA listed e.on = true) → ∀ fuel, ((List.range m).filter fun i => !LA (listed.setIfInBounds k true) i).length + (ops.size - m) ≤ fuel → wpOp P ops Q k (wpAny P .any ops Q fuel (padA ops.size (listed.setIfInBounds k true))) a1 w1 := by
    intro listed ι1 M1 a1 w1 hd1 hlt hready fuel hfuel
    have hin := LA_in hd1.sz
    have hLk : LA listed k = false := by
      cases hx : LA listed k with
      | false => rfl
      | true => have := hlt k hx; omega
    have hlk : k < listed.size := by rw [hd1.sz, hpsz]; exact hkm
    have hbef : ∀ i, i < k → LA listed i = false → i ∉ (befores (preOps ops m).toList []).getD k [] := by
      intro i hi hL hm
      have := closed_before hd1.closed hin k oc hpoc hready i hm
      rw [hL] at this; cases this
    obtain ⟨ao, hao, hcmp, hcd, hcg, haok⟩ := T.op k oc hpoc
    -- what the call is
    have hwf1 := hd1.wf
    try simp only at hwf1
    rw [hSLA] at hwf1
    have hslot : ∀ t, (namesOf (preOps ops m) oc).contains t = true → EL (dstF os) recA (merge gs g []) (preOps ops m).size (LA listed) t = E1 k t := by
      intro t ht
      have := DA.slot_agree hd1.closed hin hpoc hLk hready ht
      rw [← hEA k (Nat.le_refl _)]
      exact this
    have hsl1 := hd1.slots
    have hbnd1 : Bnd ι1 s.m M1 := by
      refine ⟨fun q ob hq => ?_, hd1.ιM⟩
      have := hrel.bnd.lt q ob hq
      have := hd1.nM
      try simp only at this
      omega
    obtain ⟨env, henv⟩ : ∃ env, env = namesEnv (E1 k) (namesOf (preOps ops m) oc) := ⟨_, rfl⟩
    have hgetE : ∀ t, Rep ι1 (Foot ι1 s.m) w1 (a1.tmps.getD t undef) (env.get t) := by
      intro t
      rw [henv, namesEnv_get]
      split
      · rename_i ht
        rw [← hslot t ht]
        have := hsl1 t
        try simp only at this
        rw [hSLA] at this
        exact this
      · exact .any _
    have hrel0 : Rel gs N ι1 env env ⟨s.m, M1⟩ a1 w1 := ⟨hwf1, hbnd1, hd1.size, hd1.defers, fun t _ => hgetE t, fun t _ => hgetE t⟩
    have hMs : s'.nx ≤ M1 := by
      have := hd1.nM
      try simp only at this
      omega
    have hK := e9 M1 hMs
    have hbump : s'.bump M1 = ⟨s.m, M1⟩ := by rw [St.bump, e7]
    rw [hbump] at hK
    unfold floatE at hK
    simp only [aoperOK, Bool.and_eq_true] at haok
    obtain ⟨⟨hopn, hdstn⟩, _⟩ := haok
    have hcallA : ao.op.isCall = true := by
      obtain ⟨f1, _, _⟩ := compileAny_flag hcmp hac
      rw [f1]; exact hcall
    obtain ⟨f, as, hfas⟩ := T.call k ao hao hcallA
    rw [hfas] at hcmp hopn
    have hacc := compileAny_call hcmp hac
    subst hacc
    have hopd : ∀ x ∈ (AOp.call true f as).opnds, AOpd.val g' l' x = AOpd.val env env x := by
      intro x hx
      have hok := List.all_eq_true.1 hopn x hx
      rw [Ev_val hok, e6]
      cases x with
      | g t =>
        simp only [opndOK, Bool.and_eq_true] at hok
        simp only [Ev, AOpd.val, henv, namesEnv_get, hok.2, if_true]
      | l t =>
        simp only [opndOK, Bool.and_eq_true] at hok
        simp only [Ev, AOpd.val, henv, namesEnv_get, hok.2, if_true]
      | c v => rfl
    have hcs : AOp.step P (.call false f as) env env ⟨s.m, M1⟩ (fun v s2 => frs g' l' ⟨s.m, M1⟩ s2 fr ∧ setDst dc v g' l' fun g1 l1 => aopsD P (k + 1) [] (os.drop (k + 1)) (fun g2 l2 s3 => aops P suf K g2 l2 s3) g1 l1 s2) := by
      have e1' : AOpd.val g' l' f = AOpd.val env env f := hopd f (by simp [AOp.opnds])
      have e2' : as.map (AOpd.val g' l') = as.map (AOpd.val env env) := List.map_congr_left fun x hx => hopd x (by simp [AOp.opnds, hx])
      simp only [AOp.step, e1', e2'] at hK ⊢
      exact hK
    unfold wpOp
    simp only [hoc]
    have hwn : Region.wanted oc (yielded ops a1.tmps) = true := by simp [Region.wanted, hgc]
    rw [if_pos hwn]
    refine .inl (step_sound hac rfl hrel0 hcs fun ι3 cv v s3 w3 q1 q2 q3 q4 q5 q6 => ?_)
    obtain ⟨hfr, q6⟩ := q6
    have hdc' : ao.dst = dc := by rw [hcd] at hdc; cases hdc; rfl
    rw [hdc'] at hdstn
    obtain ⟨g1, l1, hpost, hm1⟩ := merge_setDst (gs := gs) (names := namesOf (preOps ops m) oc) hdstn q6
    -- the walk behind the call
    obtain ⟨rec3, E3, S3, nx3, ac3, d1, d2, d3, d4, d5, g'', l'', s'', d6, d7, d8, d9⟩ := extract (gs := gs) (namesOf := fun i => ((preOps ops m)[i]?).elim [] (namesOf (preOps ops m))) (os.drop (k + 1)) (k + 1) [] g1 l1 s3 (fun i ao hao => by
      have hao' : os[k + 1 + i]? = some ao := by rwa [List.getElem?_drop] at hao
      have hi : k + 1 + i < (preOps ops m).size := by rw [hpsz, ← hlen]; exact (List.getElem?_eq_some_iff.1 hao').1
      have ho : (preOps ops m)[k + 1 + i]? = some (preOps ops m)[k + 1 + i] := by simp [hi]
      obtain ⟨ao', h1, _, _, _, h5⟩ := T.op _ _ ho
      rw [hao'] at h1
      cases h1
      refine ⟨?_, T.call _ ao hao'⟩
      rw [ho]
      exact h5) hpost
    have hdl : (os.drop (k + 1)).length = m - (k + 1) := by simp; omega
    rw [hdl] at d6 d7 d8
    have hstep3 : ∀ i, k < i → i < m → ∃ o, os[i]? = some o ∧ StepAt P i o (E3 (i - (k + 1))) (S3 (i - (k + 1))) (nx3 (i - (k + 1))) (ac3 (i - (k + 1))) (rec3 (i - (k + 1))) (E3 (i - (k + 1) + 1)) (S3 (i - (k + 1) + 1)) (nx3 (i - (k + 1) + 1)) (ac3 (i - (k + 1) + 1)) ∧ (rec3 (i - (k + 1))).done = false := by
      intro i hi him
      have ho : os[i]? = some (os[i]'(by omega)) := by simp
      have e : k + 1 + (i - (k + 1)) = i := by omega
      have := d5 (i - (k + 1)) (os[i]'(by omega)) (by rw [List.getElem?_drop, e]; exact ho)
      rw [e] at this
      exact ⟨_, ho, this⟩
    have hconst3 : ∀ j, k + 1 + j ≤ m → S3 j = s3.m ∧ nx3 j = s3.nx := by
      intro j
      induction j with
      | zero => intro _; exact ⟨d2, d3⟩
      | succ j ih =>
        intro hj
        obtain ⟨o, ho, st, hd⟩ := hstep3 (k + 1 + j) (by omega) (by omega)
        rw [show k + 1 + j - (k + 1) = j by omega] at st hd
        obtain ⟨_, _, k1, k2⟩ := st.keep (T.still _ o ho) hd (T.call _ o ho)
        obtain ⟨k3, k4⟩ := ih (by omega)
        exact ⟨k1.trans k3, k2.trans k4⟩
    -- all records
    obtain ⟨recB, hrecB⟩ : ∃ recB : Nat → Rec, recB = fun i => if i < k then (if LA listed i then ⟨(rec1 i).ran, (rec1 i).v, none, .keep, none, s3.nx, true⟩ else { rec1 i with nid := s3.nx })
        else if i = k then ⟨true, v, none, .keep, none, s3.nx, true⟩ else { rec3 (i - (k + 1)) with nid := s3.nx } := ⟨_, rfl⟩
    have hBlt : ∀ i, i < k → (recB i).v = (rec1 i).v := by
      intro i hi
      rw [hrecB]
      try simp only
      rw [if_pos hi]
      split <;> rfl
    have hBk : recB k = ⟨true, v, none, .keep, none, s3.nx, true⟩ := by
      rw [hrecB]
      try simp only
      rw [if_neg (by omega), if_pos trivial]
    have hBgt : ∀ i, k < i → recB i = { rec3 (i - (k + 1)) with nid := s3.nx } := by
      intro i hi
      rw [hrecB]
      try simp only
      rw [if_neg (by omega), if_neg (by omega)]
    have hEB : ∀ i, i ≤ k → wkE os recB (merge gs g []) i = E1 i := by
      intro i hi
      rw [hE1 i hi]
      exact wkE_congr fun j hj => hBlt j (by omega)
    have hEBk : wkE os recB (merge gs g []) (k + 1) = E3 0 := by
      have hdk : dstF os k = dc := by simp [dstF, hao, hdc']
      simp only [wkE]
      rw [hEB k (Nat.le_refl _), hBk, hdk, d1, hm1, e6]
    have hEB3 : ∀ j, k + 1 + j ≤ m → wkE os recB (merge gs g []) (k + 1 + j) = E3 j := by
      intro j
      induction j with
      | zero => intro _; exact hEBk
      | succ j ih =>
        intro hj
        obtain ⟨o, ho, st, hd⟩ := hstep3 (k + 1 + j) (by omega) (by omega)
        rw [show k + 1 + j - (k + 1) = j by omega] at st hd
        rw [show k + 1 + (j + 1) = (k + 1 + j) + 1 by omega]
        simp only [wkE]
        rw [ih (by omega), st.env, hBgt _ (by omega), show k + 1 + j - (k + 1) = j by omega]
        simp [dstF, ho]
    have hhowB : ∀ (i : Nat) o, os[i]? = some o → HowR P o (wkE os recB (merge gs g []) i) s3.m s3.nx (recB i) := by
      intro i o ho
      have him : i < m := by rw [← hlen]; exact (List.getElem?_eq_some_iff.1 ho).1
      rcases Nat.lt_trichotomy i k with hik | rfl | hik
      · rw [hEB i (by omega), hrecB]
        try simp only
        rw [if_pos hik]
        split
        · exact ⟨rfl, rfl, .inl rfl, .inr (.inr ⟨rfl, rfl, rfl⟩)⟩
        · rename_i hL
          obtain ⟨o', ho', st, hd⟩ := hstep1 i hik
          rw [ho] at ho'; cases ho'
          refine HowR.of st (T.still i o ho) hd (T.call i o ho) fun q hq => ?_
          rw [(hconst i (by omega)).1]
          obtain ⟨o2, ho2, hmem, hfree⟩ := hF i hik (hbef i hik (by simpa using hL))
          rw [ho] at ho2; cases ho2
          have hval : ∀ x ∈ o.op.opnds, AOpd.val g' l' x = Ev (E1 i) x := by
            intro x hx
            have hi' : i < (preOps ops m).size := by rw [hpsz]; exact him
            obtain ⟨oi, hoi⟩ : ∃ oi, (preOps ops m)[i]? = some oi := ⟨(preOps ops m)[i], by simp [hi']⟩
            obtain ⟨ao', h1, _, _, _, h5⟩ := T.op i _ hoi
            rw [ho] at h1; cases h1
            simp only [aoperOK, Bool.and_eq_true] at h5
            have hok := List.all_eq_true.1 h5.1.1 x hx
            rw [Ev_val hok, e6]
            have hsame : ∀ t, (((os.take k).drop i).map (·.dst)).all (fun d => match d with | some (_, u) => u != t | none => true) = true → E1 k t = E1 i t := by
              intro t ht
              rw [hE1 k (Nat.le_refl _), hE1 i (by omega)]
              refine wkE_same (by omega) fun j hj1 hj2 => ?_
              have hoj : os[j]? = some (os[j]'(by omega)) := by simp
              have : (os[j]'(by omega)).dst ∈ ((os.take k).drop i).map (·.dst) := by
                refine List.mem_map_of_mem (List.mem_of_getElem? (i := j - i) ?_)
                rw [List.getElem?_drop, show i + (j - i) = j by omega, List.getElem?_take_of_lt hj2]
                exact hoj
              have := List.all_eq_true.1 ht _ this
              simpa [dstF, hoj] using this
            have hfx := hfree x hx
            cases x with
            | g t => exact hsame t hfx
            | l t => exact hsame t hfx
            | c v => rfl
          obtain ⟨c1, _, _⟩ := op_congr o.op hval
          exact frs_mem hfr hmem (by rw [c1]; exact hq)
      · rw [hBk]
        exact ⟨rfl, rfl, .inl rfl, .inr (.inr ⟨rfl, rfl, rfl⟩)⟩
      · obtain ⟨o', ho', st, hd⟩ := hstep3 i hik him
        rw [ho] at ho'; cases ho'
        have e : k + 1 + (i - (k + 1)) = i := by omega
        have h1 := hEB3 (i - (k + 1)) (by omega)
        rw [e] at h1
        rw [h1, hBgt i hik]
        exact HowR.of st (T.still i o ho) hd (T.call i o ho) (fun q _ => by rw [(hconst3 (i - (k + 1)) (by omega)).1])
    have DB := T.draw (rec := recB) (E0 := merge gs g []) (S0 := s3.m) (n := s3.nx) (fun q ob hq => q3.lt q ob hq) hhowB
    have hSLB : ∀ L, SL recB s3.m (preOps ops m).size L = s3.m := SL_still (by rw [hpsz]; exact hlen) hhowB
    have hLA : LA (listed.setIfInBounds k true) = addL k (LA listed) := LA_set hlk
    have hstp : Step ι0 s0.m w0 ι1 s.m w1 := by have := hd1.step; (try simp only at this); rwa [hSLA] at this
    have hst3 := hstp.trans q1
    have hs0M : s0.nx ≤ M1 := by have := hd1.nM; have := hn.1; (try simp only at *); omega
    have hdi2 : DI gs N (preOps ops m) os recB (wkE os recB (merge gs g [])) (fun _ => s3.m) (fun _ => s3.nx) ι0 s0 w0 (listed.setIfInBounds k true) ι3 s3.nx (a1.put oc.dst cv) w3 := by
      refine ⟨by simp [hd1.sz], ?_, ?_, q3.ilt, Nat.le_refl _, fun i hi _ hnew => ?_, ?_, ?_, fun t => ?_, ?_, fun q b hq hlt' => ?_⟩
      · rw [hLA]
        intro j oj hoj hLj e he hb
        simp only [addL, Bool.or_eq_true, beq_iff_eq] at hLj ⊢
        rcases hLj with hLj | rfl
        · exact .inl (hd1.closed j oj hoj hLj e he hb)
        · rw [hpoc] at hoj
          cases hoj
          exact .inl (hready e he hb)
      · (try simp only); rw [hSLB]; exact q2
      · obtain ⟨_, h2, _⟩ := hhowB i (os[i]'(by omega)) (by simp)
        rw [h2] at hnew; cases hnew
      · cases oc.dst with
        | none => exact hd1.size
        | some t => simp [Act.put, hd1.size]
      · cases oc.dst with
        | none => exact hd1.defers
        | some t => exact hd1.defers
      · try simp only
        rw [hSLB, hLA, DB.EL_add hd1.closed hin hpoc hLk hao t]
        have heq : EL (dstF os) recB (merge gs g []) (preOps ops m).size (LA listed) = EL (dstF os) recA (merge gs g []) (preOps ops m).size (LA listed) := by
          funext u
          refine EL_rec (fun j hj => ?_) u
          have := hlt j hj
          rw [hBlt j this, hrecA]
          try simp only
          rw [if_pos this]
        have e0 : wkE os recB (merge gs g []) 0 = merge gs g [] := rfl
        rw [e0, heq, hBk, hdc']
        have hold : ∀ t, Rep ι3 (Foot ι3 s3.m) w3 (a1.tmps.getD t undef) (EL (dstF os) recA (merge gs g []) (preOps ops m).size (LA listed) t) := by
          intro t
          have := hsl1 t
          try simp only at this
          rw [hSLA] at this
          exact this.step q1
        cases hd : oc.dst with
        | none =>
          rw [hd] at hdc
          simp only [cdst, Option.some.injEq] at hdc
          rw [← hdc]
          exact hold t
        | some u =>
          rw [hd] at hdc
          simp only [cdst] at hdc
          split at hdc
          · rename_i hu
            simp only [Option.some.injEq] at hdc
            rw [← hdc, getD_put (by rw [hd1.size]; exact hu)]
            simp only [setE]
            split
            · exact q5
            · exact hold t
          · cases hdc
      · (try simp only); rw [hSLB]; exact hst3
      · exact hd1.inc q b (q4.2 q b hq (by (try simp only); omega)) hlt'
    refine draw_pre hS DB (by have := q4.1; (try simp only at *); omega) (fun listed2 ι4 M4 a4 w4 k1 k2 => ?_) fuel _ _ _ _ _ ?_ (fun i hi hx => ?_) hdi2
    · -- at the end
      have hall : ∀ t, EL (dstF os) recB (merge gs g []) (preOps ops m).size (LA listed2) t = merge gs g'' l'' t := by
        intro t
        have h1 := DB.E_eq (preOps ops m).size (Nat.le_refl _) t
        have h2 : wkE os recB (merge gs g []) (preOps ops m).size = E3 (m - (k + 1)) := by
          rw [hpsz]
          have := hEB3 (m - (k + 1)) (by omega)
          rwa [show k + 1 + (m - (k + 1)) = m by omega] at this
        rw [h2] at h1
        rw [d6, h1]
        unfold EL
        rw [lw_congr fun j hj _ => (by rw [k2 j hj]; simp [pre, hj] : LA listed2 j = pre (preOps ops m).size j)]
        rfl
      have hs4 : s''.m = s3.m := by rw [d7]; exact (hconst3 _ (by omega)).1
      have hn4 : s''.nx = s3.nx := by rw [d8]; exact (hconst3 _ (by omega)).2
      have hnM4 := k1.nM
      try simp only at hnM4
      have hwf4 := k1.wf
      have hstp4 := k1.step
      try simp only at hwf4 hstp4
      rw [hSLB] at hwf4 hstp4
      have hrel4 : Rel gs N ι4 g'' l'' ⟨s3.m, M4⟩ a4 w4 := by
        refine ⟨hwf4, ⟨fun q ob hq => ?_, k1.ιM⟩, k1.size, k1.defers, fun t ht => ?_, fun t ht => ?_⟩
        · have := q3.lt q ob hq
          try simp only
          omega
        · have := k1.slots t
          try simp only at this
          rw [hSLB] at this
          have e0 : wkE os recB (merge gs g []) 0 = merge gs g [] := rfl
          rw [e0, hall t] at this
          simp only [merge, ht, if_true] at this
          exact this
        · have := k1.slots t
          try simp only at this
          rw [hSLB] at this
          have e0 : wkE os recB (merge gs g []) 0 = merge gs g [] := rfl
          rw [e0, hall t] at this
          simp only [merge, ht, Bool.false_eq_true, if_false] at this
          exact this
      have hfin := d9 M4 (by omega)
      have hb4 : s''.bump M4 = ⟨s3.m, M4⟩ := by rw [St.bump, hs4]
      rw [hb4] at hfin
      have := seq_from hQ (ops.toList.drop m) m suf rfl hsuf ι4 g'' l'' ⟨s3.m, M4⟩ a4 w4 hfin hrel4 hstp4 ⟨by have := q4.1; (try simp only at *); omega, k1.inc⟩
      simpa using this
    · exact hfuel
    · rw [hLA]
      simp only [addL, Bool.or_eq_true, beq_iff_eq]
      rcases Nat.lt_trichotomy i k with hik | rfl | hik
      · left
        rw [hrecB] at hx
        try simp only at hx
        rw [if_pos hik] at hx
        split at hx
        · assumption
        · obtain ⟨_, _, _, hd⟩ := hstep1 i hik
          rw [hd] at hx; cases hx
      · exact .inr rfl
      · exfalso
        rw [hBgt i hik] at hx
        obtain ⟨_, _, _, hd⟩ := hstep3 i hik hi
        rw [hd] at hx; cases hx
  -- the tree of orders
  have key : ∀ (fuel : Nat) (listed : Array Bool) (ι1 : Nat → Option Nat) (M1 : Nat) (a1 : Act) (w1 : World), DI gs N (preOps ops m) os recA (wkE os recA (merge gs g [])) (fun _ => s.m) (fun _ => s.nx) ι0 s0 w0 listed ι1 M1 a1 w1 →
      (∀ i, LA listed i = true → i < k) → ((List.range m).filter fun i => !LA listed i).length + (ops.size - m) ≤ fuel → wpAny P .any ops Q fuel (padA ops.size listed) a1 w1 := by
    intro fuel
    induction fuel with
    | zero =>
      intro listed ι1 M1 a1 w1 _ hlt hf
      exfalso
      have hLk : LA listed k = false := by
        cases hx : LA listed k with
        | false => rfl
        | true => have := hlt k hx; omega
      have hm : k ∈ (List.range m).filter fun i => !LA listed i := by simp [List.mem_filter, hkm, hLk]
      have := List.length_pos_of_mem hm
      omega
    | succ fuel ih =>
      intro listed ι1 M1 a1 w1 hd1 hlt hf
      have hsz : listed.size = m := by rw [hd1.sz, hpsz]
      have hin := LA_in hd1.sz
      have hpad : (padA ops.size listed).size = ops.size := pad_size (by rw [hsz]; exact hmn)
      have hLk : LA listed k = false := by
        cases hx : LA listed k with
        | false => rfl
        | true => have := hlt k hx; omega
      have hcl : Closed ops (LA (padA ops.size listed)) := by
        rw [LA_pad]
        intro j o ho hj e he hb
        have hjk := hlt j hj
        exact hd1.closed j o (by rw [preOps_get (by omega)]; exact ho) hj e he hb
      refine ⟨fun hr => ?_, fun i hi => ?_⟩
      · exfalso
        have hless : ∃ i, i ∈ Region.ready .any (preOps ops m) listed := by
          cases hr' : Region.ready .any (preOps ops m) listed with
          | nil =>
            have := all_listed DA hd1.sz hr' k (by rw [hpsz]; exact hkm)
            rw [hLk] at this; cases this
          | cons i r => exact ⟨i, by simp⟩
        obtain ⟨i, hi⟩ := hless
        obtain ⟨o, ho, hL, hd⟩ := ready_mem hd1.sz hi
        have him := (Array.getElem?_eq_some_iff.1 ho).1
        rw [hpsz] at him
        rw [preOps_get him] at ho
        have := mem_ready (listed := padA ops.size listed) hpad ho (by rw [LA_pad]; exact hL) (by rw [LA_pad]; exact hd)
        rw [hr] at this
        cases this
      · obtain ⟨o, ho, hL, hd⟩ := ready_mem hpad hi
        have hio := (Array.getElem?_eq_some_iff.1 ho).1
        rw [LA_pad] at hL hd
        have him : i < m := by
          rcases Nat.lt_or_ge i m with h1 | h1
          · exact h1
          · exfalso
            have hin' : ∀ i, LA (padA ops.size listed) i = true → i < ops.size := fun i h' => by rw [LA_pad] at h'; have := hlt i h'; omega
            have := closed_before hcl hin' i o ho (by rw [LA_pad]; exact hd) k (hS.all i h1 hio k (by omega))
            rw [LA_pad, hLk] at this; cases this
        have hpo : (preOps ops m)[i]? = some o := by rw [preOps_get him]; exact ho
        have hik : i ≤ k := by
          rcases Nat.lt_or_ge k i with h1 | h1
          · exfalso
            have := closed_before hd1.closed hin i o hpo hd k (hafter i h1 him)
            rw [hLk] at this; cases this
          · exact h1
        rw [pad_set (by rw [hsz]; exact him)]
        have hless : ((List.range m).filter fun j => !LA (listed.setIfInBounds i true) j).length < ((List.range m).filter fun j => !LA listed j).length := by
          rw [LA_set (by rw [hsz]; exact him)]
          have hsub : ((List.range m).filter fun j => !addL i (LA listed) j) = (((List.range m).filter fun j => !LA listed j).filter fun j => j != i) := by
            rw [List.filter_filter]
            congr 1
            funext j
            simp only [addL, Bool.not_or]
            cases LA listed j <;> simp [bne]
          rw [hsub]
          have hmem : i ∈ (List.range m).filter fun j => !LA listed j := by simp [List.mem_filter, him, hL]
          exact List.length_filter_lt_length_iff_exists.2 ⟨i, hmem, by simp⟩
        by_cases e : i = k
        · subst e
          rw [hoc] at ho
          cases ho
          exact hbehind listed ι1 M1 a1 w1 hd1 hlt hd fuel (by omega)
        · have hik' : i < k := by omega
          refine wpOp_pre hS him (draw_step DA hd1 hn.1 hpo hL (by rw [hrecA]; simp only; rw [if_pos hik']; exact (hstep1 i hik').elim fun _ h => h.2.2) hd fun ι' M' a' w' h' => ih _ ι' M' a' w' h' (fun j hj => ?_) ?_)
          · rw [LA_set (by rw [hsz]; exact him)] at hj
            simp only [addL, Bool.or_eq_true, beq_iff_eq] at hj
            rcases hj with hj | rfl
            · exact hlt j hj
            · exact hik'
          · omega
  have e : padA ops.size (Array.replicate (preOps ops m).size false) = Array.replicate ops.size false := by
    apply Array.ext_getElem?
    intro j
    simp only [padA, hpsz, Array.size_replicate]
    by_cases hj : j < m
    · rw [Array.getElem?_append_left (by simpa using hj)]
      have : j < ops.size := by omega
      simp [Array.getElem?_replicate, hj, this]
    · rw [Array.getElem?_append_right (by simp; omega)]
      simp only [Array.getElem?_replicate, Array.size_replicate]
      by_cases h2 : j < ops.size
      · rw [if_pos (by omega), if_pos h2]
      · rw [if_neg (by omega), if_neg h2]
  have hLA0 : LA (Array.replicate (preOps ops m).size false) = pre 0 := by
    funext j
    simp only [LA, pre]
    by_cases hj : j < (preOps ops m).size <;> simp [hj]
  refine wp_region_any hdraws ?_
  rw [← e]
  refine key ops.size _ ι (max s.nx s.nx) a _ ?_ (fun i hi => ?_) ?_
  · refine ⟨by simp, ?_, ?_, fun q b hq => ?_, Nat.le_max_right _ _, fun i hi _ hnew => ?_, hrel.size, hrel.defers, fun t => ?_, ?_, fun q b hq hlt => hn.2 q b hq hlt⟩
    · rw [hLA0]
      intro i o ho hL
      simp [pre] at hL
    · try simp only
      rw [hSLA]; exact hrel.wf.drew
    · have := hrel.bnd.ilt q b hq
      omega
    · obtain ⟨_, h2, _⟩ := hhowA i (os[i]'(by omega)) (by simp)
      rw [h2] at hnew; cases hnew
    · try simp only
      rw [hSLA, hLA0]
      have hlw : ∀ n, lw (pre 0) (slotW (dstF os) recA t) n = none := by
        intro n
        induction n with
        | zero => rfl
        | succ n ih => simp [lw, pre, ih]
      have e0 : wkE os recA (merge gs g []) 0 = merge gs g [] := rfl
      rw [e0]
      simp only [EL, hlw, Option.getD_none]
      refine Rep.step (drew_step ι s.m w) ?_
      simp only [merge]
      split
      · rename_i ht; exact hrel.glob t ht
      · rename_i ht; exact hrel.loc t (by simpa using ht)
    · try simp only
      rw [hSLA]
      exact hst.trans (drew_step ι s.m w)
  · rw [hLA0] at hi; simp [pre] at hi
  · have := List.length_filter_le (fun i => !LA (Array.replicate (preOps ops m).size false) i) (List.range m)
    simp only [List.length_range] at this
    omega
end Go.AL
/- The abstract layer: code and functions come to what the abstract ones say. -/
set_option linter.unusedVariables false
set_option linter.unusedSimpArgs false
namespace Go.AL
variable {P : Program} {gs : List Nat} {N : Nat} {ι ι' : Nat → Option Nat} {g l : Env} {s s' : St} {a : Act} {w w' : World}

/-- What is known behind code. -/
def After (gs : List Nat) (N : Nat) (ι0 : Nat → Option Nat) (s0 : St) (w0 : World) (Q : AExit → Env → St → Prop) (e : Exit) (a : Act) (w : World) : Prop :=
  ∃ ι g l s, Rel gs N ι g l s a w ∧ Step ι0 s0.m w0 ι s.m w ∧ Inc ι0 ι s0.nx s.nx ∧ match e with | .normal => Q .normal g s | .exit i => Q (.exit i) g s | .ret => Q .ret g s | _ => False

theorem wp_loop_ix {P : Program} {Q : Exit → Act → World → Prop} {c : Code} (J : Nat → Act → World → Prop) {n : Nat} {a : Act} {w : World} (h₀ : J n a w)
    (round : ∀ n a w, J n a w → c.wp P (Exit.then (fun a' w' => ∃ m, m < n ∧ J m a' w') Q) a w) : (Code.loop c).wp P Q a w := by
  intro b k cs
  have key : ∀ n a w, J n a w → ∃ e a' w', Q e a' w' ∧ Arrives P (lone (b.at a (.code c :: .inLoop c :: k)) cs w) b k cs e a' w' := by
    intro n
    induction n using Nat.strongRecOn with
    | _ n ih =>
      intro a w hI
      obtain ⟨e, a₁, w₁, hq, harr⟩ := round n a w hI b (.inLoop c :: k) cs
      cases e with
      | normal =>
        obtain ⟨m, hlt, hI₁⟩ := hq
        obtain ⟨e₂, a₂, w₂, hq₂, harr₂⟩ := ih m hlt a₁ w₁ hI₁
        exact ⟨e₂, a₂, w₂, hq₂, .of_steps (Steps.trans harr (.one step_inLoop)) harr₂⟩
      | exit id => exact ⟨_, a₁, w₁, hq, .pass (x := .inLoop c) rfl (fun _ _ => .inl (by simp)) harr⟩
      | goto l => exact ⟨_, a₁, w₁, hq, .pass (x := .inLoop c) rfl (fun _ _ => .inl (by simp)) harr⟩
      | ret => exact ⟨_, a₁, w₁, hq, .pass (x := .inLoop c) rfl (fun _ _ => .inl (by simp)) harr⟩
      | panic ch => exact ⟨_, a₁, w₁, hq, .pass (x := .inLoop c) rfl (fun _ _ => .inl (by simp)) harr⟩
      | outgrown => exact ⟨_, a₁, w₁, hq, .pass (x := .inLoop c) rfl (fun _ _ => .inl (by simp)) harr⟩
  obtain ⟨e, a', w', hq, harr⟩ := key n a w h₀
  exact ⟨e, a', w', hq, .of_steps (.one step_loop) harr⟩

theorem condOpd_val {c : Operand} {y : AOpd} (h : condOpd gs c = some y) : opd gs c = some y ∧ ∀ l l', y.val g l = y.val g l' := by
  unfold condOpd at h
  split at h
  · cases h
  · rename_i hne
    refine ⟨h, fun l l' => ?_⟩
    cases y with
    | l t => exact absurd h (hne t)
    | _ => rfl

/-- A box is never written again: it is what it holds. -/
theorem Rel.frz (h : Rel gs N ι g l s a w) {t o off : Nat} {cs : List AV} (ht : gs.contains t = true) (hg : g.get t = .ptr o off) (ho : s.m o = some (.box cs)) :
    Rel gs N ι ((t, .cptr (cs.drop off)) :: g) l (s.del o) a w ∧ Step ι s.m w ι (s.del o).m w := by
  have hsub := delS_sub s.m o
  have hst : Step ι s.m w ι (s.del o).m w := drop_step s.m (delS s.m o) hsub ι w
  have hwf : WF ι (s.del o).m w := h.wf.drop hsub
  refine ⟨⟨hwf, ⟨fun q ob hq => h.bnd.lt q ob (hsub q ob hq), h.bnd.ilt⟩, h.size, h.defers, fun u hu => ?_, fun u hu => (h.loc u hu).step hst⟩, hst⟩
  simp only [Env.get]
  split
  · rename_i e
    subst e
    have hp := h.glob t ht
    rw [hg] at hp
    obtain ⟨b, hb, hv⟩ := rep_ptr hp
    rw [hv]
    have hc := (box_cellsAt (h.wf.rep o _ b ho hb)).drop off
    simp only [Nat.zero_add] at hc
    obtain ⟨_, f, hf⟩ := hc
    refine .cptr f rfl (fun j hj => ?_) (fun j x hx => ((hf j x hx).2.2).step hst)
    have hx : (cs.drop off)[j]? = some (cs.drop off)[j] := by simp [hj]
    obtain ⟨h1, h2, h3⟩ := hf j _ hx
    refine ⟨h1, ?_, h2⟩
    rintro ⟨q, ob, k1, k2, k3⟩
    have hq : q ≠ o := by
      intro e
      simp [St.del, e] at k1
    exact hq (h.wf.inj q o ob _ b (hsub q ob k1) ho k2 hb)
  · exact (h.glob u hu).step hst

theorem frzs_sound {ι0 : Nat → Option Nat} {s0 : St} {w0 : World} {c : Code} : ∀ (ts : List Nat) (x : ACode), ts.all gs.contains = true →
    (∀ Q, awp P x Q g s → c.wp P (After gs N ι0 s0 w0 Q) a w) → ∀ Q, awp P (frzs ts x) Q g s → c.wp P (After gs N ι0 s0 w0 Q) a w
  | [], x, _, hx, Q, h => hx Q h
  | t :: r, x, ht, hx, Q, h => by
    simp only [List.all_cons, Bool.and_eq_true] at ht
    refine frzs_sound r (.seq x (.frz t)) ht.2 (fun Q' h' => ?_) Q h
    refine wp_mono (hx _ h') fun e a' w' ⟨ι', g', l', s', h1, h2, h3, h4⟩ => ?_
    cases e with
    | normal =>
      simp only [awp] at h4
      split at h4
      · rename_i o off hg
        split at h4
        · rename_i cs ho
          obtain ⟨k1, k2⟩ := h1.frz ht.1 hg ho
          exact ⟨ι', _, l', _, k1, h2.trans k2, h3, h4⟩
        · exact h4.elim
      · exact h4.elim
    | exit i => exact ⟨ι', g', l', s', h1, h2, h3, h4⟩
    | ret => exact ⟨ι', g', l', s', h1, h2, h3, h4⟩
    | _ => exact h4.elim

theorem code_sound {ι0 : Nat → Option Nat} {s0 : St} {w0 : World} (hdraws : P.follows .mixedOrders = true) : ∀ (c : Code) (ac : ACode), compileCode P gs N c = some ac → ∀ (Q : AExit → Env → St → Prop) (ι : Nat → Option Nat) (g l : Env) (s : St) (a : Act) (w : World),
    awp P ac Q g s → Rel gs N ι g l s a w → Step ι0 s0.m w0 ι s.m w → Inc ι0 ι s0.nx s.nx → c.wp P (After gs N ι0 s0 w0 Q) a w := by
  intro c
  induction c with
  | skip =>
    intro ac hc Q ι g l s a w h hr hs hn
    cases hc
    exact wp_skip ⟨ι, g, l, s, hr, hs, hn, h⟩
  | region id ops draw =>
    intro ac hc Q ι g l s a w h hr hs hn
    simp only [compileCode] at hc
    split at hc
    rotate_left
    · cases hc
    rename_i hfr
    simp only [Option.map_eq_some_iff] at hc
    obtain ⟨ac, hc, rfl⟩ := hc
    refine frzs_sound _ ac hfr (fun Q' h' => ?_) Q h
    clear h
    have h := h'
    clear h'
    split at hc
    · rename_i k hmk
      clear hmk
      split at hc
      rotate_left
      · cases hc
      rename_i hdr
      subst hdr
      simp only [compileRegion4] at hc
      generalize ((List.range (ops.size + 1)).find? fun j => decide (k < j) && sufOK ops j).getD 0 = m at hc
      split at hc
      rotate_left
      · cases hc
      rename_i hchk
      simp only [Bool.and_eq_true, decide_eq_true_eq, List.all_eq_true, List.mem_range, Bool.or_eq_true, List.contains_iff_mem] at hchk
      obtain ⟨⟨⟨hkm, hsuf⟩, hsl⟩, haf⟩ := hchk
      split at hc
      rotate_left
      · cases hc
      rename_i kinds oc hk hoc
      split at hc
      rotate_left
      · cases hc
      rename_i hw
      rw [Bool.and_eq_true] at hw
      split at hc
      rotate_left
      · cases hc
      rename_i ac' dc os suf hac hdc hos hsf
      split at hc
      rotate_left
      · cases hc
      rename_i hfl
      simp only [Bool.and_eq_true] at hfl
      obtain ⟨⟨hcl, hfl⟩, hcn⟩ := hfl
      cases hc
      have T := text_of (by rw [Bool.and_eq_true]; exact hsl) hk hos hw.1 hcn
      have hln := T.len
      rw [preOps_size (sufOK_spec hsuf).le] at hln
      have htk : (os.take k).length = k := by simp; omega
      rw [awp, htk] at h
      refine float_sound hdraws hkm hsuf T (fun j h1 h2 => ?_) hoc hac hcl (by simpa using hw.2) hdc (fun i hi hb => ?_) hsf (fun ι' g' l' s' a' w' h1 h2 h3 h4 => ⟨ι', g', l', s', h1, h2, h3, h4⟩) h hr.clear hs hn
      · rcases haf j h2 with h3 | h3
        · omega
        · exact h3
      · have hmem : i ∈ floats ((befores (preOps ops m).toList []).getD k []) k := by
          simp only [floats, List.mem_filter, List.mem_range, Bool.not_eq_true', hi, true_and]
          rw [← Bool.not_eq_true, List.contains_iff_mem]
          exact hb
        have h1 := List.all_eq_true.1 hfl i hmem
        have hoi : os[i]? = some (os[i]'(by omega)) := by simp
        rw [hoi] at h1
        refine ⟨_, hoi, ?_, fun x hx => List.all_eq_true.1 h1 x hx⟩
        rw [List.mem_filterMap]
        exact ⟨i, hmem, by rw [hoi]; rfl⟩
    rename_i hmk0
    clear hmk0
    split at hc
    · rename_i hms
      simp only [Bool.and_eq_true] at hms
      obtain ⟨_, rfl⟩ := hms
      simp only [compileRegion3] at hc
      generalize ((List.range (ops.size + 1)).find? (lateOK ops)).getD ops.size = k at hc
      split at hc
      rotate_left
      · cases hc
      rename_i hchk
      simp only [Bool.and_eq_true] at hchk
      split at hc
      rotate_left
      · cases hc
      rename_i kinds oc oa hk hoc hoa
      split at hc
      rotate_left
      · cases hc
      rename_i hw
      split at hc
      rotate_left
      · cases hc
      rename_i e t hae hda hgc hga
      split at hc
      rotate_left
      · cases hc
      rename_i hts
      simp only [Bool.and_eq_true, decide_eq_true_eq, bne_iff_ne, ne_eq, List.all_eq_true, List.mem_range] at hts
      split at hc
      rotate_left
      · cases hc
      rename_i zs' acl dc os suf hz hac hdc hos hsf
      cases hc
      exact late_sound hdraws hchk.1 (by simpa using hchk.2) hk hw hos hoc hac hgc hdc hts.1.2 hoa hae hga hda hts.1.1 hz (fun i hi o ho => by have := hts.2 i hi; rw [ho] at this; simpa using this) hsf (fun ι' g' l' s' a' w' h1 h2 h3 h4 => ⟨ι', g', l', s', h1, h2, h3, h4⟩) h hr.clear hs hn
    rename_i hms0
    clear hms0
    split at hc
    · rename_i hms
      simp only [Bool.and_eq_true] at hms
      obtain ⟨_, rfl⟩ := hms
      simp only [compileRegion2] at hc
      generalize ((List.range (ops.size + 1)).find? (sufOK ops)).getD ops.size = k at hc
      split at hc
      · rename_i hchk
        simp only [Bool.and_eq_true] at hchk
        split at hc
        · rename_i kinds hk
          split at hc
          · rename_i os suf hos hsf
            cases hc
            exact suf_sound hdraws hchk.1 (by simpa using hchk.2) hk hos hsf (fun ι' g' l' s' a' w' h1 h2 h3 h4 => ⟨ι', g', l', s', h1, h2, h3, h4⟩) h hr.clear hs hn
          · cases hc
        · cases hc
      · cases hc
    rename_i hms
    clear hms
    simp only [compileRegion] at hc
    split at hc
    · rename_i hd
      subst hd
      split at hc
      · rename_i hchk
        split at hc
        · rename_i kinds hk
          simp only [Option.map_eq_some_iff] at hc
          obtain ⟨os, hos, rfl⟩ := hc
          exact draw_sound hdraws hchk hk hos (fun ι' g' l' s' a' w' h1 h2 h3 h4 => ⟨ι', g', l', s', h1, h2, h3, h4⟩) h hr.clear hs hn
        · cases hc
      · cases hc
    · rename_i hd
      simp only [Bool.not_eq_true] at hd
      subst hd
      simp only [Option.map_eq_some_iff] at hc
      obtain ⟨os, hos, rfl⟩ := hc
      exact wp_region (seq_sound hos (fun ι' g' l' s' a' w' h1 h2 h3 h4 => ⟨ι', g', l', s', h1, h2, h3, h4⟩) h hr.clear hs hn)
  | seq x y ihx ihy =>
    intro ac hc Q ι g l s a w h hr hs hn
    simp only [compileCode] at hc
    split at hc
    · rename_i x' y' hx hy
      cases hc
      refine wp_seq (wp_mono (ihx x' hx _ ι g l s a w h hr hs hn) fun e a' w' ⟨ι', g', l', s', h1, h2, h3, h4⟩ => ?_)
      cases e with
      | normal => exact ihy y' hy Q ι' g' l' s' a' w' h4 h1 h2 h3
      | exit i => exact ⟨ι', g', l', s', h1, h2, h3, h4⟩
      | ret => exact ⟨ι', g', l', s', h1, h2, h3, h4⟩
      | _ => exact h4.elim
    · cases hc
  | cond c x y ihx ihy =>
    intro ac hc Q ι g l s a w h hr hs hn
    simp only [compileCode] at hc
    split at hc
    · rename_i c' x' y' hcc hx hy
      cases hc
      obtain ⟨ho, hv⟩ := condOpd_val (g := g) hcc
      have hval := hr.val c c' ho
      simp only [awp] at h
      rw [hv l []] at hval
      split at h
      · rename_i t ht
        rw [ht] at hval
        exact wp_cond_split (rep_bool hval) (fun e => ihx x' hx Q ι g l s a w (h.1 e) hr hs hn) (fun e => ihy y' hy Q ι g l s a w (h.2 e) hr hs hn)
      · exact h.elim
    · cases hc
  | block id b ih =>
    intro ac hc Q ι g l s a w h hr hs hn
    simp only [compileCode, Option.map_eq_some_iff] at hc
    obtain ⟨b', hb, rfl⟩ := hc
    refine wp_block (wp_mono (ih b' hb _ ι g l s a w h hr hs hn) fun e a' w' ⟨ι', g', l', s', h1, h2, h3, h4⟩ => ?_)
    cases e with
    | normal => exact ⟨ι', g', l', s', h1, h2, h3, h4⟩
    | exit i =>
      simp only [Exit.inBlock]
      simp only at h4
      split at h4
      · rename_i e; rw [if_pos e]; exact ⟨ι', g', l', s', h1, h2, h3, h4⟩
      · rename_i e; rw [if_neg e]; exact ⟨ι', g', l', s', h1, h2, h3, h4⟩
    | ret => exact ⟨ι', g', l', s', h1, h2, h3, h4⟩
    | _ => exact h4.elim
  | loop b ih =>
    intro ac hc Q ι g l s a w h hr hs hn
    simp only [compileCode, Option.map_eq_some_iff] at hc
    obtain ⟨b', hb, rfl⟩ := hc
    obtain ⟨I, n, hI, hstep⟩ := h
    refine wp_loop_ix (fun n a w => ∃ ι g l s, Rel gs N ι g l s a w ∧ Step ι0 s0.m w0 ι s.m w ∧ Inc ι0 ι s0.nx s.nx ∧ I n g s) (n := n) ⟨ι, g, l, s, hr, hs, hn, hI⟩ ?_
    rintro n a w ⟨ι, g, l, s, hr, hs, hn, hI⟩
    refine wp_mono (ih b' hb _ ι g l s a w (hstep n g s hI) hr hs hn) fun e a' w' ⟨ι', g', l', s', h1, h2, h3, h4⟩ => ?_
    cases e with
    | normal =>
      obtain ⟨m, hm, hI'⟩ := h4
      exact ⟨m, hm, ι', g', l', s', h1, h2, h3, hI'⟩
    | exit i => exact ⟨ι', g', l', s', h1, h2, h3, h4⟩
    | ret => exact ⟨ι', g', l', s', h1, h2, h3, h4⟩
    | _ => exact h4.elim
  | exit id =>
    intro ac hc Q ι g l s a w h hr hs hn
    cases hc
    exact wp_exit ⟨ι, g, l, s, hr, hs, hn, h⟩
  | ret =>
    intro ac hc Q ι g l s a w h hr hs hn
    cases hc
    exact wp_ret ⟨ι, g, l, s, hr, hs, hn, h⟩
  | _ => intro ac hc; cases hc

theorem argEnv_get : ∀ (i : Nat) (args : List AV) (t : Nat), (argEnv i args).get t = if i ≤ t then args.getD (t - i) .any else .any
  | i, [], t => by simp [argEnv, Env.get]
  | i, v :: r, t => by
    simp only [argEnv, Env.get]
    by_cases h : i = t
    · subst h; simp
    · rw [if_neg h, argEnv_get (i + 1) r t]
      by_cases h1 : i + 1 ≤ t
      · rw [if_pos h1, if_pos (by omega)]
        have : t - i = t - (i + 1) + 1 := by omega
        rw [this]; simp
      · rw [if_neg h1, if_neg (by omega)]

theorem results_sound {fn : Func} {rs : List ARes} (hc : compileRes P gs fn.results.toList = some rs) (hr : Rel gs N ι g l s a w) {vs : List AV} (hv : resVals rs g s = some vs) :
    ∃ cv, (results fn a.tmps).run P w = .ok cv w ∧ Rep ι (Foot ι s.m) w cv (oneOf vs) := by
  have key : ∀ (l0 : List ResultVar) (rs : List ARes) (vs : List AV), compileRes P gs l0 = some rs → resVals rs g s = some vs →
      ∃ cvs : List Value, (l0.mapM fun (r : ResultVar) => match r with | .tmp t => (Pure.pure (a.tmps.getD t undef) : Sem Value) | .cell c t => do loadVar t (← asAddr (a.tmps.getD c undef))).run P w = .ok cvs w ∧
        cvs.length = vs.length ∧ ∀ (j : Nat) v x, cvs[j]? = some v → vs[j]? = some x → Rep ι (Foot ι s.m) w v x := by
    intro l0
    induction l0 with
    | nil =>
      intro rs vs h1 h2
      simp [compileRes] at h1; subst h1
      simp [resVals] at h2; subst h2
      exact ⟨[], by simp, rfl, by simp⟩
    | cons x l0 ih =>
      intro rs vs h1 h2
      have fin : ∀ {cv v r' vs'}, (match x with | .tmp t => (Pure.pure (a.tmps.getD t undef) : Sem Value) | .cell c t => do loadVar t (← asAddr (a.tmps.getD c undef))).run P w = .ok cv w →
          Rep ι (Foot ι s.m) w cv v → compileRes P gs l0 = some r' → resVals r' g s = some vs' → vs = v :: vs' →
          ∃ cvs : List Value, ((x :: l0).mapM fun (r : ResultVar) => match r with | .tmp t => (Pure.pure (a.tmps.getD t undef) : Sem Value) | .cell c t => do loadVar t (← asAddr (a.tmps.getD c undef))).run P w = .ok cvs w ∧
            cvs.length = vs.length ∧ ∀ (j : Nat) v x, cvs[j]? = some v → vs[j]? = some x → Rep ι (Foot ι s.m) w v x := by
        intro cv v r' vs' k1 k2 k3 k4 k5
        subst k5
        obtain ⟨cvs, m1, m2, m3⟩ := ih r' vs' k3 k4
        refine ⟨cv :: cvs, ?_, by simp [m2], fun j u y hu hy => ?_⟩
        · simp only [List.mapM_cons, Sem.run_bind, k1, Result.andThen_ok, m1]
          rfl
        · cases j with
          | zero => simp at hu hy; subst hu hy; exact k2
          | succ j => simp at hu hy; exact m3 j u y hu hy
      cases x with
      | tmp t =>
        simp only [compileRes, Option.map_eq_some_iff] at h1
        obtain ⟨r', hr', rfl⟩ := h1
        cases hg : gs.contains t with
        | false => rw [hg] at h2; simp [resVals] at h2
        | true =>
          rw [hg] at h2
          simp only [resVals, Option.map_eq_some_iff] at h2
          obtain ⟨vs', hvs', rfl⟩ := h2
          exact fin (by rfl) (hr.glob t hg) hr' hvs' rfl
      | cell c t =>
        simp only [compileRes] at h1
        split at h1
        · rename_i n agg r' hn hagg hr'
          cases h1
          cases hg : gs.contains c with
          | false => rw [hg] at h2; simp [resVals] at h2
          | true =>
            rw [hg] at h2
            simp only [resVals] at h2
            split at h2
            · rename_i o off hp
              split at h2
              · rename_i cs ho
                split at h2
                · rename_i hfit
                  split at h2
                  · rename_i v vs' hl hvs'
                    cases h2
                    have hrep := hr.glob c hg
                    rw [hp] at hrep
                    obtain ⟨b, hb, hv⟩ := rep_ptr hrep
                    have hcells := (box_cellsAt (hr.wf.rep o _ b ho hb)).drop off
                    simp only [Nat.zero_add] at hcells
                    obtain ⟨cv, hrun, hcv⟩ := load_cells (P := P) t n agg (run_isAgg hagg) (run_sizeOf hn) hcells (by simp; omega) hl
                    refine fin ?_ hcv hr' hvs' rfl
                    simp only [Instr.loadAt, Instr.sureAddr, Sem.run_bind, Sem.run_pure, Result.andThen_ok] at hrun
                    simp [hv, asAddr, hrun]
                  · cases h2
                · cases h2
              · cases h2
            · cases h2
        · cases h1
  obtain ⟨cvs, m1, m2, m3⟩ := key _ rs vs hc hv
  have hrun : (fn.results.mapM fun (r : ResultVar) => match r with | .tmp t => (Pure.pure (a.tmps.getD t undef) : Sem Value) | .cell c t => do loadVar t (← asAddr (a.tmps.getD c undef))).run P w = .ok cvs.toArray w := by
    rw [Array.mapM_eq_mapM_toList]
    simp only [Sem.run_map, m1, Result.andThen_ok]
  refine ⟨if h : cvs.toArray.size = 1 then cvs.toArray[0] else .tuple cvs.toArray, ?_, ?_⟩
  · unfold results
    rw [Sem.run_bind]
    exact congrArg (fun r => Result.andThen r fun vs w' => Result.ok (if h : vs.size = 1 then vs[0] else Value.tuple vs) w') hrun
  · match cvs, vs, m2, m3 with
    | [c], [v], _, m3 => exact m3 0 c v rfl rfl
    | [], [], _, m3 => exact .tup rfl (by simp)
    | c :: c' :: cs, v :: v' :: vs, m2, m3 =>
      have hne : ¬ ((c :: c' :: cs).toArray.size = 1) := by simp
      rw [dif_neg hne]
      exact .tup (by simpa using m2) (fun j u y hu hy => m3 j u y (by simpa using hu) hy)

theorem fun_sound {f : FuncId} {fn : Func} {af : AFun} (hdraws : P.follows .mixedOrders = true) (hf : P.funcs[f]? = some fn) (hcb : Callable P f) (hc : compileFun P gs fn = some af) {args : List AV} (hargs : args.length = af.np) {s : St}
    {K : AV → St → Prop} (h : awpFun P af args s K) : ACalls P f args s K := by
  refine ⟨hcb, fun ι w vs hwf hbnd hvs => ?_⟩
  unfold compileFun at hc
  split at hc
  · rename_i body rs hb hrs
    split at hc
    · rename_i hnp
      cases hc
      cases hbody : fn.body with
      | none => simp [hbody] at hb
      | some c =>
        simp only [hbody, Option.bind_some] at hb
        have hsz : vs.size = fn.params.size + fn.nfree := hvs.1.trans hargs
        have hrel : Rel gs fn.ntmps ι (argEnv 0 args) [] s { tmps := vs ++ Array.replicate (fn.ntmps - vs.size) undef, defers := [] } w := by
          refine ⟨hwf, hbnd, by simp; omega, rfl, fun t ht => ?_, fun t ht => .any _⟩
          rw [argEnv_get]
          simp only [Nat.zero_le, if_true, Nat.sub_zero]
          by_cases hlt : t < vs.size
          · have hlt' : t < args.length := by rw [← hvs.1]; exact hlt
            have e1 : (vs ++ Array.replicate (fn.ntmps - vs.size) undef).getD t undef = vs[t] := by
              simp [Array.getElem?_append_left hlt, hlt]
            have e2 : args.getD t .any = args[t] := by simp [hlt']
            rw [e1, e2]
            exact hvs.2 t _ _ (by simp [hlt]) (by simp [hlt'])
          · have : args.getD t .any = .any := by
              have : args.length ≤ t := by rw [← hvs.1]; omega
              simp [List.getElem?_eq_none this]
            rw [this]
            exact .any _
        refine calls_of_wp hf hbody (wp_mono (code_sound hdraws c body hb _ ι _ [] s _ w h hrel (Step.refl _ _ _) (Inc.refl _ _)) fun e a' w' ⟨ι', g', l', s', h1, h2, h3, h4⟩ => ?_)
        have fin : (match resVals rs g' s' with | some vs => K (oneOf vs) s' | none => False) → ∃ v, (results fn a'.tmps).run P w' = .ok v w' ∧
            ∃ v_1 r s'_1 ι'_1, Ending.returned v = .returned v_1 ∧ Step ι s.m w ι'_1 s'_1.m w' ∧ WF ι'_1 s'_1.m w' ∧ Bnd ι'_1 s'_1.m s'_1.nx ∧ Inc ι ι'_1 s.nx s'_1.nx ∧ Rep ι'_1 (Foot ι'_1 s'_1.m) w' v_1 r ∧ K r s'_1 := by
          intro h
          split at h
          · rename_i vs' hvs'
            obtain ⟨cv, k1, k2⟩ := results_sound hrs h1 hvs'
            exact ⟨cv, k1, cv, _, s', ι', rfl, h2, h1.wf, h1.bnd, h3, k2, h⟩
          · exact h.elim
        cases e with
        | normal => exact ⟨h1.defers, fin h4⟩
        | ret => exact ⟨h1.defers, fin h4⟩
        | exit i => exact h4.elim
        | _ => exact h4.elim
    · cases hc
  · cases hc

end Go.AL
