/- The abstract layer: sequences of operations and code come to what the abstract ones say. -/
import Derived.Test.YtkegioliclbbhaaA10
set_option linter.unusedVariables false
set_option linter.unusedSimpArgs false
namespace Go.AL
variable {P : Program} {gs : List Nat} {N : Nat} {ι ι' : Nat → Option Nat} {g l : Env} {s s' : St} {a : Act} {w w' : World}

theorem bnd_app {ι' : Nat → Option Nat} (h : Bnd ι s.m s.nx) (t : Option Nat) (u : Upd) (new : Option AObj) (ht : ∀ q, t = some q → ∃ ob, s.m q = some ob)
    (hι : ∀ q b, ι' q = some b → (new.isSome = true ∧ q = s.nx) ∨ ι q = some b) : Bnd ι' (app2S (app1S s.m t u) s.nx new) (s.nx + if new.isSome then 1 else 0) := by
  have h1 : ∀ o ob, app1S s.m t u o = some ob → ∃ ob', s.m o = some ob' := by
    intro o ob ho
    cases t with
    | none => exact ⟨ob, by cases u <;> exact ho⟩
    | some q =>
      cases u with
      | keep => exact ⟨ob, ho⟩
      | set obj =>
        simp only [app1S] at ho
        split at ho
        · rename_i e; subst e; exact ht o rfl
        · exact ⟨ob, ho⟩
      | del =>
        simp only [app1S] at ho
        split at ho
        · cases ho
        · exact ⟨ob, ho⟩
  constructor
  · intro o ob ho
    cases new with
    | none =>
      obtain ⟨ob', k⟩ := h1 o ob ho
      simpa using h.lt o ob' k
    | some obj =>
      simp only [app2S] at ho
      split at ho
      · rename_i e; subst e; simp
      · obtain ⟨ob', k⟩ := h1 o ob ho
        have := h.lt o ob' k
        simp; omega
  · intro o b ho
    rcases hι o b ho with ⟨e, rfl⟩ | hb
    · simp [e]
    · have := h.ilt o b hb
      split <;> omega

theorem RepL.append {F : Nat → Nat → Prop} {vs us : Array Value} {l m : List AV} (h : RepL ι F w vs l) (k : RepL ι F w us m) : RepL ι F w (vs ++ us) (l ++ m) := by
  refine ⟨by simp [h.1, k.1], fun j v x hv hx => ?_⟩
  by_cases hj : j < vs.size
  · rw [Array.getElem?_append_left hj] at hv
    rw [List.getElem?_append_left (by rw [← h.1]; exact hj)] at hx
    exact h.2 j v x hv hx
  · rw [Array.getElem?_append_right (by omega)] at hv
    rw [List.getElem?_append_right (by rw [← h.1]; omega), ← h.1] at hx
    exact k.2 _ v x hv hx

/-- A call: whom it calls with what. -/
theorem call_run {pr p : Bool} {o : Oper} {f : AOpd} {args : List AOpd} (hc : compileAny P gs pr o = some (.call p f args)) {F : Nat → Nat → Prop} {ρ : Operand → Value} {α : AOpd → AV}
    (hα : ∀ x y, opd gs x = some y → Rep ι F w (ρ x) (α y)) {fid : FuncId} {first captured : List AV} (hf : α f = .fn fid first captured) (hcall : Callable P fid) :
    pr = p ∧ ∃ vs, (execOp ρ o).run P w = .ok (.enter fid vs) w ∧ RepL ι F w vs (first ++ args.map α ++ captured) := by
  obtain ⟨dst, op, type, pos, after, guard⟩ := o
  unfold compileAny at hc
  split at hc
  · rename_i fx xs hvc
    cases op <;> simp only [valueCall] at hvc <;> try (cases hvc; done)
    rename_i c
    split at hvc
    · rename_i fx' hfx
      cases hvc
      simp only [Option.bind_eq_bind] at hc
      cases h1 : opd gs fx <;> cases h2 : opds gs c.args <;> simp [h1, h2] at hc
      obtain ⟨hpp, rfl, rfl⟩ := hc
      have hr := hα fx _ h1
      rw [hf] at hr
      have hargs := opds_rep hα h2
      cases hv : ρ fx <;> rw [hv] at hr <;> try (cases hr; done)
      rename_i fn fs cs
      cases fn <;> try (cases hr; done)
      cases hr with
      | fn _ hl hl' hff hrr =>
        refine ⟨hpp, fs ++ c.args.map ρ ++ cs, ?_, RepL.append (RepL.append ⟨hl, hff⟩ hargs) ⟨hl', hrr⟩⟩
        have := hcall (fs ++ c.args.map ρ ++ cs) w
        rw [Array.append_assoc] at this
        simp [execOp, resolve, hfx, hv, Deferred.ofValue, invoke, this]
    · cases hvc
  · rename_i hvc
    have := Option.eq_some_of_isSome (o := compileOp P gs ⟨dst, op, type, pos, after, guard⟩) (by cases h : compileOp P gs ⟨dst, op, type, pos, after, guard⟩ <;> simp [h] at hc ⊢)
    rw [this] at hc
    simp only [Option.filter] at hc
    split at hc
    · rename_i h
      simp only [Option.some.injEq] at hc
      rw [hc] at h
      simp [AOp.isCall] at h
    · cases hc

theorem compileAny_op {pr : Bool} {o : Oper} {aop : AOp} (hc : compileAny P gs pr o = some aop) (hn : aop.isCall = false) : compileOp P gs o = some aop := by
  unfold compileAny at hc
  split at hc
  · simp only [Option.bind_eq_bind] at hc
    rename_i f args _
    cases h1 : opd gs f <;> cases h2 : opds gs args <;> simp [h1, h2] at hc
    subst hc
    simp [AOp.isCall] at hn
  · cases h : compileOp P gs o with
    | none => simp [h] at hc
    | some x =>
      simp only [h, Option.filter] at hc
      split at hc
      · exact hc
      · cases hc

/-- What is done where a step is no call. -/
theorem step_plain {aop : AOp} (hn : aop.isCall = false) {K : AV → St → Prop} (hst : aop.step P g l s K) :
    ∃ obj r, (match aop.touch (AOpd.val g l) with | none => obj = none | some q => ∃ ob, s.m q = some ob ∧ obj = some ob) ∧ aop.ev (AOpd.val g l) s.nx obj = some r ∧ aop.side (AOpd.val g l) obj ∧
      K r.v ((s.app1 (aop.touch (AOpd.val g l)) r.upd).app2 r.new) := by
  have key : aop.stepP g l s K → ∃ obj r, (match aop.touch (AOpd.val g l) with | none => obj = none | some q => ∃ ob, s.m q = some ob ∧ obj = some ob) ∧ aop.ev (AOpd.val g l) s.nx obj = some r ∧ aop.side (AOpd.val g l) obj ∧
      K r.v ((s.app1 (aop.touch (AOpd.val g l)) r.upd).app2 r.new) := by
    intro h
    unfold AOp.stepP at h
    cases ht : aop.touch (AOpd.val g l) with
    | none =>
      simp only [ht] at h ⊢
      cases he : aop.ev (AOpd.val g l) s.nx none with
      | none => simp only [he] at h
      | some r =>
        simp only [he] at h
        exact ⟨none, r, rfl, he, h.1, by simpa [St.app1] using h.2⟩
    | some q =>
      simp only [ht] at h ⊢
      cases ho : s.m q with
      | none => simp only [ho] at h
      | some ob =>
        simp only [ho] at h
        cases he : aop.ev (AOpd.val g l) s.nx (some ob) with
        | none => simp only [he] at h
        | some r =>
          simp only [he] at h
          exact ⟨some ob, r, ⟨ob, rfl, rfl⟩, he, h.1, h.2⟩
  cases aop <;> first
    | exact key hst
    | simp [AOp.isCall] at hn

/-- One operation that is no pure call. -/
theorem step_sound {pr : Bool} {o : Oper} {aop : AOp} (hc : compileAny P gs pr o = some aop) (hp : pr = false) (hrel : Rel gs N ι g l s a w) {K : AV → St → Prop} (hst : aop.step P g l s K)
    {next : Act → World → Prop} {Q : Exit → Act → World → Prop}
    (hnext : ∀ ι' cv v s' w', Step ι s.m w ι' s'.m w' → WF ι' s'.m w' → Bnd ι' s'.m s'.nx → Inc ι ι' s.nx s'.nx → Rep ι' (Foot ι' s'.m) w' cv v → K v s' → next (a.put o.dst cv) w') : o.wp P a w next Q := by
  subst hp
  cases hcl : aop.isCall with
  | true =>
    cases aop <;> simp [AOp.isCall] at hcl
    rename_i p f args
    cases hfv : f.val g l <;> (cases p <;> simp only [AOp.step, hfv, callee] at hst)
    · rename_i fid first captured
      obtain ⟨hcb, hall⟩ := hst
      obtain ⟨_, vs, hr, hl⟩ := call_run hc hrel.val hfv hcb
      have := hall ι w vs hrel.wf hrel.bnd hl
      unfold Oper.wp
      rw [hr]
      refine this.mono fun e w' ⟨v, r, s', ι', he, h1, h2, h3, h4, h5, h6⟩ => ?_
      subst he
      exact hnext ι' v r s' w' h1 h2 h3 h4 h5 h6
    · obtain ⟨r, hpure, _⟩ := hst
      have hcb := (hpure s).1
      obtain ⟨e, _⟩ := call_run hc hrel.val hfv hcb
      cases e
  | false =>
    have hco := compileAny_op hc hcl
    obtain ⟨obj, r, h1, h2, h3, h4⟩ := step_plain hcl hst
    have hfresh : ι s.nx = none := by
      cases h : ι s.nx with
      | none => rfl
      | some b => exact absurd (hrel.bnd.ilt _ b h) (Nat.lt_irrefl _)
    have hSn : s.m s.nx = none := by
      cases h : s.m s.nx with
      | none => rfl
      | some b => exact absurd (hrel.bnd.lt _ b h) (Nat.lt_irrefl _)
    obtain ⟨n, cv, w', ι', k1, k2, k3, k4, k5, k6⟩ := op_sound hco hrel.wf hfresh hSn hrel.val (fun _ => rfl) h1 h2 h3
    have hb := bnd_app hrel.bnd (aop.touch (AOpd.val g l)) r.upd r.new (fun q hq => by rw [hq] at h1; exact ⟨h1.choose, h1.choose_spec.1⟩) k6
    rw [← St.app_m] at k3 k4 k5 hb
    have hfin := hnext ι' cv r.v _ w' k3 k4 (by rw [St.app_nx]; exact hb) ⟨by rw [St.app_nx]; omega, fun q b hq hlt => (k6 q b hq).elim (fun h => absurd hlt (by rw [h.2]; exact Nat.lt_irrefl _)) id⟩ k5 h4
    unfold Oper.wp
    rw [k1]
    rcases k2 with rfl | ⟨rfl, rfl⟩
    · exact hfin
    · exact hfin

theorem rep_undef {F : Nat → Nat → Prop} {v : Value} (h : Rep ι F w v (.tup [])) : v = undef := by
  cases h with
  | tup hl hr =>
    rename_i vs
    have : vs = #[] := Array.eq_empty_of_size_eq_zero (by simpa using hl)
    subst this; rfl
theorem rep_undef_mk {F : Nat → Nat → Prop} : Rep ι F w undef (.tup []) := .tup rfl (by simp)
theorem yielded_undef {ops : Array Oper} {a : Act} {j t : Nat} (hj : (ops[j]?).bind (·.dst) = some t) (h : a.tmps.getD t undef = undef) : yielded ops a.tmps j = none := by
  unfold yielded
  rw [hj]
  cases h' : a.tmps[t]? with
  | none => simp [h']
  | some v =>
    have e : v = undef := by simpa [h'] using h
    simp [h', e, undef]
theorem yielded_of {ops : Array Oper} {a : Act} {j t : Nat} (hj : (ops[j]?).bind (·.dst) = some t) {b : Bool} (h : a.tmps.getD t undef = .bool b) : yielded ops a.tmps j = some b := by
  unfold yielded
  rw [hj]
  have : a.tmps[t]? = some (.bool b) := by
    cases h' : a.tmps[t]? with
    | none => simp [h', undef] at h
    | some v => simp [h'] at h; rw [h]
  simp [this]

theorem compileOper_inv {ops : Array Oper} {pr : Bool} {cc : List Nat} {o : Oper} {ao : AOper} (hc : compileOper P gs N ops pr cc o = some ao) :
    compileAny P gs pr o = some ao.op ∧ cdst gs N o.dst = some ao.dst ∧ cguard gs ops o.guard = some ao.guard ∧ ao.conc = cc := by
  unfold compileOper at hc
  split at hc
  · rename_i op dst guard h1 h2 h3
    cases hc
    exact ⟨h1, h2, h3, rfl⟩
  · cases hc

end Go.AL
