/- The abstract layer: regions whose order is open: the walk in the order of the text, taken apart. -/
import Derived.Test.YtkegioliclbbhaaA11
set_option linter.unusedVariables false
set_option linter.unusedSimpArgs false
namespace Go.AL
variable {P : Program} {gs : List Nat} {N : Nat} {ι ι' : Nat → Option Nat} {g l : Env} {s s' : St} {a : Act} {w w' : World}

def merge (gs : List Nat) (g l : Env) : Nat → AV := fun t => if gs.contains t then g.get t else l.get t

def Ev (E : Nat → AV) : AOpd → AV
  | .g t => E t
  | .l t => E t
  | .c v => v

def setE (dst : Option (Bool × Nat)) (v : AV) (E : Nat → AV) : Nat → AV :=
  match dst with
  | some (_, t) => fun u => if u = t then v else E u
  | none => E

structure Rec where
  ran : Bool
  v : AV
  t : Option Nat
  u : Upd
  new : Option AObj
  nid : Nat

def guardOK (gd : Option (Bool × Nat × Bool)) (E : Nat → AV) : Prop :=
  match gd with
  | none => True
  | some (_, t, want) => E t = .bool want

def RunR (P : Program) (op : AOp) (E : Nat → AV) (S : Store) (nx : Nat) (acc : List (Nat × Nat)) (conc : List Nat) (r : Rec) : Prop :=
  (∃ f args fid first cap, op = .call true f args ∧ Ev E f = .fn fid first cap ∧ PureC P fid (first ++ args.map (Ev E) ++ cap) r.v ∧ r.t = none ∧ r.new = none) ∨
  (op.isCall = false ∧ r.t = op.touch (Ev E) ∧ ∃ obj, (match r.t with | none => obj = none | some q => ∃ ob, S q = some ob ∧ obj = some ob) ∧ op.ev (Ev E) nx obj = some ⟨r.v, r.u, r.new⟩ ∧ op.side (Ev E) obj ∧
    (∀ q, r.t = some q → ∀ p ∈ acc, p.1 ∈ conc → p.2 ≠ q))

structure StepAt (P : Program) (j : Nat) (o : AOper) (E : Nat → AV) (S : Store) (nx : Nat) (acc : List (Nat × Nat)) (r : Rec) (E' : Nat → AV) (S' : Store) (nx' : Nat) (acc' : List (Nat × Nat)) : Prop where
  nid : r.nid = nx
  how : (r.ran = false ∧ r.v = .tup [] ∧ r.t = none ∧ r.new = none ∧ ∃ gl t want, o.guard = some (gl, t, want) ∧ (E t = .bool (!want) ∨ E t = .tup [])) ∨ (r.ran = true ∧ guardOK o.guard E ∧ RunR P o.op E S nx acc o.conc r)
  env : E' = setE o.dst r.v E
  st : S' = app2S (app1S S r.t r.u) nx r.new
  nx' : nx' = nx + if r.new.isSome then 1 else 0
  acc' : acc' = if r.ran then accTo j r.t o.op.makes nx acc else acc

theorem Ev_val {names : List Nat} {x : AOpd} (h : opndOK gs names x = true) : x.val g l = Ev (merge gs g l) x := by
  cases x with
  | g t => simp only [opndOK, Bool.and_eq_true] at h; simp only [AOpd.val, Ev, merge, h.1, if_true]
  | l t =>
    simp only [opndOK, Bool.and_eq_true, Bool.not_eq_true'] at h
    simp only [AOpd.val, Ev, merge, h.1, Bool.false_eq_true, if_false]
  | c v => rfl

theorem opt_congr {α β : AOpd → AV} {x : Option AOpd} (h : ∀ y ∈ optL x, α y = β y) : x.map α = x.map β := by
  cases x with
  | none => rfl
  | some y => simp [h y (by simp [optL])]

theorem parts_congr {α β : AOpd → AV} {ps : List (Nat × Nat × AOpd)} (h : ∀ y ∈ ps.map (·.2.2), α y = β y) : (ps.map fun p => (p.1, α p.2.2)) = (ps.map fun p => (p.1, β p.2.2)) :=
  List.map_congr_left fun p hp => by rw [h _ (List.mem_map_of_mem hp)]

theorem elems_congr {α β : AOpd → AV} {ps : List (Nat × AOpd)} (h : ∀ y ∈ ps.map (·.2), α y = β y) : (ps.map fun p => (p.1, α p.2)) = (ps.map fun p => (p.1, β p.2)) :=
  List.map_congr_left fun p hp => by rw [h _ (List.mem_map_of_mem hp)]

/-- An operation asks its own operands alone. -/
theorem op_congr (op : AOp) {α β : AOpd → AV} (h : ∀ x ∈ op.opnds, α x = β x) : op.touch α = op.touch β ∧ (∀ nx obj, op.ev α nx obj = op.ev β nx obj) ∧ ∀ obj, op.side α obj = op.side β obj := by
  cases op <;> simp only [AOp.opnds, List.mem_cons, List.mem_append, List.not_mem_nil, or_false, forall_eq_or_imp, forall_eq] at h
  case build zs ps =>
    refine ⟨rfl, fun nx obj => by simp only [AOp.ev, parts_congr h], fun obj => ?_⟩
    simp only [AOp.side]
    exact propext ⟨fun k p hp => by rw [← h _ (List.mem_map_of_mem hp)]; exact k p hp, fun k p hp => by rw [h _ (List.mem_map_of_mem hp)]; exact k p hp⟩
  case buildSlice sz agg zs m ps =>
    refine ⟨rfl, fun nx obj => by simp only [AOp.ev, elems_congr h], fun obj => ?_⟩
    simp only [AOp.side]
    exact propext ⟨fun k p hp => by rw [← h _ (List.mem_map_of_mem hp)]; exact k p hp, fun k p hp => by rw [h _ (List.mem_map_of_mem hp)]; exact k p hp⟩
  case mkfn f as bs =>
    have e1 : as.map α = as.map β := List.map_congr_left fun x hx => h x (.inl hx)
    have e2 : bs.map α = bs.map β := List.map_congr_left fun x hx => h x (.inr hx)
    exact ⟨rfl, fun nx obj => by simp only [AOp.ev, e1, e2], fun obj => rfl⟩
  case slice sz x lo hi mx =>
    have e1 := opt_congr (x := lo) fun y hy => h.2 y (.inl (.inl hy))
    have e2 := opt_congr (x := hi) fun y hy => h.2 y (.inl (.inr hy))
    have e3 := opt_congr (x := mx) fun y hy => h.2 y (.inr hy)
    exact ⟨rfl, fun nx obj => by simp only [AOp.ev, h.1, e1, e2, e3], fun obj => by simp only [AOp.side, h.1, e1, e2, e3]⟩
  case sliceStr x lo hi =>
    have e1 := opt_congr (x := lo) fun y hy => h.2 y (.inl hy)
    have e2 := opt_congr (x := hi) fun y hy => h.2 y (.inr hy)
    exact ⟨rfl, fun nx obj => by simp only [AOp.ev, h.1, e1, e2], fun obj => by simp only [AOp.side, h.1, e1, e2]⟩
  all_goals first
    | exact ⟨by simp only [AOp.touch, h], fun nx obj => by simp only [AOp.ev, h], fun obj => by simp only [AOp.side, h]⟩
    | exact ⟨rfl, fun nx obj => by simp only [AOp.ev, h], fun obj => by simp only [AOp.side, h]⟩
    | exact ⟨rfl, fun nx obj => rfl, fun obj => rfl⟩
    | exact ⟨by simp only [AOp.touch, h], fun nx obj => rfl, fun obj => rfl⟩
    | exact ⟨rfl, fun nx obj => rfl, fun obj => by simp only [AOp.side, h]⟩
    | exact ⟨rfl, fun nx obj => by simp only [AOp.ev, h], fun obj => rfl⟩
    | exact ⟨by simp only [AOp.touch, h], fun nx obj => by simp only [AOp.ev, h], fun obj => rfl⟩
    | exact ⟨by simp only [AOp.touch, h], fun nx obj => rfl, fun obj => rfl⟩

theorem merge_setDst {names : List Nat} {d : Option (Bool × Nat)} (hd : (match d with | some (gl, t) => (gl == gs.contains t) && names.contains t | none => true) = true) {v : AV} {K : Env → Env → Prop} (h : setDst d v g l K) :
    ∃ g' l', K g' l' ∧ merge gs g' l' = setE d v (merge gs g l) := by
  cases d with
  | none => exact ⟨g, l, h, rfl⟩
  | some p =>
    obtain ⟨gl, t⟩ := p
    simp only [Bool.and_eq_true, beq_iff_eq] at hd
    obtain ⟨hgl, _⟩ := hd
    subst hgl
    cases hg : gs.contains t with
    | true =>
      rw [hg] at h
      refine ⟨(t, v) :: g, l, h, ?_⟩
      funext u
      by_cases e : u = t
      · subst e; simp only [merge, setE, Env.get, hg, if_true]
      · have e' : ¬ t = u := fun e' => e e'.symm
        simp only [merge, setE, Env.get, e, e', if_false]
    | false =>
      rw [hg] at h
      refine ⟨g, (t, v) :: l, h, ?_⟩
      funext u
      by_cases e : u = t
      · subst e; simp only [merge, setE, Env.get, hg, Bool.false_eq_true, if_false, if_true]
      · have e' : ¬ t = u := fun e' => e e'.symm
        simp only [merge, setE, Env.get, e, e', if_false]

theorem merge_envSet {gl : Bool} {t : Nat} (hgl : gl = gs.contains t) {v : AV} (hv : envGet g l (gl, t) = v) {K : Env → Env → Prop} (h : envSet (gl, t) v g l K) : ∃ g' l', K g' l' ∧ merge gs g' l' = merge gs g l := by
  subst hgl
  cases hg : gs.contains t with
  | true =>
    rw [hg] at h hv
    refine ⟨(t, v) :: g, l, h, ?_⟩
    funext u
    simp only [envGet, if_true] at hv
    by_cases e : t = u
    · subst e
      simp only [merge, Env.get, hg, if_true, hv]
    · simp only [merge, Env.get, e, if_false]
  | false =>
    rw [hg] at h hv
    refine ⟨g, (t, v) :: l, h, ?_⟩
    funext u
    simp only [envGet, Bool.false_eq_true, if_false] at hv
    by_cases e : t = u
    · subst e
      simp only [merge, Env.get, hg, Bool.false_eq_true, if_false, if_true, hv]
    · simp only [merge, Env.get, e, if_false]

theorem envGet_merge {gl : Bool} {t : Nat} (hgl : gl = gs.contains t) : envGet g l (gl, t) = merge gs g l t := by
  subst hgl
  simp [envGet, merge]

theorem extract {namesOf : Nat → List Nat} {K : Env → Env → St → Prop} : ∀ (os : List AOper) (k : Nat) (acc : List (Nat × Nat)) (g l : Env) (s : St), (∀ (i : Nat) o, os[i]? = some o → aoperOK gs (namesOf (k + i)) o = true ∧ (o.op.isCall = true → ∃ f as, o.op = .call true f as)) →
    aopsD P k acc os K g l s → ∃ (rec : Nat → Rec) (E : Nat → Nat → AV) (S : Nat → Store) (nx : Nat → Nat) (ac : Nat → List (Nat × Nat)), E 0 = merge gs g l ∧ S 0 = s.m ∧ nx 0 = s.nx ∧ ac 0 = acc ∧
      (∀ (i : Nat) o, os[i]? = some o → StepAt P (k + i) o (E i) (S i) (nx i) (ac i) (rec i) (E (i + 1)) (S (i + 1)) (nx (i + 1)) (ac (i + 1))) ∧
      ∃ (g' l' : Env) (s' : St), merge gs g' l' = E os.length ∧ s'.m = S os.length ∧ s'.nx = nx os.length ∧ ∀ m, s'.nx ≤ m → K g' l' (s'.bump m)
  | [], k, acc, g, l, s, hok, h => by
    refine ⟨fun _ => ⟨false, .any, none, .keep, none, 0⟩, fun _ => merge gs g l, fun _ => s.m, fun _ => s.nx, fun _ => acc, rfl, rfl, rfl, rfl, by simp, g, l, s, rfl, rfl, rfl, h⟩
  | o :: os, k, acc, g, l, s, hok, h => by
    obtain ⟨hok0, hcall0⟩ := hok 0 o rfl
    simp only [aoperOK, Bool.and_eq_true] at hok0
    obtain ⟨⟨hops, hdst⟩, hguard⟩ := hok0
    have hall : ∀ x ∈ o.op.opnds, opndOK gs (namesOf (k + 0)) x = true := fun x hx => List.all_eq_true.1 hops x hx
    have rest : ∀ (g l : Env) (s : St) (acc : List (Nat × Nat)), aopsD P (k + 1) acc os K g l s → _ := fun g l s acc h' => extract os (k + 1) acc g l s (fun i o ho => by
      have := hok (i + 1) o (by simpa using ho)
      rwa [show k + 1 + i = k + (i + 1) by omega]) h'
    -- what is done with one record
    have join : ∀ (r : Rec) (E0 : Nat → AV) (S0 S1 : Store) (nx0 nx1 : Nat) (ac0 ac1 : List (Nat × Nat)) (g1 l1 : Env) (s1 : St), StepAt P k o E0 S0 nx0 ac0 r (merge gs g1 l1) S1 nx1 ac1 → s1.m = S1 → s1.nx = nx1 → aopsD P (k + 1) ac1 os K g1 l1 s1 →
        ∃ (rec : Nat → Rec) (E : Nat → Nat → AV) (S : Nat → Store) (nx : Nat → Nat) (ac : Nat → List (Nat × Nat)), E 0 = E0 ∧ S 0 = S0 ∧ nx 0 = nx0 ∧ ac 0 = ac0 ∧
          (∀ (i : Nat) o', (o :: os)[i]? = some o' → StepAt P (k + i) o' (E i) (S i) (nx i) (ac i) (rec i) (E (i + 1)) (S (i + 1)) (nx (i + 1)) (ac (i + 1))) ∧
          ∃ (g' l' : Env) (s' : St), merge gs g' l' = E (os.length + 1) ∧ s'.m = S (os.length + 1) ∧ s'.nx = nx (os.length + 1) ∧ ∀ m, s'.nx ≤ m → K g' l' (s'.bump m) := by
      intro r E0 S0 S1 nx0 nx1 ac0 ac1 g1 l1 s1 hstep e1 e2 h'
      obtain ⟨rec, E, S, nx, ac, q1, q2, q3, q4, q5, q6⟩ := rest g1 l1 s1 ac1 h'
      refine ⟨fun i => match i with | 0 => r | i + 1 => rec i, fun i => match i with | 0 => E0 | i + 1 => E i, fun i => match i with | 0 => S0 | i + 1 => S i, fun i => match i with | 0 => nx0 | i + 1 => nx i, fun i => match i with | 0 => ac0 | i + 1 => ac i, rfl, rfl, rfl, rfl, ?_, ?_⟩
      · intro i o' ho
        cases i with
        | zero =>
          simp only [List.getElem?_cons_zero, Option.some.injEq] at ho
          subst ho
          simp only [q1, q2, q3, q4, ← e1, ← e2, Nat.add_zero]
          rw [← e1, ← e2] at hstep
          exact hstep
        | succ i =>
          simp only [List.getElem?_cons_succ] at ho
          have := q5 i o' ho
          rwa [show k + 1 + i = k + (i + 1) by omega] at this
      · exact q6
    have doRun : ∀ (g1 l1 : Env), merge gs g1 l1 = merge gs g l → guardOK o.guard (merge gs g l) →
        ((match o.op.touch (AOpd.val g1 l1) with | some q => ∀ p ∈ acc, p.1 ∈ o.conc → p.2 ≠ q | none => True) ∧
        o.op.step P g1 l1 s fun v s' => setDst o.dst v g1 l1 fun g' l' => aopsD P (k + 1) (accTo k (o.op.touch (AOpd.val g1 l1)) o.op.makes s.nx acc) os K g' l' s') →
        ∃ (r : Rec) (g2 l2 : Env) (s2 : St) (ac2 : List (Nat × Nat)), StepAt P k o (merge gs g l) s.m s.nx acc r (merge gs g2 l2) s2.m s2.nx ac2 ∧ aopsD P (k + 1) ac2 os K g2 l2 s2 := by
      intro g1 l1 hm hgd ⟨hfar, hst⟩
      have hval : ∀ x ∈ o.op.opnds, AOpd.val g1 l1 x = Ev (merge gs g l) x := fun x hx => by rw [Ev_val (hall x hx), hm]
      obtain ⟨c1, c2, c3⟩ := op_congr o.op hval
      rw [c1] at hfar
      cases hcl : o.op.isCall with
      | true =>
        obtain ⟨f, as, ho⟩ := hcall0 hcl
        have hfv : AOpd.val g1 l1 f = Ev (merge gs g l) f := hval f (by rw [ho]; simp [AOp.opnds])
        have hav : as.map (AOpd.val g1 l1) = as.map (Ev (merge gs g l)) := List.map_congr_left fun x hx => hval x (by rw [ho]; simp [AOp.opnds, hx])
        rw [ho] at hst
        simp only [AOp.step, hfv, hav] at hst
        cases hfe : Ev (merge gs g l) f <;> rw [hfe] at hst <;> simp only [callee] at hst
        rename_i fid first cap
        obtain ⟨r, hpure, hk⟩ := hst
        obtain ⟨g2, l2, hk2, hm2⟩ := merge_setDst (names := namesOf (k + 0)) hdst hk
        refine ⟨⟨true, r, none, .keep, none, s.nx⟩, g2, l2, s, _, ⟨rfl, .inr ⟨rfl, hgd, .inl ⟨f, as, fid, first, cap, ho, hfe, hpure, rfl, rfl⟩⟩, by rw [hm2, hm], rfl, rfl, by rw [ho]; rfl⟩, hk2⟩
      | false =>
        obtain ⟨obj, r, h1, h2, h3, h4⟩ := step_plain hcl hst
        rw [c1] at h1 h4
        rw [c2] at h2
        rw [c3] at h3
        obtain ⟨g2, l2, hk2, hm2⟩ := merge_setDst (names := namesOf (k + 0)) hdst h4
        refine ⟨⟨true, r.v, o.op.touch (Ev (merge gs g l)), r.upd, r.new, s.nx⟩, g2, l2, _, _, ⟨rfl, .inr ⟨rfl, hgd, .inr ⟨hcl, rfl, obj, h1, h2, h3, ?_⟩⟩, by rw [hm2, hm], ?_, ?_, ?_⟩, hk2⟩
        · intro q hq p hp
          simp only at hq
          rw [hq] at hfar
          exact hfar p hp
        · rw [St.app_m]
        · rw [St.app_nx]
        · simp only [if_true, c1]
    simp only [aopsD, guarded] at h
    cases hg : o.guard with
    | none =>
      rw [hg] at h
      obtain ⟨r, g2, l2, s2, ac2, q1, q2⟩ := doRun g l rfl (by rw [hg]; trivial) h
      exact join r _ _ _ _ _ _ _ g2 l2 s2 q1 rfl rfl q2
    | some gd =>
      obtain ⟨gl, t, want⟩ := gd
      rw [hg] at h hguard
      simp only [Bool.and_eq_true, beq_iff_eq] at hguard
      have hgl := hguard.1
      simp only at h
      split at h
      · rename_i b hb
        have hbm := hb
        rw [envGet_merge hgl] at hbm
        by_cases e : b = want
        · subst e
          obtain ⟨g1, l1, hk, hm⟩ := merge_envSet hgl hb (h.1 rfl)
          obtain ⟨r, g2, l2, s2, ac2, q1, q2⟩ := doRun g1 l1 hm (by rw [hg]; exact hbm) hk
          exact join r _ _ _ _ _ _ _ g2 l2 s2 q1 rfl rfl q2
        · have e' : b = !want := by cases b <;> cases want <;> simp_all
          subst e'
          obtain ⟨g1, l1, hk, hm⟩ := merge_envSet hgl hb (h.2 rfl)
          obtain ⟨g2, l2, hk2, hm2⟩ := merge_setDst (names := namesOf (k + 0)) hdst hk
          refine join ⟨false, .tup [], none, .keep, none, s.nx⟩ (merge gs g l) s.m s.m s.nx s.nx acc acc g2 l2 s ⟨rfl, .inl ⟨rfl, rfl, rfl, rfl, gl, t, want, hg, .inl hbm⟩, by rw [hm2, hm], rfl, rfl, rfl⟩ rfl rfl hk2
      · rename_i hb
        have hbm := hb
        rw [envGet_merge hgl] at hbm
        obtain ⟨g2, l2, hk2, hm2⟩ := merge_setDst (names := namesOf (k + 0)) hdst h
        exact join ⟨false, .tup [], none, .keep, none, s.nx⟩ (merge gs g l) s.m s.m s.nx s.nx acc acc g2 l2 s ⟨rfl, .inl ⟨rfl, rfl, rfl, rfl, gl, t, want, hg, .inr hbm⟩, by rw [hm2], rfl, rfl, rfl⟩ rfl rfl hk2
      · exact h.elim

end Go.AL
