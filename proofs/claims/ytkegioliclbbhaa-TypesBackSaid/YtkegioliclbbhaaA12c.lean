/- The abstract layer: regions whose order is open: the theorem. -/
import Derived.Test.YtkegioliclbbhaaA12b
set_option linter.unusedVariables false
set_option linter.unusedSimpArgs false
namespace Go.AL
variable {P : Program} {gs : List Nat} {N : Nat} {ι ι' : Nat → Option Nat} {g l : Env} {s s' : St} {a : Act} {w w' : World}

/-- A pure call, at whatever state. -/
theorem pure_call {f : FuncId} {args : List AV} {r : AV} (h : PureC P f args r) {S : Store} {M : Nat} (hwf : WF ι S w) (hb : Bnd ι S M) {vs : Array Value} (hvs : RepL ι (Foot ι S) w vs args) :
    Calls P f vs w fun e w' => ∃ v ι' M', e = .returned v ∧ Step ι S w ι' S w' ∧ WF ι' S w' ∧ Bnd ι' S M' ∧ Inc ι ι' M M' ∧ Rep ι' (Foot ι' S) w' v r := by
  refine ((h ⟨S, M⟩).2 ι w vs hwf hb hvs).mono fun e w' ⟨v, r', s', ι', he, h1, h2, h3, h4, h5, h6, h7⟩ => ?_
  subst h6
  have hsub : ∀ o obj, S o = some obj → s'.m o = some obj := fun o obj ho => (h7 o (hb.lt o obj ho)).trans ho
  have hd := drop_step s'.m S hsub ι' w'
  exact ⟨v, ι', s'.nx, he, h1.trans hd, h2.drop hsub, ⟨fun o obj ho => Nat.lt_of_lt_of_le (hb.lt o obj ho) h4.1, h3.ilt⟩, h4, h5.step hd⟩

/-- What compileDraw has made. -/
theorem compileDraw_spec {ops : Array Oper} {bs : List (List Nat)} {kinds : List AOp} : ∀ (l : List Oper) (k : Nat) (os : List AOper), compileDraw P gs N ops bs kinds k l = some os → os.length = l.length ∧
    ∀ (i : Nat) o, l[i]? = some o → ∃ ao, os[i]? = some ao ∧ compileAny P gs true o = some ao.op ∧ cdst gs N o.dst = some ao.dst ∧ cguard gs ops o.guard = some ao.guard ∧ aoperOK gs (namesOf ops o) ao = true ∧
      ∀ j, j < k + i → (bs.getD (k + i) []).contains j = false → (kinds.getD (k + i) .mkmap).looks = true → ((kinds.getD j .mkmap).makes || ((kinds.getD j .mkmap).looks && ((kinds.getD (k + i) .mkmap).writes || (kinds.getD j .mkmap).writes))) = true →
        (kinds.getD (k + i) .mkmap).isCall = false → (kinds.getD j .mkmap).isCall = false → j ∈ ao.conc
  | [], k, os, h => by simp [compileDraw] at h; subst h; simp
  | o :: r, k, os, h => by
    simp only [compileDraw] at h
    split at h
    · rename_i ao os' h1 h2
      split at h
      · rename_i hok
        cases h
        obtain ⟨k1, k2⟩ := compileDraw_spec r (k + 1) os' h2
        obtain ⟨c1, c2, c3, c4⟩ := compileOper_inv h1
        refine ⟨by simp [k1], fun i o' ho => ?_⟩
        cases i with
        | zero =>
          simp only [List.getElem?_cons_zero, Option.some.injEq] at ho
          subst ho
          refine ⟨ao, rfl, c1, c2, c3, hok, fun j hj hb hl1 hw n1 n2 => ?_⟩
          rw [c4]
          simp only [Nat.add_zero] at hj hb hl1 hw n1
          simp only [List.mem_filter, List.mem_range]
          exact ⟨hj, by simp only [hb, hl1, hw, n1, n2]; rfl⟩
        | succ i =>
          simp only [List.getElem?_cons_succ] at ho
          obtain ⟨ao', q1, q2⟩ := k2 i o' ho
          refine ⟨ao', by simpa using q1, ?_⟩
          rwa [show k + 1 + i = k + (i + 1) by omega] at q2
      · cases h
    · cases h

theorem kindsOf_spec : ∀ (l : List Oper) (kinds : List AOp), kindsOf P gs l = some kinds → ∀ (i : Nat) o, l[i]? = some o → ∃ kd, kinds[i]? = some kd ∧ compileAny P gs false o = some kd
  | [], kinds, h => by simp
  | o :: r, kinds, h => by
    simp only [kindsOf] at h
    split at h
    · rename_i a l h1 h2
      cases h
      intro i o' ho
      cases i with
      | zero => simp only [List.getElem?_cons_zero, Option.some.injEq] at ho; subst ho; exact ⟨a, rfl, h1⟩
      | succ i => simp only [List.getElem?_cons_succ] at ho; simpa using kindsOf_spec r l h2 i o' ho
    · cases h

/-- All that the theorem needs to know of a region and of its walk in the order of the text. -/
structure Draw (P : Program) (gs : List Nat) (N : Nat) (ops : Array Oper) (os : List AOper) (rec : Nat → Rec) (E : Nat → Nat → AV) (S : Nat → Store) (nx : Nat → Nat) (ac : Nat → List (Nat × Nat)) : Prop where
  len : os.length = ops.size
  op : ∀ (i : Nat) o, ops[i]? = some o → ∃ ao, os[i]? = some ao ∧ compileAny P gs true o = some ao.op ∧ cdst gs N o.dst = some ao.dst ∧ cguard gs ops o.guard = some ao.guard ∧ aoperOK gs (namesOf ops o) ao = true
  step : ∀ (i : Nat) o, os[i]? = some o → StepAt P i o (E i) (S i) (nx i) (ac i) (rec i) (E (i + 1)) (S (i + 1)) (nx (i + 1)) (ac (i + 1))
  slots : ∀ (i j : Nat) a b, i < j → ops[i]? = some a → ops[j]? = some b → clash ops a b = true → i ∈ (befores ops.toList []).getD j []
  objs : ∀ (i j : Nat) a b, i < j → os[i]? = some a → os[j]? = some b → b.op.looks = true → (a.op.makes = true ∨ (a.op.looks = true ∧ (a.op.writes = true ∨ b.op.writes = true))) → a.op.isCall = false → b.op.isCall = false → i ∈ (befores ops.toList []).getD j [] ∨ i ∈ b.conc
  back : ∀ (i : Nat) o, ops[i]? = some o → ∀ e ∈ o.after.toList, Region.binds .any e = true → e.on < i
  bnd0 : ∀ q ob, S 0 q = some ob → q < nx 0

section
variable {ops : Array Oper} {os : List AOper} {rec : Nat → Rec} {E : Nat → Nat → AV} {S : Nat → Store} {nx : Nat → Nat} {ac : Nat → List (Nat × Nat)}

def dstF (os : List AOper) (i : Nat) : Option (Bool × Nat) := (os[i]?).bind (·.dst)

theorem Draw.aget (D : Draw P gs N ops os rec E S nx ac) {i : Nat} (hi : i < ops.size) : ∃ ao, os[i]? = some ao := ⟨os[i]'(by rw [D.len]; exact hi), by simp [D.len, hi]⟩

theorem Draw.nx_le (D : Draw P gs N ops os rec E S nx ac) {i : Nat} : ∀ {j : Nat}, i ≤ j → j ≤ ops.size → nx i ≤ nx j := by
  intro j
  induction j with
  | zero => intro h _; have : i = 0 := by omega
            subst this; exact Nat.le_refl _
  | succ j ih =>
    intro h hj
    by_cases e : i = j + 1
    · subst e; exact Nat.le_refl _
    · obtain ⟨ao, ha⟩ := D.aget (i := j) (by omega)
      have := (D.step j ao ha).nx'
      have h2 := ih (by omega) (by omega)
      omega

theorem Draw.nx_lt (D : Draw P gs N ops os rec E S nx ac) {i j : Nat} (hij : i < j) (hj : j ≤ ops.size) (hn : (rec i).new.isSome = true) : nx i < nx j := by
  obtain ⟨ao, ha⟩ := D.aget (i := i) (by omega)
  have h1 := (D.step i ao ha).nx'
  rw [hn] at h1
  have h2 := D.nx_le (i := i + 1) (j := j) hij hj
  simp at h1
  omega

theorem Draw.E_eq (D : Draw P gs N ops os rec E S nx ac) : ∀ (k : Nat), k ≤ ops.size → ∀ t, E k t = EL (dstF os) rec (E 0) ops.size (pre k) t := by
  intro k
  induction k with
  | zero =>
    intro _ t
    have : lw (pre 0) (slotW (dstF os) rec t) ops.size = none := by
      have : ∀ n, lw (pre 0) (slotW (dstF os) rec t) n = none := by
        intro n
        induction n with
        | zero => rfl
        | succ n ih => simp [lw, pre, ih]
      exact this _
    simp [EL, this]
  | succ k ih =>
    intro hk t
    obtain ⟨ao, ha⟩ := D.aget (i := k) (by omega)
    have he := (D.step k ao ha).env
    rw [he]
    have hd : dstF os k = ao.dst := by simp [dstF, ha]
    simp only [EL, pre_succ]
    cases hdst : ao.dst with
    | none =>
      rw [lw_add_none (by simp [slotW, hd, hdst])]
      simpa [setE, EL] using ih (by omega) t
    | some p =>
      obtain ⟨gl, u⟩ := p
      by_cases e : t = u
      · subst e
        rw [lw_add_some (x := (rec k).v) (by simp [slotW, hd, hdst]) (by omega) (fun j h1 h2 h3 => by simp [pre] at h3; omega)]
        simp [setE]
      · rw [lw_add_none (by simp [slotW, hd, hdst]; exact fun e' => e e'.symm)]
        simpa [setE, e, EL] using ih (by omega) t

theorem Draw.S_bnd (D : Draw P gs N ops os rec E S nx ac) : ∀ (k : Nat), k ≤ ops.size → ∀ q ob, S k q = some ob → q < nx k := by
  intro k
  induction k with
  | zero => exact fun _ => D.bnd0
  | succ k ih =>
    intro hk q ob h
    obtain ⟨ao, ha⟩ := D.aget (i := k) (by omega)
    have st := D.step k ao ha
    rw [st.st] at h
    have hle := st.nx'
    have h1 : ∀ ob, app1S (S k) (rec k).t (rec k).u q = some ob → q < nx k := by
      intro ob h
      cases ht : (rec k).t with
      | none => rw [ht] at h; exact ih (by omega) q ob (by cases (rec k).u <;> exact h)
      | some q' =>
        rw [ht] at h
        cases hu : (rec k).u with
        | keep => rw [hu] at h; exact ih (by omega) q ob h
        | del =>
          rw [hu] at h
          simp only [app1S] at h
          split at h
          · cases h
          · exact ih (by omega) q ob h
        | set ob' =>
          rw [hu] at h
          simp only [app1S] at h
          split at h
          · rename_i e
            subst e
            rcases st.how with ⟨_, _, hh, _⟩ | ⟨_, _, hrun⟩
            · rw [ht] at hh; cases hh
            · rcases hrun with ⟨_, _, _, _, _, _, _, _, hh, _⟩ | ⟨_, _, obj, hobj, _⟩
              · rw [ht] at hh; cases hh
              · rw [ht] at hobj
                obtain ⟨ob2, h2, _⟩ := hobj
                exact ih (by omega) q ob2 h2
          · exact ih (by omega) q ob h
    cases hn : (rec k).new with
    | none =>
      rw [hn] at h hle
      have := h1 ob h
      simp at hle
      omega
    | some obj =>
      rw [hn] at h hle
      simp only [app2S] at h
      simp at hle
      split at h
      · omega
      · have := h1 ob h
        omega

theorem app_obj (S : Store) (rec : Nat → Rec) (k nxk : Nat) (hnid : (rec k).nid = nxk) (q : Nat) :
    app2S (app1S S (rec k).t (rec k).u) nxk (rec k).new q = (objW rec q k).getD (S q) := by
  unfold objW
  cases hn : (rec k).new with
  | none =>
    simp only [app2S, Option.isSome_none, Bool.false_eq_true, false_and, if_false]
    cases ht : (rec k).t with
    | none => cases (rec k).u <;> simp [app1S]
    | some q' =>
      by_cases e : q' = q
      · subst e
        cases (rec k).u <;> simp [app1S]
      · have e2 : ¬ q = q' := fun h => e h.symm
        cases (rec k).u <;> simp [app1S, e, e2]
  | some obj =>
    simp only [app2S, Option.isSome_some, true_and, hnid]
    by_cases e : q = nxk
    · subst e; simp
    · have e' : ¬ nxk = q := fun h => e h.symm
      simp only [e, e', if_false]
      cases ht : (rec k).t with
      | none => cases (rec k).u <;> simp [app1S]
      | some q' =>
        by_cases e : q' = q
        · subst e
          cases (rec k).u <;> simp [app1S]
        · have e2 : ¬ q = q' := fun h => e h.symm
          cases (rec k).u <;> simp [app1S, e, e2]

theorem Draw.S_eq (D : Draw P gs N ops os rec E S nx ac) : ∀ (k : Nat), k ≤ ops.size → ∀ q, S k q = SL rec (S 0) ops.size (pre k) q := by
  intro k
  induction k with
  | zero =>
    intro _ q
    have : ∀ n, lw (pre 0) (objW rec q) n = none := by
      intro n
      induction n with
      | zero => rfl
      | succ n ih => simp [lw, pre, ih]
    simp [SL, this]
  | succ k ih =>
    intro hk q
    obtain ⟨ao, ha⟩ := D.aget (i := k) (by omega)
    have st := D.step k ao ha
    rw [st.st, app_obj (S k) rec k (nx k) st.nid q]
    simp only [SL, pre_succ]
    cases hw : objW rec q k with
    | none =>
      rw [lw_add_none hw]
      simpa [SL] using ih (by omega) q
    | some x =>
      rw [lw_add_some hw (by omega) (fun j h1 h2 h3 => by simp [pre] at h3; omega)]
      rfl

theorem Draw.mem_ac (D : Draw P gs N ops os rec E S nx ac) {i : Nat} (hran : (rec i).ran = true) {ai : AOper} (hai : os[i]? = some ai) : ∀ {j : Nat}, i < j → j ≤ ops.size →
    (∀ q, (rec i).t = some q → (i, q) ∈ ac j) ∧ (ai.op.makes = true → (i, nx i) ∈ ac j) := by
  intro j
  induction j with
  | zero => intro h; omega
  | succ j ih =>
    intro h hj
    obtain ⟨ao, ha⟩ := D.aget (i := j) (by omega)
    have hac := (D.step j ao ha).acc'
    by_cases e : i = j
    · subst e
      rw [hai] at ha
      cases ha
      rw [hac, hran, if_pos rfl]
      refine ⟨fun q hq => ?_, fun hm => ?_⟩
      · simp [accTo, hq]
      · simp [accTo, hm]
    · obtain ⟨h1, h2⟩ := ih (by omega) (by omega)
      rw [hac]
      split
      · exact ⟨fun q hq => by simp [accTo, h1 q hq], fun hm => by simp [accTo, h2 hm]⟩
      · exact ⟨h1, h2⟩

end

end Go.AL
