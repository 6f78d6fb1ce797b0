/- The abstract layer: regions whose order is open: whatever comes next, it comes to the same. -/
import Derived.Test.YtkegioliclbbhaaA12c
set_option linter.unusedVariables false
set_option linter.unusedSimpArgs false
set_option maxHeartbeats 1000000
namespace Go.AL
variable {P : Program} {gs : List Nat} {N : Nat} {g l : Env} {a : Act} {w w' : World}
variable {ops : Array Oper} {os : List AOper} {rec : Nat → Rec} {E : Nat → Nat → AV} {S : Nat → Store} {nx : Nat → Nat} {ac : Nat → List (Nat × Nat)}

theorem Draw.rec_t (D : Draw P gs N ops os rec E S nx ac) {i : Nat} {ai : AOper} (hai : os[i]? = some ai) {q : Nat} (h : (rec i).t = some q) :
    (rec i).ran = true ∧ ai.op.looks = true ∧ ai.op.isCall = false ∧ (∃ ob, S i q = some ob) ∧ (∀ p ∈ ac i, p.1 ∈ ai.conc → p.2 ≠ q) := by
  have st := D.step i ai hai
  rcases st.how with ⟨_, _, hh, _⟩ | ⟨h0, _, hrun⟩
  · rw [h] at hh; cases hh
  · rcases hrun with ⟨_, _, _, _, _, _, _, _, hh, _⟩ | ⟨h1, h2, obj, hobj, _, _, h5⟩
    · rw [h] at hh; cases hh
    · refine ⟨h0, touch_looks (h2 ▸ h), h1, ?_, h5 q h⟩
      rw [h] at hobj
      obtain ⟨ob, ho, _⟩ := hobj
      exact ⟨ob, ho⟩

theorem Draw.rec_new (D : Draw P gs N ops os rec E S nx ac) {i : Nat} {ai : AOper} (hai : os[i]? = some ai) (h : (rec i).new.isSome = true) : (rec i).ran = true ∧ ai.op.makes = true ∧ ai.op.isCall = false := by
  have st := D.step i ai hai
  rcases st.how with ⟨_, _, _, hh, _⟩ | ⟨h0, _, hrun⟩
  · rw [hh] at h; cases h
  · rcases hrun with ⟨_, _, _, _, _, _, _, _, _, hh⟩ | ⟨h1, h2, obj, hobj, hev, _, _⟩
    · rw [hh] at h; cases h
    · exact ⟨h0, ev_makes hev h, h1⟩

theorem Draw.rec_u (D : Draw P gs N ops os rec E S nx ac) {i : Nat} {ai : AOper} (hai : os[i]? = some ai) {q : Nat} (h : (rec i).t = some q) (hu : (rec i).u ≠ .keep) : ai.op.writes = true := by
  have st := D.step i ai hai
  rcases st.how with ⟨_, _, hh, _⟩ | ⟨h0, _, hrun⟩
  · rw [h] at hh; cases hh
  · rcases hrun with ⟨_, _, _, _, _, _, _, _, hh, _⟩ | ⟨h1, h2, obj, hobj, hev, _, _⟩
    · rw [h] at hh; cases hh
    · exact ev_writes hev hu

theorem objW_cases {rec : Nat → Rec} {q j : Nat} (h : objW rec q j ≠ none) : ((rec j).new.isSome = true ∧ (rec j).nid = q) ∨ ((rec j).t = some q ∧ (rec j).u ≠ .keep) := by
  unfold objW at h
  split at h
  · rename_i hh; exact .inl hh
  · split at h
    · rename_i ht
      refine .inr ⟨ht, fun e => ?_⟩
      rw [e] at h
      exact h rfl
    · exact absurd rfl h

section
variable {L : Nat → Bool}

/-- Slots that an operation names hold, when it is ready, what they held in the order of the text. -/
theorem Draw.slot_agree (D : Draw P gs N ops os rec E S nx ac) (hc : Closed ops L) (hin : ∀ i, L i = true → i < ops.size) {i : Nat} {o : Oper} (ho : ops[i]? = some o) (hL : L i = false)
    (hready : ∀ e ∈ o.after.toList, Region.binds .any e = true → L e.on = true) {t : Nat} (ht : (namesOf ops o).contains t = true) : EL (dstF os) rec (E 0) ops.size L t = E i t := by
  have hi : i < ops.size := (Array.getElem?_eq_some_iff.1 ho).1
  rw [D.E_eq i (by omega) t]
  unfold EL
  congr 1
  refine lw_congr fun j hj hw => ?_
  obtain ⟨aj, haj⟩ := D.aget hj
  have hoj : ops[j]? = some ops[j] := by simp [hj]
  obtain ⟨aj', haj', _, hdj, _⟩ := D.op j _ hoj
  rw [haj] at haj'
  cases haj'
  have hdst : (ops[j]).dst = some t := by
    simp only [slotW, dstF, haj, Option.bind_some] at hw
    cases hd : (ops[j]).dst with
    | none => rw [hd] at hdj; simp only [cdst, Option.some.injEq] at hdj; rw [← hdj] at hw; exact absurd rfl hw
    | some u =>
      rw [hd] at hdj
      simp only [cdst] at hdj
      split at hdj
      · simp only [Option.some.injEq] at hdj
        rw [← hdj] at hw
        simp only at hw
        split at hw
        · rename_i e; rw [e]
        · exact absurd rfl hw
      · cases hdj
  rcases Nat.lt_trichotomy j i with hlt | rfl | hgt
  · have hb := D.slots j i _ _ hlt hoj ho (by simp only [clash, hdst, ht, Bool.true_or])
    rw [closed_before hc hin i o ho hready j hb]
    simp [pre, hlt]
  · rw [hL]; simp [pre]
  · have hb := D.slots i j _ _ hgt ho hoj (by simp only [clash, hdst, ht, Bool.or_true])
    have : L j = false := by
      cases hLj : L j with
      | false => rfl
      | true =>
        have := closed_before hc hin j _ hoj (hc j _ hoj hLj) i hb
        rw [hL] at this
        cases this
    rw [this]
    simp [pre]; omega

/-- The object that an operation looks at is, when it is ready, what it was in the order of the text. -/
theorem Draw.obj_agree (D : Draw P gs N ops os rec E S nx ac) (hc : Closed ops L) (hin : ∀ i, L i = true → i < ops.size) {i : Nat} {o : Oper} (ho : ops[i]? = some o) (hL : L i = false)
    (hready : ∀ e ∈ o.after.toList, Region.binds .any e = true → L e.on = true) {q : Nat} (hq : (rec i).t = some q) : SL rec (S 0) ops.size L q = S i q := by
  have hi : i < ops.size := (Array.getElem?_eq_some_iff.1 ho).1
  obtain ⟨ai, hai⟩ := D.aget hi
  obtain ⟨r1, r2, r3, ⟨ob, r4⟩, r5⟩ := D.rec_t hai hq
  have hqlt := D.S_bnd i (by omega) q ob r4
  rw [D.S_eq i (by omega) q]
  unfold SL
  congr 1
  refine lw_congr fun j hj hw => ?_
  obtain ⟨aj, haj⟩ := D.aget hj
  have hoj : ops[j]? = some ops[j] := by simp [hj]
  have hnidj := (D.step j aj haj).nid
  rcases Nat.lt_trichotomy j i with hlt | rfl | hgt
  · -- written ahead of it
    have hord : j ∈ (befores ops.toList []).getD i [] := by
      rcases objW_cases hw with ⟨h1, h2⟩ | ⟨h1, h2⟩
      · obtain ⟨m1, m2, m3⟩ := D.rec_new haj h1
        rcases D.objs j i _ _ hlt haj hai r2 (.inl m2) m3 r3 with h | h
        · exact h
        · exact absurd (hnidj ▸ h2) (r5 _ ((D.mem_ac m1 haj hlt (by omega)).2 m2) h)
      · obtain ⟨m1, m2, m3, _, _⟩ := D.rec_t haj h1
        have hwr := D.rec_u haj h1 h2
        rcases D.objs j i _ _ hlt haj hai r2 (.inr ⟨m2, .inl hwr⟩) m3 r3 with h | h
        · exact h
        · exact absurd rfl (r5 _ ((D.mem_ac m1 haj hlt (by omega)).1 q h1) h)
    rw [closed_before hc hin i o ho hready j hord]
    simp [pre, hlt]
  · rw [hL]; simp [pre]
  · have hLj : L j = false := by
      cases hLj : L j with
      | false => rfl
      | true =>
        exfalso
        rcases objW_cases hw with ⟨h1, h2⟩ | ⟨h1, h2⟩
        · have := D.nx_le (i := i) (j := j) (by omega) (by omega)
          rw [hnidj] at h2
          omega
        · obtain ⟨m1, m2, m3, _, m5⟩ := D.rec_t haj h1
          have hwr := D.rec_u haj h1 h2
          rcases D.objs i j _ _ hgt hai haj m2 (.inr ⟨r2, .inr hwr⟩) r3 m3 with h | h
          · have := closed_before hc hin j _ hoj (hc j _ hoj hLj) i h
            rw [hL] at this
            cases this
          · exact m5 _ ((D.mem_ac r1 hai hgt (by omega)).1 q hq) h rfl
    rw [hLj]
    simp [pre]; omega

/-- With one operation more. -/
theorem Draw.EL_add (D : Draw P gs N ops os rec E S nx ac) (hc : Closed ops L) (hin : ∀ i, L i = true → i < ops.size) {i : Nat} {o : Oper} (ho : ops[i]? = some o) (hL : L i = false) {ai : AOper} (hai : os[i]? = some ai) (t : Nat) :
    EL (dstF os) rec (E 0) ops.size (addL i L) t = setE ai.dst (rec i).v (EL (dstF os) rec (E 0) ops.size L) t := by
  have hi : i < ops.size := (Array.getElem?_eq_some_iff.1 ho).1
  have hd : dstF os i = ai.dst := by simp [dstF, hai]
  obtain ⟨ai', hai', _, hdi, _⟩ := D.op i o ho
  rw [hai] at hai'
  cases hai'
  unfold EL
  cases hdst : ai.dst with
  | none => rw [lw_add_none (by simp [slotW, hd, hdst])]; rfl
  | some p =>
    obtain ⟨gl, u⟩ := p
    by_cases e : t = u
    · subst e
      have hod : o.dst = some t := by
        cases hod : o.dst with
        | none => rw [hod, hdst] at hdi; simp [cdst] at hdi
        | some v =>
          rw [hod, hdst] at hdi
          simp only [cdst] at hdi
          split at hdi
          · simp only [Option.some.injEq, Prod.mk.injEq] at hdi; rw [hdi.2]
          · cases hdi
      rw [lw_add_some (x := (rec i).v) (by simp [slotW, hd, hdst]) hi (fun j h1 h2 h3 => ?_)]
      · simp [setE]
      · cases hw : slotW (dstF os) rec t j with
        | none => rfl
        | some x =>
          exfalso
          have hoj : ops[j]? = some ops[j] := by simp [h2]
          obtain ⟨aj, haj, _, hdj, _⟩ := D.op j _ hoj
          simp only [slotW, dstF, haj, Option.bind_some] at hw
          have hodj : (ops[j]).dst = some t := by
            cases hodj : (ops[j]).dst with
            | none => rw [hodj] at hdj; simp only [cdst, Option.some.injEq] at hdj; rw [← hdj] at hw; cases hw
            | some v =>
              rw [hodj] at hdj
              simp only [cdst] at hdj
              split at hdj
              · simp only [Option.some.injEq] at hdj
                rw [← hdj] at hw
                simp only at hw
                split at hw
                · rename_i e; rw [e]
                · cases hw
              · cases hdj
          have hnm : (namesOf ops ops[j]).contains t = true := by simp [namesOf, hodj]
          have hb := D.slots i j _ _ h1 ho hoj (by simp only [clash, hod, hnm, Bool.true_or])
          have := closed_before hc hin j _ hoj (hc j _ hoj h3) i hb
          rw [hL] at this
          cases this
    · rw [lw_add_none (by simp [slotW, hd, hdst]; exact fun e' => e e'.symm)]
      simp [setE, e]

theorem Draw.SL_add (D : Draw P gs N ops os rec E S nx ac) (hc : Closed ops L) (hin : ∀ i, L i = true → i < ops.size) {i : Nat} {o : Oper} (ho : ops[i]? = some o) (hL : L i = false) {ai : AOper} (hai : os[i]? = some ai) :
    SL rec (S 0) ops.size (addL i L) = app2S (app1S (SL rec (S 0) ops.size L) (rec i).t (rec i).u) (nx i) (rec i).new := by
  have hi : i < ops.size := (Array.getElem?_eq_some_iff.1 ho).1
  have hnid := (D.step i ai hai).nid
  funext q
  rw [app_obj _ rec i (nx i) hnid q]
  cases hw : objW rec q i with
  | none => unfold SL; rw [lw_add_none hw]; rfl
  | some x =>
    have : lw (addL i L) (objW rec q) ops.size = some x := by
      refine lw_add_some hw hi fun j h1 h2 h3 => ?_
      cases hwj : objW rec q j with
      | none => rfl
      | some y =>
        exfalso
        obtain ⟨aj, haj⟩ := D.aget h2
        have hoj : ops[j]? = some ops[j] := by simp [h2]
        have hnidj := (D.step j aj haj).nid
        have no : i ∈ (befores ops.toList []).getD j [] → False := by
          intro hb
          have := closed_before hc hin j _ hoj (hc j _ hoj h3) i hb
          rw [hL] at this
          cases this
        rcases objW_cases (by rw [hw]; simp : objW rec q i ≠ none) with ⟨k1, k2⟩ | ⟨k1, k2⟩
        · rcases objW_cases (by rw [hwj]; simp : objW rec q j ≠ none) with ⟨m1, m2⟩ | ⟨m1, m2⟩
          · have := D.nx_lt h1 (by omega) k1
            omega
          · obtain ⟨n1, n2, n3, _, n5⟩ := D.rec_t haj m1
            obtain ⟨p1, p2, p3⟩ := D.rec_new hai k1
            rcases D.objs i j _ _ h1 hai haj n2 (.inl p2) p3 n3 with h | h
            · exact no h
            · exact n5 _ ((D.mem_ac p1 hai h1 (by omega)).2 p2) h (by rw [← hnid]; exact k2)
        · obtain ⟨p1, p2, p3, ⟨ob, p4⟩, _⟩ := D.rec_t hai k1
          have hqlt := D.S_bnd i (by omega) q ob p4
          rcases objW_cases (by rw [hwj]; simp : objW rec q j ≠ none) with ⟨m1, m2⟩ | ⟨m1, m2⟩
          · have := D.nx_le (i := i) (j := j) (by omega) (by omega)
            omega
          · obtain ⟨n1, n2, n3, _, n5⟩ := D.rec_t haj m1
            rcases D.objs i j _ _ h1 hai haj n2 (.inr ⟨p2, .inl (D.rec_u hai k1 k2)⟩) p3 n3 with h | h
            · exact no h
            · exact n5 _ ((D.mem_ac p1 hai h1 (by omega)).1 q k1) h rfl
    unfold SL
    rw [this]
    rfl

end

def LA (listed : Array Bool) : Nat → Bool := fun j => listed.getD j false

/-- What holds while some are listed. -/
structure DI (gs : List Nat) (N : Nat) (ops : Array Oper) (os : List AOper) (rec : Nat → Rec) (E : Nat → Nat → AV) (S : Nat → Store) (nx : Nat → Nat) (ι0 : Nat → Option Nat) (s0 : St) (w0 : World)
    (listed : Array Bool) (ι : Nat → Option Nat) (M : Nat) (a : Act) (w : World) : Prop where
  sz : listed.size = ops.size
  closed : Closed ops (LA listed)
  wf : WF ι (SL rec (S 0) ops.size (LA listed)) w
  ιM : ∀ q b, ι q = some b → q < M
  nM : nx ops.size ≤ M
  pend : ∀ i, i < ops.size → LA listed i = false → (rec i).new.isSome = true → ι (nx i) = none
  size : a.tmps.size = N
  defers : a.defers = []
  slots : ∀ t, Rep ι (Foot ι (SL rec (S 0) ops.size (LA listed))) w (a.tmps.getD t undef) (EL (dstF os) rec (E 0) ops.size (LA listed) t)
  step : Step ι0 s0.m w0 ι (SL rec (S 0) ops.size (LA listed)) w
  inc : ∀ q b, ι q = some b → q < s0.nx → ι0 q = some b

theorem LA_set {listed : Array Bool} {i : Nat} (h : i < listed.size) : LA (listed.setIfInBounds i true) = addL i (LA listed) := by
  funext j
  simp only [LA, addL]
  by_cases e : j = i
  · subst e; simp [h]
  · have : i ≠ j := fun h => e h.symm
    simp [Array.getElem?_setIfInBounds_ne this, e]

theorem LA_in {listed : Array Bool} {n : Nat} (h : listed.size = n) : ∀ i, LA listed i = true → i < n := by
  intro i hi
  simp only [LA] at hi
  rcases Nat.lt_or_ge i n with h' | h'
  · exact h'
  · simp [Array.getElem?_eq_none (h ▸ h')] at hi

theorem Ev_slots {E : Nat → AV} {ι : Nat → Option Nat} {F : Nat → Nat → Prop} {a : Act} {w : World} (h : ∀ t, Rep ι F w (a.tmps.getD t undef) (E t)) : ∀ x y, opd gs x = some y → Rep ι F w (a.eval x) (Ev E y) := by
  intro x y hxy
  cases x with
  | tmp t =>
    simp only [opd, Option.some.injEq] at hxy
    subst hxy
    show Rep _ _ _ (a.tmps.getD t undef) _
    cases gs.contains t <;> exact h t
  | const v =>
    simp only [opd, Option.map_eq_some_iff] at hxy
    obtain ⟨c, hc, rfl⟩ := hxy
    exact constAV_rep v hc
  | func f =>
    simp only [opd, Option.some.injEq] at hxy
    subst hxy
    exact .fn f rfl rfl (by simp) (by simp)
  | global g => cases hxy

theorem ready_mem {listed : Array Bool} {i : Nat} (hsz : listed.size = ops.size) (h : i ∈ Region.ready .any ops listed) :
    ∃ o, ops[i]? = some o ∧ LA listed i = false ∧ ∀ e ∈ o.after.toList, Region.binds .any e = true → LA listed e.on = true := by
  simp only [Region.ready, List.mem_filter, List.mem_range, Bool.and_eq_true, Bool.not_eq_true'] at h
  obtain ⟨hlt, h1, h2⟩ := h
  have ho : ops[i]? = some ops[i] := by simp [hlt]
  rw [ho] at h2
  simp only [Option.map_some, Option.getD_some, Array.all_eq_true', Bool.or_eq_true, Bool.not_eq_true'] at h2
  refine ⟨_, ho, ?_, fun e he hb => ?_⟩
  · have hlt' : i < listed.size := by rw [hsz]; exact hlt
    have e1 : listed.getD i true = listed[i] := by simp [hlt']
    have e2 : listed.getD i false = listed[i] := by simp [hlt']
    simp only [LA]
    rw [e2, ← e1]; exact h1
  · rcases h2 e (by simpa using he) with h | h
    · rw [hb] at h; cases h
    · exact h

theorem all_listed {listed : Array Bool} (D : Draw P gs N ops os rec E S nx ac) (hsz : listed.size = ops.size) (h : Region.ready .any ops listed = []) : ∀ i, i < ops.size → LA listed i = true := by
  intro i
  induction i using Nat.strongRecOn with
  | _ i ih =>
    intro hi
    cases hL : LA listed i with
    | true => rfl
    | false =>
      exfalso
      have ho : ops[i]? = some ops[i] := by simp [hi]
      have : i ∈ Region.ready .any ops listed := by
        simp only [Region.ready, List.mem_filter, List.mem_range, Bool.and_eq_true, Bool.not_eq_true']
        refine ⟨hi, ?_, ?_⟩
        · have hlt' : i < listed.size := by rw [hsz]; exact hi
          have e1 : listed.getD i true = listed[i] := by simp [hlt']
          have e2 : listed.getD i false = listed[i] := by simp [hlt']
          simp only [LA] at hL
          rw [e1, ← e2]; exact hL
        · rw [ho]
          simp only [Option.map_some, Option.getD_some, Array.all_eq_true', Bool.or_eq_true, Bool.not_eq_true']
          intro e he
          cases hb : Region.binds .any e with
          | false => exact .inl rfl
          | true =>
            have hlt := D.back i _ ho e (by simpa using he) hb
            exact .inr (ih e.on hlt (by omega))
      rw [h] at this
      cases this

end Go.AL
