/- The abstract layer: regions whose order is open: all orders. -/
import Derived.Test.YtkegioliclbbhaaA12d
set_option linter.unusedVariables false
set_option linter.unusedSimpArgs false
set_option maxHeartbeats 1000000
namespace Go.AL
variable {P : Program} {gs : List Nat} {N : Nat} {g l : Env} {a : Act} {w w' : World}
variable {ops : Array Oper} {os : List AOper} {rec : Nat → Rec} {E : Nat → Nat → AV} {S : Nat → Store} {nx : Nat → Nat} {ac : Nat → List (Nat × Nat)}
variable {ι0 : Nat → Option Nat} {s0 : St} {w0 : World}

/-- One operation more is listed. -/
theorem DI.next (D : Draw P gs N ops os rec E S nx ac) {listed : Array Bool} {ι ι' : Nat → Option Nat} {M M' : Nat} (h : DI gs N ops os rec E S nx ι0 s0 w0 listed ι M a w) {i : Nat} {o : Oper} (ho : ops[i]? = some o) (hL : LA listed i = false)
    (hready : ∀ e ∈ o.after.toList, Region.binds .any e = true → LA listed e.on = true) {cv : Value}
    (hst : Step ι (SL rec (S 0) ops.size (LA listed)) w ι' (SL rec (S 0) ops.size (addL i (LA listed))) w') (hwf : WF ι' (SL rec (S 0) ops.size (addL i (LA listed))) w')
    (hM : ∀ q b, ι' q = some b → q < M') (hMM : M ≤ M') (hnew : ∀ q b, ι' q = some b → q < M → (((rec i).new.isSome = true ∧ q = nx i) ∨ ι q = some b)) (hs0 : s0.nx ≤ nx 0)
    (hv : Rep ι' (Foot ι' (SL rec (S 0) ops.size (addL i (LA listed)))) w' cv (rec i).v) :
    DI gs N ops os rec E S nx ι0 s0 w0 (listed.setIfInBounds i true) ι' M' (a.put o.dst cv) w' := by
  have hi : i < ops.size := (Array.getElem?_eq_some_iff.1 ho).1
  have hLA : LA (listed.setIfInBounds i true) = addL i (LA listed) := LA_set (by rw [h.sz]; exact hi)
  obtain ⟨ai, hai, hcomp, hdst, _⟩ := D.op i o ho
  have hin := LA_in h.sz
  have hnx0 : nx 0 ≤ nx ops.size := D.nx_le (Nat.zero_le _) (Nat.le_refl _)
  have hnxi : nx 0 ≤ nx i := D.nx_le (Nat.zero_le _) (by omega)
  have hnxi2 : nx i ≤ nx ops.size := D.nx_le (by omega) (Nat.le_refl _)
  have hnM := h.nM
  refine ⟨by simp [h.sz], ?_, by rw [hLA]; exact hwf, hM, by omega, ?_, ?_, ?_, ?_, by rw [hLA]; exact h.step.trans hst, ?_⟩
  · rw [hLA]
    intro j oj hoj hLj e he hb
    simp only [addL, Bool.or_eq_true, beq_iff_eq] at hLj ⊢
    rcases hLj with hLj | rfl
    · exact .inl (h.closed j oj hoj hLj e he hb)
    · rw [ho] at hoj
      cases hoj
      exact .inl (hready e he hb)
  · intro j hj hLj hnj
    rw [hLA] at hLj
    simp only [addL, Bool.or_eq_false_iff, beq_eq_false_iff_ne, ne_eq] at hLj
    cases hιj : ι' (nx j) with
    | none => rfl
    | some b =>
      exfalso
      have hjM : nx j < M := Nat.lt_of_lt_of_le (D.nx_lt hj (Nat.le_refl _) hnj) hnM
      rcases hnew _ b hιj hjM with ⟨hni, he⟩ | hold
      · rcases Nat.lt_or_ge i j with hlt | hge
        · have := D.nx_lt hlt (by omega) hni; omega
        · have : j < i := by omega
          have := D.nx_lt this (by omega) hnj; omega
      · rw [h.pend j hj hLj.1 hnj] at hold
        cases hold
  · cases hd : o.dst with
    | none => exact h.size
    | some t => simp [Act.put, h.size]
  · cases hd : o.dst with
    | none => exact h.defers
    | some t => exact h.defers
  · intro t
    rw [hLA, D.EL_add h.closed hin ho hL hai t]
    cases hd : o.dst with
    | none =>
      rw [hd] at hdst
      simp only [cdst, Option.some.injEq] at hdst
      rw [← hdst]
      exact (h.slots t).step hst
    | some u =>
      rw [hd] at hdst
      simp only [cdst] at hdst
      split at hdst
      · rename_i hu
        simp only [Option.some.injEq] at hdst
        rw [← hdst, getD_put (by rw [h.size]; exact hu)]
        simp only [setE]
        split
        · exact hv
        · exact (h.slots t).step hst
      · cases hdst
  · intro q b hq hlt
    rcases hnew q b hq (by omega) with ⟨_, e⟩ | hold
    · omega
    · exact h.inc q b hold hlt

theorem draw_step (D : Draw P gs N ops os rec E S nx ac) {Q : Exit → Act → World → Prop} {listed : Array Bool} {ι : Nat → Option Nat} {M : Nat} (h : DI gs N ops os rec E S nx ι0 s0 w0 listed ι M a w) (hs0 : s0.nx ≤ nx 0) {i : Nat} {o : Oper}
    (ho : ops[i]? = some o) (hL : LA listed i = false) (hready : ∀ e ∈ o.after.toList, Region.binds .any e = true → LA listed e.on = true) {K : Act → World → Prop}
    (hK : ∀ ι' M' a' w', DI gs N ops os rec E S nx ι0 s0 w0 (listed.setIfInBounds i true) ι' M' a' w' → K a' w') : wpOp P ops Q i K a w := by
  have hi : i < ops.size := (Array.getElem?_eq_some_iff.1 ho).1
  obtain ⟨ai, hai, hcomp, hdst, hgd, hok⟩ := D.op i o ho
  have hin := LA_in h.sz
  have st := D.step i ai hai
  simp only [aoperOK, Bool.and_eq_true] at hok
  obtain ⟨⟨hops, _⟩, hgok⟩ := hok
  have agree : ∀ t, (namesOf ops o).contains t = true → EL (dstF os) rec (E 0) ops.size (LA listed) t = E i t := fun t ht => D.slot_agree h.closed hin ho hL hready ht
  have hSL := D.SL_add h.closed hin ho hL hai
  have hnxi2 : nx i ≤ nx ops.size := D.nx_le (by omega) (Nat.le_refl _)
  have hbnd : Bnd ι (SL rec (S 0) ops.size (LA listed)) M := by
    refine ⟨fun q ob hq => ?_, h.ιM⟩
    have hnM := h.nM
    unfold SL at hq
    cases hlw : lw (LA listed) (objW rec q) ops.size with
    | none =>
      rw [hlw] at hq
      have := D.bnd0 q ob hq
      have := D.nx_le (i := 0) (j := ops.size) (Nat.zero_le _) (Nat.le_refl _)
      omega
    | some x =>
      have ex : ∀ n, n ≤ ops.size → lw (LA listed) (objW rec q) n = some x → q < nx ops.size := by
        intro n
        induction n with
        | zero => intro _ h; cases h
        | succ n ih =>
          intro hn hl
          simp only [lw] at hl
          split at hl
          · split at hl
            · rename_i y hy
              obtain ⟨an, han⟩ := D.aget (i := n) (by omega)
              rcases objW_cases (by rw [hy]; simp : objW rec q n ≠ none) with ⟨k1, k2⟩ | ⟨k1, k2⟩
              · have := D.nx_lt (i := n) (j := ops.size) (by omega) (Nat.le_refl _) k1
                have := (D.step n an han).nid
                omega
              · obtain ⟨_, _, _, ⟨ob', p4⟩, _⟩ := D.rec_t han k1
                have := D.S_bnd n (by omega) q ob' p4
                have := D.nx_le (i := n) (j := ops.size) (by omega) (Nat.le_refl _)
                omega
            · exact ih (by omega) hl
          · exact ih (by omega) hl
      have := ex ops.size (Nat.le_refl _) hlw
      omega
  unfold wpOp
  rw [ho]
  simp only
  -- the guard
  have hwanted : Region.wanted o (yielded ops a.tmps) = (rec i).ran := by
    cases hg : o.guard with
    | none =>
      rw [hg] at hgd
      simp only [cguard, Option.some.injEq] at hgd
      rcases st.how with ⟨_, _, _, _, _, _, _, hh, _⟩ | ⟨h0, _, _⟩
      · rw [← hgd] at hh; cases hh
      · simp [Region.wanted, hg, h0]
    | some jw =>
      obtain ⟨jg, want⟩ := jw
      rw [hg] at hgd
      simp only [cguard, Option.map_eq_some_iff] at hgd
      obtain ⟨t, hj, he⟩ := hgd
      rw [← he] at hgok
      simp only [Bool.and_eq_true] at hgok
      have hE := agree t hgok.2
      have hsl := h.slots t
      rw [hE] at hsl
      rcases st.how with ⟨h0, _, _, _, gl', t', want', hh, hb⟩ | ⟨h0, hgo, _⟩
      · rw [← he] at hh
        cases hh
        rcases hb with hb | hb
        · rw [hb] at hsl
          have hy := yielded_of hj (rep_bool hsl)
          simp only [Region.wanted, hg, hy, h0]
          cases want <;> rfl
        · rw [hb] at hsl
          have hy := yielded_undef hj (rep_undef hsl)
          simp only [Region.wanted, hg, hy, h0]
          rfl
      · rw [← he] at hgo
        simp only [guardOK] at hgo
        rw [hgo] at hsl
        have hy := yielded_of hj (rep_bool hsl)
        simp only [Region.wanted, hg, hy, h0]
        cases want <;> rfl
  rw [hwanted]
  rcases st.how with ⟨h0, hv0, ht0, hn0, _⟩ | ⟨h0, _, hrun⟩
  · -- it is skipped
    simp only [h0, Bool.false_eq_true, if_false]
    have hsame : SL rec (S 0) ops.size (addL i (LA listed)) = SL rec (S 0) ops.size (LA listed) := by rw [hSL, ht0, hn0]; cases (rec i).u <;> rfl
    refine hK ι M _ w (h.next D ho hL hready (cv := undef) (by rw [hsame]; exact Step.refl _ _ _) (by rw [hsame]; exact h.wf) h.ιM (Nat.le_refl _) (fun q b hq _ => .inr hq) hs0 (by rw [hv0]; exact rep_undef_mk))
  · simp only [h0, if_true]
    refine .inl ?_
    have hopn : ∀ x ∈ ai.op.opnds, Ev (EL (dstF os) rec (E 0) ops.size (LA listed)) x = Ev (E i) x := by
      intro x hx
      have hok' := List.all_eq_true.1 hops x hx
      cases x with
      | g t => simp only [opndOK, Bool.and_eq_true] at hok'; exact agree t hok'.2
      | l t => simp only [opndOK, Bool.and_eq_true] at hok'; exact agree t hok'.2
      | c v => rfl
    obtain ⟨c1, c2, c3⟩ := op_congr ai.op hopn
    have hval := Ev_slots (gs := gs) h.slots
    rcases hrun with ⟨f, args, fid, first, cap, hop, hfv, hpure, ht0, hn0⟩ | ⟨hcl, ht, obj, hobj, hev, hside, _⟩
    · -- a call
      have hfv' : Ev (EL (dstF os) rec (E 0) ops.size (LA listed)) f = .fn fid first cap := by rw [hopn f (by rw [hop]; simp [AOp.opnds]), hfv]
      have hav : args.map (Ev (EL (dstF os) rec (E 0) ops.size (LA listed))) = args.map (Ev (E i)) := List.map_congr_left fun x hx => hopn x (by rw [hop]; simp [AOp.opnds, hx])
      rw [hop] at hcomp
      obtain ⟨_, vs, hr, hl⟩ := call_run hcomp hval hfv' (hpure ⟨fun _ => none, 0⟩).1
      rw [hav] at hl
      have hsame : SL rec (S 0) ops.size (addL i (LA listed)) = SL rec (S 0) ops.size (LA listed) := by rw [hSL, ht0, hn0]; cases (rec i).u <;> rfl
      unfold Oper.wp
      rw [hr]
      refine (pure_call hpure h.wf hbnd hl).mono fun e w' ⟨v, ι', M', he, k1, k2, k3, k4, k5⟩ => ?_
      subst he
      exact hK ι' M' _ w' (h.next D ho hL hready (by rw [hsame]; exact k1) (by rw [hsame]; exact k2) k3.ilt k4.1 (fun q b hq hlt => .inr (k4.2 q b hq hlt)) hs0 (by rw [hsame]; exact k5))
    · -- any other
      have hco := compileAny_op hcomp hcl
      have hSn : SL rec (S 0) ops.size (LA listed) (nx i) = none ∨ (rec i).new = none := by
        cases hn : (rec i).new with
        | none => exact .inr rfl
        | some x =>
          refine .inl ?_
          unfold SL
          have hlw : lw (LA listed) (objW rec (nx i)) ops.size = none := by
            have ex : ∀ n, n ≤ ops.size → lw (LA listed) (objW rec (nx i)) n = none := by
              intro n
              induction n with
              | zero => intro _; rfl
              | succ n ih =>
                intro hn'
                simp only [lw]
                cases hLn : LA listed n with
                | false => simp only [Bool.false_eq_true, if_false]; exact ih (by omega)
                | true =>
                  simp only [if_true]
                  cases hw : objW rec (nx i) n with
                  | none => exact ih (by omega)
                  | some y =>
                    exfalso
                    obtain ⟨an, han⟩ := D.aget (i := n) (by omega)
                    have hne : n ≠ i := fun e => by rw [e, hL] at hLn; cases hLn
                    have hnew : (rec i).new.isSome = true := by rw [hn]; rfl
                    rcases objW_cases (by rw [hw]; simp : objW rec (nx i) n ≠ none) with ⟨k1, k2⟩ | ⟨k1, k2⟩
                    · have hnid := (D.step n an han).nid
                      rcases Nat.lt_or_gt_of_ne hne with hlt | hgt
                      · have := D.nx_lt hlt (by omega) k1; omega
                      · have := D.nx_lt hgt (by omega) hnew; omega
                    · obtain ⟨p1, p2, p3, ⟨ob, p4⟩, p5⟩ := D.rec_t han k1
                      have hq := D.S_bnd n (by omega) _ ob p4
                      rcases Nat.lt_or_gt_of_ne hne with hlt | hgt
                      · have := D.nx_le (i := n) (j := i) (by omega) (by omega); omega
                      · obtain ⟨m1, m2, m3⟩ := D.rec_new hai hnew
                        rcases D.objs i n _ _ hgt hai han p2 (.inl m2) m3 p3 with hb | hb
                        · have hon : ops[n]? = some (ops[n]'(by omega)) := by simp
                          have := closed_before h.closed hin n _ hon (h.closed n _ hon hLn) i hb
                          rw [hL] at this
                          cases this
                        · exact p5 _ ((D.mem_ac m1 hai hgt (by omega)).2 m2) hb rfl
            exact ex _ (Nat.le_refl _)
          rw [hlw]
          have hnew : (rec i).new.isSome = true := by rw [hn]; rfl
          have : S 0 (nx i) = none := by
            cases h0 : S 0 (nx i) with
            | none => rfl
            | some ob =>
              have h1 := D.bnd0 _ ob h0
              have h2 := D.nx_le (i := 0) (j := i) (Nat.zero_le _) (by omega)
              omega
          simpa using this
      have hobj' : match ai.op.touch (Ev (EL (dstF os) rec (E 0) ops.size (LA listed))) with | none => obj = none | some q => ∃ ob, SL rec (S 0) ops.size (LA listed) q = some ob ∧ obj = some ob := by
        rw [c1, ← ht]
        cases hq : (rec i).t with
        | none => rw [hq] at hobj; exact hobj
        | some q =>
          rw [hq] at hobj
          obtain ⟨ob, h1, h2⟩ := hobj
          exact ⟨ob, by rw [D.obj_agree h.closed hin ho hL hready hq]; exact h1, h2⟩
      -- a number for what is made
      obtain ⟨nid, hn1, hn2, hn3⟩ : ∃ nid, ι nid = none ∧ SL rec (S 0) ops.size (LA listed) nid = none ∧ (ai.op.ev (Ev (EL (dstF os) rec (E 0) ops.size (LA listed))) nid obj = some ⟨(rec i).v, (rec i).u, (rec i).new⟩ ∧ ((rec i).new.isSome = true → nid = nx i)) := by
        cases hn : (rec i).new with
        | some x =>
          have hnew : (rec i).new.isSome = true := by rw [hn]; rfl
          refine ⟨nx i, h.pend i hi hL hnew, ?_, by rw [c2, ← hn]; exact hev, fun _ => rfl⟩
          rcases hSn with h' | h'
          · exact h'
          · rw [hn] at h'; cases h'
        | none =>
          -- nothing is made: the number is not asked for
          by_cases hfree : ι (nx i) = none ∧ SL rec (S 0) ops.size (LA listed) (nx i) = none
          · exact ⟨nx i, hfree.1, hfree.2, by rw [c2, ← hn]; exact hev, fun h' => by cases h'⟩
          · refine ⟨M, ?_, ?_, ?_, fun h' => by cases h'⟩
            · cases hι : ι M with
              | none => rfl
              | some b => exact absurd (h.ιM _ b hι) (Nat.lt_irrefl _)
            · cases hs : SL rec (S 0) ops.size (LA listed) M with
              | none => rfl
              | some b => exact absurd (hbnd.lt _ b hs) (Nat.lt_irrefl _)
            · rw [c2]
              rw [hn] at hev
              exact ev_any hev rfl M
      obtain ⟨n, cv, w', ι', k1, k2, k3, k4, k5, k6⟩ := op_sound hco h.wf hn1 hn2 hval (fun _ => rfl) hobj' hn3.1 (by rw [c3]; exact hside)
      have hSL' : app2S (app1S (SL rec (S 0) ops.size (LA listed)) (ai.op.touch (Ev (EL (dstF os) rec (E 0) ops.size (LA listed)))) (rec i).u) nid (rec i).new = SL rec (S 0) ops.size (addL i (LA listed)) := by
        rw [hSL, c1, ← ht]
        cases hn : (rec i).new with
        | none => rfl
        | some x => rw [hn3.2 (by rw [hn]; rfl)]
      simp only [] at k3 k4 k5 k6
      rw [hSL'] at k3 k4 k5
      have hfin := hK ι' M _ w' (h.next D ho hL hready k3 k4 (fun q b hq => by
        rcases k6 q b hq with ⟨hnew, e⟩ | hold
        · have hnM := h.nM
          have := D.nx_lt hi (Nat.le_refl _) hnew
          rw [e, hn3.2 hnew]; omega
        · exact h.ιM q b hold) (Nat.le_refl _) (fun q b hq hlt => by
        rcases k6 q b hq with ⟨hnew, e⟩ | hold
        · exact .inl ⟨hnew, by rw [e, hn3.2 hnew]⟩
        · exact .inr hold) hs0 k5)
      unfold Oper.wp
      rw [k1]
      rcases k2 with rfl | ⟨rfl, rfl⟩
      · exact hfin
      · exact hfin

end Go.AL
