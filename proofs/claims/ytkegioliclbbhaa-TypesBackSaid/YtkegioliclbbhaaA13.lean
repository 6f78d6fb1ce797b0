/- The abstract layer: code and functions come to what the abstract ones say. -/
import Derived.Test.YtkegioliclbbhaaA12g
set_option linter.unusedVariables false
set_option linter.unusedSimpArgs false
namespace Go.AL
variable {P : Program} {gs : List Nat} {N : Nat} {ι ι' : Nat → Option Nat} {g l : Env} {s s' : St} {a : Act} {w w' : World}

/-- What is known behind code. -/
def After (gs : List Nat) (N : Nat) (ι0 : Nat → Option Nat) (s0 : St) (w0 : World) (Q : AExit → Env → St → Prop) (e : Exit) (a : Act) (w : World) : Prop :=
  ∃ ι g l s, Rel gs N ι g l s a w ∧ Step ι0 s0.m w0 ι s.m w ∧ Inc ι0 ι s0.nx s.nx ∧ match e with | .normal => Q .normal g s | .exit i => Q (.exit i) g s | .ret => Q .ret g s | _ => False

theorem wp_loop_ix {P : Program} {Q : Exit → Act → World → Prop} {c : Code} (J : Nat → Act → World → Prop) {n : Nat} {a : Act} {w : World} (h₀ : J n a w)
    (round : ∀ n a w, J n a w → c.wp P (Exit.then (fun a' w' => ∃ m, m < n ∧ J m a' w') Q) a w) : (Code.loop c).wp P Q a w := by
  intro b k cs
  have key : ∀ n a w, J n a w → ∃ e a' w', Q e a' w' ∧ Arrives P (lone (b.at a (.code c :: .inLoop c :: k)) cs w) b k cs e a' w' := by
    intro n
    induction n using Nat.strongRecOn with
    | _ n ih =>
      intro a w hI
      obtain ⟨e, a₁, w₁, hq, harr⟩ := round n a w hI b (.inLoop c :: k) cs
      cases e with
      | normal =>
        obtain ⟨m, hlt, hI₁⟩ := hq
        obtain ⟨e₂, a₂, w₂, hq₂, harr₂⟩ := ih m hlt a₁ w₁ hI₁
        exact ⟨e₂, a₂, w₂, hq₂, .of_steps (Steps.trans harr (.one step_inLoop)) harr₂⟩
      | exit id => exact ⟨_, a₁, w₁, hq, .pass (x := .inLoop c) rfl (fun _ _ => .inl (by simp)) harr⟩
      | goto l => exact ⟨_, a₁, w₁, hq, .pass (x := .inLoop c) rfl (fun _ _ => .inl (by simp)) harr⟩
      | ret => exact ⟨_, a₁, w₁, hq, .pass (x := .inLoop c) rfl (fun _ _ => .inl (by simp)) harr⟩
      | panic ch => exact ⟨_, a₁, w₁, hq, .pass (x := .inLoop c) rfl (fun _ _ => .inl (by simp)) harr⟩
      | outgrown => exact ⟨_, a₁, w₁, hq, .pass (x := .inLoop c) rfl (fun _ _ => .inl (by simp)) harr⟩
  obtain ⟨e, a', w', hq, harr⟩ := key n a w h₀
  exact ⟨e, a', w', hq, .of_steps (.one step_loop) harr⟩

theorem condOpd_val {c : Operand} {y : AOpd} (h : condOpd gs c = some y) : opd gs c = some y ∧ ∀ l l', y.val g l = y.val g l' := by
  unfold condOpd at h
  split at h
  · cases h
  · rename_i hne
    refine ⟨h, fun l l' => ?_⟩
    cases y with
    | l t => exact absurd h (hne t)
    | _ => rfl

/-- A box is never written again: it is what it holds. -/
theorem Rel.frz (h : Rel gs N ι g l s a w) {t o off : Nat} {cs : List AV} (ht : gs.contains t = true) (hg : g.get t = .ptr o off) (ho : s.m o = some (.box cs)) :
    Rel gs N ι ((t, .cptr (cs.drop off)) :: g) l (s.del o) a w ∧ Step ι s.m w ι (s.del o).m w := by
  have hsub := delS_sub s.m o
  have hst : Step ι s.m w ι (s.del o).m w := drop_step s.m (delS s.m o) hsub ι w
  have hwf : WF ι (s.del o).m w := h.wf.drop hsub
  refine ⟨⟨hwf, ⟨fun q ob hq => h.bnd.lt q ob (hsub q ob hq), h.bnd.ilt⟩, h.size, h.defers, fun u hu => ?_, fun u hu => (h.loc u hu).step hst⟩, hst⟩
  simp only [Env.get]
  split
  · rename_i e
    subst e
    have hp := h.glob t ht
    rw [hg] at hp
    obtain ⟨b, hb, hv⟩ := rep_ptr hp
    rw [hv]
    have hc := (box_cellsAt (h.wf.rep o _ b ho hb)).drop off
    simp only [Nat.zero_add] at hc
    obtain ⟨_, f, hf⟩ := hc
    refine .cptr f rfl (fun j hj => ?_) (fun j x hx => ((hf j x hx).2.2).step hst)
    have hx : (cs.drop off)[j]? = some (cs.drop off)[j] := by simp [hj]
    obtain ⟨h1, h2, h3⟩ := hf j _ hx
    refine ⟨h1, ?_, h2⟩
    rintro ⟨q, ob, k1, k2, k3⟩
    have hq : q ≠ o := by
      intro e
      simp [St.del, e] at k1
    exact hq (h.wf.inj q o ob _ b (hsub q ob k1) ho k2 hb)
  · exact (h.glob u hu).step hst

theorem frzs_sound {ι0 : Nat → Option Nat} {s0 : St} {w0 : World} {c : Code} : ∀ (ts : List Nat) (x : ACode), ts.all gs.contains = true →
    (∀ Q, awp P x Q g s → c.wp P (After gs N ι0 s0 w0 Q) a w) → ∀ Q, awp P (frzs ts x) Q g s → c.wp P (After gs N ι0 s0 w0 Q) a w
  | [], x, _, hx, Q, h => hx Q h
  | t :: r, x, ht, hx, Q, h => by
    simp only [List.all_cons, Bool.and_eq_true] at ht
    refine frzs_sound r (.seq x (.frz t)) ht.2 (fun Q' h' => ?_) Q h
    refine wp_mono (hx _ h') fun e a' w' ⟨ι', g', l', s', h1, h2, h3, h4⟩ => ?_
    cases e with
    | normal =>
      simp only [awp] at h4
      split at h4
      · rename_i o off hg
        split at h4
        · rename_i cs ho
          obtain ⟨k1, k2⟩ := h1.frz ht.1 hg ho
          exact ⟨ι', _, l', _, k1, h2.trans k2, h3, h4⟩
        · exact h4.elim
      · exact h4.elim
    | exit i => exact ⟨ι', g', l', s', h1, h2, h3, h4⟩
    | ret => exact ⟨ι', g', l', s', h1, h2, h3, h4⟩
    | _ => exact h4.elim

theorem code_sound {ι0 : Nat → Option Nat} {s0 : St} {w0 : World} (hdraws : P.follows .mixedOrders = true) : ∀ (c : Code) (ac : ACode), compileCode P gs N c = some ac → ∀ (Q : AExit → Env → St → Prop) (ι : Nat → Option Nat) (g l : Env) (s : St) (a : Act) (w : World),
    awp P ac Q g s → Rel gs N ι g l s a w → Step ι0 s0.m w0 ι s.m w → Inc ι0 ι s0.nx s.nx → c.wp P (After gs N ι0 s0 w0 Q) a w := by
  intro c
  induction c with
  | skip =>
    intro ac hc Q ι g l s a w h hr hs hn
    cases hc
    exact wp_skip ⟨ι, g, l, s, hr, hs, hn, h⟩
  | region id ops draw =>
    intro ac hc Q ι g l s a w h hr hs hn
    simp only [compileCode] at hc
    split at hc
    rotate_left
    · cases hc
    rename_i hfr
    simp only [Option.map_eq_some_iff] at hc
    obtain ⟨ac, hc, rfl⟩ := hc
    refine frzs_sound _ ac hfr (fun Q' h' => ?_) Q h
    clear h
    have h := h'
    clear h'
    split at hc
    · rename_i hms
      simp only [Bool.and_eq_true] at hms
      obtain ⟨_, rfl⟩ := hms
      simp only [compileRegion2] at hc
      generalize ((List.range (ops.size + 1)).find? (sufOK ops)).getD ops.size = k at hc
      split at hc
      · rename_i hchk
        simp only [Bool.and_eq_true] at hchk
        split at hc
        · rename_i kinds hk
          split at hc
          · rename_i os suf hos hsf
            cases hc
            exact suf_sound hdraws hchk.1 (by simpa using hchk.2) hk hos hsf (fun ι' g' l' s' a' w' h1 h2 h3 h4 => ⟨ι', g', l', s', h1, h2, h3, h4⟩) h hr.clear hs hn
          · cases hc
        · cases hc
      · cases hc
    rename_i hms
    clear hms
    simp only [compileRegion] at hc
    split at hc
    · rename_i hd
      subst hd
      split at hc
      · rename_i hchk
        split at hc
        · rename_i kinds hk
          simp only [Option.map_eq_some_iff] at hc
          obtain ⟨os, hos, rfl⟩ := hc
          exact draw_sound hdraws hchk hk hos (fun ι' g' l' s' a' w' h1 h2 h3 h4 => ⟨ι', g', l', s', h1, h2, h3, h4⟩) h hr.clear hs hn
        · cases hc
      · cases hc
    · rename_i hd
      simp only [Bool.not_eq_true] at hd
      subst hd
      simp only [Option.map_eq_some_iff] at hc
      obtain ⟨os, hos, rfl⟩ := hc
      exact wp_region (seq_sound hos (fun ι' g' l' s' a' w' h1 h2 h3 h4 => ⟨ι', g', l', s', h1, h2, h3, h4⟩) h hr.clear hs hn)
  | seq x y ihx ihy =>
    intro ac hc Q ι g l s a w h hr hs hn
    simp only [compileCode] at hc
    split at hc
    · rename_i x' y' hx hy
      cases hc
      refine wp_seq (wp_mono (ihx x' hx _ ι g l s a w h hr hs hn) fun e a' w' ⟨ι', g', l', s', h1, h2, h3, h4⟩ => ?_)
      cases e with
      | normal => exact ihy y' hy Q ι' g' l' s' a' w' h4 h1 h2 h3
      | exit i => exact ⟨ι', g', l', s', h1, h2, h3, h4⟩
      | ret => exact ⟨ι', g', l', s', h1, h2, h3, h4⟩
      | _ => exact h4.elim
    · cases hc
  | cond c x y ihx ihy =>
    intro ac hc Q ι g l s a w h hr hs hn
    simp only [compileCode] at hc
    split at hc
    · rename_i c' x' y' hcc hx hy
      cases hc
      obtain ⟨ho, hv⟩ := condOpd_val (g := g) hcc
      have hval := hr.val c c' ho
      simp only [awp] at h
      rw [hv l []] at hval
      split at h
      · rename_i t ht
        rw [ht] at hval
        exact wp_cond_split (rep_bool hval) (fun e => ihx x' hx Q ι g l s a w (h.1 e) hr hs hn) (fun e => ihy y' hy Q ι g l s a w (h.2 e) hr hs hn)
      · exact h.elim
    · cases hc
  | block id b ih =>
    intro ac hc Q ι g l s a w h hr hs hn
    simp only [compileCode, Option.map_eq_some_iff] at hc
    obtain ⟨b', hb, rfl⟩ := hc
    refine wp_block (wp_mono (ih b' hb _ ι g l s a w h hr hs hn) fun e a' w' ⟨ι', g', l', s', h1, h2, h3, h4⟩ => ?_)
    cases e with
    | normal => exact ⟨ι', g', l', s', h1, h2, h3, h4⟩
    | exit i =>
      simp only [Exit.inBlock]
      simp only at h4
      split at h4
      · rename_i e; rw [if_pos e]; exact ⟨ι', g', l', s', h1, h2, h3, h4⟩
      · rename_i e; rw [if_neg e]; exact ⟨ι', g', l', s', h1, h2, h3, h4⟩
    | ret => exact ⟨ι', g', l', s', h1, h2, h3, h4⟩
    | _ => exact h4.elim
  | loop b ih =>
    intro ac hc Q ι g l s a w h hr hs hn
    simp only [compileCode, Option.map_eq_some_iff] at hc
    obtain ⟨b', hb, rfl⟩ := hc
    obtain ⟨I, n, hI, hstep⟩ := h
    refine wp_loop_ix (fun n a w => ∃ ι g l s, Rel gs N ι g l s a w ∧ Step ι0 s0.m w0 ι s.m w ∧ Inc ι0 ι s0.nx s.nx ∧ I n g s) (n := n) ⟨ι, g, l, s, hr, hs, hn, hI⟩ ?_
    rintro n a w ⟨ι, g, l, s, hr, hs, hn, hI⟩
    refine wp_mono (ih b' hb _ ι g l s a w (hstep n g s hI) hr hs hn) fun e a' w' ⟨ι', g', l', s', h1, h2, h3, h4⟩ => ?_
    cases e with
    | normal =>
      obtain ⟨m, hm, hI'⟩ := h4
      exact ⟨m, hm, ι', g', l', s', h1, h2, h3, hI'⟩
    | exit i => exact ⟨ι', g', l', s', h1, h2, h3, h4⟩
    | ret => exact ⟨ι', g', l', s', h1, h2, h3, h4⟩
    | _ => exact h4.elim
  | exit id =>
    intro ac hc Q ι g l s a w h hr hs hn
    cases hc
    exact wp_exit ⟨ι, g, l, s, hr, hs, hn, h⟩
  | ret =>
    intro ac hc Q ι g l s a w h hr hs hn
    cases hc
    exact wp_ret ⟨ι, g, l, s, hr, hs, hn, h⟩
  | _ => intro ac hc; cases hc

theorem argEnv_get : ∀ (i : Nat) (args : List AV) (t : Nat), (argEnv i args).get t = if i ≤ t then args.getD (t - i) .any else .any
  | i, [], t => by simp [argEnv, Env.get]
  | i, v :: r, t => by
    simp only [argEnv, Env.get]
    by_cases h : i = t
    · subst h; simp
    · rw [if_neg h, argEnv_get (i + 1) r t]
      by_cases h1 : i + 1 ≤ t
      · rw [if_pos h1, if_pos (by omega)]
        have : t - i = t - (i + 1) + 1 := by omega
        rw [this]; simp
      · rw [if_neg h1, if_neg (by omega)]

theorem results_sound {fn : Func} {rs : List ARes} (hc : compileRes P gs fn.results.toList = some rs) (hr : Rel gs N ι g l s a w) {vs : List AV} (hv : resVals rs g s = some vs) :
    ∃ cv, (results fn a.tmps).run P w = .ok cv w ∧ Rep ι (Foot ι s.m) w cv (oneOf vs) := by
  have key : ∀ (l0 : List ResultVar) (rs : List ARes) (vs : List AV), compileRes P gs l0 = some rs → resVals rs g s = some vs →
      ∃ cvs : List Value, (l0.mapM fun (r : ResultVar) => match r with | .tmp t => (Pure.pure (a.tmps.getD t undef) : Sem Value) | .cell c t => do loadVar t (← asAddr (a.tmps.getD c undef))).run P w = .ok cvs w ∧
        cvs.length = vs.length ∧ ∀ (j : Nat) v x, cvs[j]? = some v → vs[j]? = some x → Rep ι (Foot ι s.m) w v x := by
    intro l0
    induction l0 with
    | nil =>
      intro rs vs h1 h2
      simp [compileRes] at h1; subst h1
      simp [resVals] at h2; subst h2
      exact ⟨[], by simp, rfl, by simp⟩
    | cons x l0 ih =>
      intro rs vs h1 h2
      have fin : ∀ {cv v r' vs'}, (match x with | .tmp t => (Pure.pure (a.tmps.getD t undef) : Sem Value) | .cell c t => do loadVar t (← asAddr (a.tmps.getD c undef))).run P w = .ok cv w →
          Rep ι (Foot ι s.m) w cv v → compileRes P gs l0 = some r' → resVals r' g s = some vs' → vs = v :: vs' →
          ∃ cvs : List Value, ((x :: l0).mapM fun (r : ResultVar) => match r with | .tmp t => (Pure.pure (a.tmps.getD t undef) : Sem Value) | .cell c t => do loadVar t (← asAddr (a.tmps.getD c undef))).run P w = .ok cvs w ∧
            cvs.length = vs.length ∧ ∀ (j : Nat) v x, cvs[j]? = some v → vs[j]? = some x → Rep ι (Foot ι s.m) w v x := by
        intro cv v r' vs' k1 k2 k3 k4 k5
        subst k5
        obtain ⟨cvs, m1, m2, m3⟩ := ih r' vs' k3 k4
        refine ⟨cv :: cvs, ?_, by simp [m2], fun j u y hu hy => ?_⟩
        · simp only [List.mapM_cons, Sem.run_bind, k1, Result.andThen_ok, m1]
          rfl
        · cases j with
          | zero => simp at hu hy; subst hu hy; exact k2
          | succ j => simp at hu hy; exact m3 j u y hu hy
      cases x with
      | tmp t =>
        simp only [compileRes, Option.map_eq_some_iff] at h1
        obtain ⟨r', hr', rfl⟩ := h1
        cases hg : gs.contains t with
        | false => rw [hg] at h2; simp [resVals] at h2
        | true =>
          rw [hg] at h2
          simp only [resVals, Option.map_eq_some_iff] at h2
          obtain ⟨vs', hvs', rfl⟩ := h2
          exact fin (by rfl) (hr.glob t hg) hr' hvs' rfl
      | cell c t =>
        simp only [compileRes] at h1
        split at h1
        · rename_i n agg r' hn hagg hr'
          cases h1
          cases hg : gs.contains c with
          | false => rw [hg] at h2; simp [resVals] at h2
          | true =>
            rw [hg] at h2
            simp only [resVals] at h2
            split at h2
            · rename_i o off hp
              split at h2
              · rename_i cs ho
                split at h2
                · rename_i hfit
                  split at h2
                  · rename_i v vs' hl hvs'
                    cases h2
                    have hrep := hr.glob c hg
                    rw [hp] at hrep
                    obtain ⟨b, hb, hv⟩ := rep_ptr hrep
                    have hcells := (box_cellsAt (hr.wf.rep o _ b ho hb)).drop off
                    simp only [Nat.zero_add] at hcells
                    obtain ⟨cv, hrun, hcv⟩ := load_cells (P := P) t n agg (run_isAgg hagg) (run_sizeOf hn) hcells (by simp; omega) hl
                    refine fin ?_ hcv hr' hvs' rfl
                    simp only [Instr.loadAt, Instr.sureAddr, Sem.run_bind, Sem.run_pure, Result.andThen_ok] at hrun
                    simp [hv, asAddr, hrun]
                  · cases h2
                · cases h2
              · cases h2
            · cases h2
        · cases h1
  obtain ⟨cvs, m1, m2, m3⟩ := key _ rs vs hc hv
  have hrun : (fn.results.mapM fun (r : ResultVar) => match r with | .tmp t => (Pure.pure (a.tmps.getD t undef) : Sem Value) | .cell c t => do loadVar t (← asAddr (a.tmps.getD c undef))).run P w = .ok cvs.toArray w := by
    rw [Array.mapM_eq_mapM_toList]
    simp only [Sem.run_map, m1, Result.andThen_ok]
  refine ⟨if h : cvs.toArray.size = 1 then cvs.toArray[0] else .tuple cvs.toArray, ?_, ?_⟩
  · unfold results
    rw [Sem.run_bind]
    exact congrArg (fun r => Result.andThen r fun vs w' => Result.ok (if h : vs.size = 1 then vs[0] else Value.tuple vs) w') hrun
  · match cvs, vs, m2, m3 with
    | [c], [v], _, m3 => exact m3 0 c v rfl rfl
    | [], [], _, m3 => exact .tup rfl (by simp)
    | c :: c' :: cs, v :: v' :: vs, m2, m3 =>
      have hne : ¬ ((c :: c' :: cs).toArray.size = 1) := by simp
      rw [dif_neg hne]
      exact .tup (by simpa using m2) (fun j u y hu hy => m3 j u y (by simpa using hu) hy)

theorem fun_sound {f : FuncId} {fn : Func} {af : AFun} (hdraws : P.follows .mixedOrders = true) (hf : P.funcs[f]? = some fn) (hcb : Callable P f) (hc : compileFun P gs fn = some af) {args : List AV} (hargs : args.length = af.np) {s : St}
    {K : AV → St → Prop} (h : awpFun P af args s K) : ACalls P f args s K := by
  refine ⟨hcb, fun ι w vs hwf hbnd hvs => ?_⟩
  unfold compileFun at hc
  split at hc
  · rename_i body rs hb hrs
    split at hc
    · rename_i hnp
      cases hc
      cases hbody : fn.body with
      | none => simp [hbody] at hb
      | some c =>
        simp only [hbody, Option.bind_some] at hb
        have hsz : vs.size = fn.params.size + fn.nfree := hvs.1.trans hargs
        have hrel : Rel gs fn.ntmps ι (argEnv 0 args) [] s { tmps := vs ++ Array.replicate (fn.ntmps - vs.size) undef, defers := [] } w := by
          refine ⟨hwf, hbnd, by simp; omega, rfl, fun t ht => ?_, fun t ht => .any _⟩
          rw [argEnv_get]
          simp only [Nat.zero_le, if_true, Nat.sub_zero]
          by_cases hlt : t < vs.size
          · have hlt' : t < args.length := by rw [← hvs.1]; exact hlt
            have e1 : (vs ++ Array.replicate (fn.ntmps - vs.size) undef).getD t undef = vs[t] := by
              simp [Array.getElem?_append_left hlt, hlt]
            have e2 : args.getD t .any = args[t] := by simp [hlt']
            rw [e1, e2]
            exact hvs.2 t _ _ (by simp [hlt]) (by simp [hlt'])
          · have : args.getD t .any = .any := by
              have : args.length ≤ t := by rw [← hvs.1]; omega
              simp [List.getElem?_eq_none this]
            rw [this]
            exact .any _
        refine calls_of_wp hf hbody (wp_mono (code_sound hdraws c body hb _ ι _ [] s _ w h hrel (Step.refl _ _ _) (Inc.refl _ _)) fun e a' w' ⟨ι', g', l', s', h1, h2, h3, h4⟩ => ?_)
        have fin : (match resVals rs g' s' with | some vs => K (oneOf vs) s' | none => False) → ∃ v, (results fn a'.tmps).run P w' = .ok v w' ∧
            ∃ v_1 r s'_1 ι'_1, Ending.returned v = .returned v_1 ∧ Step ι s.m w ι'_1 s'_1.m w' ∧ WF ι'_1 s'_1.m w' ∧ Bnd ι'_1 s'_1.m s'_1.nx ∧ Inc ι ι'_1 s.nx s'_1.nx ∧ Rep ι'_1 (Foot ι'_1 s'_1.m) w' v_1 r ∧ K r s'_1 := by
          intro h
          split at h
          · rename_i vs' hvs'
            obtain ⟨cv, k1, k2⟩ := results_sound hrs h1 hvs'
            exact ⟨cv, k1, cv, _, s', ι', rfl, h2, h1.wf, h1.bnd, h3, k2, h⟩
          · exact h.elim
        cases e with
        | normal => exact ⟨h1.defers, fin h4⟩
        | ret => exact ⟨h1.defers, fin h4⟩
        | exit i => exact h4.elim
        | _ => exact h4.elim
    · cases hc
  · cases hc

end Go.AL
