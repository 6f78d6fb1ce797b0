/- The abstract layer: every operation comes to what its abstract one says: the theorem. -/
import Derived.Test.YtkegioliclbbhaaA8m
set_option linter.unusedVariables false
set_option linter.unusedSimpArgs false
namespace Go.AL
variable {ι ι' : Nat → Option Nat} {S S' : Store} {F : Nat → Nat → Prop} {w w' : World} {P : Program}

/-- An element of a list, by its address. -/
theorem index_list {a : Option Addr} {len cap sz : Nat} {t : Tok} {xs : List AV} (h : Rep ι F w (.slice a len cap) (.list sz t xs)) (hsz : 0 < sz) (n : Nat) (hn : n < xs.length) :
    ∃ ad, a = some ad ∧ ad.spot = none ∧ Rep ι F w (.pointer (some (ad.add (n * sz)))) (.cptr (xs.getD n .any).cells) := by
  obtain ⟨_, _, _, cs, e0, k1, k2, k3, k4, k5, k6, k7⟩ := h.list_inv
  cases e0
  have hx : xs[n]? = some xs[n] := by simp [hn]
  have hxl : xs[n].cells.length = sz := k3 _ (List.getElem_mem hn)
  have hlt : ∀ j, j < sz → n * sz + j < len * sz := fun j hj => by
    have : (n + 1) * sz ≤ len * sz := Nat.mul_le_mul_right _ (by omega)
    rw [Nat.succ_mul] at this
    omega
  obtain ⟨ad, e1, e2, _⟩ := k6 (n * sz + 0) (hlt 0 hsz)
  refine ⟨ad, e1, e2, ?_⟩
  rw [addr_add ad e2]
  have hg : xs.getD n .any = xs[n] := by simp [hn]
  rw [hg]
  refine .cptr (fun j => cs (n * sz + j)) rfl (fun j hj => ?_) (fun j x hxj => ?_)
  · obtain ⟨ad', f1, f2, f3, f4, f5⟩ := k6 (n * sz + j) (hlt j (by omega))
    rw [e1] at f1
    cases f1
    exact ⟨by simpa [Nat.add_assoc] using f3, by simpa [Nat.add_assoc] using f4, f5⟩
  · have hj : j < sz := by rw [← hxl]; exact (List.getElem?_eq_some_iff.1 hxj).1
    have := flat_get k3 n j hj
    rw [hx] at this
    exact k7 _ x (by rw [this]; exact hxj)

theorem CellsAt.cptr {a : Addr} {l : List AV} (f : Nat → Nat) : True := trivial

theorem op_sound {gs : List Nat} {o : Oper} {aop : AOp} (hc : compileOp P gs o = some aop)
    (hwf : WF ι S w) {nid : Nat} (hn : ι nid = none) (hSn : S nid = none) {ρ : Operand → Value} {α : AOpd → AV} (hα : ∀ x y, opd gs x = some y → Rep ι (Foot ι S) w (ρ x) (α y)) (hc0 : ∀ v, ρ (.const v) = v)
    {obj : Option AObj} (hobj : match aop.touch α with | none => obj = none | some q => ∃ ob, S q = some ob ∧ obj = some ob) {r : Res} (hev : aop.ev α nid obj = some r) (hside : aop.side α obj) :
    Sound1 P ρ o ι S w nid (app2S (app1S S (aop.touch α) r.upd) nid r.new) r.new.isSome r.v := by
  obtain ⟨dst, op, type, pos, after, guard⟩ := o
  have hmap : ∀ {x : Operand} {f : AOpd → AOp}, (opd gs x).map f = some aop → ∃ y, opd gs x = some y ∧ aop = f y := by
    intro x f h
    cases hx : opd gs x with
    | none => simp [hx] at h
    | some y => simp [hx] at h; exact ⟨y, rfl, h.symm⟩
  cases op with
  | move x =>
    simp only [compileOp] at hc
    split at hc
    · rename_i x' sz hmk
      cases hc
      simp only [AOp.ev, if_true, Option.some.injEq] at hev
      subst hev
      have hr := hα (.const (.slice none 0 0)) (.c (.list 0 .full [])) rfl
      have hv : ρ (.const (.slice none 0 0)) = .slice none 0 0 := hc0 _
      exact ⟨_, .slice none 0 0, w, ι, by simp [execOp, hv], .inl rfl, virtual_step hn S w _, hwf.virtual hn _, .mnil, fun q b h => .inr h⟩
    · rename_i x' _ _ _
      obtain ⟨y, hy, rfl⟩ := hmap hc
      simp [AOp.ev] at hev; subst hev
      exact sound_val hwf (by simp [execOp]) (hα _ y hy)
  | assign x =>
    simp only [compileOp] at hc
    split at hc
    · rename_i x' sz hmk
      cases hc
      simp only [AOp.ev, if_true, Option.some.injEq] at hev
      subst hev
      have hr := hα (.const (.slice none 0 0)) (.c (.list 0 .full [])) rfl
      have hv : ρ (.const (.slice none 0 0)) = .slice none 0 0 := hc0 _
      exact ⟨_, .slice none 0 0, w, ι, by simp [execOp, hv], .inl rfl, virtual_step hn S w _, hwf.virtual hn _, .mnil, fun q b h => .inr h⟩
    · rename_i x' _ _ _
      obtain ⟨y, hy, rfl⟩ := hmap hc
      simp [AOp.ev] at hev; subst hev
      exact sound_val hwf (by simp [execOp]) (hα _ y hy)
  | pick c a b =>
    simp only [compileOp, Option.bind_eq_bind] at hc
    cases h1 : opd gs c <;> cases h2 : opd gs a <;> cases h3 : opd gs b <;> simp [h1, h2, h3] at hc
    subst hc
    simp only [AOp.ev] at hev
    split at hev
    · rename_i t ht
      cases hev
      have := hα c _ h1
      rw [ht] at this
      exact sound_val hwf (by simp [execOp, rep_bool this, asBool]) (rep_pick t (hα a _ h2) (hα b _ h3))
    · cases hev
  | alloc e =>
    simp only [compileOp, Option.map_eq_some_iff] at hc
    obtain ⟨zs, hz, rfl⟩ := hc
    simp [AOp.ev] at hev; subst hev
    obtain ⟨i, z, hi, hiz, hzr, hz1, hzv, _⟩ := zeroAV_spec (ι := ι) (F := Foot ι S) (w := w) hz
    obtain ⟨h3, h4⟩ := new_box hwf hn hzr hz1 e
    exact ⟨_, .pointer (some ⟨w.heap.size, 0, none⟩), _, _, by simp [execOp, Instr.alloc, hzv, newVar, newRow], .inl rfl, h3, h4, .ptr 0 (by simp [putι]), putι_inv⟩
  | box e x =>
    obtain ⟨y, hy, rfl⟩ := hmap hc
    simp [AOp.ev] at hev; subst hev
    obtain ⟨w', h1, h2, h3⟩ := box_sound (P := P) hwf hn (hα x y hy) hside e
    exact ⟨_, .pointer (some ⟨w.heap.size, 0, none⟩), _, _, by simp [execOp, h1], .inl rfl, h2, h3, .ptr 0 (by simp [putι]), putι_inv⟩
  | build t parts =>
    simp only [compileOp] at hc
    split at hc
    · rename_i fields zs hu hz
      split at hc
      · rename_i places hp
        simp only [Option.map_eq_some_iff] at hc
        obtain ⟨ps, hps, rfl⟩ := hc
        simp [AOp.ev] at hev; subst hev
        obtain ⟨k1, k2⟩ := partsOf_spec hps
        have hb := build_sound (ι := ι) (F := Foot ι S) (w := w) (ps := parts.map fun (p : Nat × Operand) => (p.1, ρ p.2)) (qs := ps.map fun p => (p.1, α p.2.2)) hu hz hp (by simpa using k1) (fun j p q hp' hq' => by
          simp only [Array.getElem?_map, Option.map_eq_some_iff] at hp'
          simp only [List.getElem?_map, Option.map_eq_some_iff] at hq'
          obtain ⟨p0, hp0, rfl⟩ := hp'
          obtain ⟨q0, hq0, rfl⟩ := hq'
          obtain ⟨e1, e2⟩ := k2 j p0 q0 (by simpa using hp0) hq0
          obtain ⟨s1, s2, s3⟩ := hside q0 (List.mem_of_getElem? hq0)
          refine ⟨by simp only; rw [e1, s2], hα _ _ e2, s1, by simp only; rw [s2]; exact s3⟩)
        obtain ⟨v, h1, h2⟩ := hb
        exact sound_val hwf (by simp [execOp, h1]) h2
      · cases hc
    · cases hc
  | buildSlice t m parts =>
    simp only [compileOp] at hc
    split at hc
    · rename_i e hu
      split at hc
      · rename_i sz agg zs ps hsz hagg hz hps
        split at hc
        · rename_i hcond
          obtain ⟨c1, c2, c3, c4⟩ := hcond
          cases hc
          simp only [AOp.ev, Option.some.injEq] at hev; subst hev
          obtain ⟨k1, k2⟩ := elemsOf_spec hps
          obtain ⟨i, hi, hisz⟩ : ∃ i, P.info? e = some i ∧ i.size = sz := by
            unfold szOf at hsz
            cases hi : P.info? e with
            | none => simp [hi] at hsz
            | some i => simp [hi] at hsz; exact ⟨i, rfl, hsz⟩
          subst hisz
          obtain ⟨_, _, _, _, _, _, _, hzc⟩ := zeroAV_spec (ι := ι) (F := Foot ι S) (w := w) hz
          have hx0 : (if agg = true then AV.agg zs else zs.headD .any).cells = zs := by
            cases agg with
            | true => rfl
            | false =>
              have h1 : i.size = 1 := by simpa using c4
              match zs, c1 with
              | [z], _ => exact (hzc z (by simp)).2
              | [], c1 => simp at c1; omega
              | _ :: _ :: _, c1 => simp at c1; omega
          have hb := buildSlice_sound (P := P) hwf (t := t) (ps := parts.map fun (p : Nat × Operand) => (p.1, ρ p.2)) (qs := ps.map fun p => (p.1, α p.2)) hu hi hz _ hx0 c1 c2 c3 (by simpa using k1) (fun j p q hp' hq' => by
            simp only [Array.getElem?_map, Option.map_eq_some_iff] at hp'
            simp only [List.getElem?_map, Option.map_eq_some_iff] at hq'
            obtain ⟨p0, hp0, rfl⟩ := hp'
            obtain ⟨q0, hq0, rfl⟩ := hq'
            obtain ⟨e1, e2⟩ := k2 j p0 q0 (by simpa using hp0) hq0
            exact ⟨e1, hα _ _ e2⟩) (fun q hq => by
            simp only [List.mem_map] at hq
            obtain ⟨q0, hq0, rfl⟩ := hq
            exact hside q0 hq0)
          obtain ⟨v, w', h1, h2, h3, h4⟩ := hb
          exact ⟨_, v, w', ι, by simp [execOp, h1], .inl rfl, h2, h3, h4, fun _ _ h => .inr h⟩
        · cases hc
      · cases hc
    · cases hc
  | load t a =>
    simp only [compileOp, Option.bind_eq_bind] at hc
    cases h1 : szOf P t <;> cases h2 : aggOf P t <;> cases h3 : opd gs a <;> simp [h1, h2, h3] at hc
    rename_i n agg y
    subst hc
    have ha := hα a y h3
    simp only [AOp.ev] at hev
    simp only [AOp.side] at hside
    simp only [AOp.touch] at hobj ⊢
    cases hy : α y <;> rw [hy] at ha <;> simp only [hy] at hev hside hobj ⊢ <;> try (cases hev; done)
    case ptr o off =>
      obtain ⟨ob, ho, rfl⟩ := hobj
      cases ob <;> try (cases hev; done)
      rename_i cs
      obtain ⟨b, hb, hv⟩ := rep_ptr ha
      simp only [Option.map_eq_some_iff] at hev
      obtain ⟨x, hx, rfl⟩ := hev
      have hcells := (box_cellsAt (hwf.rep o _ b ho hb)).drop off
      simp only [Nat.zero_add] at hcells
      simp only at hside
      obtain ⟨v, hr, hv'⟩ := load_cells (P := P) t n agg (run_isAgg h2) (run_sizeOf h1) hcells (by simp; omega) hx
      exact sound_val hwf (by simp [execOp, hv, hr]) hv'
    case cptr cs =>
      obtain ⟨ad, hv, hrep⟩ := rep_cptr ha
      simp only [Option.map_eq_some_iff] at hev
      obtain ⟨x, hx, rfl⟩ := hev
      obtain ⟨v, hr, hv'⟩ := load_cells (P := P) t n agg (run_isAgg h2) (run_sizeOf h1) (cptr_cellsAt hrep) hside hx
      exact sound_val hwf (by simp [execOp, hv, hr]) hv'
  | store t a x =>
    simp only [compileOp, Option.bind_eq_bind] at hc
    cases h1 : szOf P t <;> cases h2 : opd gs a <;> cases h3 : opd gs x <;> simp [h1, h2, h3] at hc
    rename_i n y z
    subst hc
    have ha := hα a y h2
    have hx := hα x z h3
    simp only [AOp.ev] at hev
    simp only [AOp.side] at hside
    simp only [AOp.touch] at hobj ⊢
    cases hy : α y <;> rw [hy] at ha <;> simp only [hy] at hev hside hobj ⊢ <;> try (cases hev; done)
    case ptr o off =>
      obtain ⟨ob, ho, rfl⟩ := hobj
      cases ob <;> try (cases hev; done)
      rename_i cs
      simp only [Option.some.injEq] at hev
      subst hev
      obtain ⟨b, hb, hv⟩ := rep_ptr ha
      obtain ⟨s1, s2, s3⟩ := hside
      obtain ⟨w', hr, hst, hwf'⟩ := store_box (P := P) hwf ho hb hx s1 s2 s3 t (run_sizeOf h1)
      refine ⟨.skip, undef, w', ι, by simp [execOp, hv, hr], .inr ⟨rfl, rfl⟩, hst, hwf', ?_, fun _ _ h => .inr h⟩
      exact .tup rfl (by simp)
  | nilCheck x =>
    obtain ⟨y, hy, rfl⟩ := hmap hc
    have hx := hα x y hy
    simp only [AOp.ev] at hev
    have hval : ∃ n, (execOp ρ ⟨dst, .nilCheck x, type, pos, after, guard⟩).run P w = .ok n w ∧ n = .value (ρ x) ∧ r = { v := α y } := by
      cases hy' : α y <;> rw [hy'] at hx <;> simp only [hy'] at hev <;> try (cases hev; done)
      all_goals
        simp only [Option.some.injEq] at hev
        cases hxe : ρ x <;> rw [hxe] at hx <;> try (cases hx; done)
      case fn.func =>
        rename_i fn _ _
        cases fn <;> try (cases hx; done)
        exact ⟨_, by simp [execOp, hxe], rfl, hev.symm⟩
      all_goals
        rename_i a
        cases a with
        | none => cases hx
        | some a => exact ⟨_, by simp [execOp, hxe], rfl, hev.symm⟩
    obtain ⟨n, h1, rfl, rfl⟩ := hval
    exact sound_val hwf h1 hx
  | binOp op t x y yt =>
    simp only [compileOp] at hc
    split at hc
    · rename_i neg hbe
      simp only [Option.bind_eq_bind] at hc
      cases h1 : opd gs x <;> cases h2 : opd gs y <;> simp [h1, h2] at hc
      rename_i a b
      subst hc
      have hx := hα x a h1
      have hy := hα y b h2
      simp only [AOp.ev] at hev
      split at hev
      · rename_i p q e1 e2
        cases hev
        rw [e1] at hx
        rw [e2] at hy
        have v1 := rep_bool hx
        have v2 := rep_bool hy
        unfold boolEq at hbe
        split at hbe <;> cases hbe
        · rename_i hu
          exact sound_val hwf (cv := .bool (p == q)) (by simp [execOp, v1, v2, run_eql_bool w t p q hu, eqGuard_at_bool]) (by simp only [Bool.false_eq_true, if_false]; rw [show (p == q) = decide (p = q) from by cases p <;> cases q <;> rfl]; exact .bool _)
        · rename_i hu
          exact sound_val hwf (cv := .bool (!(p == q))) (by simp [execOp, v1, v2, run_neq_bool w t p q hu, eqGuard_at_bool]) (by simp only [if_true]; rw [show (p == q) = decide (p = q) from by cases p <;> cases q <;> rfl]; exact .bool _)
      · cases hev
    · simp only [Option.bind_eq_bind] at hc
      cases h1 : opd gs x <;> cases h2 : opd gs y <;> simp [h1, h2] at hc
      rename_i a b
      subst hc
      simp only [AOp.ev, Option.map_eq_some_iff] at hev
      obtain ⟨v, hv, rfl⟩ := hev
      obtain ⟨cv, k1, k2, k3⟩ := bin_sound (P := P) (t := t) x y (hα x a h1) (hα y b h2) hv hside
      exact sound_val hwf (by simp [execOp, k3, k1]) k2
  | unOp op t x =>
    simp only [compileOp, Option.bind_eq_bind] at hc
    cases h1 : opd gs x <;> simp [h1] at hc
    rename_i a
    subst hc
    have hx := hα x a h1
    simp only [AOp.ev] at hev
    split at hev
    · rename_i b e
      cases hev
      rw [e] at hx
      exact sound_val hwf (by simp [execOp, rep_bool hx, Op.unary]) (.bool _)
    · rename_i k n e
      cases hev
      rw [e] at hx
      exact sound_val hwf (by simp [execOp, rep_int hx, Op.unary, Op.intArith]; rfl) (by simp; exact .int _ _)
    · cases hev
  | convert src dst x =>
    simp only [compileOp] at hc
    split at hc
    · rename_i k0 k hu1 hu2
      obtain ⟨y, hy, rfl⟩ := hmap hc
      have hx := hα x y hy
      simp only [AOp.ev] at hev
      split at hev
      · rename_i k1 n e
        cases hev
        rw [e] at hx
        exact sound_val hwf (by simp [execOp, convert, run_underlying hu1, run_underlying hu2, rep_int hx, Conv.intToInt]) (.int _ _)
      · cases hev
    · cases hc
  | makeFunc fn first captured =>
    cases fn with
    | func f =>
      simp only [compileOp] at hc
      obtain ⟨a, b, h1, h2, rfl⟩ := bind2 hc
      simp [AOp.ev] at hev; subst hev
      have r1 := opds_rep hα h1
      have r2 := opds_rep hα h2
      exact sound_val hwf (by simp [execOp, Instr.makeFunc]) (.fn f r1.1 r2.1 r1.2 r2.2)
    | _ => simp [compileOp] at hc
  | slice t x lo hi mx =>
    simp only [compileOp] at hc
    split at hc
    · rename_i e hu
      simp only [Option.bind_eq_bind] at hc
      cases h1 : szOf P e <;> cases h2 : opd gs x <;> cases h3 : optOpd gs lo <;> cases h4 : optOpd gs hi <;> cases h5 : optOpd gs mx <;> simp [h1, h2, h3, h4, h5] at hc
      rename_i sz y lo' hi' mx'
      subst hc
      have hx := hα x y h2
      simp only [AOp.ev] at hev
      simp only [AOp.side] at hside
      cases ey : α y <;> rw [ey] at hx <;> simp only [ey] at hev hside <;> try (cases hev; done)
      case list sz0 tk xs =>
        cases el : optInt (lo'.map α) <;> cases eh : optInt (hi'.map α) <;> cases em : optInt (mx'.map α) <;> simp only [el, eh, em] at hev hside <;> try (cases hev; done)
        rename_i l h m
        obtain ⟨s0, s1, s2⟩ := hside
        obtain ⟨a, len, cap, cs, hv, k1, k2, k3, k4, k5, k6, k7⟩ := hx.list_inv
        rw [hv] at hx
        simp only [Option.some.injEq] at hev
        obtain ⟨lN, hN, mN, t', hb, b1, b2, b3, b4, hr, ht⟩ : ∃ lN hN mN t', (Instr.sliceBounds true len cap (lo.map ρ) (hi.map ρ) (mx.map ρ)).run P w = .ok (lN, hN, mN) w ∧ lN ≤ hN ∧ hN ≤ len ∧ hN ≤ mN ∧ mN ≤ cap ∧
            r = { v := .list sz0 t' ((xs.take hN).drop lN) } ∧ (t' = .none ∨ (t' = .full ∧ mN = hN)) := by
          cases l with
          | none =>
            cases h with
            | none =>
              cases s2
              have hb := run_bounds (P := P) (w := w) (isSlice := true) (len := len) (cap := cap) hα h3 h4 h5 el eh em trivial rfl trivial k2
              refine ⟨_, _, _, tk.keep, hb, by simp, by simp, by simpa using k2, by simp, ?_, ?_⟩
              · rw [← hev]; simp [k1]
              · cases tk <;> simp [Tok.keep]
                exact k4
            | some hh =>
              obtain ⟨q1, q2, q3⟩ := s2
              cases m with
              | none =>
                have hb := run_bounds (P := P) (w := w) (isSlice := true) (len := len) (cap := cap) hα h3 h4 h5 el eh em trivial ⟨q1, by simp; omega⟩ trivial k2
                exact ⟨_, _, _, .none, hb, by simp, by simp; omega, by simp; omega, by simp, by rw [← hev]; simp, .inl rfl⟩
              | some mm =>
                simp only at q3
                subst q3
                have hb := run_bounds (P := P) (w := w) (isSlice := true) (len := len) (cap := cap) hα h3 h4 h5 el eh em trivial ⟨q1, by simp⟩ ⟨q1, by omega⟩ k2
                exact ⟨_, _, _, _, hb, by simp, by simp; omega, by simp, by simp; omega, by rw [← hev]; simp, .inr ⟨rfl, rfl⟩⟩
          | some ll =>
            cases h with
            | none =>
              cases s2
              obtain ⟨p1, p2⟩ := s1
              simp only at p2
              have hb := run_bounds (P := P) (w := w) (isSlice := true) (len := len) (cap := cap) hα h3 h4 h5 el eh em ⟨p1, by simp; omega⟩ rfl trivial k2
              refine ⟨_, _, _, tk.keep, hb, by simp; omega, by simp, by simpa using k2, by simp, ?_, ?_⟩
              · rw [← hev]; simp [k1]
              · cases tk <;> simp [Tok.keep]
                exact k4
            | some hh =>
              obtain ⟨q1, q2, q3⟩ := s2
              obtain ⟨p1, p2⟩ := s1
              simp only at p2
              cases m with
              | none =>
                have hb := run_bounds (P := P) (w := w) (isSlice := true) (len := len) (cap := cap) hα h3 h4 h5 el eh em ⟨p1, p2⟩ ⟨q1, by simp; omega⟩ trivial k2
                exact ⟨_, _, _, .none, hb, by simp; omega, by simp; omega, by simp; omega, by simp, by rw [← hev]; simp, .inl rfl⟩
              | some mm =>
                simp only at q3
                subst q3
                have hb := run_bounds (P := P) (w := w) (isSlice := true) (len := len) (cap := cap) hα h3 h4 h5 el eh em ⟨p1, p2⟩ ⟨q1, by simp⟩ ⟨q1, by omega⟩ k2
                exact ⟨_, _, _, _, hb, by simp; omega, by simp; omega, by simp, by simp; omega, by rw [← hev]; simp, .inr ⟨rfl, rfl⟩⟩
        subst hr
        have key := slice_list hx lN hN mN b1 b2 b3 b4 t' ht
        have e2 : lN * sz0 = lN * sz := by
          rcases s0 with rfl | rfl
          · rfl
          · have : lN = 0 := by simp at k1; omega
            rw [this]; simp
        rw [e2] at key
        refine sound_val hwf (cv := .slice (if mN = lN then a else a.map (·.add (lN * sz))) (hN - lN) (mN - lN)) ?_ key
        simp only [execOp, Instr.sliceAt, Instr.slice, hv, Sem.run_bind, run_underlying hu, Result.andThen_ok, hb, run_sizeOf h1]
        simp
    · rename_i hu
      split at hc
      · rename_i hmx
        simp only [Option.bind_eq_bind] at hc
        cases h2 : opd gs x <;> cases h3 : optOpd gs lo <;> cases h4 : optOpd gs hi <;> simp [h2, h3, h4] at hc
        rename_i y lo' hi'
        subst hc
        have hx := hα x y h2
        simp only [AOp.ev] at hev
        simp only [AOp.side] at hside
        cases ey : α y <;> rw [ey] at hx <;> simp only [ey] at hev hside <;> try (cases hev; done)
        case str s =>
          cases el : optInt (lo'.map α) <;> cases eh : optInt (hi'.map α) <;> simp only [el, eh] at hev hside <;> try (cases hev; done)
          rename_i l h
          obtain ⟨s1, s2⟩ := hside
          have hv := rep_str hx
          simp only [Option.some.injEq] at hev
          have hmx0 : optOpd gs (none : Option Operand) = some none := rfl
          have hb := run_bounds (P := P) (w := w) (isSlice := false) (len := s.size) (cap := s.size) hα h3 h4 hmx0 el eh rfl (by cases l <;> cases h <;> simp_all)
            (by cases h <;> simp_all) trivial (Nat.le_refl _)
          subst hev
          refine sound_val hwf (cv := .string (s.extract (optN l 0) (optN h s.size))) ?_ ?_
          · have hmx' : mx = none := by simpa using hmx
            subst hmx'
            simp only [Option.map_none] at hb
            simp [execOp, Instr.sliceAt, Instr.slice, hv, run_underlying hu, hb]
          · cases l <;> cases h <;> exact .str _
      · cases hc
    · cases hc
  | fieldAddr t x f =>
    simp only [compileOp] at hc
    split at hc
    · rename_i fields hu
      split at hc
      · rename_i fd hf
        split at hc
        · rename_i n hn0
          split at hc
          · rename_i hne
            obtain ⟨y, hy, rfl⟩ := hmap hc
            have hx := hα x y hy
            have hrun : ∀ a : Addr, a.spot = none → (Instr.fieldAt t (.pointer (some a)) f).run P w = .ok (.pointer (some ⟨a.block, a.off + fd.offset, none⟩)) w := by
              intro a ha
              have hz : ¬ (n = 0) := hne
              simp [Instr.fieldAt, run_underlying hu, hf, Instr.sureAddr, fieldPlace, run_sizeOf hn0, hz, addr_add a ha]
            simp only [AOp.ev] at hev
            simp only [AOp.side] at hside
            cases ey : α y <;> rw [ey] at hx <;> simp only [ey] at hev hside <;> try (cases hev; done)
            case ptr o off =>
              cases hev
              obtain ⟨b, hb, hv⟩ := rep_ptr hx
              exact sound_val hwf (cv := .pointer (some ⟨b, off + fd.offset, none⟩)) (by simp [execOp, hv, hrun ⟨b, off, none⟩ rfl]) (.ptr _ hb)
            case cptr cs =>
              cases hev
              obtain ⟨a, hv, hrep⟩ := rep_cptr hx
              cases hrep with
              | cptr g ha hc hr =>
                refine sound_val hwf (cv := .pointer (some ⟨a.block, a.off + fd.offset, none⟩)) (by simp [execOp, hv, hrun a ha]) (.cptr (fun j => g (fd.offset + j)) rfl (fun j hj => ?_) (fun j x hx => ?_))
                · simp only [List.length_drop] at hj
                  have := hc (fd.offset + j) (by omega)
                  simpa [Nat.add_assoc] using this
                · exact hr _ x (by simpa using hx)
          · cases hc
        · cases hc
      · cases hc
    · cases hc
  | field t x f =>
    simp only [compileOp] at hc
    split at hc
    · rename_i fields hu
      split at hc
      · rename_i fd hf
        simp only [Option.bind_eq_bind] at hc
        cases h1 : szOf P fd.type <;> cases h2 : aggOf P fd.type <;> cases h3 : opd gs x <;> simp [h1, h2, h3] at hc
        rename_i n agg y
        subst hc
        have hx := hα x y h3
        simp only [AOp.ev] at hev
        simp only [AOp.side] at hside
        cases ey : α y <;> rw [ey] at hx <;> simp only [ey] at hev hside <;> try (cases hev; done)
        rename_i cs
        simp only [Option.map_eq_some_iff] at hev
        obtain ⟨v, hv, rfl⟩ := hev
        obtain ⟨vs, hxv, hr, hone⟩ := rep_agg hx
        have hsz := hr.1
        cases agg with
        | true =>
          simp only [loadAV, if_true, Option.some.injEq] at hv
          subst hv
          refine sound_val hwf (cv := .agg (vs.extract fd.offset (fd.offset + n))) (by simp [execOp, hxv, Instr.field, run_underlying hu, hf, asAgg, part, run_isAgg h2, run_sizeOf h1]) ?_
          refine .agg (by simp; omega) (fun j u hu' => ?_) (fun j u z hu' hz => ?_)
          · simp only [Array.getElem?_extract] at hu'
            split at hu'
            · exact hone _ u hu'
            · cases hu'
          · simp only [Array.getElem?_extract] at hu'
            split at hu'
            · rw [List.getElem?_take_of_lt (by omega), List.getElem?_drop] at hz
              exact hr.2 _ u z hu' hz
            · cases hu'
        | false =>
          simp only [loadAV, Bool.false_eq_true, if_false] at hv
          have hcs : cs[fd.offset]? = some v := by
            cases hd : cs.drop fd.offset with
            | nil => rw [hd] at hv; cases hv
            | cons a r =>
              rw [hd] at hv
              simp only [Option.some.injEq] at hv
              subst hv
              have : (cs.drop fd.offset)[0]? = some a := by rw [hd]; rfl
              simpa using this
          have hlt : fd.offset < vs.size := by rw [hsz]; exact (List.getElem?_eq_some_iff.1 hcs).1
          refine sound_val hwf (cv := vs[fd.offset]) (by simp [execOp, hxv, Instr.field, run_underlying hu, hf, asAgg, part, run_isAgg h2, hlt]) (hr.2 fd.offset _ v (by simp [hlt]) hcs)
      · cases hc
    · cases hc
  | indexAddr t x i =>
    simp only [compileOp] at hc
    split at hc
    · rename_i e hu
      split at hc
      · rename_i sz hsz
        split at hc
        · rename_i hpos
          simp only [Option.bind_eq_bind] at hc
          cases h1 : opd gs x <;> cases h2 : opd gs i <;> simp [h1, h2] at hc
          rename_i y z
          subst hc
          have hx := hα x y h1
          have hi := hα i z h2
          simp only [AOp.ev] at hev
          simp only [AOp.side] at hside
          cases ey : α y <;> rw [ey] at hx <;> simp only [ey] at hev hside <;> try (cases hev; done)
          case mref sz0 o off len =>
            cases ez : α z <;> rw [ez] at hi <;> simp only [ez] at hev hside <;> try (cases hev; done)
            rename_i k n
            obtain ⟨rfl, q1, q2⟩ := hside
            cases hev
            have hvi := rep_int hi
            obtain ⟨b, cap, hob, hv⟩ : ∃ b cap, ι o = some b ∧ ρ x = .slice (some ⟨b, off * sz0, none⟩) len cap := by
              generalize ρ x = vx at hx
              cases hx with
              | mref h hcap hb => exact ⟨_, _, h, rfl⟩
              | mnil => omega
            refine sound_val hwf (cv := .pointer (some ⟨b, (off + n.toNat) * sz0, none⟩)) ?_ (.ptr _ hob)
            have hin : 0 ≤ n ∧ n < (len : Int) := ⟨q1, q2⟩
            have had := addr_add ⟨b, off * sz0, none⟩ (j := n.toNat * sz0) rfl
            simp [execOp, Instr.indexAt, hv, hvi, asIntOf, run_underlying hu, run_sizeOf hsz, hin, had, Nat.add_mul]
          rename_i sz0 tk xs
          cases ez : α z <;> rw [ez] at hi <;> simp only [ez] at hev hside <;> try (cases hev; done)
          rename_i k n
          obtain ⟨rfl, q1, q2⟩ := hside
          cases hev
          obtain ⟨a, len, cap, cs, hv, k1, k2, k3, k4, k5, k6, k7⟩ := hx.list_inv
          rw [hv] at hx
          have hlt : n.toNat < xs.length := by omega
          obtain ⟨ad, ha, hsp, hrep⟩ := index_list hx hpos n.toNat hlt
          refine sound_val hwf (cv := .pointer (some (ad.add (n.toNat * sz0)))) ?_ hrep
          have hvi := rep_int hi
          have hin : 0 ≤ n ∧ n < (len : Int) := ⟨q1, by omega⟩
          simp [execOp, Instr.indexAt, hv, hvi, ha, asIntOf, run_underlying hu, run_sizeOf hsz, hin]
        · cases hc
      · cases hc
    · rename_i m e hu
      simp only [Option.bind_eq_bind] at hc
      cases h0 : szOf P e <;> cases h1 : opd gs x <;> cases h2 : opd gs i <;> simp [h0, h1, h2] at hc
      rename_i sz y z
      subst hc
      have hx := hα x y h1
      have hi := hα i z h2
      simp only [AOp.ev] at hev
      simp only [AOp.side] at hside
      cases ez : α z <;> rw [ez] at hi <;> simp only [ez] at hev hside <;> try (exact hside.elim)
      rename_i k n
      have hvi := rep_int hi
      have hrun : ∀ a : Addr, a.spot = none → (Instr.indexAt t (.pointer (some a)) (.int k n)).run P w = .ok (.pointer (some ⟨a.block, a.off + n.toNat * sz, none⟩)) w := by
        intro a ha
        simp [Instr.indexAt, asIntOf, run_underlying hu, Instr.sureAddr, run_sizeOf h0, hside, addr_add a ha]
      cases ey : α y <;> rw [ey] at hx <;> simp only [ey] at hev <;> try (cases hev; done)
      case ptr o off =>
        cases hev
        obtain ⟨b, hb, hv⟩ := rep_ptr hx
        exact sound_val hwf (cv := .pointer (some ⟨b, off + n.toNat * sz, none⟩)) (by simp [execOp, hv, hvi, hrun ⟨b, off, none⟩ rfl]) (.ptr _ hb)
      case cptr cs =>
        cases hev
        obtain ⟨a, hv, hrep⟩ := rep_cptr hx
        cases hrep with
        | cptr g ha hc hr =>
          refine sound_val hwf (cv := .pointer (some ⟨a.block, a.off + n.toNat * sz, none⟩)) (by simp [execOp, hv, hvi, hrun a ha]) (.cptr (fun j => g (n.toNat * sz + j)) rfl (fun j hj => ?_) (fun j x hx => ?_))
          · simp only [List.length_drop] at hj
            have := hc (n.toNat * sz + j) (by omega)
            simpa [Nat.add_assoc] using this
          · exact hr _ x (by simpa using hx)
    · cases hc
  | index t x i =>
    simp only [compileOp] at hc
    split at hc
    · rename_i hu
      simp only [Option.bind_eq_bind] at hc
      cases h1 : opd gs x <;> cases h2 : opd gs i <;> simp [h1, h2] at hc
      rename_i y z
      subst hc
      have hx := hα x y h1
      have hi := hα i z h2
      simp only [AOp.ev] at hev
      simp only [AOp.side] at hside
      cases ey : α y <;> rw [ey] at hx <;> simp only [ey] at hev hside <;> try (cases hev; done)
      rename_i s
      cases ez : α z <;> rw [ez] at hi <;> simp only [ez] at hev hside <;> try (cases hev; done)
      rename_i k n
      cases hev
      have hv := rep_str hx
      have hvi := rep_int hi
      have hlt : n.toNat < s.size := by omega
      refine sound_val hwf (cv := .int .u8 (s[n.toNat]).toNat) ?_ ?_
      · simp [execOp, hv, hvi, run_index_string w t s k n hu, hside]
      · have : s.data.toList.getD n.toNat 0 = s[n.toNat] := by
          have h' : n.toNat < s.data.size := hlt
          rw [List.getD_eq_getElem?_getD, Array.getElem?_toList, Array.getElem?_eq_getElem h']
          rfl
        rw [this]
        exact .int _ _
    · cases hc
  | extract x i =>
    simp only [compileOp] at hc
    obtain ⟨y, hy, rfl⟩ := hmap hc
    have hx := hα x y hy
    simp only [AOp.ev] at hev
    cases ey : α y <;> rw [ey] at hx <;> simp only [ey] at hev <;> try (cases hev; done)
    rename_i vs
    simp only [Option.map_eq_some_iff] at hev
    obtain ⟨v, hv, rfl⟩ := hev
    obtain ⟨cs, hxv, hr⟩ := rep_tup hx
    have hlt : i < cs.size := by rw [hr.1]; exact (List.getElem?_eq_some_iff.1 hv).1
    exact sound_val hwf (cv := cs[i]) (by simp [execOp, hxv, Instr.extract, hlt]) (hr.2 i _ v (by simp [hlt]) hv)
  | makeMap t r =>
    cases r with
    | some x => cases hc
    | none =>
      cases hc
      simp only [AOp.ev, Option.some.injEq] at hev
      subst hev
      obtain ⟨h3, h4⟩ := mkmap_sound hwf hn
      exact ⟨_, .map (some w.heap.size), _, _, by simp [execOp, Instr.makeMap], .inl rfl, h3, h4, .map (by simp [putι]), putι_inv⟩
  | makeSlice t l c =>
    simp only [compileOp] at hc
    split at hc
    · rename_i e hu
      split at hc
      · rename_i i zs hi hz
        split at hc
        · rename_i hsz
          obtain ⟨a, b, h1, h2, rfl⟩ := bind2 hc
          have ha := hα l a h1
          have hb := hα c b h2
          simp only [AOp.ev, Bool.false_eq_true, if_false] at hev
          simp only [AOp.side, Bool.false_eq_true, if_false] at hside
          cases ea : α a <;> rw [ea] at ha <;> simp only [ea] at hev hside <;> try (cases hev; done)
          rename_i k n
          cases eb : α b <;> rw [eb] at hb <;> simp only [eb] at hev <;> try (cases hev; done)
          rename_i k' m
          split at hev
          · rename_i hnm
            subst hnm
            cases hev
            obtain ⟨s1, s2, s3⟩ := hside
            obtain ⟨i', z, hi', hiz, hzr, hz1, hzv, _⟩ := zeroAV_spec (ι := ι) (F := Foot ι S) (w := w) hz
            rw [hi] at hi'
            cases hi'
            obtain ⟨q1, q2⟩ := make_rep (n := n.toNat) hzr hz1 hsz.1 hsz.2
            obtain ⟨h3, h4⟩ := new_box hwf hn q1 q2 e
            have hrun := run_make (P := P) w t e i z hu hi hiz k k' n n s1 (Int.le_refl _) (by
              have h := Int.ofNat_le.2 s2
              rw [Int.natCast_mul, Int.toNat_of_nonneg s1, Int.mul_comm] at h
              exact Int.le_trans h (by decide)) s3
            have hex : (execOp ρ ⟨dst, .makeSlice t l c, type, pos, after, guard⟩).run P w = .ok (.value (.slice (some ⟨w.heap.size, 0, none⟩) n.toNat n.toNat)) (w.alloc (.cells (madeCells z.cells (n.toNat * i.size)) e)) := by
              unfold execOp
              simp only [rep_int ha, rep_int hb, Sem.run_bind, Sem.run_map, hrun, Result.andThen]
              rfl
            refine ⟨_, .slice (some ⟨w.heap.size, 0, none⟩) n.toNat n.toNat, _, _, hex, .inl rfl, h3, h4, ?_, putι_inv⟩
            have := Rep.mref (ι := putι ι nid w.heap.size) (F := Foot (putι ι nid w.heap.size) (putS S nid (.box (List.replicate n.toNat zs).flatten))) (w := w.alloc (.cells (madeCells z.cells (n.toNat * i.size)) e)) (sz := i.size) (o := nid) (b := w.heap.size) (off := 0) (len := n.toNat) (cap := n.toNat) (by simp [putι]) (Nat.le_refl _) ⟨_, e, heap_alloc_eq w _, by simp [size_madeCells]⟩
            rw [Nat.zero_mul] at this
            exact this
          · cases hev
        · cases hc
      · cases hc
    · cases hc
  | lookup t m k ok =>
    simp only [compileOp] at hc
    split at hc
    · rename_i kt et hu
      simp only [Option.bind_eq_bind] at hc
      cases h1 : keyStr P kt <;> cases h2 : zeroAV P et <;> cases h3 : aggZ P et <;> cases h4 : opd gs m <;> cases h5 : opd gs k <;> simp [h1, h2, h3, h4, h5] at hc
      subst hc
      rename_i str zs agg y z
      have hm := hα m y h4
      have hk := hα k z h5
      simp only [AOp.ev] at hev
      simp only [AOp.side] at hside
      simp only [AOp.touch] at hobj ⊢
      cases ey : α y <;> rw [ey] at hm <;> simp only [ey] at hev hobj ⊢ <;> try (cases hev; done)
      case map o =>
        obtain ⟨ob, ho, rfl⟩ := hobj
        cases ob <;> try (cases hev; done)
        simp only [Option.map_eq_some_iff] at hev
        obtain ⟨r, hr, rfl⟩ := hev
        obtain ⟨b, hb, hv⟩ := rep_map hm
        obtain ⟨cv, e1, e2⟩ := lookup_sound (P := P) hwf ho hb hk hside hu (keyStr_spec h1) hr (ok := ok) h2 h3
        exact sound_val hwf (by simp [execOp, hv, e1]) e2
      case nilmap =>
        cases hev
        obtain ⟨cv, e1, e2⟩ := lookup_nil (P := P) (w := w) hk hside hu (keyStr_spec h1) (ok := ok) h2 h3
        exact sound_val hwf (by simp [execOp, rep_nilmap hm, e1]) e2
    · cases hc
  | mapUpdate t m k x =>
    simp only [compileOp] at hc
    split at hc
    · rename_i kt et hu
      simp only [Option.bind_eq_bind] at hc
      cases h1 : keyStr P kt <;> cases h4 : opd gs m <;> cases h5 : opd gs k <;> cases h6 : opd gs x <;> simp [h1, h4, h5, h6] at hc
      subst hc
      rename_i str y z u
      have hm := hα m y h4
      have hk := hα k z h5
      have hx := hα x u h6
      simp only [AOp.ev] at hev
      simp only [AOp.side] at hside
      simp only [AOp.touch] at hobj ⊢
      cases ey : α y <;> rw [ey] at hm <;> simp only [ey] at hev hobj ⊢ <;> try (cases hev; done)
      case map o =>
        obtain ⟨ob, ho, rfl⟩ := hobj
        cases ob <;> try (cases hev; done)
        simp only [Option.map_eq_some_iff] at hev
        obtain ⟨r, hr, rfl⟩ := hev
        obtain ⟨b, hb, hv⟩ := rep_map hm
        obtain ⟨w', e1, e2, e3⟩ := update_sound (P := P) hwf ho hb hk hside hx hu (keyStr_spec h1) hr
        exact ⟨.skip, undef, w', ι, by simp [execOp, hv, e1], .inr ⟨rfl, rfl⟩, e2, e3, .tup rfl (by simp), fun _ _ h => .inr h⟩
    · cases hc
  | range t x =>
    simp only [compileOp] at hc
    split at hc
    · rename_i kt et hu
      obtain ⟨y, hy, rfl⟩ := hmap hc
      have hm := hα x y hy
      simp only [AOp.ev] at hev
      simp only [AOp.touch] at hobj ⊢
      cases ey : α y <;> rw [ey] at hm <;> simp only [ey] at hev hobj ⊢ <;> try (cases hev; done)
      case map o =>
        obtain ⟨ob, ho, rfl⟩ := hobj
        cases ob <;> try (cases hev; done)
        rename_i es clock
        cases hev
        obtain ⟨b, hb, hv⟩ := rep_map hm
        obtain ⟨ces, g1, _⟩ := map_inv hwf ho hb
        obtain ⟨h3, h4⟩ := range_sound hwf hn (o := o) (since := clock) hb
        exact ⟨_, .pointer (some ⟨w.heap.size, 0, none⟩), _, _, by simp [execOp, hv, Instr.range, run_underlying hu, MapKept.run_getObj_map g1], .inl rfl, h3, h4, .ptr 0 (by simp [putι]), putι_inv⟩
      case nilmap =>
        cases hev
        obtain ⟨h3, h4⟩ := range_nil_sound hwf hn
        exact ⟨_, .pointer (some ⟨w.heap.size, 0, none⟩), _, _, by simp [execOp, rep_nilmap hm, Instr.range, run_underlying hu], .inl rfl, h3, h4, .ptr 0 (by simp [putι]), putι_inv⟩
    · cases hc
  | call c =>
    simp only [compileOp] at hc
    split at hc
    · rename_i hf
      split at hc
      · rename_i m k kt et hargs htys
        simp only [Option.bind_eq_bind] at hc
        cases h1 : keyStr P kt <;> cases h4 : opd gs m <;> cases h5 : opd gs k <;> simp [h1, h4, h5] at hc
        subst hc
        rename_i str y z
        have hm := hα m y h4
        have hk := hα k z h5
        have ha : c.args = #[m, k] := by
          have := congrArg List.toArray hargs
          simpa using this
        obtain ⟨t, ht0, hu⟩ : ∃ t, c.argTypes[0]? = some t ∧ P.underlying t = some (.map kt et) := by
          cases h0 : c.argTypes[0]? with
          | none => simp [h0] at htys
          | some t => simp [h0] at htys; exact ⟨t, rfl, htys⟩
        simp only [AOp.ev] at hev
        simp only [AOp.side] at hside
        simp only [AOp.touch] at hobj ⊢
        cases ey : α y <;> rw [ey] at hm <;> simp only [ey] at hev hobj ⊢ <;> try (cases hev; done)
        case map o =>
          obtain ⟨ob, ho, rfl⟩ := hobj
          cases ob <;> try (cases hev; done)
          simp only [Option.map_eq_some_iff] at hev
          obtain ⟨r, hr, rfl⟩ := hev
          obtain ⟨b, hb, hv⟩ := rep_map hm
          obtain ⟨w', e1, e2, e3⟩ := delete_sound (P := P) (rt := type) hwf ho hb hk hside ht0 hu (keyStr_spec h1) hr
          exact ⟨_, .tuple #[], w', ι, by simp [execOp, resolve, hf, ha, invoke, builtin, hv, e1], .inl rfl, e2, e3, .tup rfl (by simp), fun _ _ h => .inr h⟩
        case nilmap =>
          cases hev
          have := delete_nil (P := P) (w := w) (rt := type) hk hside ht0 hu (keyStr_spec h1)
          exact sound_val hwf (cv := .tuple #[]) (by simp [execOp, resolve, hf, ha, invoke, builtin, rep_nilmap hm, this]) (.tup rfl (by simp))
      · cases hc
    · rename_i hf
      split at hc
      · rename_i x e hargs htys
        obtain ⟨y, hy, rfl⟩ := hmap hc
        have hx := hα x y hy
        have ha : c.args = #[x] := by
          have := congrArg List.toArray hargs
          simpa using this
        obtain ⟨t, ht0, ht⟩ : ∃ t, c.argTypes[0]? = some t ∧ P.underlying t = some (.slice e) := by
          cases h0 : c.argTypes[0]? with
          | none => simp [h0] at htys
          | some t => simp [h0] at htys; exact ⟨t, rfl, htys⟩
        simp only [AOp.ev] at hev
        cases ey : α y <;> rw [ey] at hx <;> simp only [ey] at hev <;> try (cases hev; done)
        case mref sz0 o off len =>
          cases hev
          have h0 : (0 : Nat) < c.argTypes.size := (Array.getElem?_eq_some_iff.1 ht0).1
          have ht0' : c.argTypes[0] = t := (Array.getElem?_eq_some_iff.1 ht0).2
          obtain ⟨a, cap, hv⟩ : ∃ a cap, ρ x = .slice a len cap := by
            generalize ρ x = vx at hx
            cases hx with
            | mref h hcap hb => exact ⟨_, _, rfl⟩
            | mnil => exact ⟨_, _, rfl⟩
          refine sound_val hwf (cv := .int .i64 len) ?_ (.int _ _)
          simp [execOp, resolve, hf, ha, invoke, builtin, Builtin.len_, ht0, ht0', h0, run_underlying ht, hv, goInt]
        rename_i sz tk xs
        cases hev
        obtain ⟨a, len, cap, cs, hv, k1, k2, k3, k4, k5, k6, k7⟩ := hx.list_inv
        refine sound_val hwf (cv := .int .i64 xs.length) ?_ (.int _ _)
        have h0 : (0 : Nat) < c.argTypes.size := (Array.getElem?_eq_some_iff.1 ht0).1
        have ht0' : c.argTypes[0] = t := (Array.getElem?_eq_some_iff.1 ht0).2
        simp [execOp, resolve, hf, ha, invoke, builtin, Builtin.len_, ht0, ht0', h0, run_underlying ht, hv, k1, goInt]
      · rename_i x hargs htys
        obtain ⟨y, hy, rfl⟩ := hmap hc
        have hx := hα x y hy
        have ha : c.args = #[x] := by
          have := congrArg List.toArray hargs
          simpa using this
        obtain ⟨t, ht0, ht⟩ : ∃ t, c.argTypes[0]? = some t ∧ P.underlying t = some .string := by
          cases h0 : c.argTypes[0]? with
          | none => simp [h0] at htys
          | some t => simp [h0] at htys; exact ⟨t, rfl, htys⟩
        simp only [AOp.ev] at hev
        cases ey : α y <;> rw [ey] at hx <;> simp only [ey] at hev <;> try (cases hev; done)
        rename_i s
        cases hev
        have hv := rep_str hx
        refine sound_val hwf (cv := .int .i64 s.size) ?_ (.int _ _)
        have h0 : (0 : Nat) < c.argTypes.size := (Array.getElem?_eq_some_iff.1 ht0).1
        have ht0' : c.argTypes[0] = t := (Array.getElem?_eq_some_iff.1 ht0).2
        simp [execOp, resolve, hf, ha, invoke, builtin, Builtin.len_, ht0, ht0', h0, run_underlying ht, hv, goInt]
      · rename_i x kt et hargs htys
        obtain ⟨y, hy, rfl⟩ := hmap hc
        have hx := hα x y hy
        have ha : c.args = #[x] := by
          have := congrArg List.toArray hargs
          simpa using this
        obtain ⟨t, ht0, ht⟩ : ∃ t, c.argTypes[0]? = some t ∧ P.underlying t = some (.map kt et) := by
          cases h0 : c.argTypes[0]? with
          | none => simp [h0] at htys
          | some t => simp [h0] at htys; exact ⟨t, rfl, htys⟩
        have h0 : (0 : Nat) < c.argTypes.size := (Array.getElem?_eq_some_iff.1 ht0).1
        have ht0' : c.argTypes[0] = t := (Array.getElem?_eq_some_iff.1 ht0).2
        simp only [AOp.ev] at hev
        simp only [AOp.touch] at hobj ⊢
        cases ey : α y <;> rw [ey] at hx <;> simp only [ey] at hev hobj ⊢ <;> try (cases hev; done)
        case map o =>
          obtain ⟨ob, ho, rfl⟩ := hobj
          cases ob <;> try (cases hev; done)
          rename_i es clock
          cases hev
          obtain ⟨b, hb, hv⟩ := rep_map hx
          obtain ⟨ces, g1, g2, _⟩ := map_inv hwf ho hb
          refine sound_val hwf (cv := .int .i64 es.length) ?_ (.int _ _)
          simp [execOp, resolve, hf, ha, invoke, builtin, Builtin.len_, ht0, ht0', h0, run_underlying ht, hv, goInt, MapKept.run_getObj_map g1, g2]
        case nilmap =>
          cases hev
          refine sound_val hwf (cv := .int .i64 0) ?_ (.int _ _)
          simp [execOp, resolve, hf, ha, invoke, builtin, Builtin.len_, ht0, ht0', h0, run_underlying ht, rep_nilmap hx, goInt]
      · cases hc
    · rename_i hf
      split at hc
      · rename_i sx x t t2 hargs htys
        split at hc
        · rename_i e d hu hu2
          split at hc
          · rename_i i hi
            split at hc
            · rename_i z hz
              split at hc
              · rename_i hzc
                obtain ⟨a, b, h1, h2, rfl⟩ := bind2 hc
                have hx := hα x b h2
                have hs := hα sx a h1
                have ha : c.args = #[sx, x] := by
                  have := congrArg List.toArray hargs
                  simpa using this
                have hty : c.argTypes = #[t, t2] := by
                  have := congrArg List.toArray htys
                  simpa using this
                simp only [AOp.ev] at hev
                simp only [AOp.side] at hside
                simp only [AOp.touch] at hobj ⊢
                cases ea : α a <;> rw [ea] at hs <;> simp only [ea] at hev hside hobj ⊢ <;> try (cases hev; done)
                case mref sz0 o off len =>
                  cases eb : α b <;> rw [eb] at hx <;> simp only [eb] at hev hside <;> try (cases hev; done)
                  rename_i sz1 t1 ys
                  obtain ⟨s2, s3, s4⟩ := hside
                  obtain ⟨ob, ho, rfl⟩ := hobj
                  cases ob <;> try (cases hev; done)
                  rename_i cs
                  simp only at hev
                  split at hev
                  · rename_i hnn
                    obtain ⟨rfl, rfl, hcs⟩ := hnn
                    cases hev
                    obtain ⟨v', w', ι', k1, k2, k3, k4, k5⟩ := append_msound (rt := type) hwf hn hSn hs hx s2 hu hu2 hi hz rfl hzc s3 s4 ho hcs rfl
                    refine ⟨.value v', v', w', ι', ?_, .inl rfl, k2, k3, k4, fun q b h => (k5 q b h).imp (fun e => ⟨rfl, e⟩) id⟩
                    simp [execOp, resolve, hf, ha, hty, invoke, builtin, k1]
                  · cases hev
                rename_i sz0 tk xs
                cases eb : α b <;> rw [eb] at hx <;> simp only [eb] at hev hside <;> try (first | (cases tk <;> cases hev; done) | (cases tk <;> simp at hev; done))
                rename_i sz1 t1 ys
                obtain ⟨s1, s2, s3, s4⟩ := hside
                have done : ∀ S', AppS S S' nid ((xs.length + ys.length) * i.size) i.size xs tk → Sound1 P ρ ⟨dst, .call c, type, pos, after, guard⟩ ι S w nid S' true (.list i.size (.own nid) (xs ++ ys)) := by
                  intro S' hS'
                  obtain ⟨v', w', ι', k1, k2, k3, k4, k5⟩ := append_sound (rt := type) hwf hn hSn hs hx s1 s2 hu hu2 hi hz rfl hzc s3 s4 hS'
                  refine ⟨.value v', v', w', ι', ?_, .inl rfl, k2, k3, k4, fun q b h => (k5 q b h).imp (fun e => ⟨rfl, e⟩) id⟩
                  simp [execOp, resolve, hf, ha, hty, invoke, builtin, k1]
                cases tk with
                | none => cases hev
                | full =>
                  simp only [Option.some.injEq] at hev
                  subst hev
                  exact done _ rfl
                | own q =>
                  obtain ⟨ob, ho, rfl⟩ := hobj
                  cases ob <;> try (cases hev; done)
                  rename_i n
                  simp only at hev
                  split at hev
                  · rename_i hnn
                    cases hev
                    subst hnn
                    exact done _ ⟨ho, rfl⟩
                  · cases hev
              · cases hc
            · cases hc
          · cases hc
        · cases hc
      · cases hc
    · rename_i hf
      split at hc
      · rename_i x y hargs
        obtain ⟨a, b, h1, h2, rfl⟩ := bind2 hc
        have hx := hα x a h1
        have hy := hα y b h2
        have ha : c.args = #[x, y] := by
          have := congrArg List.toArray hargs
          simpa using this
        simp only [AOp.ev] at hev
        cases ea : α a <;> rw [ea] at hx <;> simp only [ea] at hev <;> try (cases hev; done)
        rename_i k n
        cases eb : α b <;> rw [eb] at hy <;> simp only [eb] at hev <;> try (cases hev; done)
        rename_i k' n'
        cases hev
        refine sound_val hwf (cv := .int k (if n' < n then n' else n)) ?_ (.int _ _)
        simp [execOp, resolve, hf, ha, invoke, builtin, rep_int hx, rep_int hy, run_min_int2]
      · cases hc
    · rename_i hf
      split at hc
      · rename_i x y hargs
        obtain ⟨a, b, h1, h2, rfl⟩ := bind2 hc
        have hx := hα x a h1
        have hy := hα y b h2
        have ha : c.args = #[x, y] := by
          have := congrArg List.toArray hargs
          simpa using this
        simp only [AOp.ev] at hev
        cases ea : α a <;> rw [ea] at hx <;> simp only [ea] at hev <;> try (cases hev; done)
        rename_i k n
        cases eb : α b <;> rw [eb] at hy <;> simp only [eb] at hev <;> try (cases hev; done)
        rename_i k' n'
        cases hev
        refine sound_val hwf (cv := .int k (if n < n' then n' else n)) ?_ (.int _ _)
        simp [execOp, resolve, hf, ha, invoke, builtin, rep_int hx, rep_int hy, run_max_int2]
      · cases hc
    · cases hc
  | _ => simp [compileOp] at hc

end Go.AL
