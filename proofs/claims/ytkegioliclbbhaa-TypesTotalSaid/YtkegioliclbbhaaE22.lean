/- The order of types. -/
import Derived.Test.YtkegioliclbbhaaE21
set_option linter.unusedVariables false
set_option linter.unusedSimpArgs false
namespace Go.AL.Ty
open Go Go.Proofs

mutual
def ord : Ty → Ty → Int
  | mk op n s args, u => orI [cmpI (1 + szs args) (sz u), orI [cmpI op u.op, cmpI n u.n, cmpS s u.s], ords args u.args]
def ords : List Ty → List Ty → Int
  | [], us => if us.length = 0 then 0 else -1
  | t :: ts, us => match us with
    | [] => 1
    | u :: us => orI [ord t u, ords ts us]
end
theorem ord_eq (t u : Ty) : ord t u = orI [cmpI (sz t) (sz u), orI [cmpI t.op u.op, cmpI t.n u.n, cmpS t.s u.s], ords t.args u.args] := by cases t; rw [ord, sz_eq]; rfl
theorem orI_two (a b : Int) : orI [a, b] = if a = 0 then b else a := by
  simp only [orI]
  by_cases hb : b = 0 <;> simp [hb]
theorem orI_three (a b c : Int) : orI [a, b, c] = if a = 0 then (if b = 0 then c else b) else a := by
  simp only [orI]
  by_cases hc : c = 0 <;> simp [hc]

def C79 (t : Ty) : Prop := ∀ u, sz t ≤ 1000000 → sz u ≤ 1000000 → PureC Try.prog 79 [t.av, u.av] (.int .i64 (ord t u))

def I133 (ts us : List Ty) (R : Int) (s : St) (n : Nat) (g : Env) (s1 : St) : Prop :=
  ∃ (i : Nat), i ≤ ts.length ∧ n = ts.length - i ∧ i ≤ us.length ∧ ords (ts.drop i) (us.drop i) = R ∧
    g.get 0 = .list 4 .none (ts.map av) ∧ g.get 1 = .list 4 .none (us.map av) ∧ g.get 2 = .fn 79 [] [] ∧ g.get 11 = .list 4 .none (ts.map av) ∧ g.get 12 = .int .i64 ts.length ∧ g.get 13 = .int .i64 i ∧ Kept s s1 ∧ s.nx ≤ s1.nx

theorem p133 (ts us : List Ty) (ih : ∀ x ∈ ts, C79 x) (h1 : ∀ x ∈ ts, sz x ≤ 1000000) (h2 : ∀ x ∈ us, sz x ≤ 1000000) (hl : ts.length ≤ 1000000) (hl2 : us.length ≤ 1000000) :
    PureC Try.prog 133 [.list 4 .none (ts.map av), .list 4 .none (us.map av), .fn 79 [] []] (.int .i64 (ords ts us)) := by
  refine PureC.intro fun s => fun_sound mixed Try.func133 Try.call133 c133 rfl (awpFun_go _ _ _ _ ?_)
  generalize hR : ords ts us = R
  simp (implicitDefEqProofs := false) (maxSteps := 2000000) (disch := (first | omega | (simp only [St.new_nx, St.set_nx, St.del_nx, St.bump_nx]; done) | (simp only [St.new_nx, St.set_nx, St.del_nx, St.bump_nx]; omega) | fail)) [a133, a133b, a133r0, a133r1]
  refine go_loop (I133 ts us R s) ts.length ⟨0, by omega, by omega, by omega, by simpa using hR, ?_, ?_, ?_, ?_, ?_, ?_, ?_, ?_⟩ ?_
  rotate_right
  · rintro n g s1 ⟨i, hi, rfl, hiu, hg, g0, g1, g2, g11, g12, g13, hk, hn⟩
    by_cases hlt : i < ts.length
    · have hx : ts[i]? = some ts[i] := by simp [hlt]
      have hlt' : (i : Int) < ts.length := by omega
      have w2 : IntKind.i64.wrap ((i : Int) + 1) = ((i + 1 : Nat) : Int) := by rw [wrap64 (by omega) (by omega)]; omega
      have hdrop : ts.drop i = ts[i] :: ts.drop (i + 1) := List.drop_eq_getElem_cons hlt
      by_cases hlu : i < us.length
      · have hy : us[i]? = some us[i] := by simp [hlu]
        have hlu' : ¬ (us.length : Int) ≤ i := by omega
        have hlu2 : (i : Int) < us.length := by omega
        have hdu : us.drop i = us[i] :: us.drop (i + 1) := List.drop_eq_getElem_cons hlu
        rw [hdrop, hdu, ords] at hg
        simp only [orI_two] at hg
        simp (implicitDefEqProofs := false) (maxSteps := 2000000) (disch := (first | omega | (simp only [St.new_nx, St.set_nx, St.del_nx, St.bump_nx]; done) | (simp only [St.new_nx, St.set_nx, St.del_nx, St.bump_nx]; omega) | fail)) [a133l11, a133r2, a133r3, a133r4, a133r6, a133r7, g0, g1, g2, g11, g12, g13, hlt', hlt, hx, hy, hlu', hlu2, hlu]
        refine go_pure (ih _ (List.getElem_mem hlt) us[i] (h1 _ (List.getElem_mem hlt)) (h2 _ (List.getElem_mem hlu))) fun mm1 hm1 => ?_
        try simp only [St.new_nx, St.bump_nx, St.set_nx, St.del_nx] at hm1
        simp (implicitDefEqProofs := false) (maxSteps := 2000000) (disch := (first | omega | (simp only [St.new_nx, St.set_nx, St.del_nx, St.bump_nx]; done) | (simp only [St.new_nx, St.set_nx, St.del_nx, St.bump_nx]; omega) | fail)) [a133r8, a133r9, a133r10, g13, w2]
        refine ⟨fun hb => ?_, fun hb => ?_⟩
        · rw [if_neg hb] at hg
          exact ⟨hg, hk⟩
        · rw [if_pos hb] at hg
          refine go_next (ts.length - (i + 1)) (by omega) ⟨i + 1, by omega, rfl, by omega, hg, ?_, ?_, ?_, ?_, ?_, ?_, ?_, ?_⟩ <;> (try simp (implicitDefEqProofs := false) (maxSteps := 2000000) (disch := (first | omega | (simp only [St.new_nx, St.set_nx, St.del_nx, St.bump_nx]; done) | (simp only [St.new_nx, St.set_nx, St.del_nx, St.bump_nx]; omega) | fail)) [g0, g1, g2, g11, g12, g13, hk])
          omega
      · have hlu' : (us.length : Int) ≤ i := by omega
        have hdu : us.drop i = [] := List.drop_eq_nil_of_le (by omega)
        rw [hdrop, hdu, ords] at hg
        simp (implicitDefEqProofs := false) (maxSteps := 2000000) (disch := (first | omega | (simp only [St.new_nx, St.set_nx, St.del_nx, St.bump_nx]; done) | (simp only [St.new_nx, St.set_nx, St.del_nx, St.bump_nx]; omega) | fail)) [a133l11, a133r2, a133r3, a133r4, a133r5, g0, g1, g2, g11, g12, g13, hlt', hlt, hx, hlu']
        exact ⟨hg, hk⟩
    · have hlt' : ¬ (i : Int) < ts.length := by omega
      have hdrop : ts.drop i = [] := List.drop_eq_nil_of_le (by omega)
      rw [hdrop, ords] at hg
      simp (implicitDefEqProofs := false) (maxSteps := 2000000) (disch := (first | omega | (simp only [St.new_nx, St.set_nx, St.del_nx, St.bump_nx]; done) | (simp only [St.new_nx, St.set_nx, St.del_nx, St.bump_nx]; omega) | fail)) [a133l11, a133r2, g0, g1, g2, g11, g12, g13, hlt', a133r12, a133r13, a133r14]
      refine ⟨fun hb => ⟨?_, hk⟩, fun hb => ⟨?_, hk⟩⟩
      · rw [← hg, if_neg (by rw [List.length_drop]; omega)]
      · rw [← hg, if_pos (by rw [List.length_drop]; omega)]
  all_goals (try simp (implicitDefEqProofs := false) (maxSteps := 2000000) (disch := (first | omega | (simp only [St.new_nx, St.set_nx, St.del_nx, St.bump_nx]; done) | (simp only [St.new_nx, St.set_nx, St.del_nx, St.bump_nx]; omega) | fail)))

theorem szs_mem : ∀ (l : List Ty) x, x ∈ l → sz x ≤ szs l
  | t :: ts, x, h => by
    have := szs_pos ts
    have := sz_pos t
    simp only [List.mem_cons] at h
    simp only [szs]
    rcases h with rfl | h
    · omega
    · have := szs_mem ts x h; omega
theorem sz_mem {t x : Ty} (h : x ∈ t.args) : sz x + 1 ≤ sz t := by
  have := szs_mem _ _ h
  rw [sz_eq t]; omega

theorem p118 (t u : Ty) (ih : ∀ x ∈ t.args, C79 x) (h1 : sz t ≤ 1000000) (h2 : sz u ≤ 1000000) :
    PureC Try.prog 118 [t.av, u.av] (.int .i64 (orI [orI [cmpI t.op u.op, cmpI t.n u.n, cmpS t.s u.s], ords t.args u.args])) := by
  refine PureC.intro fun s => fun_sound mixed Try.func118 Try.call118 c118 rfl (awpFun_go _ _ _ _ ?_)
  have ha := sz_args t
  have hb := sz_args u
  have h133 := p133 t.args u.args ih (fun x hx => by have := sz_mem hx; omega) (fun x hx => by have := sz_mem hx; omega) (by omega) (by omega)
  have h131 := p131 [cmpI t.op u.op, cmpI t.n u.n, cmpS t.s u.s] (by simp)
  rw [orI_two]
  generalize orI [cmpI t.op u.op, cmpI t.n u.n, cmpS t.s u.s] = c at *
  generalize ords t.args u.args = r at *
  simp (implicitDefEqProofs := false) (maxSteps := 2000000) (disch := (first | omega | (simp only [St.new_nx, St.set_nx, St.del_nx, St.bump_nx]; done) | (simp only [St.new_nx, St.set_nx, St.del_nx, St.bump_nx]; omega) | fail)) [a118, a118b, a118r0, a118r1]
  refine pcV_intro (p117 t.op u.op) ?_
  simp (implicitDefEqProofs := false) (maxSteps := 2000000) (disch := (first | omega | (simp only [St.new_nx, St.set_nx, St.del_nx, St.bump_nx]; done) | (simp only [St.new_nx, St.set_nx, St.del_nx, St.bump_nx]; omega) | fail))
  refine pcV_intro (p117 t.n u.n) ?_
  simp (implicitDefEqProofs := false) (maxSteps := 2000000) (disch := (first | omega | (simp only [St.new_nx, St.set_nx, St.del_nx, St.bump_nx]; done) | (simp only [St.new_nx, St.set_nx, St.del_nx, St.bump_nx]; omega) | fail))
  refine pcV_intro (p132 t.s u.s) ?_
  simp (implicitDefEqProofs := false) (maxSteps := 2000000) (disch := (first | omega | (simp only [St.new_nx, St.set_nx, St.del_nx, St.bump_nx]; done) | (simp only [St.new_nx, St.set_nx, St.del_nx, St.bump_nx]; omega) | fail))
  refine pcV_intro (PureC.argw h131 (by simp [il])) ?_
  simp (implicitDefEqProofs := false) (maxSteps := 2000000) (disch := (first | omega | (simp only [St.new_nx, St.set_nx, St.del_nx, St.bump_nx]; done) | (simp only [St.new_nx, St.set_nx, St.del_nx, St.bump_nx]; omega) | fail)) [a118r2, a118r3, a118r4]
  intro m hm
  refine ⟨fun k1 k2 => absurd k2 k1, fun k1 => ?_⟩
  rw [if_pos k1]
  refine go_pure h133 fun mm2 hm2 => ?_
  try simp only [St.new_nx, St.bump_nx, St.set_nx, St.del_nx] at hm2
  simp (implicitDefEqProofs := false) (maxSteps := 2000000) (disch := (first | omega | (simp only [St.new_nx, St.set_nx, St.del_nx, St.bump_nx]; done) | (simp only [St.new_nx, St.set_nx, St.del_nx, St.bump_nx]; omega) | fail))
theorem p79 (t : Ty) : C79 t := by
  induction t using Ty.ind with
  | h t ih =>
    intro u h1 h2
    have ha := sz_args t
    have hb := sz_args u
    have h118 := p118 t u ih h1 h2
    refine PureC.intro fun s => fun_sound mixed Try.func79 Try.call79 c79 rfl (awpFun_go _ _ _ _ ?_)
    rw [ord_eq, orI_three]
    rw [orI_two] at h118
    generalize orI [cmpI t.op u.op, cmpI t.n u.n, cmpS t.s u.s] = c at *
    generalize ords t.args u.args = r at *
    generalize hR : (if cmpI (sz t) (sz u) = 0 then (if c = 0 then r else c) else cmpI (sz t) (sz u)) = R
    simp (implicitDefEqProofs := false) (maxSteps := 2000000) (disch := (first | omega | (simp only [St.new_nx, St.set_nx, St.del_nx, St.bump_nx]; done) | (simp only [St.new_nx, St.set_nx, St.del_nx, St.bump_nx]; omega) | fail)) [a79, a79b, a79r0, a79r1]
    refine pcV_intro (p84 t h1 (by omega)) ?_
    simp (implicitDefEqProofs := false) (maxSteps := 2000000) (disch := (first | omega | (simp only [St.new_nx, St.set_nx, St.del_nx, St.bump_nx]; done) | (simp only [St.new_nx, St.set_nx, St.del_nx, St.bump_nx]; omega) | fail))
    refine pcV_intro (p84 u h2 (by omega)) ?_
    simp (implicitDefEqProofs := false) (maxSteps := 2000000) (disch := (first | omega | (simp only [St.new_nx, St.set_nx, St.del_nx, St.bump_nx]; done) | (simp only [St.new_nx, St.set_nx, St.del_nx, St.bump_nx]; omega) | fail))
    refine pcV_intro (p117 _ _) ?_
    simp (implicitDefEqProofs := false) (maxSteps := 2000000) (disch := (first | omega | (simp only [St.new_nx, St.set_nx, St.del_nx, St.bump_nx]; done) | (simp only [St.new_nx, St.set_nx, St.del_nx, St.bump_nx]; omega) | fail)) [a79r2, a79r3, a79r4]
    intro m hm
    refine ⟨fun k1 => by rw [← hR, if_neg k1], fun k1 => ?_⟩
    rw [if_pos k1] at hR
    subst hR
    refine go_pure h118 fun mm3 hm3 => ?_
    try simp only [St.new_nx, St.bump_nx, St.set_nx, St.del_nx] at hm3
    simp (implicitDefEqProofs := false) (maxSteps := 2000000) (disch := (first | omega | (simp only [St.new_nx, St.set_nx, St.del_nx, St.bump_nx]; done) | (simp only [St.new_nx, St.set_nx, St.del_nx, St.bump_nx]; omega) | fail))

theorem gd_sz (t : Ty) : ∀ d l, (gd t d l).1 = true → 0 ≤ l - sz t ∧ (gd t d l).2 = l - sz t := by
  induction t using Ty.ind with
  | h t ih =>
    intro d l h
    have gds_sz : ∀ (ts : List Ty) (d l : Int), (∀ x ∈ ts, x ∈ t.args) → (gds ts d l).1 = true → 0 ≤ l → 0 ≤ l - szs ts ∧ (gds ts d l).2 = l - szs ts := by
      intro ts
      induction ts with
      | nil => intro d l _ _ hl; simp [gds, szs, hl]
      | cons x xs ih2 =>
        intro d l hx h hl
        simp only [gds] at h ⊢
        split at h
        · rename_i hb
          have h3 := ih x (hx x (by simp)) d l hb
          rw [if_pos hb]
          rw [h3.2] at h ⊢
          have h4 := ih2 d _ (fun y hy => hx y (by simp [hy])) h h3.1
          simp only [szs]
          omega
        · cases h
    rw [gd_eq] at h ⊢
    split at h
    · cases h
    split at h
    · cases h
    split at h
    · cases h
    split at h
    · cases h
    rename_i h1 h2 h3 h4
    rw [if_neg h1, if_neg h2, if_neg h3, if_neg h4]
    have := gds_sz t.args (d + 1) (l - 1) (fun x hx => hx) h (by omega)
    rw [sz_eq]
    omega
theorem proper_sz {t : Ty} (h : proper t = true) : sz t ≤ 600 := by
  have := gd_sz t 1 600 h
  omega

theorem p36 (t u : Ty) : PureC Try.prog 36 [t.av, u.av] (if proper t = true ∧ proper u = true then .tup [.int .i64 (ord t u), .int .i64 0] else .tup [.int .i64 0, .int .i64 2]) := by
  refine PureC.intro fun s => fun_sound mixed Try.func36 Try.call36 c36 rfl (awpFun_go _ _ _ _ ?_)
  generalize hR : (if proper t = true ∧ proper u = true then AV.tup [.int .i64 (ord t u), .int .i64 0] else .tup [.int .i64 0, .int .i64 2]) = R
  simp (implicitDefEqProofs := false) (maxSteps := 2000000) (disch := (first | omega | (simp only [St.new_nx, St.set_nx, St.del_nx, St.bump_nx]; done) | (simp only [St.new_nx, St.set_nx, St.del_nx, St.bump_nx]; omega) | fail)) [a36, a36b, a36r0, a36r1]
  refine go_pure (p53 t) fun mm4 hm4 => ?_
  try simp only [St.new_nx, St.bump_nx, St.set_nx, St.del_nx] at hm4
  simp (implicitDefEqProofs := false) (maxSteps := 2000000) (disch := (first | omega | (simp only [St.new_nx, St.set_nx, St.del_nx, St.bump_nx]; done) | (simp only [St.new_nx, St.set_nx, St.del_nx, St.bump_nx]; omega) | fail))
  refine ⟨fun h1 => ?_, fun h1 => ?_⟩
  · refine go_pure (p53 u) fun mm5 hm5 => ?_
    try simp only [St.new_nx, St.bump_nx, St.set_nx, St.del_nx] at hm5
    simp (implicitDefEqProofs := false) (maxSteps := 2000000) (disch := (first | omega | (simp only [St.new_nx, St.set_nx, St.del_nx, St.bump_nx]; done) | (simp only [St.new_nx, St.set_nx, St.del_nx, St.bump_nx]; omega) | fail)) [a36r2, a36r3]
    refine ⟨fun h2 => ?_, fun h2 => ?_⟩
    · rw [← hR, if_neg (by simp [h2])]
      simp
    · have := proper_sz h1
      have := proper_sz h2
      refine go_pure (p79 t u (by omega) (by omega)) fun mm6 hm6 => ?_
      try simp only [St.new_nx, St.bump_nx, St.set_nx, St.del_nx] at hm6
      simp (implicitDefEqProofs := false) (maxSteps := 2000000) (disch := (first | omega | (simp only [St.new_nx, St.set_nx, St.del_nx, St.bump_nx]; done) | (simp only [St.new_nx, St.set_nx, St.del_nx, St.bump_nx]; omega) | fail))
      rw [← hR, if_pos ⟨h1, h2⟩]
      simp
  · rw [← hR, if_neg (by simp [h1])]
    simp (implicitDefEqProofs := false) (maxSteps := 2000000) (disch := (first | omega | (simp only [St.new_nx, St.set_nx, St.del_nx, St.bump_nx]; done) | (simp only [St.new_nx, St.set_nx, St.del_nx, St.bump_nx]; omega) | fail)) [a36r2]

def C37 (t : Ty) : Prop := ∀ u : Ty, PureC Try.prog 37 [t.av, u.av] (.bool (same t u))
def I80 (ts us : List Ty) (R : Bool) (s : St) (n : Nat) (g : Env) (s1 : St) : Prop :=
  ∃ (i : Nat), i ≤ ts.length ∧ n = ts.length - i ∧ sames (ts.drop i) (us.drop i) = R ∧
      g.get 1 = .list 4 .none (us.map av) ∧ g.get 2 = .fn 37 [] [] ∧ g.get 15 = .list 4 .none (ts.map av) ∧ g.get 16 = .int .i64 ts.length ∧ g.get 17 = .int .i64 i ∧ Kept s s1 ∧ s.nx ≤ s1.nx
theorem p80 (ts : List Ty) (ih : ∀ x ∈ ts, C37 x) (hl : ts.length ≤ 9223372036854775807) (us : List Ty) : PureC Try.prog 80 [.list 4 .none (ts.map av), .list 4 .none (us.map av), .fn 37 [] []] (.bool (sames ts us)) := by
  refine PureC.intro fun s => fun_sound mixed Try.func80 Try.call80 c80 rfl (awpFun_go _ _ _ _ ?_)
  generalize hR : sames ts us = R
  by_cases hlen : ts.length = us.length
  · have hlen2 : (ts.length : Int) = us.length := by omega
    simp (implicitDefEqProofs := false) (maxSteps := 2000000) (disch := (first | omega | (simp only [St.new_nx, St.set_nx, St.del_nx, St.bump_nx]; done) | (simp only [St.new_nx, St.set_nx, St.del_nx, St.bump_nx]; omega) | fail)) [a80, a80b, a80r0, a80r1, a80r2, a80r3, hlen2]
    rw [← hlen2]
    refine go_loop (I80 ts us R s) ts.length ⟨0, Nat.zero_le _, by simp, by simpa using hR, ?_, ?_, ?_, ?_, ?_, ?_, ?_⟩ ?_
    rotate_right
    · rintro n g s1 ⟨i, hi, rfl, hg, h1, h2, h15, h16, h17, hk, hn⟩
      by_cases hlt : i < ts.length
      · have hlu : i < us.length := by omega
        have hx : ts[i]? = some ts[i] := by simp [hlt]
        have hy : us[i]? = some us[i] := by simp [hlu]
        have hlt' : (i : Int) < ts.length := by omega
        have hlu' : (i : Int) < us.length := by omega
        have w2 : IntKind.i64.wrap ((i : Int) + 1) = ((i + 1 : Nat) : Int) := by rw [wrap64 (by omega) (by omega)]; omega
        have hdrop : ts.drop i = ts[i] :: ts.drop (i + 1) := List.drop_eq_getElem_cons hlt
        have hdropu : us.drop i = us[i] :: us.drop (i + 1) := List.drop_eq_getElem_cons hlu
        rw [hdrop, hdropu, sames] at hg
        simp (implicitDefEqProofs := false) (maxSteps := 2000000) (disch := (first | omega | (simp only [St.new_nx, St.set_nx, St.del_nx, St.bump_nx]; done) | (simp only [St.new_nx, St.set_nx, St.del_nx, St.bump_nx]; omega) | fail)) [a80l10, a80r4, a80r5, a80r6, a80r7, h1, h2, h15, h16, h17, hlt', hlt, hlu, hlu', hx, hy]
        refine go_pure (ih ts[i] (List.getElem_mem hlt) us[i]) fun mm7 hm7 => ?_
        try simp only [St.new_nx, St.bump_nx, St.set_nx, St.del_nx] at hm7
        simp (implicitDefEqProofs := false) (maxSteps := 2000000) (disch := (first | omega | (simp only [St.new_nx, St.set_nx, St.del_nx, St.bump_nx]; done) | (simp only [St.new_nx, St.set_nx, St.del_nx, St.bump_nx]; omega) | fail)) [a80r8, a80r9, h17, w2]
        refine ⟨fun hb => ?_, fun hb => ?_⟩
        · rw [hb] at hg
          exact ⟨by rw [← hg]; rfl, hk⟩
        · rw [hb, Bool.true_and] at hg
          refine go_next (ts.length - (i + 1)) (by omega) ⟨i + 1, by omega, rfl, hg, ?_, ?_, ?_, ?_, ?_, ?_, ?_⟩ <;> (try simp (implicitDefEqProofs := false) (maxSteps := 2000000) (disch := (first | omega | (simp only [St.new_nx, St.set_nx, St.del_nx, St.bump_nx]; done) | (simp only [St.new_nx, St.set_nx, St.del_nx, St.bump_nx]; omega) | fail)) [h1, h2, h15, h16, h17, hk])
          omega
      · have hlt' : ¬ (i : Int) < ts.length := by omega
        have hd : ts.drop i = [] := List.drop_eq_nil_of_le (by omega)
        have hdu : us.drop i = [] := List.drop_eq_nil_of_le (by omega)
        rw [hd, hdu] at hg
        simp only [sames, List.isEmpty_nil] at hg
        simp (implicitDefEqProofs := false) (maxSteps := 2000000) (disch := (first | omega | (simp only [St.new_nx, St.set_nx, St.del_nx, St.bump_nx]; done) | (simp only [St.new_nx, St.set_nx, St.del_nx, St.bump_nx]; omega) | fail)) [a80l10, a80r4, h1, h2, h15, h16, h17, hlt', a80r11, ← hg, hk]
    all_goals (try simp (implicitDefEqProofs := false) (maxSteps := 2000000) (disch := (first | omega | (simp only [St.new_nx, St.set_nx, St.del_nx, St.bump_nx]; done) | (simp only [St.new_nx, St.set_nx, St.del_nx, St.bump_nx]; omega) | fail)))
  · have : R = false := by
      rw [← hR]
      cases h : sames ts us with
      | false => rfl
      | true => exact (hlen (sames_len _ _ h)).elim
    have hlen' : ¬ (ts.length : Int) = us.length := by omega
    simp (implicitDefEqProofs := false) (maxSteps := 2000000) (disch := (first | omega | (simp only [St.new_nx, St.set_nx, St.del_nx, St.bump_nx]; done) | (simp only [St.new_nx, St.set_nx, St.del_nx, St.bump_nx]; omega) | fail)) [a80, a80b, a80r0, a80r1, a80r2, hlen', this]

theorem p37 (t : Ty) (hl : lim t) : C37 t := by
  induction t using Ty.ind with
  | h t ih =>
    intro u
    have hla : t.args.length ≤ 9223372036854775807 ∧ lims t.args := by cases t; simpa only [lim, args_mk] using hl
    have h80 := p80 t.args (fun x hx => ih x hx (lims_mem _ _ hla.2 hx)) hla.1 u.args
    have he : same t u = (decide (t.op = u.op) && (decide (t.n = u.n) && (decide (t.s = u.s) && sames t.args u.args))) := by cases t; rw [same]; rfl
    refine PureC.intro fun s => fun_sound mixed Try.func37 Try.call37 c37 rfl (awpFun_go _ _ _ _ ?_)
    rw [he]
    simp (implicitDefEqProofs := false) (maxSteps := 2000000) (disch := (first | omega | (simp only [St.new_nx, St.set_nx, St.del_nx, St.bump_nx]; done) | (simp only [St.new_nx, St.set_nx, St.del_nx, St.bump_nx]; omega) | fail)) [a37, a37b, a37r0, a37r1]
    refine ⟨fun h1 => ⟨fun h2 => ⟨fun h3 => go_pure h80 fun m hm => ?_, fun h3 => ?_⟩, fun h2 => ?_⟩, fun h1 => ?_⟩
    · simp (implicitDefEqProofs := false) (maxSteps := 2000000) (disch := (first | omega | (simp only [St.new_nx, St.set_nx, St.del_nx, St.bump_nx]; done) | (simp only [St.new_nx, St.set_nx, St.del_nx, St.bump_nx]; omega) | fail)) [h1, h2, h3]
    · simp (implicitDefEqProofs := false) (maxSteps := 2000000) (disch := (first | omega | (simp only [St.new_nx, St.set_nx, St.del_nx, St.bump_nx]; done) | (simp only [St.new_nx, St.set_nx, St.del_nx, St.bump_nx]; omega) | fail)) [h1, h2, h3]
    · simp (implicitDefEqProofs := false) (maxSteps := 2000000) (disch := (first | omega | (simp only [St.new_nx, St.set_nx, St.del_nx, St.bump_nx]; done) | (simp only [St.new_nx, St.set_nx, St.del_nx, St.bump_nx]; omega) | fail)) [h1, h2]
    · simp (implicitDefEqProofs := false) (maxSteps := 2000000) (disch := (first | omega | (simp only [St.new_nx, St.set_nx, St.del_nx, St.bump_nx]; done) | (simp only [St.new_nx, St.set_nx, St.del_nx, St.bump_nx]; omega) | fail)) [h1]
end Go.AL.Ty
