/- Applications and functions put together. -/
import Derived.Test.YtkegioliclbbhaaE31
import Derived.Test.YtkegioliclbbhaaD1
import Derived.RangeFuncNested
import Derived.RangeFuncLeaves
set_option linter.unusedVariables false
set_option linter.unusedSimpArgs false
namespace Go.AL.Ty
open Go Go.Proofs

def I71 (f : Ty) (l : List Ty) (s : St) (n : Nat) (g : Env) (s1 : St) : Prop :=
  ∃ (i : Nat) (x : Ty) (tok : Tok) (zs : List AV), i ≤ l.length ∧ n = l.length - i ∧ apply x (l.drop i) = apply f l ∧ wkL zs (x.args.map av) ∧
    g.get 7 = .list 4 .none (l.map av) ∧ g.get 8 = .int .i64 l.length ∧ g.get 9 = .int .i64 i ∧ g.get 2 = .ptr s.nx 0 ∧ g.get 4 = .ptr (s.nx + 1) 0 ∧
    s1.m s.nx = some (.box [.int .i64 x.op, .int .i64 x.n, .str x.s, .list 4 tok zs]) ∧ s1.m (s.nx + 1) = some (.box [.int .i64 0, .int .i64 0, .str ⟨#[]⟩, .list 0 .full []]) ∧ Kept s s1 ∧ s.nx + 1 < s1.nx
theorem p71 (f : Ty) (l : List Ty) (hl : l.length ≤ 4611686018427387904) : PureC Try.prog 71 [f.av, .list 4 .none (l.map av)] (apply f l).av := by
  refine PureC.intro fun s => fun_sound mixed Try.func71 Try.call71 c71 rfl (awpFun_go _ _ _ _ ?_)
  simp (implicitDefEqProofs := false) (maxSteps := 2000000) (disch := (first | omega | (simp only [St.new_nx, St.set_nx, St.del_nx, St.bump_nx]; done) | (simp only [St.new_nx, St.set_nx, St.del_nx, St.bump_nx]; omega) | fail)) [a71, a71b, a71r0, a71r1]
  refine go_loop (I71 f l s) l.length ⟨0, f, .none, _, Nat.zero_le _, by simp, by simp, wkL_refl _, by simp, by simp, by simp, by simp, by simp, by simp (implicitDefEqProofs := false) (maxSteps := 2000000) (disch := (first | omega | (simp only [St.new_nx, St.set_nx, St.del_nx, St.bump_nx]; done) | (simp only [St.new_nx, St.set_nx, St.del_nx, St.bump_nx]; omega) | fail)), by simp (implicitDefEqProofs := false) (maxSteps := 2000000) (disch := (first | omega | (simp only [St.new_nx, St.set_nx, St.del_nx, St.bump_nx]; done) | (simp only [St.new_nx, St.set_nx, St.del_nx, St.bump_nx]; omega) | fail)), by simp (implicitDefEqProofs := false) (maxSteps := 2000000) (disch := (first | omega | (simp only [St.new_nx, St.set_nx, St.del_nx, St.bump_nx]; done) | (simp only [St.new_nx, St.set_nx, St.del_nx, St.bump_nx]; omega) | fail)), by simp⟩ ?_
  rintro n g s1 ⟨i, x, tok, zs, hi, rfl, hg, hz, h7, h8, h9, h2, h4, hX, hR, hk, hn⟩
  by_cases hlt : i < l.length
  · have hx : l[i]? = some l[i] := by simp [hlt]
    have hlt' : (i : Int) < l.length := by omega
    have w2 : IntKind.i64.wrap ((i : Int) + 1) = ((i + 1 : Nat) : Int) := by rw [wrap64 (by omega) (by omega)]; omega
    have hdrop : l.drop i = l[i] :: l.drop (i + 1) := List.drop_eq_getElem_cons hlt
    rw [hdrop] at hg
    simp (implicitDefEqProofs := false) (maxSteps := 2000000) (disch := (first | omega | (simp only [St.new_nx, St.set_nx, St.del_nx, St.bump_nx]; done) | (simp only [St.new_nx, St.set_nx, St.del_nx, St.bump_nx]; omega) | fail)) [a71l6, a71r2, a71r3, a71r4, a71r5, h7, h8, h9, h2, h4, hX, hlt', hlt, hx, w2]
    refine go_next (l.length - (i + 1)) (by omega) ⟨i + 1, app x l[i], .full, [.agg [.int .i64 x.op, .int .i64 x.n, .str x.s, .list 4 tok zs], l[i].av], by omega, rfl, hg, ?_, ?_, ?_, ?_, ?_, ?_, ?_, ?_, ?_, ?_⟩
    rotate_left
    all_goals (try simp (implicitDefEqProofs := false) (maxSteps := 2000000) (disch := (first | omega | (simp only [St.new_nx, St.set_nx, St.del_nx, St.bump_nx]; done) | (simp only [St.new_nx, St.set_nx, St.del_nx, St.bump_nx]; omega) | fail)) [h7, h8, h9, h2, h4, hR, hk, app])
    · omega
    · rw [wk_av, wk_agg]
      simp [hz]
  · have hlt' : ¬ (i : Int) < l.length := by omega
    have hdrop : l.drop i = [] := List.drop_eq_nil_of_le (by omega)
    rw [hdrop] at hg
    have hg' : x = apply f l := hg
    simp (implicitDefEqProofs := false) (maxSteps := 2000000) (disch := (first | omega | (simp only [St.new_nx, St.set_nx, St.del_nx, St.bump_nx]; done) | (simp only [St.new_nx, St.set_nx, St.del_nx, St.bump_nx]; omega) | fail)) [a71l6, a71r2, h7, h8, h9, h2, h4, hX, hR, hlt', a71r7, hk, ← hg']
    rw [wk_av, wk_agg]
    simp [hz]

theorem p114 (a b : Ty) : PureC Try.prog 114 [a.av, b.av] (arrow a b).av := by
  refine PureC.intro fun s => fun_sound mixed Try.func114 Try.call114 c114 rfl (awpFun_go _ _ _ _ ?_)
  simp (implicitDefEqProofs := false) (maxSteps := 2000000) (disch := (first | omega | (simp only [St.new_nx, St.set_nx, St.del_nx, St.bump_nx]; done) | (simp only [St.new_nx, St.set_nx, St.del_nx, St.bump_nx]; omega) | fail)) [a114, a114b, a114r0, a114r1]
  refine pcV_intro (p128 arr) ?_
  simp (implicitDefEqProofs := false) (maxSteps := 2000000) (disch := (first | omega | (simp only [St.new_nx, St.set_nx, St.del_nx, St.bump_nx]; done) | (simp only [St.new_nx, St.set_nx, St.del_nx, St.bump_nx]; omega) | fail))
  have h := p71 (con arr) [a, b] (by simp)
  have e : apply (con arr) [a, b] = arrow a b := rfl
  rw [e] at h
  refine pcV_intro (PureC.argw h (by simp)) ?_
  simp (implicitDefEqProofs := false) (maxSteps := 2000000) (disch := (first | omega | (simp only [St.new_nx, St.set_nx, St.del_nx, St.bump_nx]; done) | (simp only [St.new_nx, St.set_nx, St.del_nx, St.bump_nx]; omega) | fail))
theorem app_fit {f a : Ty} (h1 : wide f) (h2 : wide a) : wide (app f a) := by
  simp only [app, wide, wides]
  exact ⟨by simp, by omega, h1, h2, trivial⟩
theorem app_ht (f a : Ty) : ht (app f a) ≤ 1 + max (ht f) (ht a) := by
  simp only [app, ht, hts]; omega
theorem apply_fit : ∀ (l : List Ty) (f : Ty) (k : Nat), 42 ≤ k → wide f → ht f ≤ k → (∀ x ∈ l, wide x ∧ ht x ≤ 42) → wide (apply f l) ∧ ht (apply f l) ≤ k + l.length
  | [], f, k, _, h1, h2, _ => ⟨h1, by simpa [apply] using h2⟩
  | x :: xs, f, k, hk, h1, h2, h => by
    have hx := h x (by simp)
    have h3 := app_ht f x
    have := apply_fit xs (app f x) (k + 1) (by omega) (app_fit h1 hx.1) (by omega) fun y hy => h y (by simp [hy])
    refine ⟨this.1, ?_⟩
    have h4 := this.2
    simp only [List.length_cons]
    exact Nat.le_trans h4 (by omega)
def funs (l : List Ty) (t : Ty) : Ty := l.foldr arrow t
theorem funs_fit : ∀ (l : List Ty) (t : Ty), wide t → ht t ≤ 42 → (∀ x ∈ l, wide x ∧ ht x ≤ 42) → wide (funs l t) ∧ ht (funs l t) ≤ 42 + 2 * l.length
  | [], t, h1, h2, _ => ⟨h1, by simpa [funs] using h2⟩
  | x :: xs, t, h1, h2, h => by
    have hx := h x (by simp)
    have ih := funs_fit xs t h1 h2 fun y hy => h y (by simp [hy])
    have e : funs (x :: xs) t = app (app (con arr) x) (funs xs t) := rfl
    have hc : wide (con arr) := by simp [con, wide, wides]
    have hc2 : ht (con arr) = 1 := by simp [con, ht, hts]
    rw [e]
    refine ⟨app_fit (app_fit hc hx.1) ih.1, ?_⟩
    have h3 := app_ht (con arr) x
    have h4 := app_ht (app (con arr) x) (funs xs t)
    have := ih.2
    simp only [List.length_cons]
    omega
theorem p27 (t : Ty) (l : List Ty) : PureC Try.prog 27 [t.av, .list 4 .none (l.map av)] (if proper t && propers l then fin (apply t l) else .tup [nul.av, .int .i64 2]) := by
  refine PureC.intro fun s => fun_sound mixed Try.func27 Try.call27 c27 rfl (awpFun_go _ _ _ _ ?_)
  generalize hres : (if (proper t && propers l) = true then fin (apply t l) else AV.tup [nul.av, .int .i64 2]) = res
  simp (implicitDefEqProofs := false) (maxSteps := 2000000) (disch := (first | omega | (simp only [St.new_nx, St.set_nx, St.del_nx, St.bump_nx]; done) | (simp only [St.new_nx, St.set_nx, St.del_nx, St.bump_nx]; omega) | fail)) [a27, a27b, a27r0, a27r1]
  refine go_pure (p53 t) fun mm1 hm1 => ?_
  try simp only [St.new_nx, St.bump_nx, St.set_nx, St.del_nx] at hm1
  simp (implicitDefEqProofs := false) (maxSteps := 2000000) (disch := (first | omega | (simp only [St.new_nx, St.set_nx, St.del_nx, St.bump_nx]; done) | (simp only [St.new_nx, St.set_nx, St.del_nx, St.bump_nx]; omega) | fail))
  refine ⟨fun h1 => ?_, fun h1 => ?_⟩
  · refine go_pure (p54 l) fun mm2 hm2 => ?_
    try simp only [St.new_nx, St.bump_nx, St.set_nx, St.del_nx] at hm2
    simp (implicitDefEqProofs := false) (maxSteps := 2000000) (disch := (first | omega | (simp only [St.new_nx, St.set_nx, St.del_nx, St.bump_nx]; done) | (simp only [St.new_nx, St.set_nx, St.del_nx, St.bump_nx]; omega) | fail)) [a27r2, a27r3]
    refine ⟨fun h2 => ?_, fun h2 => ?_⟩
    · rw [← hres, if_neg (by simp [h2])]
      simp (implicitDefEqProofs := false) (maxSteps := 2000000) (disch := (first | omega | (simp only [St.new_nx, St.set_nx, St.del_nx, St.bump_nx]; done) | (simp only [St.new_nx, St.set_nx, St.del_nx, St.bump_nx]; omega) | fail)) [nul, av_mk]
    · have hall : l.length ≤ 600 ∧ ∀ x ∈ l, proper x = true := by simpa [propers] using h2
      have hfit : Fit (apply t l) 0 := by
        have h42 := gd_fit t 1 600 (by omega) h1
        have := apply_fit l t 42 (by omega) h42.1 (by omega) fun x hx => by
          have := gd_fit x 1 600 (by omega) (hall.2 x hx)
          exact ⟨this.1, by omega⟩
        exact ⟨this.1, by omega, by omega⟩
      rw [if_pos (by rw [h1, h2]; rfl)] at hres
      refine go_pure (p71 t l (by omega)) fun mm3 hm3 => ?_
      try simp only [St.new_nx, St.bump_nx, St.set_nx, St.del_nx] at hm3
      simp (implicitDefEqProofs := false) (maxSteps := 2000000) (disch := (first | omega | (simp only [St.new_nx, St.set_nx, St.del_nx, St.bump_nx]; done) | (simp only [St.new_nx, St.set_nx, St.del_nx, St.bump_nx]; omega) | fail))
      refine go_pure (p69 _ hfit) fun mm4 hm4 => ?_
      try simp only [St.new_nx, St.bump_nx, St.set_nx, St.del_nx] at hm4
      simp (implicitDefEqProofs := false) (maxSteps := 2000000) (disch := (first | omega | (simp only [St.new_nx, St.set_nx, St.del_nx, St.bump_nx]; done) | (simp only [St.new_nx, St.set_nx, St.del_nx, St.bump_nx]; omega) | fail))
      refine go_pure (p55 _) fun mm5 hm5 => ?_
      try simp only [St.new_nx, St.bump_nx, St.set_nx, St.del_nx] at hm5
      by_cases hp2 : proper (apply t l) = true
      · rw [if_pos hp2]
        rw [fin, if_pos hp2] at hres
        simp (implicitDefEqProofs := false) (maxSteps := 2000000) (disch := (first | omega | (simp only [St.new_nx, St.set_nx, St.del_nx, St.bump_nx]; done) | (simp only [St.new_nx, St.set_nx, St.del_nx, St.bump_nx]; omega) | fail)) [← hres]
      · rw [if_neg hp2]
        rw [fin, if_neg hp2] at hres
        simp (implicitDefEqProofs := false) (maxSteps := 2000000) (disch := (first | omega | (simp only [St.new_nx, St.set_nx, St.del_nx, St.bump_nx]; done) | (simp only [St.new_nx, St.set_nx, St.del_nx, St.bump_nx]; omega) | fail)) [← hres, av_mk]
  · rw [← hres, if_neg (by simp [h1])]
    simp (implicitDefEqProofs := false) (maxSteps := 2000000) (disch := (first | omega | (simp only [St.new_nx, St.set_nx, St.del_nx, St.bump_nx]; done) | (simp only [St.new_nx, St.set_nx, St.del_nx, St.bump_nx]; omega) | fail)) [a27r2, nul, av_mk]

theorem p77 (l : List Ty) (t : Ty) (hl : l.length ≤ 4611686018427387904) : PureC Try.prog 77 [.list 4 .none (l.map av), t.av] (funs l t).av := by
  refine PureC.intro fun s => fun_sound mixed Try.func77 Try.call77 c77 rfl (awpFun_go _ _ _ _ ?_)
  have w0 : IntKind.i64.wrap ((l.length : Int) - 1) = (l.length : Int) - 1 := wrap64 (by omega) (by omega)
  simp (implicitDefEqProofs := false) (maxSteps := 2000000) (disch := (first | omega | (simp only [St.new_nx, St.set_nx, St.del_nx, St.bump_nx]; done) | (simp only [St.new_nx, St.set_nx, St.del_nx, St.bump_nx]; omega) | fail)) [a77, a77b, a77r0, a77r1, w0]
  refine go_loop (fun n g s1 => ∃ (i : Nat) (x : Ty), i ≤ l.length ∧ n = i ∧ funs (l.take i) x = funs l t ∧
    g.get 0 = .list 4 .none (l.map av) ∧ g.get 5 = .int .i64 ((i : Int) - 1) ∧ g.get 3 = .ptr s.nx 0 ∧ g.get 4 = .ptr (s.nx + 1) 0 ∧
    s1.m s.nx = some (.box [.int .i64 x.op, .int .i64 x.n, .str x.s, .list 4 .none (x.args.map av)]) ∧ s1.m (s.nx + 1) = some (.box [.int .i64 0, .int .i64 0, .str ⟨#[]⟩, .list 0 .full []]) ∧ Kept s s1 ∧ s.nx + 1 < s1.nx) l.length
    ⟨l.length, t, by omega, rfl, by simp, by simp, by simp, by simp, by simp, by simp (implicitDefEqProofs := false) (maxSteps := 2000000) (disch := (first | omega | (simp only [St.new_nx, St.set_nx, St.del_nx, St.bump_nx]; done) | (simp only [St.new_nx, St.set_nx, St.del_nx, St.bump_nx]; omega) | fail)), by simp (implicitDefEqProofs := false) (maxSteps := 2000000) (disch := (first | omega | (simp only [St.new_nx, St.set_nx, St.del_nx, St.bump_nx]; done) | (simp only [St.new_nx, St.set_nx, St.del_nx, St.bump_nx]; omega) | fail)), by simp (implicitDefEqProofs := false) (maxSteps := 2000000) (disch := (first | omega | (simp only [St.new_nx, St.set_nx, St.del_nx, St.bump_nx]; done) | (simp only [St.new_nx, St.set_nx, St.del_nx, St.bump_nx]; omega) | fail)), by simp⟩ ?_
  rintro n g s1 ⟨i, x, hi, rfl, hg, h0, h5, h3, h4, hX, hR, hk, hn⟩
  by_cases hlt : n = 0
  · subst hlt
    have hg' : x = funs l t := by simpa [funs] using hg
    simp (implicitDefEqProofs := false) (maxSteps := 2000000) (disch := (first | omega | (simp only [St.new_nx, St.set_nx, St.del_nx, St.bump_nx]; done) | (simp only [St.new_nx, St.set_nx, St.del_nx, St.bump_nx]; omega) | fail)) [a77l5, a77r2, h0, h5, h3, h4, hX, hR, a77r6, hk, ← hg']
  · obtain ⟨m, rfl⟩ : ∃ m, n = m + 1 := ⟨n - 1, by omega⟩
    have hm : m < l.length := by omega
    have hx : l[m]? = some l[m] := by simp [hm]
    have hm' : (m : Int) < l.length := by omega
    have e : ((m + 1 : Nat) : Int) - 1 = m := by omega
    rw [e] at h5
    have w2 : IntKind.i64.wrap ((m : Int) - 1) = (m : Int) - 1 := wrap64 (by omega) (by omega)
    have hta : l.take (m + 1) = l.take m ++ [l[m]] := by rw [List.take_add_one, hx]; rfl
    have hg2 : funs (l.take m) (arrow l[m] x) = funs l t := by rw [← hg, hta, funs, funs, List.foldr_append]; rfl
    simp (implicitDefEqProofs := false) (maxSteps := 2000000) (disch := (first | omega | (simp only [St.new_nx, St.set_nx, St.del_nx, St.bump_nx]; done) | (simp only [St.new_nx, St.set_nx, St.del_nx, St.bump_nx]; omega) | fail)) [a77l5, a77r2, a77r3, h0, h5, h3, h4, hX, hR, hm', hm, hx]
    refine pcV_intro (p100 l[m] x) ?_
    simp (implicitDefEqProofs := false) (maxSteps := 2000000) (disch := (first | omega | (simp only [St.new_nx, St.set_nx, St.del_nx, St.bump_nx]; done) | (simp only [St.new_nx, St.set_nx, St.del_nx, St.bump_nx]; omega) | fail)) [a77r4, h3, hX, h5, w2]
    intro m2 hm2
    refine go_next m (by omega) ⟨m, by omega, rfl, arrow l[m] x, hg2, ?_, ?_, ?_, ?_, ?_, ?_, ?_, ?_⟩ <;> (try simp (implicitDefEqProofs := false) (maxSteps := 2000000) (disch := (first | omega | (simp only [St.new_nx, St.set_nx, St.del_nx, St.bump_nx]; done) | (simp only [St.new_nx, St.set_nx, St.del_nx, St.bump_nx]; omega) | fail)) [h0, h3, h4, hR, hk])
    omega
theorem p34 (l : List Ty) (t : Ty) (hl : l.length ≤ 4611686018427387904) : PureC Try.prog 34 [.list 4 .none (l.map av), t.av] (funs l t).av := by
  refine PureC.intro fun s => fun_sound mixed Try.func34 Try.call34 c34 rfl (awpFun_go _ _ _ _ ?_)
  simp (implicitDefEqProofs := false) (maxSteps := 2000000) (disch := (first | omega | (simp only [St.new_nx, St.set_nx, St.del_nx, St.bump_nx]; done) | (simp only [St.new_nx, St.set_nx, St.del_nx, St.bump_nx]; omega) | fail)) [a34, a34b, a34r0, a34r1]
  refine go_pure (p77 l t hl) fun mm6 hm6 => ?_
  try simp only [St.new_nx, St.bump_nx, St.set_nx, St.del_nx] at hm6
  simp (implicitDefEqProofs := false) (maxSteps := 2000000) (disch := (first | omega | (simp only [St.new_nx, St.set_nx, St.del_nx, St.bump_nx]; done) | (simp only [St.new_nx, St.set_nx, St.del_nx, St.bump_nx]; omega) | fail))
end Go.AL.Ty
/- The reference's spine. -/
set_option linter.unusedVariables false
set_option linter.unusedSimpArgs false
namespace Go.AL.Ty
open Go Go.Proofs

def I29 (R : Ty × List Ty) (s : St) (n : Nat) (g : Env) (s1 : St) : Prop :=
  ∃ (c : Ty) (acc : List Ty) (sz : Nat) (tok : Tok), Gd c ∧ ht c ≤ n ∧ acc.length + n ≤ 1000000 ∧ hdl n c acc = R ∧ g.get 4 = .list sz tok (acc.reverse.map av) ∧ g.get 1 = .ptr s.nx 0 ∧ g.get 2 = .ptr (s.nx + 1) 0 ∧
    s1.m s.nx = some (.box [.int .i64 c.op, .int .i64 c.n, .str c.s, .list 4 .none (c.args.map av)]) ∧ s1.m (s.nx + 1) = some (.box [.int .i64 0, .int .i64 0, .str ⟨#[]⟩, .list 0 .full []]) ∧
    own2 s.nx (s.nx + 1) acc.length sz tok s1 ∧ s.nx + 1 < s1.nx ∧ Kept s s1
def J29 (R : Ty × List Ty) (s : St) (n : Nat) (g : Env) (s1 : St) : Prop :=
  ∃ (k sz szb : Nat) (tok : Tok) (tb : Tok), k ≤ R.2.length ∧ n = R.2.length - k ∧ (szb = 4 ∨ R.2 = []) ∧ g.get 4 = .list szb tb (R.2.reverse.map av) ∧ g.get 5 = .list sz tok ((R.2.take k).map av) ∧ g.get 6 = .int .i64 ((R.2.length : Int) - 1 - k) ∧ g.get 1 = .ptr s.nx 0 ∧ g.get 2 = .ptr (s.nx + 1) 0 ∧
    s1.m s.nx = some (.box [.int .i64 R.1.op, .int .i64 R.1.n, .str R.1.s, .list 4 .none (R.1.args.map av)]) ∧ s1.m (s.nx + 1) = some (.box [.int .i64 0, .int .i64 0, .str ⟨#[]⟩, .list 0 .full []]) ∧
    own2 s.nx (s.nx + 1) k sz tok s1 ∧ s.nx + 1 < s1.nx ∧ Kept s s1

theorem p29 (t : Ty) (hp : proper t = true) : PureC Try.prog 29 [t.av] (.tup [(spine t).1.av, .list 4 .none ((spine t).2.map av)]) := by
  refine PureC.intro fun s => fun_sound mixed Try.func29 Try.call29 c29 rfl (awpFun_go _ _ _ _ ?_)
  have hf := (proper_fit hp).2
  have hln := hdl_len t.ht t []
  rw [← spine] at hln
  generalize hR : spine t = R at *
  rw [spine] at hR
  simp (implicitDefEqProofs := false) (maxSteps := 2000000) (disch := (first | omega | (simp only [St.new_nx, St.set_nx, St.del_nx, St.bump_nx]; done) | (simp only [St.new_nx, St.set_nx, St.del_nx, St.bump_nx]; omega) | fail)) [a29, a29b, a29r0, a29r1]
  refine go_loop (I29 R s) t.ht ⟨t, [], 0, .full, .of hp, by omega, by simp; omega, hR, ?_, ?_, ?_, ?_, ?_, .inl ⟨rfl, rfl, rfl⟩, ?_, ?_⟩ ?_
  iterate 7 (simp (implicitDefEqProofs := false) (maxSteps := 2000000) (disch := (first | omega | (simp only [St.new_nx, St.set_nx, St.del_nx, St.bump_nx]; done) | (simp only [St.new_nx, St.set_nx, St.del_nx, St.bump_nx]; omega) | fail)))
  rintro n g s1 ⟨c, acc, sz, tok, hc, hn, hac, hh, h4, h1, h2, hC, hZ, hown, hlt, hk⟩
  have hpos := ht_pos c
  obtain ⟨m, rfl⟩ : ∃ m, n = m + 1 := ⟨n - 1, by omega⟩
  by_cases ho : c.op = 3
  · obtain ⟨f, a, rfl, hf, ha⟩ := hc.app ho
    have := ht_app f a
    have hh' : hdl m f (a :: acc) = R := by rw [← hh]; simp [hdl, app]
    have hta : (a :: acc).reverse.map av = acc.reverse.map av ++ [a.av] := by simp
    have hlo : (acc.reverse.map av).length = acc.length := by simp
    generalize hL : acc.reverse.map av = L at *
    simp (implicitDefEqProofs := false) (maxSteps := 2000000) (disch := (first | omega | (simp only [St.new_nx, St.set_nx, St.del_nx, St.bump_nx]; done) | (simp only [St.new_nx, St.set_nx, St.del_nx, St.bump_nx]; omega) | fail)) [a29l5, a29r2, a29r3, a29r4, h4, h1, h2, hC, hZ, app, get0, get1]
    rcases hown with ⟨h0, rfl, rfl⟩ | ⟨rfl, q, rfl, hq, hq2, hq3, hq4⟩
    · have hA : L = [] := List.length_eq_zero_iff.1 (by omega)
      subst hA
      have hA2 : acc = [] := List.length_eq_zero_iff.1 h0
      subst hA2
      simp only [List.nil_append] at hta
      simp (implicitDefEqProofs := false) (maxSteps := 2000000) (disch := (first | omega | (simp only [St.new_nx, St.set_nx, St.del_nx, St.bump_nx]; done) | (simp only [St.new_nx, St.set_nx, St.del_nx, St.bump_nx]; omega) | fail)) [h1, h2, hC, hZ, app, get0, get1]
      refine go_next m (by omega) ⟨f, [a], 4, .own s1.nx, hf, by omega, by simp; omega, hh', ?_, ?_, ?_, ?_, ?_, .inr ⟨rfl, _, rfl, ?_, ?_, ?_, ?_⟩, ?_, ?_⟩
      all_goals (try simp (implicitDefEqProofs := false) (maxSteps := 2000000) (disch := (first | omega | (simp only [St.new_nx, St.set_nx, St.del_nx, St.bump_nx]; done) | (simp only [St.new_nx, St.set_nx, St.del_nx, St.bump_nx]; omega) | fail)) [h1, h2, hZ, hk, hta])
      all_goals omega
    · simp (implicitDefEqProofs := false) (maxSteps := 2000000) (disch := (first | omega | (simp only [St.new_nx, St.set_nx, St.del_nx, St.bump_nx]; done) | (simp only [St.new_nx, St.set_nx, St.del_nx, St.bump_nx]; omega) | fail)) [h1, h2, hC, hZ, hq, hlo, app, get0, get1]
      rw [← hta]
      refine go_next m (by omega) ⟨f, a :: acc, 4, .own s1.nx, hf, by omega, by simp; omega, hh', ?_, ?_, ?_, ?_, ?_, .inr ⟨rfl, _, rfl, ?_, ?_, ?_, ?_⟩, ?_, ?_⟩
      all_goals (try simp (implicitDefEqProofs := false) (maxSteps := 2000000) (disch := (first | omega | (simp only [St.new_nx, St.set_nx, St.del_nx, St.bump_nx]; done) | (simp only [St.new_nx, St.set_nx, St.del_nx, St.bump_nx]; omega) | fail)) [h1, h2, hZ, hk])
      all_goals omega
  · have hR' : (c, acc) = R := by rw [← hh]; simp [hdl, ho]
    subst hR'
    have w0 : IntKind.i64.wrap ((acc.length : Int) - 1) = (acc.length : Int) - 1 := wrap64 (by omega) (by omega)
    simp (implicitDefEqProofs := false) (maxSteps := 2000000) (disch := (first | omega | (simp only [St.new_nx, St.set_nx, St.del_nx, St.bump_nx]; done) | (simp only [St.new_nx, St.set_nx, St.del_nx, St.bump_nx]; omega) | fail)) [a29l5, a29r2, a29r6, a29r7, h4, h1, h2, hC, hZ, ho, w0]
    have hszb : sz = 4 ∨ acc = [] := by
      rcases hown with ⟨h0, _, _⟩ | ⟨h4, _⟩
      · exact .inr (List.length_eq_zero_iff.1 h0)
      · exact .inl h4
    refine go_loop (J29 (c, acc) s) acc.length ⟨0, 0, sz, .full, tok, Nat.zero_le _, by simp, hszb, ?_, ?_, ?_, ?_, ?_, hC, hZ, .inl ⟨rfl, rfl, rfl⟩, hlt, hk⟩ ?_
    iterate 5 (simp (implicitDefEqProofs := false) (maxSteps := 2000000) (disch := (first | omega | (simp only [St.new_nx, St.set_nx, St.del_nx, St.bump_nx]; done) | (simp only [St.new_nx, St.set_nx, St.del_nx, St.bump_nx]; omega) | fail)) [h4, h1, h2])
    clear h4 h1 h2 hC hZ hown hlt hk hszb
    rintro n g s1 ⟨k, sz, szb, tok, tb, hkl, rfl, hszb, h4, h5, h6, h1, h2, hC, hZ, hown, hlt, hk⟩
    simp only at hkl hszb h4 h5 h6 hC hZ hown ⊢
    by_cases hka : k < acc.length
    · have hszb4 : szb = 4 := by
        rcases hszb with h | h
        · exact h
        · rw [h] at hka; simp at hka
      subst hszb4
      have hx : acc[k]? = some acc[k] := by simp [hka]
      obtain ⟨j, hj⟩ : ∃ j : Nat, acc.length - 1 - k = j := ⟨_, rfl⟩
      have h6' : g.get 6 = .int .i64 (j : Int) := by rw [h6]; congr 1; omega
      have hge : (0 : Int) ≤ j := by omega
      have hrx : acc.reverse[j]? = some acc[k] := by
        rw [List.getElem?_reverse (by omega), ← hx]
        congr 1; omega
      have hlt2 : (j : Int) < acc.length := by omega
      have hta : (acc.take (k + 1)).map av = (acc.take k).map av ++ [acc[k].av] := by
        rw [List.take_add_one, hx, List.map_append]; rfl
      have hlo : ((acc.take k).map av).length = k := by simp; omega
      have w2 : IntKind.i64.wrap ((j : Int) - 1) = (acc.length : Int) - 1 - ((k + 1 : Nat) : Int) := by rw [wrap64 (by omega) (by omega)]; omega
      generalize hL : (acc.take k).map av = L at *
      generalize hRv : acc.reverse = rv at *
      have hrl : rv.length = acc.length := by rw [← hRv]; simp
      have hgx : rv[j]'(by omega) = acc[k] := (List.getElem?_eq_some_iff.1 hrx).2
      rcases hown with ⟨rfl, rfl, rfl⟩ | ⟨rfl, q, rfl, hq, hq2, hq3, hq4⟩
      · have hA : L = [] := List.length_eq_zero_iff.1 hlo
        subst hA
        simp only [List.nil_append] at hta
        simp (implicitDefEqProofs := false) (maxSteps := 2000000) (disch := (first | omega | (simp only [St.new_nx, St.set_nx, St.del_nx, St.bump_nx]; done) | (simp only [St.new_nx, St.set_nx, St.del_nx, St.bump_nx]; omega) | fail)) [a29l11, a29r8, a29r9, a29r10, h4, h5, h6', hge, hlt2, hrl, hrx, hgx, w2]
        rw [← hta]
        refine go_next (acc.length - 1) (by omega) ⟨1, 4, 4, .own s1.nx, tb, hka, rfl, .inl rfl, ?_, ?_, ?_, ?_, ?_, ?_, ?_, .inr ⟨rfl, _, rfl, ?_, ?_, ?_, ?_⟩, ?_, ?_⟩
        all_goals (try simp (implicitDefEqProofs := false) (maxSteps := 2000000) (disch := (first | omega | (simp only [St.new_nx, St.set_nx, St.del_nx, St.bump_nx]; done) | (simp only [St.new_nx, St.set_nx, St.del_nx, St.bump_nx]; omega) | fail)) [h1, h2, h4, hC, hZ, hk, hRv])
        all_goals omega
      · simp (implicitDefEqProofs := false) (maxSteps := 2000000) (disch := (first | omega | (simp only [St.new_nx, St.set_nx, St.del_nx, St.bump_nx]; done) | (simp only [St.new_nx, St.set_nx, St.del_nx, St.bump_nx]; omega) | fail)) [a29l11, a29r8, a29r9, a29r10, h4, h5, h6', hge, hlt2, hrl, hrx, hgx, w2, hq, hlo]
        rw [← hta]
        refine go_next (acc.length - (k + 1)) (by omega) ⟨k + 1, 4, 4, .own s1.nx, tb, hka, rfl, .inl rfl, ?_, ?_, ?_, ?_, ?_, ?_, ?_, .inr ⟨rfl, _, rfl, ?_, ?_, ?_, ?_⟩, ?_, ?_⟩
        all_goals (try simp (implicitDefEqProofs := false) (maxSteps := 2000000) (disch := (first | omega | (simp only [St.new_nx, St.set_nx, St.del_nx, St.bump_nx]; done) | (simp only [St.new_nx, St.set_nx, St.del_nx, St.bump_nx]; omega) | fail)) [h1, h2, h4, hC, hZ, hk, hRv])
        all_goals omega
    · have hke : k = acc.length := by omega
      subst hke
      have h6' : g.get 6 = .int .i64 (-1) := by rw [h6]; congr 1; omega
      rw [List.take_length] at h5
      simp (implicitDefEqProofs := false) (maxSteps := 2000000) (disch := (first | omega | (simp only [St.new_nx, St.set_nx, St.del_nx, St.bump_nx]; done) | (simp only [St.new_nx, St.set_nx, St.del_nx, St.bump_nx]; omega) | fail)) [a29l11, a29r8, h6', a29r12, h1, h2, h5, hC, hZ]
      have hsz := own_wk (l := acc) hown rfl
      simp only [List.map_eq_nil_iff] at hsz
      exact ⟨hsz, hk⟩
end Go.AL.Ty
/- TypesSpines, but for Funs. -/
set_option linter.unusedVariables false
set_option linter.unusedSimpArgs false
namespace Go.AL.Ty
open Go Go.Proofs

def C72 : Prop := ∀ (l : List Ty) (t : Ty), l.length ≤ 600 → PureC Try.prog 72 [.list 4 .none (l.map av), t.av] (funs l t).av

theorem Gd.lim {t : Ty} (h : Gd t) : Ty.lim t := wide_lim t h.fit.1
theorem splt_gd : ∀ (n : Nat) (t : Ty) (acc : List Ty), Gd t → (∀ x ∈ acc, Gd x) → Gd (splt n t acc).2 ∧ ∀ x ∈ (splt n t acc).1, Gd x
  | 0, t, acc, h, ha => ⟨h, ha⟩
  | n + 1, t, acc, h, hacc => by
    simp only [splt]
    cases hp : pairOf arr t with
    | none => exact ⟨h, hacc⟩
    | some x =>
      obtain ⟨a, b⟩ := x
      obtain ⟨ha, hb, _⟩ := pairOf_ht h hp
      refine splt_gd n b (acc ++ [a]) hb fun x hx => ?_
      simp only [List.mem_append, List.mem_singleton] at hx
      rcases hx with hx | rfl
      · exact hacc x hx
      · exact ha
theorem splt_len : ∀ (n : Nat) (t : Ty) (acc : List Ty), (splt n t acc).1.length ≤ acc.length + n
  | 0, t, acc => by simp [splt]
  | n + 1, t, acc => by
    simp only [splt]
    cases hp : pairOf arr t with
    | none => simp
    | some x =>
      obtain ⟨a, b⟩ := x
      have := splt_len n b (acc ++ [a])
      simp at this ⊢; omega
theorem p32 (ts us : List Ty) (h : ∀ x ∈ ts, Gd x) (hl : ts.length ≤ 9223372036854775807) : PureC Try.prog 32 [.list 4 .none (ts.map av), .list 4 .none (us.map av)] (.bool (sames ts us)) := by
  refine PureC.intro fun s => fun_sound mixed Try.func32 Try.call32 c32 rfl (awpFun_go _ _ _ _ ?_)
  simp (implicitDefEqProofs := false) (maxSteps := 2000000) (disch := (first | omega | (simp only [St.new_nx, St.set_nx, St.del_nx, St.bump_nx]; done) | (simp only [St.new_nx, St.set_nx, St.del_nx, St.bump_nx]; omega) | fail)) [a32, a32b, a32r0, a32r1]
  refine go_pure (p75 ts (fun x hx => p74 x (h x hx).lim) hl us) fun mm1 hm1 => ?_
  try simp only [St.new_nx, St.bump_nx, St.set_nx, St.del_nx] at hm1
  simp (implicitDefEqProofs := false) (maxSteps := 2000000) (disch := (first | omega | (simp only [St.new_nx, St.set_nx, St.del_nx, St.bump_nx]; done) | (simp only [St.new_nx, St.set_nx, St.del_nx, St.bump_nx]; omega) | fail))

theorem p28 (h72 : C72) (t : Ty) (l : List Ty) : PureC Try.prog 28 [.list 4 .none (l.map av), t.av] (if proper t && propers l then fin (funs l t) else .tup [nul.av, .int .i64 2]) := by
  refine PureC.intro fun s => fun_sound mixed Try.func28 Try.call28 c28 rfl (awpFun_go _ _ _ _ ?_)
  generalize hres : (if (proper t && propers l) = true then fin (funs l t) else AV.tup [nul.av, .int .i64 2]) = res
  simp (implicitDefEqProofs := false) (maxSteps := 2000000) (disch := (first | omega | (simp only [St.new_nx, St.set_nx, St.del_nx, St.bump_nx]; done) | (simp only [St.new_nx, St.set_nx, St.del_nx, St.bump_nx]; omega) | fail)) [a28, a28b, a28r0, a28r1]
  refine go_pure (p54 l) fun mm2 hm2 => ?_
  try simp only [St.new_nx, St.bump_nx, St.set_nx, St.del_nx] at hm2
  simp (implicitDefEqProofs := false) (maxSteps := 2000000) (disch := (first | omega | (simp only [St.new_nx, St.set_nx, St.del_nx, St.bump_nx]; done) | (simp only [St.new_nx, St.set_nx, St.del_nx, St.bump_nx]; omega) | fail))
  refine ⟨fun h1 => ?_, fun h1 => ?_⟩
  · refine go_pure (p53 t) fun mm3 hm3 => ?_
    try simp only [St.new_nx, St.bump_nx, St.set_nx, St.del_nx] at hm3
    simp (implicitDefEqProofs := false) (maxSteps := 2000000) (disch := (first | omega | (simp only [St.new_nx, St.set_nx, St.del_nx, St.bump_nx]; done) | (simp only [St.new_nx, St.set_nx, St.del_nx, St.bump_nx]; omega) | fail)) [a28r2, a28r3]
    refine ⟨fun h2 => ?_, fun h2 => ?_⟩
    · rw [← hres, if_neg (by simp [h2])]
      simp (implicitDefEqProofs := false) (maxSteps := 2000000) (disch := (first | omega | (simp only [St.new_nx, St.set_nx, St.del_nx, St.bump_nx]; done) | (simp only [St.new_nx, St.set_nx, St.del_nx, St.bump_nx]; omega) | fail)) [nul, av_mk]
    · have hall : l.length ≤ 600 ∧ ∀ x ∈ l, proper x = true := by simpa [propers] using h1
      have hfit : Fit (funs l t) 0 := by
        have h42 := gd_fit t 1 600 (by omega) h2
        have := funs_fit l t h42.1 (by omega) fun x hx => by
          have := gd_fit x 1 600 (by omega) (hall.2 x hx)
          exact ⟨this.1, by omega⟩
        exact ⟨this.1, by omega, by omega⟩
      rw [if_pos (by rw [h1, h2]; rfl)] at hres
      refine go_pure (h72 l t hall.1) fun mm4 hm4 => ?_
      try simp only [St.new_nx, St.bump_nx, St.set_nx, St.del_nx] at hm4
      simp (implicitDefEqProofs := false) (maxSteps := 2000000) (disch := (first | omega | (simp only [St.new_nx, St.set_nx, St.del_nx, St.bump_nx]; done) | (simp only [St.new_nx, St.set_nx, St.del_nx, St.bump_nx]; omega) | fail))
      refine go_pure (p69 _ hfit) fun mm5 hm5 => ?_
      try simp only [St.new_nx, St.bump_nx, St.set_nx, St.del_nx] at hm5
      simp (implicitDefEqProofs := false) (maxSteps := 2000000) (disch := (first | omega | (simp only [St.new_nx, St.set_nx, St.del_nx, St.bump_nx]; done) | (simp only [St.new_nx, St.set_nx, St.del_nx, St.bump_nx]; omega) | fail))
      refine go_pure (p55 _) fun mm6 hm6 => ?_
      try simp only [St.new_nx, St.bump_nx, St.set_nx, St.del_nx] at hm6
      by_cases hp2 : proper (funs l t) = true
      · rw [if_pos hp2]
        rw [fin, if_pos hp2] at hres
        simp (implicitDefEqProofs := false) (maxSteps := 2000000) (disch := (first | omega | (simp only [St.new_nx, St.set_nx, St.del_nx, St.bump_nx]; done) | (simp only [St.new_nx, St.set_nx, St.del_nx, St.bump_nx]; omega) | fail)) [← hres]
      · rw [if_neg hp2]
        rw [fin, if_neg hp2] at hres
        simp (implicitDefEqProofs := false) (maxSteps := 2000000) (disch := (first | omega | (simp only [St.new_nx, St.set_nx, St.del_nx, St.bump_nx]; done) | (simp only [St.new_nx, St.set_nx, St.del_nx, St.bump_nx]; omega) | fail)) [← hres, av_mk]
  · rw [← hres, if_neg (by simp [h1])]
    simp (implicitDefEqProofs := false) (maxSteps := 2000000) (disch := (first | omega | (simp only [St.new_nx, St.set_nx, St.del_nx, St.bump_nx]; done) | (simp only [St.new_nx, St.set_nx, St.del_nx, St.bump_nx]; omega) | fail)) [a28r2, nul, av_mk]

theorem p6 (h72 : C72) (t : Ty) (l : List Ty) (hlen : l.length * 56 ≤ 140737488355328) : PureC Try.prog 6 [t.av, .list 4 .none (l.map av)] (.bool true) := by
  refine PureC.intro fun s => fun_sound mixed Try.func6 Try.call6 c6 rfl (awpFun_go _ _ _ _ ?_)
  have h25 := p25 t
  have h26 := p26 t
  have h27 := p27 t l
  have h28 := p28 h72 t l
  have h13 := p13 t
  by_cases hp : proper t = true
  · rw [if_pos hp] at h25 h26
    rw [hp] at h13
    have hgs := hdl_gd t.ht t [] (.of hp) (by simp)
    have hga := splt_gd t.ht t [] (.of hp) (by simp)
    have hls := hdl_len t.ht t []
    have hla := splt_len t.ht t []
    have hft := (proper_fit hp).2
    rw [← spine] at hgs hls
    rw [← argsOf] at hga hla
    have h29 := p29 t hp
    have h30 := p30 t (.of hp) (by omega)
    have s31 := p31 (spine t).1 hgs.1.lim (spine t).1
    have a31 := p31 (argsOf t).2 hga.1.lim (argsOf t).2
    have s32 := p32 (spine t).2 (spine t).2 hgs.2 (by simp at hls; omega)
    have a32' := p32 (argsOf t).1 (argsOf t).1 hga.2 (by simp at hla; omega)
    rw [same_refl] at s31 a31
    rw [sames_refl _ fun x _ => same_refl x] at s32 a32'
    have h14 := p14 l
    by_cases hpl : propers l = true
    · rw [if_pos (by rw [hp, hpl]; rfl)] at h27 h28
      rw [hpl] at h14
      have hall : l.length ≤ 600 ∧ ∀ x ∈ l, proper x = true := by simpa [propers] using hpl
      obtain ⟨u, e, hu, hf1, hw1⟩ := fin_whol (apply t l)
      obtain ⟨v, i, hv, hf2, hw2⟩ := fin_whol (funs l t)
      rw [hf1] at h27
      rw [hf2] at h28
      have h33 := p33 t l (by omega)
      have h34 := p34 l t (by omega)
      have w17 := p17 u e (apply t l) hu
      have x17 := p17 v i (funs l t) hv
      rw [hw1] at w17
      rw [hw2] at x17
      clear hf1 hf2 hw1 hw2 hgs hga hls hla
      generalize spine t = R at *
      generalize argsOf t = B at *
      obtain ⟨k, sp⟩ := R
      obtain ⟨b, lf⟩ := B
      simp only at *
      generalize apply t l = AP at *
      generalize funs l t = FU at *
      simp (implicitDefEqProofs := false) (maxSteps := 2000000) (disch := (first | omega | (simp only [St.new_nx, St.set_nx, St.del_nx, St.bump_nx]; done) | (simp only [St.new_nx, St.set_nx, St.del_nx, St.bump_nx]; omega) | fail)) [a6, a6b, a6r0, a6r1]
      refine go_pure h25 fun mm7 hm7 => ?_
      try simp only [St.new_nx, St.bump_nx, St.set_nx, St.del_nx] at hm7
      simp (implicitDefEqProofs := false) (maxSteps := 2000000) (disch := (first | omega | (simp only [St.new_nx, St.set_nx, St.del_nx, St.bump_nx]; done) | (simp only [St.new_nx, St.set_nx, St.del_nx, St.bump_nx]; omega) | fail)) [a6r2]
      refine go_pure h26 fun mm8 hm8 => ?_
      try simp only [St.new_nx, St.bump_nx, St.set_nx, St.del_nx] at hm8
      simp (implicitDefEqProofs := false) (maxSteps := 2000000) (disch := (first | omega | (simp only [St.new_nx, St.set_nx, St.del_nx, St.bump_nx]; done) | (simp only [St.new_nx, St.set_nx, St.del_nx, St.bump_nx]; omega) | fail)) [a6r3]
      refine pcV_intro (PureC.argw h27 (by simp)) ?_
      simp (implicitDefEqProofs := false) (maxSteps := 2000000) (disch := (first | omega | (simp only [St.new_nx, St.set_nx, St.del_nx, St.bump_nx]; done) | (simp only [St.new_nx, St.set_nx, St.del_nx, St.bump_nx]; omega) | fail)) [a6r4]
      intro m1 k1
      try simp only [St.new_nx, St.bump_nx, St.set_nx, St.del_nx] at k1
      refine ok_intro (by omega) ?_
      simp (implicitDefEqProofs := false) (maxSteps := 2000000) (disch := (first | omega | (simp only [St.new_nx, St.set_nx, St.del_nx, St.bump_nx]; done) | (simp only [St.new_nx, St.set_nx, St.del_nx, St.bump_nx]; omega) | fail))
      refine pcV_intro (PureC.argw h28 (by simp)) ?_
      simp (implicitDefEqProofs := false) (maxSteps := 2000000) (disch := (first | omega | (simp only [St.new_nx, St.set_nx, St.del_nx, St.bump_nx]; done) | (simp only [St.new_nx, St.set_nx, St.del_nx, St.bump_nx]; omega) | fail)) [a6r5]
      intro m2 k2
      refine go_pure h13 fun mm9 hm9 => ?_
      try simp only [St.new_nx, St.bump_nx, St.set_nx, St.del_nx] at hm9
      simp (implicitDefEqProofs := false) (maxSteps := 2000000) (disch := (first | omega | (simp only [St.new_nx, St.set_nx, St.del_nx, St.bump_nx]; done) | (simp only [St.new_nx, St.set_nx, St.del_nx, St.bump_nx]; omega) | fail)) [a6r7]
      refine go_pure h29 fun mm10 hm10 => ?_
      try simp only [St.new_nx, St.bump_nx, St.set_nx, St.del_nx] at hm10
      simp (implicitDefEqProofs := false) (maxSteps := 2000000) (disch := (first | omega | (simp only [St.new_nx, St.set_nx, St.del_nx, St.bump_nx]; done) | (simp only [St.new_nx, St.set_nx, St.del_nx, St.bump_nx]; omega) | fail)) [a6r8]
      refine go_pure h30 fun mm11 hm11 => ?_
      try simp only [St.new_nx, St.bump_nx, St.set_nx, St.del_nx] at hm11
      simp (implicitDefEqProofs := false) (maxSteps := 2000000) (disch := (first | omega | (simp only [St.new_nx, St.set_nx, St.del_nx, St.bump_nx]; done) | (simp only [St.new_nx, St.set_nx, St.del_nx, St.bump_nx]; omega) | fail)) [a6r9]
      refine go_pure s31 fun mm12 hm12 => ?_
      try simp only [St.new_nx, St.bump_nx, St.set_nx, St.del_nx] at hm12
      simp (implicitDefEqProofs := false) (maxSteps := 2000000) (disch := (first | omega | (simp only [St.new_nx, St.set_nx, St.del_nx, St.bump_nx]; done) | (simp only [St.new_nx, St.set_nx, St.del_nx, St.bump_nx]; omega) | fail))
      refine go_pure s32 fun mm13 hm13 => ?_
      try simp only [St.new_nx, St.bump_nx, St.set_nx, St.del_nx] at hm13
      simp (implicitDefEqProofs := false) (maxSteps := 2000000) (disch := (first | omega | (simp only [St.new_nx, St.set_nx, St.del_nx, St.bump_nx]; done) | (simp only [St.new_nx, St.set_nx, St.del_nx, St.bump_nx]; omega) | fail))
      refine go_pure a32' fun mm14 hm14 => ?_
      try simp only [St.new_nx, St.bump_nx, St.set_nx, St.del_nx] at hm14
      simp (implicitDefEqProofs := false) (maxSteps := 2000000) (disch := (first | omega | (simp only [St.new_nx, St.set_nx, St.del_nx, St.bump_nx]; done) | (simp only [St.new_nx, St.set_nx, St.del_nx, St.bump_nx]; omega) | fail))
      refine go_pure a31 fun mm15 hm15 => ?_
      try simp only [St.new_nx, St.bump_nx, St.set_nx, St.del_nx] at hm15
      simp (implicitDefEqProofs := false) (maxSteps := 2000000) (disch := (first | omega | (simp only [St.new_nx, St.set_nx, St.del_nx, St.bump_nx]; done) | (simp only [St.new_nx, St.set_nx, St.del_nx, St.bump_nx]; omega) | fail)) [a6r11]
      refine go_pure h14 fun mm16 hm16 => ?_
      try simp only [St.new_nx, St.bump_nx, St.set_nx, St.del_nx] at hm16
      simp (implicitDefEqProofs := false) (maxSteps := 2000000) (disch := (first | omega | (simp only [St.new_nx, St.set_nx, St.del_nx, St.bump_nx]; done) | (simp only [St.new_nx, St.set_nx, St.del_nx, St.bump_nx]; omega) | fail)) [a6r13]
      refine pcV_intro h33 ?_
      simp (implicitDefEqProofs := false) (maxSteps := 2000000) (disch := (first | omega | (simp only [St.new_nx, St.set_nx, St.del_nx, St.bump_nx]; done) | (simp only [St.new_nx, St.set_nx, St.del_nx, St.bump_nx]; omega) | fail))
      refine pcV_intro w17 ?_
      simp (implicitDefEqProofs := false) (maxSteps := 2000000) (disch := (first | omega | (simp only [St.new_nx, St.set_nx, St.del_nx, St.bump_nx]; done) | (simp only [St.new_nx, St.set_nx, St.del_nx, St.bump_nx]; omega) | fail))
      refine pcV_intro h34 ?_
      simp (implicitDefEqProofs := false) (maxSteps := 2000000) (disch := (first | omega | (simp only [St.new_nx, St.set_nx, St.del_nx, St.bump_nx]; done) | (simp only [St.new_nx, St.set_nx, St.del_nx, St.bump_nx]; omega) | fail))
      refine pcV_intro x17 ?_
      simp (implicitDefEqProofs := false) (maxSteps := 2000000) (disch := (first | omega | (simp only [St.new_nx, St.set_nx, St.del_nx, St.bump_nx]; done) | (simp only [St.new_nx, St.set_nx, St.del_nx, St.bump_nx]; omega) | fail))
      refine pcV_intro p16 ?_
      simp (implicitDefEqProofs := false) (maxSteps := 2000000) (disch := (first | omega | (simp only [St.new_nx, St.set_nx, St.del_nx, St.bump_nx]; done) | (simp only [St.new_nx, St.set_nx, St.del_nx, St.bump_nx]; omega) | fail))
    · have hpl' : propers l = false := by simpa using hpl
      rw [if_neg (by simp [hpl'])] at h27 h28
      rw [hpl'] at h14
      clear hgs hga hls hla
      generalize spine t = R at *
      generalize argsOf t = B at *
      obtain ⟨k, sp⟩ := R
      obtain ⟨b, lf⟩ := B
      simp only at *
      simp (implicitDefEqProofs := false) (maxSteps := 2000000) (disch := (first | omega | (simp only [St.new_nx, St.set_nx, St.del_nx, St.bump_nx]; done) | (simp only [St.new_nx, St.set_nx, St.del_nx, St.bump_nx]; omega) | fail)) [a6, a6b, a6r0, a6r1]
      refine go_pure h25 fun mm17 hm17 => ?_
      try simp only [St.new_nx, St.bump_nx, St.set_nx, St.del_nx] at hm17
      simp (implicitDefEqProofs := false) (maxSteps := 2000000) (disch := (first | omega | (simp only [St.new_nx, St.set_nx, St.del_nx, St.bump_nx]; done) | (simp only [St.new_nx, St.set_nx, St.del_nx, St.bump_nx]; omega) | fail)) [a6r2]
      refine go_pure h26 fun mm18 hm18 => ?_
      try simp only [St.new_nx, St.bump_nx, St.set_nx, St.del_nx] at hm18
      simp (implicitDefEqProofs := false) (maxSteps := 2000000) (disch := (first | omega | (simp only [St.new_nx, St.set_nx, St.del_nx, St.bump_nx]; done) | (simp only [St.new_nx, St.set_nx, St.del_nx, St.bump_nx]; omega) | fail)) [a6r3]
      refine pcV_intro (PureC.argw h27 (by simp)) ?_
      simp (implicitDefEqProofs := false) (maxSteps := 2000000) (disch := (first | omega | (simp only [St.new_nx, St.set_nx, St.del_nx, St.bump_nx]; done) | (simp only [St.new_nx, St.set_nx, St.del_nx, St.bump_nx]; omega) | fail)) [a6r4]
      intro m1 k1
      try simp only [St.new_nx, St.bump_nx, St.set_nx, St.del_nx] at k1
      refine ok_intro (by omega) ?_
      simp (implicitDefEqProofs := false) (maxSteps := 2000000) (disch := (first | omega | (simp only [St.new_nx, St.set_nx, St.del_nx, St.bump_nx]; done) | (simp only [St.new_nx, St.set_nx, St.del_nx, St.bump_nx]; omega) | fail))
      refine pcV_intro (PureC.argw h28 (by simp)) ?_
      simp (implicitDefEqProofs := false) (maxSteps := 2000000) (disch := (first | omega | (simp only [St.new_nx, St.set_nx, St.del_nx, St.bump_nx]; done) | (simp only [St.new_nx, St.set_nx, St.del_nx, St.bump_nx]; omega) | fail)) [a6r5]
      intro m2 k2
      refine go_pure h13 fun mm19 hm19 => ?_
      try simp only [St.new_nx, St.bump_nx, St.set_nx, St.del_nx] at hm19
      simp (implicitDefEqProofs := false) (maxSteps := 2000000) (disch := (first | omega | (simp only [St.new_nx, St.set_nx, St.del_nx, St.bump_nx]; done) | (simp only [St.new_nx, St.set_nx, St.del_nx, St.bump_nx]; omega) | fail)) [a6r7]
      refine go_pure h29 fun mm20 hm20 => ?_
      try simp only [St.new_nx, St.bump_nx, St.set_nx, St.del_nx] at hm20
      simp (implicitDefEqProofs := false) (maxSteps := 2000000) (disch := (first | omega | (simp only [St.new_nx, St.set_nx, St.del_nx, St.bump_nx]; done) | (simp only [St.new_nx, St.set_nx, St.del_nx, St.bump_nx]; omega) | fail)) [a6r8]
      refine go_pure h30 fun mm21 hm21 => ?_
      try simp only [St.new_nx, St.bump_nx, St.set_nx, St.del_nx] at hm21
      simp (implicitDefEqProofs := false) (maxSteps := 2000000) (disch := (first | omega | (simp only [St.new_nx, St.set_nx, St.del_nx, St.bump_nx]; done) | (simp only [St.new_nx, St.set_nx, St.del_nx, St.bump_nx]; omega) | fail)) [a6r9]
      refine go_pure s31 fun mm22 hm22 => ?_
      try simp only [St.new_nx, St.bump_nx, St.set_nx, St.del_nx] at hm22
      simp (implicitDefEqProofs := false) (maxSteps := 2000000) (disch := (first | omega | (simp only [St.new_nx, St.set_nx, St.del_nx, St.bump_nx]; done) | (simp only [St.new_nx, St.set_nx, St.del_nx, St.bump_nx]; omega) | fail))
      refine go_pure s32 fun mm23 hm23 => ?_
      try simp only [St.new_nx, St.bump_nx, St.set_nx, St.del_nx] at hm23
      simp (implicitDefEqProofs := false) (maxSteps := 2000000) (disch := (first | omega | (simp only [St.new_nx, St.set_nx, St.del_nx, St.bump_nx]; done) | (simp only [St.new_nx, St.set_nx, St.del_nx, St.bump_nx]; omega) | fail))
      refine go_pure a32' fun mm24 hm24 => ?_
      try simp only [St.new_nx, St.bump_nx, St.set_nx, St.del_nx] at hm24
      simp (implicitDefEqProofs := false) (maxSteps := 2000000) (disch := (first | omega | (simp only [St.new_nx, St.set_nx, St.del_nx, St.bump_nx]; done) | (simp only [St.new_nx, St.set_nx, St.del_nx, St.bump_nx]; omega) | fail))
      refine go_pure a31 fun mm25 hm25 => ?_
      try simp only [St.new_nx, St.bump_nx, St.set_nx, St.del_nx] at hm25
      simp (implicitDefEqProofs := false) (maxSteps := 2000000) (disch := (first | omega | (simp only [St.new_nx, St.set_nx, St.del_nx, St.bump_nx]; done) | (simp only [St.new_nx, St.set_nx, St.del_nx, St.bump_nx]; omega) | fail)) [a6r11]
      refine go_pure h14 fun mm26 hm26 => ?_
      try simp only [St.new_nx, St.bump_nx, St.set_nx, St.del_nx] at hm26
      simp (implicitDefEqProofs := false) (maxSteps := 2000000) (disch := (first | omega | (simp only [St.new_nx, St.set_nx, St.del_nx, St.bump_nx]; done) | (simp only [St.new_nx, St.set_nx, St.del_nx, St.bump_nx]; omega) | fail)) [a6r12]
      refine go_pure p15n fun mm27 hm27 => ?_
      try simp only [St.new_nx, St.bump_nx, St.set_nx, St.del_nx] at hm27
      simp (implicitDefEqProofs := false) (maxSteps := 2000000) (disch := (first | omega | (simp only [St.new_nx, St.set_nx, St.del_nx, St.bump_nx]; done) | (simp only [St.new_nx, St.set_nx, St.del_nx, St.bump_nx]; omega) | fail))
      refine go_pure p15n fun mm28 hm28 => ?_
      try simp only [St.new_nx, St.bump_nx, St.set_nx, St.del_nx] at hm28
      simp (implicitDefEqProofs := false) (maxSteps := 2000000) (disch := (first | omega | (simp only [St.new_nx, St.set_nx, St.del_nx, St.bump_nx]; done) | (simp only [St.new_nx, St.set_nx, St.del_nx, St.bump_nx]; omega) | fail))
      refine go_pure p16 fun mm29 hm29 => ?_
      try simp only [St.new_nx, St.bump_nx, St.set_nx, St.del_nx] at hm29
      simp (implicitDefEqProofs := false) (maxSteps := 2000000) (disch := (first | omega | (simp only [St.new_nx, St.set_nx, St.del_nx, St.bump_nx]; done) | (simp only [St.new_nx, St.set_nx, St.del_nx, St.bump_nx]; omega) | fail))
  · have hp' : proper t = false := by simpa using hp
    rw [if_neg hp] at h25 h26
    rw [if_neg (by simp [hp'])] at h27 h28
    rw [hp'] at h13
    simp (implicitDefEqProofs := false) (maxSteps := 2000000) (disch := (first | omega | (simp only [St.new_nx, St.set_nx, St.del_nx, St.bump_nx]; done) | (simp only [St.new_nx, St.set_nx, St.del_nx, St.bump_nx]; omega) | fail)) [a6, a6b, a6r0, a6r1]
    refine go_pure h25 fun mm30 hm30 => ?_
    try simp only [St.new_nx, St.bump_nx, St.set_nx, St.del_nx] at hm30
    simp (implicitDefEqProofs := false) (maxSteps := 2000000) (disch := (first | omega | (simp only [St.new_nx, St.set_nx, St.del_nx, St.bump_nx]; done) | (simp only [St.new_nx, St.set_nx, St.del_nx, St.bump_nx]; omega) | fail)) [a6r2]
    refine go_pure h26 fun mm31 hm31 => ?_
    try simp only [St.new_nx, St.bump_nx, St.set_nx, St.del_nx] at hm31
    simp (implicitDefEqProofs := false) (maxSteps := 2000000) (disch := (first | omega | (simp only [St.new_nx, St.set_nx, St.del_nx, St.bump_nx]; done) | (simp only [St.new_nx, St.set_nx, St.del_nx, St.bump_nx]; omega) | fail)) [a6r3]
    refine pcV_intro (PureC.argw h27 (by simp)) ?_
    simp (implicitDefEqProofs := false) (maxSteps := 2000000) (disch := (first | omega | (simp only [St.new_nx, St.set_nx, St.del_nx, St.bump_nx]; done) | (simp only [St.new_nx, St.set_nx, St.del_nx, St.bump_nx]; omega) | fail)) [a6r4]
    intro m1 k1
    try simp only [St.new_nx, St.bump_nx, St.set_nx, St.del_nx] at k1
    refine ok_intro (by omega) ?_
    simp (implicitDefEqProofs := false) (maxSteps := 2000000) (disch := (first | omega | (simp only [St.new_nx, St.set_nx, St.del_nx, St.bump_nx]; done) | (simp only [St.new_nx, St.set_nx, St.del_nx, St.bump_nx]; omega) | fail))
    refine pcV_intro (PureC.argw h28 (by simp)) ?_
    simp (implicitDefEqProofs := false) (maxSteps := 2000000) (disch := (first | omega | (simp only [St.new_nx, St.set_nx, St.del_nx, St.bump_nx]; done) | (simp only [St.new_nx, St.set_nx, St.del_nx, St.bump_nx]; omega) | fail)) [a6r5]
    intro m2 k2
    refine go_pure h13 fun mm32 hm32 => ?_
    try simp only [St.new_nx, St.bump_nx, St.set_nx, St.del_nx] at hm32
    simp (implicitDefEqProofs := false) (maxSteps := 2000000) (disch := (first | omega | (simp only [St.new_nx, St.set_nx, St.del_nx, St.bump_nx]; done) | (simp only [St.new_nx, St.set_nx, St.del_nx, St.bump_nx]; omega) | fail)) [a6r6]
    refine go_pure p15n fun mm33 hm33 => ?_
    try simp only [St.new_nx, St.bump_nx, St.set_nx, St.del_nx] at hm33
    simp (implicitDefEqProofs := false) (maxSteps := 2000000) (disch := (first | omega | (simp only [St.new_nx, St.set_nx, St.del_nx, St.bump_nx]; done) | (simp only [St.new_nx, St.set_nx, St.del_nx, St.bump_nx]; omega) | fail))
    refine go_pure p15n fun mm34 hm34 => ?_
    try simp only [St.new_nx, St.bump_nx, St.set_nx, St.del_nx] at hm34
    simp (implicitDefEqProofs := false) (maxSteps := 2000000) (disch := (first | omega | (simp only [St.new_nx, St.set_nx, St.del_nx, St.bump_nx]; done) | (simp only [St.new_nx, St.set_nx, St.del_nx, St.bump_nx]; omega) | fail))
    refine go_pure p15n fun mm35 hm35 => ?_
    try simp only [St.new_nx, St.bump_nx, St.set_nx, St.del_nx] at hm35
    simp (implicitDefEqProofs := false) (maxSteps := 2000000) (disch := (first | omega | (simp only [St.new_nx, St.set_nx, St.del_nx, St.bump_nx]; done) | (simp only [St.new_nx, St.set_nx, St.del_nx, St.bump_nx]; omega) | fail))
    refine go_pure p15n fun mm36 hm36 => ?_
    try simp only [St.new_nx, St.bump_nx, St.set_nx, St.del_nx] at hm36
    simp (implicitDefEqProofs := false) (maxSteps := 2000000) (disch := (first | omega | (simp only [St.new_nx, St.set_nx, St.del_nx, St.bump_nx]; done) | (simp only [St.new_nx, St.set_nx, St.del_nx, St.bump_nx]; omega) | fail)) [show IntKind.i64.wrap 0 = 0 from rfl]
    refine go_pure p16 fun mm37 hm37 => ?_
    try simp only [St.new_nx, St.bump_nx, St.set_nx, St.del_nx] at hm37
    simp (implicitDefEqProofs := false) (maxSteps := 2000000) (disch := (first | omega | (simp only [St.new_nx, St.set_nx, St.del_nx, St.bump_nx]; done) | (simp only [St.new_nx, St.set_nx, St.del_nx, St.bump_nx]; omega) | fail))
end Go.AL.Ty
/- The abstract layer: regions within a fence, and in the rounds of a range over a function. -/
set_option linter.unusedVariables false
set_option linter.unusedSimpArgs false
namespace Go.AL
variable {P : Program} {gs : List Nat} {N : Nat} {ι ι' : Nat → Option Nat} {g l : Env} {s s' : St} {a : Act} {w w' : World}

def inR (ro : Option Nat) : Fence := { Fence.wide with round := ro }

theorem calls_inR {ro : Option Nat} {n : Nat} {f : FuncId} {args : Array Value} {R : Ending → World → Prop} (h : Calls P f args w R) : CallsIn (inR ro) n P f args w R :=
  (callsIn_wide (n := n)).2 h

theorem rows_inR {ro : Option Nat} {n : Nat} {row : String} {args : Array Value} {R : Value → World → Prop} (h : Rows P row args w R) : RowsIn (inR ro) n P row args w R :=
  fun c cs _ => let ⟨v, w', r, s⟩ := h c cs; ⟨v, w', r, stepsIn_wide.2 s⟩

def withD (d : List Deferred) (a : Act) : Act := { a with defers := d }
theorem withD_put (d : List Deferred) (a : Act) (t : Option Tmp) (v : Value) : (withD d a).put t v = withD d (a.put t v) := by cases t <;> rfl
theorem withD_eval (d : List Deferred) (a : Act) : (withD d a).eval = a.eval := rfl

theorem no_defer {ops : Array Oper} {Q : Exit → Act → World → Prop} (hpan : ∀ ch a w, ¬ Q (.panic ch) a w) (hout : ¬ LetsOut Q) (hQ : ∀ a w, Q .normal a w → a.defers = []) :
    ∀ (l : List Nat) (a : Act) (w : World), a.defers ≠ [] → wpOps P ops Q l a w → False := by
  intro l
  induction l with
  | nil => intro a w ha h; exact ha (hQ a w h)
  | cons i l ih =>
    intro a w ha h
    have hput : ∀ (t : Option Tmp) v, (a.put t v).defers ≠ [] := by
      intro t v
      cases t <;> exact ha
    simp only [wpOps] at h
    cases ho : ops[i]? with
    | none => simp only [ho] at h; exact ih a w ha h
    | some o =>
      simp only [ho] at h
      split at h
      · rcases h with h | ⟨_, h⟩
        · unfold Oper.wp at h
          generalize (execOp a.eval o).run P w = r at h
          cases r with
          | ok x w1 =>
            cases x with
            | value v => exact ih _ _ (hput _ _) h
            | skip => exact ih _ _ (hput _ _) h
            | enter f args =>
              obtain ⟨e, w2, fr, he, _⟩ := h []
              cases e with
              | returned v => exact ih _ _ (hput _ _) he
              | panicked ch => exact hpan _ _ _ he
              | outgrown => exact hout he
            | row row args =>
              obtain ⟨v, w2, he, _⟩ := h default []
              exact ih _ _ (hput _ _) he
            | defer c =>
              refine ih _ _ ?_ h
              cases o.dst <;> simp [Act.put]
            | _ => exact h
          | halt x w1 =>
            cases x with
            | panic v => exact hpan _ _ _ h
            | _ => exact h
        · exact hout h
      · exact ih _ _ (hput _ _) h

/-- Operations that are no defer statements: what they come to in the plain world they come to in a fence, whatever is deferred; slots that none of them writes stay. -/
theorem wpOps_inR {ops : Array Oper} {ro : Option Nat} {n : Nat} {d : List Deferred} {T : Nat → Prop} {Q Q' : Exit → Act → World → Prop} {rest : List Nat}
    (hnd : ∀ (i : Nat) (o : Oper), ops[i]? = some o → ∀ c, o.op ≠ .defer c) (hdf : ∀ a w, Q .normal a w → a.defers = []) (hpan : ∀ ch a w, ¬ Q (.panic ch) a w) (hout : ¬ LetsOut Q)
    (a0 : Act) (hQ : ∀ a' w', Q .normal a' w' → (∀ t, T t → a'.tmps.getD t undef = a0.tmps.getD t undef) → wpOpsIn (inR ro) n P ops Q' rest (withD d a') w') :
    ∀ (l : List Nat), (∀ i ∈ l, ∀ o, ops[i]? = some o → ∀ t, o.dst = some t → ¬ T t) → ∀ (a : Act) (w : World), (∀ t, T t → a.tmps.getD t undef = a0.tmps.getD t undef) → wpOps P ops Q l a w → wpOpsIn (inR ro) n P ops Q' (l ++ rest) (withD d a) w := by
  intro l
  induction l with
  | nil =>
    intro _ a w hT h
    exact hQ a w h hT
  | cons i l ih =>
    intro hd a w hT h
    have ih' := ih (fun j hj => hd j (List.mem_cons_of_mem _ hj))
    simp only [List.cons_append, wpOps, wpOpsIn] at h ⊢
    cases ho : ops[i]? with
    | none =>
      simp only [ho] at h ⊢
      exact ih' a w hT h
    | some o =>
      simp only [ho] at h ⊢
      have hput : ∀ v t, T t → (a.put o.dst v).tmps.getD t undef = a0.tmps.getD t undef := by
        intro v t ht
        rw [← hT t ht]
        cases hdst : o.dst with
        | none => rfl
        | some u =>
          have hne : u ≠ t := fun e => hd i (List.mem_cons_self ..) o ho u hdst (e ▸ ht)
          simp [Act.put, Array.getElem?_setIfInBounds_ne hne]
      have hy : yielded ops (withD d a).tmps = yielded ops a.tmps := rfl
      rw [hy]
      split
      · rename_i hw
        rw [if_pos hw] at h
        rcases h with h | ⟨_, h⟩
        · refine ⟨fun _ _ => trivial, ?_⟩
          rw [Oper.semAt_eq _ _ _ (hnd i o ho), withD_eval]
          unfold Oper.wp at h
          generalize (execOp a.eval o).run P w = r at h ⊢
          cases r with
          | ok x w1 =>
            cases x with
            | value v => simp only [Oper.upon, Oper.uponIn] at h ⊢; rw [withD_put]; exact ih' _ _ (hput v) h
            | skip => simp only [Oper.upon, Oper.uponIn] at h ⊢; rw [withD_put]; exact ih' _ _ (hput _) h
            | enter f args =>
              simp only [Oper.upon, Oper.uponIn] at h ⊢
              refine ⟨by simp [inR, Fence.wide], CallsIn.mono (calls_inR h) fun e w2 he => ?_⟩
              cases e with
              | returned v => simp only at he ⊢; rw [withD_put]; exact ih' _ _ (hput v) he
              | panicked ch => exact (hpan _ _ _ he).elim
              | outgrown => exact (hout he).elim
            | row row args =>
              simp only [Oper.upon, Oper.uponIn] at h ⊢
              refine ⟨by simp [inR, Fence.wide], RowsIn.mono (rows_inR h) fun v w2 he => ?_⟩
              rw [withD_put]; exact ih' _ _ (hput v) he
            | defer c => 
              exfalso
              refine no_defer hpan hout hdf l _ _ ?_ h
              cases o.dst <;> simp [Act.put]
            | _ => simp only [Oper.upon] at h
          | halt x w1 =>
            cases x with
            | panic v => exact (hpan _ _ _ h).elim
            | _ => exact h.elim
        · exact (hout h).elim
      · rename_i hw
        rw [if_neg hw] at h
        refine ⟨fun _ _ => trivial, ?_⟩
        rw [withD_put]; exact ih' _ _ (hput _) h

theorem seq_part {ops : Array Oper} {ι0 : Nat → Option Nat} {s0 : St} {w0 : World} {K : Env → Env → St → Prop} {Q : Exit → Act → World → Prop} {r' : List Oper}
    (hQ : ∀ ι' g' l' s' a' w', Rel gs N ι' g' l' s' a' w' → Step ι0 s0.m w0 ι' s'.m w' → Inc ι0 ι' s0.nx s'.nx → K g' l' s' → Q .normal a' w') :
    ∀ (r : List Oper) (k : Nat) (os : List AOper), ops.toList.drop k = r ++ r' → compileSeq P gs N ops r = some os → ∀ (ι : Nat → Option Nat) (g l : Env) (s : St) (a : Act) (w : World),
      aops P os K g l s → Rel gs N ι g l s a w → Step ι0 s0.m w0 ι s.m w → Inc ι0 ι s0.nx s.nx → wpOps P ops Q (List.range' k r.length) a w := by
  intro r
  induction r with
  | nil =>
    intro k os hk hc ι g l s a w h hrel hst hn
    simp [compileSeq] at hc
    subst hc
    exact hQ ι g l s a w hrel hst hn h
  | cons o r ih =>
    intro k os hk hc ι g l s a w h hrel hst hn
    simp only [compileSeq] at hc
    split at hc
    · rename_i ao os' h1 h2
      cases hc
      have hi : ops[k]? = some o := by
        have : (ops.toList.drop k)[0]? = some o := by rw [hk]; rfl
        simpa using this
      have hk' : ops.toList.drop (k + 1) = r ++ r' := by
        rw [← List.drop_drop, hk]; rfl
      simp only [List.length_cons, List.range'_succ]
      refine oper_seq rfl hi h1 hrel (run := fun g l => ao.op.step P g l s fun v s' => setDst ao.dst v g l fun g' l' => aops P os' K g' l' s') (fun _ _ h => h) ?_ (fun ι' g' l' s' a' w' k1 k2 k3 k4 => ih (k + 1) os' hk' h2 ι' g' l' s' a' w' k4 k1 (hst.trans k2) (hn.trans k3))
      simpa only [aops] using h
    · cases hc

def tame (ops : Array Oper) : Bool := ops.toList.all fun o => match o.op with | .defer _ => false | _ => true

/-- The first operations of a region. -/
theorem part_inR {ops : Array Oper} {ro : Option Nat} {n : Nat} {d : List Deferred} {Q' : Exit → Act → World → Prop} {r r' : List Oper} {os : List AOper} {ι0 : Nat → Option Nat} {s0 : St} {w0 : World} {K : Env → Env → St → Prop}
    (htame : tame ops = true) (hr : ops.toList = r ++ r') (hc : compileSeq P gs N ops r = some os)
    (h : aops P os K g l s) (hrel : Rel gs N ι g l s a w) (hst : Step ι0 s0.m w0 ι s.m w) (hn : Inc ι0 ι s0.nx s.nx)
    (hQ : ∀ ι' g' l' s' a' w', Rel gs N ι' g' l' s' a' w' → Step ι0 s0.m w0 ι' s'.m w' → Inc ι0 ι' s0.nx s'.nx → K g' l' s' →
      (∀ t, (∀ o ∈ r, o.dst ≠ some t) → a'.tmps.getD t undef = a.tmps.getD t undef) → wpOpsIn (inR ro) n P ops Q' (List.range' r.length r'.length) (withD d a') w') :
    wpOpsIn (inR ro) n P ops Q' (List.range ops.size) (withD d a) w := by
  have hsize : ops.size = r.length + r'.length := by rw [← Array.length_toList, hr, List.length_append]
  have hl : List.range ops.size = List.range' 0 r.length ++ List.range' r.length r'.length := by
    rw [hsize, List.range_eq_range']
    simpa using (List.range'_append (s := 0) (step := 1) (m := r.length) (n := r'.length)).symm
  rw [hl]
  refine wpOps_inR (T := fun t => ∀ o ∈ r, o.dst ≠ some t) (Q := fun e a' w' => match e with | .normal => ∃ ι' g' l' s', Rel gs N ι' g' l' s' a' w' ∧ Step ι0 s0.m w0 ι' s'.m w' ∧ Inc ι0 ι' s0.nx s'.nx ∧ K g' l' s' | _ => False)
    ?_ ?_ (fun _ _ _ h => h) (by rintro ⟨_, _, h⟩; exact h) a (fun a' w' ⟨ι', g', l', s', h1, h2, h3, h4⟩ ht => hQ ι' g' l' s' a' w' h1 h2 h3 h4 ht) _ ?_ a w (fun _ _ => rfl) ?_
  · intro i o ho c hop
    have : o ∈ ops.toList := by
      have := Array.mem_of_getElem? ho
      simpa using this
    have := (List.all_eq_true.1 htame) o this
    rw [hop] at this
    cases this
  · rintro a w ⟨_, _, _, _, h, _⟩
    exact h.defers
  · intro i hi o ho t ht hT
    have hi' : i < r.length := by simpa using hi
    have : ops.toList[i]? = some o := by simpa using ho
    rw [hr, List.getElem?_append_left hi'] at this
    exact hT o (List.mem_of_getElem? this) ht
  · exact seq_part (r' := r') (fun ι' g' l' s' a' w' h1 h2 h3 h4 => ⟨ι', g', l', s', h1, h2, h3, h4⟩) r 0 os (by simpa using hr) hc ι g l s a w h hrel hst hn

/-- A region that draws nothing. -/
theorem region_inR {id : Nat} {ops : Array Oper} {ro : Option Nat} {n : Nat} {d : List Deferred} {Q' : Exit → Act → World → Prop} {os : List AOper} {ι0 : Nat → Option Nat} {s0 : St} {w0 : World} {K : Env → Env → St → Prop}
    (htame : tame ops = true) (hc : compileSeq P gs N ops ops.toList = some os)
    (h : aops P os K g l s) (hrel : Rel gs N ι g l s a w) (hst : Step ι0 s0.m w0 ι s.m w) (hn : Inc ι0 ι s0.nx s.nx)
    (hQ : ∀ ι' g' l' s' a' w', Rel gs N ι' g' l' s' a' w' → Step ι0 s0.m w0 ι' s'.m w' → Inc ι0 ι' s0.nx s'.nx → K g' l' s' →
      (∀ t, (∀ o ∈ ops.toList, o.dst ≠ some t) → a'.tmps.getD t undef = a.tmps.getD t undef) → Q' .normal (withD d a') w') :
    (Code.region id ops false).wpIn (inR ro) n P Q' (withD d a) w :=
  wpIn_region (part_inR (r := ops.toList) (r' := []) htame (by simp) hc h hrel hst hn fun ι' g' l' s' a' w' h1 h2 h3 h4 h5 => by simpa [wpOpsIn] using hQ ι' g' l' s' a' w' h1 h2 h3 h4 h5)

/-! ## Blocks that are no objects -/

theorem rep_keepc {ι ι' : Nat → Option Nat} {F F' : Nat → Nat → Prop} {w w' : World}
    (hext : ∀ o b, ι o = some b → ι' o = some b)
    (hcell : ∀ b off v, w.cell? ⟨b, off, none⟩ = some v → ¬ F b off → w'.cell? ⟨b, off, none⟩ = some v)
    (hfoot : ∀ b off, b < w.heap.size → F' b off → F b off)
    (hshape : ∀ b n, BlockOf w b n → BlockOf w' b n) {v : Value} {x : AV} (h : Rep ι F w v x) : Rep ι' F' w' v x := by
  induction h with
  | any v => exact .any v
  | bool b => exact .bool b
  | int k n => exact .int k n
  | str s => exact .str s
  | @list a len cap sz t xs cs hlen hcap hsz ht hnone hc hr ih =>
    refine .list cs hlen hcap hsz ?_ hnone (fun j hj => ?_) ih
    · cases t with
      | none => trivial
      | full => exact ht
      | own o =>
        rcases ht with ht | ⟨b, h1, h2, h3⟩
        · exact .inl ht
        · exact .inr ⟨b, hext _ _ h1, h2, hshape _ _ h3⟩
    · obtain ⟨ad, h1, h2, h3, h4, h5⟩ := hc j hj
      have hb := lt_of_cell h3
      exact ⟨ad, h1, h2, hcell _ _ _ h3 h4, fun hf => h4 (hfoot _ _ hb hf), h5⟩
  | agg hl hc hr ih => exact .agg hl hc ih
  | tup hl hr ih => exact .tup hl ih
  | ptr off h => exact .ptr off (hext _ _ h)
  | cptr cs ha hc hr ih =>
    refine .cptr cs ha (fun j hj => ?_) ih
    obtain ⟨h3, h4, h5⟩ := hc j hj
    have hb := lt_of_cell h3
    exact ⟨hcell _ _ _ h3 h4, fun hf => h4 (hfoot _ _ hb hf), h5⟩
  | nilptr => exact .nilptr
  | fn f hl hl' hf hr ih1 ih2 => exact .fn f hl hl' ih1 ih2
  | nilfn => exact .nilfn
  | map h => exact .map (hext _ _ h)
  | nilmap => exact .nilmap
  | mref h hcap hb => exact .mref (hext _ _ h) hcap (hshape _ _ hb)
  | mnil => exact .mnil
  | aptr h => exact .aptr (hext _ _ h)

section
variable {S : Store} {row : Option Nat}
/-- A block that is no cells and no object turns, and new blocks come. -/
structure Grown (S : Store) (ι : Nat → Option Nat) (w w' : World) (row : Option Nat) : Prop where
  by' : w.grownBy w' row
  row : ∀ r, row = some r → (∃ o, w.heap[r]? = some o ∧ o.isCells = false) ∧ ¬ Blk ι S r

theorem Grown.cell (h : Grown S ι w w' row) {b off : Nat} {v : Value} (hc : w.cell? ⟨b, off, none⟩ = some v) : w'.cell? ⟨b, off, none⟩ = some v := by
  refine (World.cell?_of_block (h.by'.block b (lt_of_cell hc) fun e => ?_)).trans hc
  obtain ⟨⟨o, ho, hn⟩, _⟩ := h.row b e.symm
  cases o <;> simp [World.cell?, ho, Obj.isCells] at hc hn

theorem Grown.shape (h : Grown S ι w w' row) {b n : Nat} (hb : BlockOf w b n) : BlockOf w' b n := by
  obtain ⟨c, e, hc, hn⟩ := hb
  refine ⟨c, e, (h.by'.block b (Array.getElem?_eq_some_iff.1 hc).1 fun e' => ?_).trans hc, hn⟩
  obtain ⟨⟨o, ho, hno⟩, _⟩ := h.row b e'.symm
  rw [hc] at ho; cases ho; cases hno

theorem Grown.rep (h : Grown S ι w w' row) {F : Nat → Nat → Prop} {v : Value} {x : AV} (hr : Rep ι F w v x) : Rep ι F w' v x :=
  rep_keepc (fun _ _ h => h) (fun _ _ _ hc _ => h.cell hc) (fun _ _ _ h => h) (fun _ _ h' => h.shape h') hr

theorem Grown.wf (h : Grown S ι w w' row) (hw : WF ι S w) : WF ι S w' :=
  ⟨fun o b ho => Nat.lt_of_lt_of_le (hw.blt o b ho) h.by'.size, hw.inj, fun o obj b ho hb =>
    (hw.rep o obj b ho hb).keep (fun v x hr => h.rep hr) (h.by'.block b (hw.blt o b hb) fun e => (h.row b e.symm).2 ⟨o, obj, ho, hb⟩)⟩

theorem Grown.step (h : Grown S ι w w' row) {ι0 : Nat → Option Nat} {S0 : Store} {w0 : World} (hs : Step ι0 S0 w0 ι S w) (hr : ∀ r, row = some r → w0.heap.size ≤ r) : Step ι0 S0 w0 ι S w' where
  os := h.by'.os.trans hs.os
  tape := h.by'.tape.trans hs.tape
  output := h.by'.output.trans hs.output
  size := Nat.le_trans hs.size h.by'.size
  blk b hb hn := (h.by'.block b (Nat.lt_of_lt_of_le hb hs.size) fun e => by have := hr b e.symm; omega).trans (hs.blk b hb hn)
  cell b off hb hn := (World.cell?_of_block (h.by'.block b (Nat.lt_of_lt_of_le hb hs.size) fun e => by have := hr b e.symm; omega)).trans (hs.cell b off hb hn)
  shape b n hb := h.shape (hs.shape b n hb)
  ext := hs.ext
  foot := hs.foot
  nblk := hs.nblk
end

/-- The activation at a function's start. -/
theorem rel_enter {vs : Array Value} {args : List AV} (hwf : WF ι s.m w) (hbnd : Bnd ι s.m s.nx) (hvs : RepL ι (Foot ι s.m) w vs args) (hsz : args.length ≤ N) :
    Rel gs N ι (argEnv 0 args) [] s { tmps := vs ++ Array.replicate (N - vs.size) undef, defers := [] } w := by
  have hs := hvs.1
  refine ⟨hwf, hbnd, by simp; omega, rfl, fun t ht => ?_, fun t ht => .any _⟩
  rw [argEnv_get]
  simp only [Nat.zero_le, if_true, Nat.sub_zero]
  by_cases hlt : t < vs.size
  · have hlt' : t < args.length := by rw [← hvs.1]; exact hlt
    have e1 : (vs ++ Array.replicate (N - vs.size) undef).getD t undef = vs[t] := by
      simp [Array.getElem?_append_left hlt, hlt]
    have e2 : args.getD t .any = args[t] := by simp [hlt']
    rw [e1, e2]
    exact hvs.2 t _ _ (by simp [hlt]) (by simp [hlt'])
  · have : args.getD t .any = .any := by
      have : args.length ≤ t := by rw [← hvs.1]; omega
      simp [List.getElem?_eq_none this]
    rw [this]
    exact .any _
end Go.AL
