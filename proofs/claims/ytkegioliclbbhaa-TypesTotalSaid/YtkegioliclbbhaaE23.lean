/- The reference's order. -/
import Derived.Test.YtkegioliclbbhaaE22
set_option linter.unusedVariables false
set_option linter.unusedSimpArgs false
namespace Go.AL.Ty
open Go Go.Proofs

theorem cmpI_zero {a b : Int} (h : cmpI a b = 0) : a = b := by
  unfold cmpI at h
  split at h
  · omega
  split at h
  · omega
  omega
theorem orI_four (a b c d : Int) : orI [a, b, c, d] = if a = 0 then orI [b, c, d] else a := rfl
def C38 (t : Ty) : Prop := ∀ u, Gd t → Gd u → sz t ≤ 1000000 → sz u ≤ 1000000 → PureC Try.prog 38 [t.av, u.av] (.int .i64 (ord t u))

def S38 (t u : Ty) (s : St) (g : Env) (s1 : St) : Prop :=
  g.get 2 = .ptr s.nx 0 ∧ g.get 3 = .ptr (s.nx + 1) 0 ∧ s1.m s.nx = some (.box [.int .i64 t.op, .int .i64 t.n, .str t.s, .list 4 .none (t.args.map av)]) ∧
    s1.m (s.nx + 1) = some (.box [.int .i64 u.op, .int .i64 u.n, .str u.s, .list 4 .none (u.args.map av)]) ∧ Kept s s1 ∧ s.nx + 1 < s1.nx
def I38 (t u : Ty) (l : List Int) (s : St) (n : Nat) (g : Env) (s1 : St) : Prop :=
  ∃ (i : Nat), i ≤ 4 ∧ n = 4 - i ∧ orI (l.drop i) = orI l ∧ g.get 29 = .list 1 .full (il l) ∧ g.get 30 = .int .i64 4 ∧ g.get 31 = .int .i64 i ∧ S38 t u s g s1
def J38 (t u : Ty) (R : Int) (s : St) (n : Nat) (g : Env) (s1 : St) : Prop :=
  ∃ (i : Nat), i ≤ t.args.length ∧ n = t.args.length - i ∧ ords (t.args.drop i) (u.args.drop i) = R ∧ g.get 41 = .int .i64 t.args.length ∧ g.get 42 = .int .i64 i ∧ S38 t u s g s1

theorem p38 (t : Ty) : C38 t := by
  induction t using Ty.ind with
  | h t ih =>
    intro u ht hu h1 h2
    have ha := sz_args t
    have hb := sz_args u
    refine PureC.intro fun s => fun_sound mixed Try.func38 Try.call38 c38 rfl (awpFun_go _ _ _ _ ?_)
    have hord : ord t u = orI [orI [cmpI (sz t) (sz u), cmpI t.op u.op, cmpI t.n u.n, cmpS t.s u.s], ords t.args u.args] := by
      rw [ord_eq, orI_three, orI_two, orI_four]
      by_cases k1 : cmpI (sz t) (sz u) = 0
      · rw [if_pos k1, if_pos k1]
      · rw [if_neg k1, if_neg k1, if_neg k1]
    have hop : orI [cmpI (sz t) (sz u), cmpI t.op u.op, cmpI t.n u.n, cmpS t.s u.s] = 0 → t.args.length = u.args.length := by
      intro h
      have e : t.op = u.op := by
        apply cmpI_zero
        simp only [orI] at h
        by_cases k1 : cmpI (sz t) (sz u) = 0
        · rw [if_pos k1] at h
          by_cases k2 : cmpI t.op u.op = 0
          · exact k2
          · rw [if_neg k2] at h; exact absurd h k2
        · rw [if_neg k1] at h; exact absurd h k1
      have e1 := ht.spec.1.1
      have e2 := hu.spec.1.1
      rw [e] at e1
      omega
    rw [orI_two] at hord
    rw [hord]
    have hl : [cmpI (sz t) (sz u), cmpI t.op u.op, cmpI t.n u.n, cmpS t.s u.s].length = 4 := rfl
    simp (implicitDefEqProofs := false) (maxSteps := 2000000) (disch := (first | omega | (simp only [St.new_nx, St.set_nx, St.del_nx, St.bump_nx]; done) | (simp only [St.new_nx, St.set_nx, St.del_nx, St.bump_nx]; omega) | fail)) [a38, a38b, a38r0, a38r1]
    refine pcV_intro (p48 t h1 (by omega)) ?_
    simp (implicitDefEqProofs := false) (maxSteps := 2000000) (disch := (first | omega | (simp only [St.new_nx, St.set_nx, St.del_nx, St.bump_nx]; done) | (simp only [St.new_nx, St.set_nx, St.del_nx, St.bump_nx]; omega) | fail))
    refine pcV_intro (p48 u h2 (by omega)) ?_
    simp (implicitDefEqProofs := false) (maxSteps := 2000000) (disch := (first | omega | (simp only [St.new_nx, St.set_nx, St.del_nx, St.bump_nx]; done) | (simp only [St.new_nx, St.set_nx, St.del_nx, St.bump_nx]; omega) | fail))
    refine pcV_intro (p81 _ _) ?_
    simp (implicitDefEqProofs := false) (maxSteps := 2000000) (disch := (first | omega | (simp only [St.new_nx, St.set_nx, St.del_nx, St.bump_nx]; done) | (simp only [St.new_nx, St.set_nx, St.del_nx, St.bump_nx]; omega) | fail))
    refine pcV_intro (p81 _ _) ?_
    simp (implicitDefEqProofs := false) (maxSteps := 2000000) (disch := (first | omega | (simp only [St.new_nx, St.set_nx, St.del_nx, St.bump_nx]; done) | (simp only [St.new_nx, St.set_nx, St.del_nx, St.bump_nx]; omega) | fail))
    refine pcV_intro (p81 _ _) ?_
    simp (implicitDefEqProofs := false) (maxSteps := 2000000) (disch := (first | omega | (simp only [St.new_nx, St.set_nx, St.del_nx, St.bump_nx]; done) | (simp only [St.new_nx, St.set_nx, St.del_nx, St.bump_nx]; omega) | fail))
    refine pcV_intro (p82 _ _) ?_
    simp (implicitDefEqProofs := false) (maxSteps := 2000000) (disch := (first | omega | (simp only [St.new_nx, St.set_nx, St.del_nx, St.bump_nx]; done) | (simp only [St.new_nx, St.set_nx, St.del_nx, St.bump_nx]; omega) | fail))
    have hil : ∀ a b c d : Int, [AV.int .i64 a, .int .i64 b, .int .i64 c, .int .i64 d] = il [a, b, c, d] := fun _ _ _ _ => rfl
    rw [hil]
    generalize [cmpI (sz t) (sz u), cmpI t.op u.op, cmpI t.n u.n, cmpS t.s u.s] = l at *
    generalize hR : ords t.args u.args = R at *
    intro m hm
    have hln : (il l).length = 4 := by simp [hl]
    refine go_loop (I38 t u l s) 4 ⟨0, by omega, by omega, by simp, ?_, ?_, ?_, ?_, ?_, ?_, ?_, ?_, ?_⟩ ?_
    rotate_right
    · rintro n g s1 ⟨i, hi, rfl, hg, g29, g30, g31, hS⟩
      have hS' := hS
      obtain ⟨g2, g3, hT, hU, hk, hn⟩ := hS'
      by_cases hlt : i < 4
      · have hx : l[i]? = some (l[i]'(by omega)) := by simp
        have hx' := il_get hx
        have hcc : (il l)[i]'(by simp; omega) = .int .i64 (l[i]'(by omega)) := by simp [il]
        have hlt' : (i : Int) < 4 := by omega
        have hll : i < l.length := by omega
        have hll' : (i : Int) < l.length := by omega
        have w2 : IntKind.i64.wrap ((i : Int) + 1) = ((i + 1 : Nat) : Int) := by rw [wrap64 (by omega) (by omega)]; omega
        have hdrop : l.drop i = l[i] :: l.drop (i + 1) := List.drop_eq_getElem_cons (by omega)
        rw [hdrop, orI] at hg
        simp (implicitDefEqProofs := false) (maxSteps := 2000000) (disch := (first | omega | (simp only [St.new_nx, St.set_nx, St.del_nx, St.bump_nx]; done) | (simp only [St.new_nx, St.set_nx, St.del_nx, St.bump_nx]; omega) | fail)) [a38l7, a38r2, a38r3, a38r4, a38r5, a38r6, g29, g30, g31, hlt', hll', hx', hcc, w2]
        refine ⟨fun k1 => ?_, fun k1 => ?_⟩
        · rw [if_neg k1] at hg
          rw [hg, if_neg (by rw [← hg]; exact k1)]
          exact ⟨rfl, hk⟩
        · rw [if_pos k1] at hg
          refine go_next (4 - (i + 1)) (by omega) ⟨i + 1, by omega, rfl, hg, ?_, ?_, ?_, ?_, ?_, hT, hU, hk, hn⟩ <;> simp (implicitDefEqProofs := false) (maxSteps := 2000000) (disch := (first | omega | (simp only [St.new_nx, St.set_nx, St.del_nx, St.bump_nx]; done) | (simp only [St.new_nx, St.set_nx, St.del_nx, St.bump_nx]; omega) | fail)) [g29, g30, g31, g2, g3]
      · have hlt' : ¬ (i : Int) < 4 := by omega
        have hdrop : l.drop i = [] := List.drop_eq_nil_of_le (by omega)
        rw [hdrop, orI] at hg
        have hlen := hop hg.symm
        rw [← hg, if_pos rfl]
        simp (implicitDefEqProofs := false) (maxSteps := 2000000) (disch := (first | omega | (simp only [St.new_nx, St.set_nx, St.del_nx, St.bump_nx]; done) | (simp only [St.new_nx, St.set_nx, St.del_nx, St.bump_nx]; omega) | fail)) [a38l7, a38r2, g29, g30, g31, hlt', a38r8, g2, hT]
        refine go_loop (J38 t u R s) t.args.length ⟨0, by omega, by omega, by simpa using hR, ?_, ?_, ?_, ?_, hT, hU, hk, hn⟩ ?_
        rotate_right
        · clear g29 g30 g31 hS g2 g3 hT hU hk hn
          rintro n g s1 ⟨j, hj, rfl, hg2, g41, g42, hS⟩
          have hS' := hS
          obtain ⟨g2, g3, hT, hU, hk, hn⟩ := hS'
          by_cases hjt : j < t.args.length
          · have hju : j < u.args.length := by omega
            have hx : t.args[j]? = some t.args[j] := by simp [hjt]
            have hy : u.args[j]? = some u.args[j] := by simp [hju]
            have hjt' : (j : Int) < t.args.length := by omega
            have hju' : (j : Int) < u.args.length := by omega
            have w2 : IntKind.i64.wrap ((j : Int) + 1) = ((j + 1 : Nat) : Int) := by rw [wrap64 (by omega) (by omega)]; omega
            have hdt : t.args.drop j = t.args[j] :: t.args.drop (j + 1) := List.drop_eq_getElem_cons hjt
            have hdu : u.args.drop j = u.args[j] :: u.args.drop (j + 1) := List.drop_eq_getElem_cons hju
            rw [hdt, hdu, ords] at hg2
            simp only [orI_two] at hg2
            have z1 := sz_mem (List.getElem_mem hjt)
            have z2 := sz_mem (List.getElem_mem hju)
            simp (implicitDefEqProofs := false) (maxSteps := 2000000) (disch := (first | omega | (simp only [St.new_nx, St.set_nx, St.del_nx, St.bump_nx]; done) | (simp only [St.new_nx, St.set_nx, St.del_nx, St.bump_nx]; omega) | fail)) [a38l15, a38r9, a38r10, a38r11, g41, g42, g2, g3, hT, hU, hjt', hju', hjt, hju, hx, hy]
            refine pcV_intro (ih _ (List.getElem_mem hjt) u.args[j] (ht.spec.2 _ (List.getElem_mem hjt)) (hu.spec.2 _ (List.getElem_mem hju)) (by omega) (by omega)) ?_
            simp (implicitDefEqProofs := false) (maxSteps := 2000000) (disch := (first | omega | (simp only [St.new_nx, St.set_nx, St.del_nx, St.bump_nx]; done) | (simp only [St.new_nx, St.set_nx, St.del_nx, St.bump_nx]; omega) | fail)) [a38r12, a38r13, a38r14, g42, w2]
            intro m2 hm2
            refine ⟨fun k1 => ?_, fun k1 => ?_⟩
            · rw [if_neg k1] at hg2
              exact ⟨hg2, hk⟩
            · rw [if_pos k1] at hg2
              refine go_next (t.args.length - (j + 1)) (by omega) ⟨j + 1, by omega, rfl, hg2, ?_, ?_, ?_, ?_, hT, hU, hk, by simp (implicitDefEqProofs := false) (maxSteps := 2000000) (disch := (first | omega | (simp only [St.new_nx, St.set_nx, St.del_nx, St.bump_nx]; done) | (simp only [St.new_nx, St.set_nx, St.del_nx, St.bump_nx]; omega) | fail)); omega⟩ <;> simp (implicitDefEqProofs := false) (maxSteps := 2000000) (disch := (first | omega | (simp only [St.new_nx, St.set_nx, St.del_nx, St.bump_nx]; done) | (simp only [St.new_nx, St.set_nx, St.del_nx, St.bump_nx]; omega) | fail)) [g41, g42, g2, g3]
          · have hjt' : ¬ (j : Int) < t.args.length := by omega
            have hdt : t.args.drop j = [] := List.drop_eq_nil_of_le (by omega)
            have hdu : u.args.drop j = [] := List.drop_eq_nil_of_le (by omega)
            rw [hdt, hdu, ords] at hg2
            simp (implicitDefEqProofs := false) (maxSteps := 2000000) (disch := (first | omega | (simp only [St.new_nx, St.set_nx, St.del_nx, St.bump_nx]; done) | (simp only [St.new_nx, St.set_nx, St.del_nx, St.bump_nx]; omega) | fail)) [a38l15, a38r9, g41, g42, hjt', a38r16]
            exact ⟨by simpa using hg2, hk⟩
        all_goals simp (implicitDefEqProofs := false) (maxSteps := 2000000) (disch := (first | omega | (simp only [St.new_nx, St.set_nx, St.del_nx, St.bump_nx]; done) | (simp only [St.new_nx, St.set_nx, St.del_nx, St.bump_nx]; omega) | fail)) [g2, g3]
    all_goals (try simp (implicitDefEqProofs := false) (maxSteps := 2000000) (disch := (first | omega | (simp only [St.new_nx, St.set_nx, St.del_nx, St.bump_nx]; done) | (simp only [St.new_nx, St.set_nx, St.del_nx, St.bump_nx]; omega) | fail)))
    omega
end Go.AL.Ty
