/- The reference: Proper, Propers, zero, whole. -/
import Derived.Test.YtkegioliclbbhaaE8
set_option linter.unusedVariables false
set_option linter.unusedSimpArgs false
namespace Go.AL.Ty
open Go Go.Proofs
theorem p13 (t : Ty) : PureC Try.prog 13 [t.av] (.bool (proper t)) := by
  refine PureC.intro fun s => fun_sound mixed Try.func13 Try.call13 c13 rfl (awpFun_go _ _ _ _ ?_)
  simp (implicitDefEqProofs := false) (maxSteps := 2000000) (disch := (first | omega | (simp only [St.new_nx, St.set_nx, St.del_nx, St.bump_nx]; done) | (simp only [St.new_nx, St.set_nx, St.del_nx, St.bump_nx]; omega) | fail)) [a13, a13b, a13r0, a13r1, a13r2]
  refine go_calls (p57 t 1 0 _ _ _ (by omega) (by omega) (by omega) (by omega) ?_ ?_ fun m hm => go_of ?_)
  · simp (implicitDefEqProofs := false) (maxSteps := 2000000) (disch := (first | omega | (simp only [St.new_nx, St.set_nx, St.del_nx, St.bump_nx]; done) | (simp only [St.new_nx, St.set_nx, St.del_nx, St.bump_nx]; omega) | fail))
  · simp (implicitDefEqProofs := false) (maxSteps := 2000000) (disch := (first | omega | (simp only [St.new_nx, St.set_nx, St.del_nx, St.bump_nx]; done) | (simp only [St.new_nx, St.set_nx, St.del_nx, St.bump_nx]; omega) | fail))
  · simp (implicitDefEqProofs := false) (maxSteps := 2000000) (disch := (first | omega | (simp only [St.new_nx, St.set_nx, St.del_nx, St.bump_nx]; done) | (simp only [St.new_nx, St.set_nx, St.del_nx, St.bump_nx]; omega) | fail)) [proper]
theorem p14 (ts : List Ty) : PureC Try.prog 14 [.list 4 .none (ts.map av)] (.bool (propers ts)) := by
  refine PureC.intro fun s => fun_sound mixed Try.func14 Try.call14 c14 rfl (awpFun_go _ _ _ _ ?_)
  by_cases h6 : ts.length ≤ 600
  · have h6' : ¬ (600 : Int) < ts.length := by omega
    have hp : propers ts = ts.all proper := by simp [propers, h6]
    rw [hp]
    simp (implicitDefEqProofs := false) (maxSteps := 2000000) (disch := (first | omega | (simp only [St.new_nx, St.set_nx, St.del_nx, St.bump_nx]; done) | (simp only [St.new_nx, St.set_nx, St.del_nx, St.bump_nx]; omega) | fail)) [a14, a14b, a14r0, a14r1, a14r2, a14r3, h6']
    refine go_loop (fun n g s1 => ∃ (i : Nat), i ≤ ts.length ∧ n = ts.length - i ∧ (ts.drop i).all proper = ts.all proper ∧
      g.get 8 = .list 4 .none (ts.map av) ∧ g.get 9 = .int .i64 ts.length ∧ g.get 10 = .int .i64 i ∧ Kept s s1 ∧ s.nx ≤ s1.nx) ts.length ⟨0, Nat.zero_le _, by simp, by simp, by simp, by simp, by simp, by simp, by simp⟩ ?_
    rintro n g s1 ⟨i, hi, rfl, hg, h8, h9, h10, hk, hn⟩
    by_cases hlt : i < ts.length
    · have hx : ts[i]? = some ts[i] := by simp [hlt]
      have hlt' : (i : Int) < ts.length := by omega
      have w2 : IntKind.i64.wrap ((i : Int) + 1) = ((i + 1 : Nat) : Int) := by rw [wrap64 (by omega) (by omega)]; omega
      have hdrop : ts.drop i = ts[i] :: ts.drop (i + 1) := List.drop_eq_getElem_cons hlt
      simp (implicitDefEqProofs := false) (maxSteps := 2000000) (disch := (first | omega | (simp only [St.new_nx, St.set_nx, St.del_nx, St.bump_nx]; done) | (simp only [St.new_nx, St.set_nx, St.del_nx, St.bump_nx]; omega) | fail)) [a14l9, a14r4, a14r5, a14r6, h8, h9, h10, hlt', hlt, hx]
      refine go_pure (p13 ts[i]) fun m hm => ?_
      simp only [St.new_nx, St.set_nx, St.bump_nx] at hm
      rw [hdrop, List.all_cons] at hg
      simp (implicitDefEqProofs := false) (maxSteps := 2000000) (disch := (first | omega | (simp only [St.new_nx, St.set_nx, St.del_nx, St.bump_nx]; done) | (simp only [St.new_nx, St.set_nx, St.del_nx, St.bump_nx]; omega) | fail)) [a14r7, a14r8, h10, w2]
      refine ⟨fun hb => ?_, fun hb => ?_⟩
      · rw [hb, Bool.false_and] at hg
        exact ⟨⟨ts[i], List.getElem_mem hlt, hb⟩, by simp (implicitDefEqProofs := false) (maxSteps := 2000000) (disch := (first | omega | (simp only [St.new_nx, St.set_nx, St.del_nx, St.bump_nx]; done) | (simp only [St.new_nx, St.set_nx, St.del_nx, St.bump_nx]; omega) | fail)) [hk]⟩
      · rw [hb, Bool.true_and] at hg
        refine go_next (ts.length - (i + 1)) (by omega) ⟨i + 1, by omega, rfl, hg, ?_, ?_, ?_, ?_, ?_⟩ <;> (try simp (implicitDefEqProofs := false) (maxSteps := 2000000) (disch := (first | omega | (simp only [St.new_nx, St.set_nx, St.del_nx, St.bump_nx]; done) | (simp only [St.new_nx, St.set_nx, St.del_nx, St.bump_nx]; omega) | fail)) [h8, h9, h10, hk])
        omega
    · have hlt' : ¬ (i : Int) < ts.length := by omega
      have hd : ts.drop i = [] := List.drop_eq_nil_of_le (by omega)
      rw [hd, List.all_nil] at hg
      simp (implicitDefEqProofs := false) (maxSteps := 2000000) (disch := (first | omega | (simp only [St.new_nx, St.set_nx, St.del_nx, St.bump_nx]; done) | (simp only [St.new_nx, St.set_nx, St.del_nx, St.bump_nx]; omega) | fail)) [a14l9, a14r4, h8, h9, h10, hlt', a14r10, ← hg, hk]
  · have h6' : (600 : Int) < ts.length := by omega
    have hp : propers ts = false := by simp [propers, h6]
    simp (implicitDefEqProofs := false) (maxSteps := 2000000) (disch := (first | omega | (simp only [St.new_nx, St.set_nx, St.del_nx, St.bump_nx]; done) | (simp only [St.new_nx, St.set_nx, St.del_nx, St.bump_nx]; omega) | fail)) [a14, a14b, a14r0, a14r1, a14r2, h6', hp]
end Go.AL.Ty
