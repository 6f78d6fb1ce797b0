/- The examples of the law. -/
import Derived.Test.YtkegioliclbbhaaE12
set_option linter.unusedVariables false
set_option linter.unusedSimpArgs false
namespace Go.AL.Ty
open Go Go.Proofs

def tInt : Ty := con ⟨#[73, 110, 116]⟩
def tVec : Ty := con ⟨#[86, 101, 99]⟩
def tZ : Ty := con ⟨#[39, 90]⟩
def aw1 : Ty := arrow (var 1) (var 0)
def aw2 : Ty := arrow (var 0) tInt
def aw3 : Ty := app (app tVec (var 0)) tZ
theorem aw_proper : proper aw1 = true := by kernel_rfl
theorem aw_propers : propers [tInt] = true := by kernel_rfl
theorem aw_put : putted aw1 [tInt] = aw2 := by kernel_rfl
theorem aw_proper2 : proper aw2 = true := by kernel_rfl
theorem aw_proper3 : proper aw3 = true := by kernel_rfl
theorem aw_spine : spine aw3 = (tVec, [var 0, tZ]) := by kernel_rfl
theorem aw_same1 : same aw2 aw2 = true := by kernel_rfl
theorem aw_same2 : same tVec tVec = true := by kernel_rfl
theorem aw_same3 : same tZ tZ = true := by kernel_rfl
theorem aw_apply : apply tVec [var 0, tZ] = aw3 := rfl
theorem aw_12 : PureC Try.prog 12 [aw1.av, .list 4 .none [tInt.av]] (.tup [aw2.av, .int .i64 0]) := by
  have h := p12 aw1 [tInt]
  rw [aw_proper, aw_propers, aw_put, fin, aw_proper2] at h
  exact h
theorem aw_25 : PureC Try.prog 25 [aw3.av] (.tup [tVec.av, .list 4 .none [(var 0).av, tZ.av], .int .i64 0]) := by
  have h := p25 aw3
  rw [aw_proper3, aw_spine] at h
  exact h
theorem aw_31a : PureC Try.prog 31 [aw2.av, aw2.av] (.bool true) := by
  have h := p31 aw2 (by simp [lim, lims, aw2, arrow, app, con, var, tInt]) aw2
  rw [aw_same1] at h
  exact h
theorem aw_31b : PureC Try.prog 31 [tVec.av, tVec.av] (.bool true) := by
  have h := p31 tVec (by simp [lim, lims, con, tVec]) tVec
  rw [aw_same2] at h
  exact h
theorem aw_31c : PureC Try.prog 31 [tZ.av, tZ.av] (.bool true) := by
  have h := p31 tZ (by simp [lim, lims, con, tZ]) tZ
  rw [aw_same3] at h
  exact h
theorem p16 : PureC Try.prog 16 [] (.bool true) := by
  refine PureC.intro fun s => fun_sound mixed Try.func16 Try.call16 c16 rfl (awpFun_go _ _ _ _ ?_)
  simp (implicitDefEqProofs := false) (maxSteps := 2000000) (disch := (first | omega | (simp only [St.new_nx, St.set_nx, St.del_nx, St.bump_nx]; done) | (simp only [St.new_nx, St.set_nx, St.del_nx, St.bump_nx]; omega) | fail)) [a16, a16b, a16r0, a16r1]
  refine go_pure (p59 1) fun m1 h1 => ?_
  simp (implicitDefEqProofs := false) (maxSteps := 2000000) (disch := (first | omega | (simp only [St.new_nx, St.set_nx, St.del_nx, St.bump_nx]; done) | (simp only [St.new_nx, St.set_nx, St.del_nx, St.bump_nx]; omega) | fail))
  refine go_pure (p59 0) fun m2 h2 => ?_
  simp (implicitDefEqProofs := false) (maxSteps := 2000000) (disch := (first | omega | (simp only [St.new_nx, St.set_nx, St.del_nx, St.bump_nx]; done) | (simp only [St.new_nx, St.set_nx, St.del_nx, St.bump_nx]; omega) | fail))
  refine go_pure (p58 (mk 1 1 ⟨#[]⟩ []) (mk 1 0 ⟨#[]⟩ [])) fun m3 h3 => ?_
  simp (implicitDefEqProofs := false) (maxSteps := 2000000) (disch := (first | omega | (simp only [St.new_nx, St.set_nx, St.del_nx, St.bump_nx]; done) | (simp only [St.new_nx, St.set_nx, St.del_nx, St.bump_nx]; omega) | fail))
  refine go_pure (p35 _) fun m4 h4 => ?_
  simp only [St.new_nx, St.bump_nx, St.set_nx] at h1 h2 h3 h4
  simp (implicitDefEqProofs := false) (maxSteps := 2000000) (disch := (first | omega | (simp only [St.new_nx, St.set_nx, St.del_nx, St.bump_nx]; done) | (simp only [St.new_nx, St.set_nx, St.del_nx, St.bump_nx]; omega) | fail))
  refine go_pure (PureC.argw aw_12 (by simp [aw1, arrow, var, tInt, con])) fun m5 h5 => ?_
  simp only [St.new_nx, St.bump_nx, St.set_nx] at h5
  simp (implicitDefEqProofs := false) (maxSteps := 2000000) (disch := (first | omega | (simp only [St.new_nx, St.set_nx, St.del_nx, St.bump_nx]; done) | (simp only [St.new_nx, St.set_nx, St.del_nx, St.bump_nx]; omega) | fail)) [a16r2]
  refine go_pure (p35 _) fun m6 h6 => ?_
  simp only [St.new_nx, St.bump_nx, St.set_nx] at h6
  simp (implicitDefEqProofs := false) (maxSteps := 2000000) (disch := (first | omega | (simp only [St.new_nx, St.set_nx, St.del_nx, St.bump_nx]; done) | (simp only [St.new_nx, St.set_nx, St.del_nx, St.bump_nx]; omega) | fail))
  refine go_pure (p59 _) fun m7 h7 => ?_
  simp only [St.new_nx, St.bump_nx, St.set_nx] at h7
  simp (implicitDefEqProofs := false) (maxSteps := 2000000) (disch := (first | omega | (simp only [St.new_nx, St.set_nx, St.del_nx, St.bump_nx]; done) | (simp only [St.new_nx, St.set_nx, St.del_nx, St.bump_nx]; omega) | fail))
  refine go_pure (p35 _) fun m8 h8 => ?_
  simp only [St.new_nx, St.bump_nx, St.set_nx] at h8
  simp (implicitDefEqProofs := false) (maxSteps := 2000000) (disch := (first | omega | (simp only [St.new_nx, St.set_nx, St.del_nx, St.bump_nx]; done) | (simp only [St.new_nx, St.set_nx, St.del_nx, St.bump_nx]; omega) | fail))
  refine go_pure (PureC.argw (p33 tVec [var 0, tZ] (by simp)) (by simp [tVec, tZ, var, con])) fun m9 h9 => ?_
  rw [aw_apply]
  simp only [St.new_nx, St.bump_nx, St.set_nx] at h9
  simp (implicitDefEqProofs := false) (maxSteps := 2000000) (disch := (first | omega | (simp only [St.new_nx, St.set_nx, St.del_nx, St.bump_nx]; done) | (simp only [St.new_nx, St.set_nx, St.del_nx, St.bump_nx]; omega) | fail)) [a16r3]
  refine go_pure aw_25 fun m10 h10 => ?_
  simp only [St.new_nx, St.bump_nx, St.set_nx] at h10
  simp (implicitDefEqProofs := false) (maxSteps := 2000000) (disch := (first | omega | (simp only [St.new_nx, St.set_nx, St.del_nx, St.bump_nx]; done) | (simp only [St.new_nx, St.set_nx, St.del_nx, St.bump_nx]; omega) | fail)) [a16r4]
  refine pcV_intro (p59 0) ?_
  simp (implicitDefEqProofs := false) (maxSteps := 2000000) (disch := (first | omega | (simp only [St.new_nx, St.set_nx, St.del_nx, St.bump_nx]; done) | (simp only [St.new_nx, St.set_nx, St.del_nx, St.bump_nx]; omega) | fail))
  refine pcV_intro (p35 _) ?_
  simp (implicitDefEqProofs := false) (maxSteps := 2000000) (disch := (first | omega | (simp only [St.new_nx, St.set_nx, St.del_nx, St.bump_nx]; done) | (simp only [St.new_nx, St.set_nx, St.del_nx, St.bump_nx]; omega) | fail))
  refine pcV_intro (p58 (mk 1 0 ⟨#[]⟩ []) (mk 2 0 ⟨#[73, 110, 116]⟩ [])) ?_
  simp (implicitDefEqProofs := false) (maxSteps := 2000000) (disch := (first | omega | (simp only [St.new_nx, St.set_nx, St.del_nx, St.bump_nx]; done) | (simp only [St.new_nx, St.set_nx, St.del_nx, St.bump_nx]; omega) | fail))
  refine pcV_intro aw_31a ?_
  simp (implicitDefEqProofs := false) (maxSteps := 2000000) (disch := (first | omega | (simp only [St.new_nx, St.set_nx, St.del_nx, St.bump_nx]; done) | (simp only [St.new_nx, St.set_nx, St.del_nx, St.bump_nx]; omega) | fail))
  refine pcV_intro (p35 _) ?_
  simp (implicitDefEqProofs := false) (maxSteps := 2000000) (disch := (first | omega | (simp only [St.new_nx, St.set_nx, St.del_nx, St.bump_nx]; done) | (simp only [St.new_nx, St.set_nx, St.del_nx, St.bump_nx]; omega) | fail))
  refine pcV_intro aw_31b ?_
  simp (implicitDefEqProofs := false) (maxSteps := 2000000) (disch := (first | omega | (simp only [St.new_nx, St.set_nx, St.del_nx, St.bump_nx]; done) | (simp only [St.new_nx, St.set_nx, St.del_nx, St.bump_nx]; omega) | fail))
  refine ok_intro (by simp) ?_
  have e1 : AV.agg (List.take 4 ([tZ.av][0]?.getD AV.any).cells) = tZ.av := by simp
  rw [e1]
  simp (implicitDefEqProofs := false) (maxSteps := 2000000) (disch := (first | omega | (simp only [St.new_nx, St.set_nx, St.del_nx, St.bump_nx]; done) | (simp only [St.new_nx, St.set_nx, St.del_nx, St.bump_nx]; omega) | fail))
  refine pcV_intro (p35 _) ?_
  simp (implicitDefEqProofs := false) (maxSteps := 2000000) (disch := (first | omega | (simp only [St.new_nx, St.set_nx, St.del_nx, St.bump_nx]; done) | (simp only [St.new_nx, St.set_nx, St.del_nx, St.bump_nx]; omega) | fail))
  refine pcV_intro aw_31c ?_
  simp (implicitDefEqProofs := false) (maxSteps := 2000000) (disch := (first | omega | (simp only [St.new_nx, St.set_nx, St.del_nx, St.bump_nx]; done) | (simp only [St.new_nx, St.set_nx, St.del_nx, St.bump_nx]; omega) | fail))
end Go.AL.Ty
