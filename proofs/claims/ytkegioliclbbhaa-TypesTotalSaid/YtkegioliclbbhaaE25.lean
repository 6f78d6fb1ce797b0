/- TypesOrders. -/
import Derived.Test.YtkegioliclbbhaaE24
import Derived.Test.YtkegioliclbbhaaE13
set_option linter.unusedVariables false
set_option linter.unusedSimpArgs false
namespace Go.AL.Ty
open Go Go.Proofs

theorem p9 (t u : Ty) (ht : lim t) (hu : lim u) : PureC Try.prog 9 [t.av, u.av] (.bool true) := by
  refine PureC.intro fun s => fun_sound mixed Try.func9 Try.call9 c9 rfl (awpFun_go _ _ _ _ ?_)
  have h1 := p36 t u
  have h2 := p36 u t
  have h3 := p37 t ht u
  have h4 := p31 t ht u
  have h5 := p37 u hu t
  have h6 := p37 t ht t
  rw [same_symm t u] at h5
  have hr : same t t = true := (ord_zero t t).1 (by have := ord_neg t t; omega)
  rw [hr] at h6
  have hz : decide (ord t u = 0) = same t u := by rw [Bool.eq_iff_iff, decide_eq_true_iff, ord_zero]
  by_cases hp : proper t = true ∧ proper u = true
  · rw [if_pos hp] at h1
    rw [if_pos ⟨hp.2, hp.1⟩, ord_neg t u] at h2
    have z1 := proper_sz hp.1
    have z2 := proper_sz hp.2
    have h38 := p38 t u (.of hp.1) (.of hp.2) (by omega) (by omega)
    have hob := ord_bound t u
    have hw : IntKind.i64.wrap (- ord t u) = - ord t u := wrap64 (by omega) (by omega)
    generalize ord t u = n at *
    generalize same t u = b at *
    simp (implicitDefEqProofs := false) (maxSteps := 2000000) (disch := (first | omega | (simp only [St.new_nx, St.set_nx, St.del_nx, St.bump_nx]; done) | (simp only [St.new_nx, St.set_nx, St.del_nx, St.bump_nx]; omega) | fail)) [a9, a9b, a9r0, a9r1]
    refine go_pure h1 fun mm1 hm1 => ?_
    try simp only [St.new_nx, St.bump_nx, St.set_nx, St.del_nx] at hm1
    simp (implicitDefEqProofs := false) (maxSteps := 2000000) (disch := (first | omega | (simp only [St.new_nx, St.set_nx, St.del_nx, St.bump_nx]; done) | (simp only [St.new_nx, St.set_nx, St.del_nx, St.bump_nx]; omega) | fail)) [a9r2]
    refine go_pure h2 fun mm2 hm2 => ?_
    try simp only [St.new_nx, St.bump_nx, St.set_nx, St.del_nx] at hm2
    simp (implicitDefEqProofs := false) (maxSteps := 2000000) (disch := (first | omega | (simp only [St.new_nx, St.set_nx, St.del_nx, St.bump_nx]; done) | (simp only [St.new_nx, St.set_nx, St.del_nx, St.bump_nx]; omega) | fail)) [a9r3]
    refine go_pure h3 fun mm3 hm3 => ?_
    try simp only [St.new_nx, St.bump_nx, St.set_nx, St.del_nx] at hm3
    simp (implicitDefEqProofs := false) (maxSteps := 2000000) (disch := (first | omega | (simp only [St.new_nx, St.set_nx, St.del_nx, St.bump_nx]; done) | (simp only [St.new_nx, St.set_nx, St.del_nx, St.bump_nx]; omega) | fail)) [a9r4]
    refine go_pure h4 fun mm4 hm4 => ?_
    try simp only [St.new_nx, St.bump_nx, St.set_nx, St.del_nx] at hm4
    simp (implicitDefEqProofs := false) (maxSteps := 2000000) (disch := (first | omega | (simp only [St.new_nx, St.set_nx, St.del_nx, St.bump_nx]; done) | (simp only [St.new_nx, St.set_nx, St.del_nx, St.bump_nx]; omega) | fail))
    refine go_pure h5 fun mm5 hm5 => ?_
    try simp only [St.new_nx, St.bump_nx, St.set_nx, St.del_nx] at hm5
    simp (implicitDefEqProofs := false) (maxSteps := 2000000) (disch := (first | omega | (simp only [St.new_nx, St.set_nx, St.del_nx, St.bump_nx]; done) | (simp only [St.new_nx, St.set_nx, St.del_nx, St.bump_nx]; omega) | fail))
    refine go_pure h6 fun mm6 hm6 => ?_
    try simp only [St.new_nx, St.bump_nx, St.set_nx, St.del_nx] at hm6
    simp (implicitDefEqProofs := false) (maxSteps := 2000000) (disch := (first | omega | (simp only [St.new_nx, St.set_nx, St.del_nx, St.bump_nx]; done) | (simp only [St.new_nx, St.set_nx, St.del_nx, St.bump_nx]; omega) | fail)) [a9r6]
    refine go_pure (p13 t) fun mm7 hm7 => ?_
    try simp only [St.new_nx, St.bump_nx, St.set_nx, St.del_nx] at hm7
    rw [hp.1]
    simp (implicitDefEqProofs := false) (maxSteps := 2000000) (disch := (first | omega | (simp only [St.new_nx, St.set_nx, St.del_nx, St.bump_nx]; done) | (simp only [St.new_nx, St.set_nx, St.del_nx, St.bump_nx]; omega) | fail))
    refine go_pure (p13 u) fun mm8 hm8 => ?_
    try simp only [St.new_nx, St.bump_nx, St.set_nx, St.del_nx] at hm8
    rw [hp.2]
    simp (implicitDefEqProofs := false) (maxSteps := 2000000) (disch := (first | omega | (simp only [St.new_nx, St.set_nx, St.del_nx, St.bump_nx]; done) | (simp only [St.new_nx, St.set_nx, St.del_nx, St.bump_nx]; omega) | fail)) [a9r8]
    refine go_pure h38 fun mm9 hm9 => ?_
    try simp only [St.new_nx, St.bump_nx, St.set_nx, St.del_nx] at hm9
    simp (implicitDefEqProofs := false) (maxSteps := 2000000) (disch := (first | omega | (simp only [St.new_nx, St.set_nx, St.del_nx, St.bump_nx]; done) | (simp only [St.new_nx, St.set_nx, St.del_nx, St.bump_nx]; omega) | fail)) [hw]
    refine ⟨fun k1 => ?_, hz⟩
    refine go_pure p16 fun mm10 hm10 => ?_
    try simp only [St.new_nx, St.bump_nx, St.set_nx, St.del_nx] at hm10
    simp (implicitDefEqProofs := false) (maxSteps := 2000000) (disch := (first | omega | (simp only [St.new_nx, St.set_nx, St.del_nx, St.bump_nx]; done) | (simp only [St.new_nx, St.set_nx, St.del_nx, St.bump_nx]; omega) | fail))
  · rw [if_neg hp] at h1
    rw [if_neg fun h => hp ⟨h.2, h.1⟩] at h2
    generalize same t u = b at *
    simp (implicitDefEqProofs := false) (maxSteps := 2000000) (disch := (first | omega | (simp only [St.new_nx, St.set_nx, St.del_nx, St.bump_nx]; done) | (simp only [St.new_nx, St.set_nx, St.del_nx, St.bump_nx]; omega) | fail)) [a9, a9b, a9r0, a9r1]
    refine go_pure h1 fun mm11 hm11 => ?_
    try simp only [St.new_nx, St.bump_nx, St.set_nx, St.del_nx] at hm11
    simp (implicitDefEqProofs := false) (maxSteps := 2000000) (disch := (first | omega | (simp only [St.new_nx, St.set_nx, St.del_nx, St.bump_nx]; done) | (simp only [St.new_nx, St.set_nx, St.del_nx, St.bump_nx]; omega) | fail)) [a9r2]
    refine go_pure h2 fun mm12 hm12 => ?_
    try simp only [St.new_nx, St.bump_nx, St.set_nx, St.del_nx] at hm12
    simp (implicitDefEqProofs := false) (maxSteps := 2000000) (disch := (first | omega | (simp only [St.new_nx, St.set_nx, St.del_nx, St.bump_nx]; done) | (simp only [St.new_nx, St.set_nx, St.del_nx, St.bump_nx]; omega) | fail)) [a9r3]
    refine go_pure h3 fun mm13 hm13 => ?_
    try simp only [St.new_nx, St.bump_nx, St.set_nx, St.del_nx] at hm13
    simp (implicitDefEqProofs := false) (maxSteps := 2000000) (disch := (first | omega | (simp only [St.new_nx, St.set_nx, St.del_nx, St.bump_nx]; done) | (simp only [St.new_nx, St.set_nx, St.del_nx, St.bump_nx]; omega) | fail)) [a9r4]
    refine go_pure h4 fun mm14 hm14 => ?_
    try simp only [St.new_nx, St.bump_nx, St.set_nx, St.del_nx] at hm14
    simp (implicitDefEqProofs := false) (maxSteps := 2000000) (disch := (first | omega | (simp only [St.new_nx, St.set_nx, St.del_nx, St.bump_nx]; done) | (simp only [St.new_nx, St.set_nx, St.del_nx, St.bump_nx]; omega) | fail))
    refine go_pure h5 fun mm15 hm15 => ?_
    try simp only [St.new_nx, St.bump_nx, St.set_nx, St.del_nx] at hm15
    simp (implicitDefEqProofs := false) (maxSteps := 2000000) (disch := (first | omega | (simp only [St.new_nx, St.set_nx, St.del_nx, St.bump_nx]; done) | (simp only [St.new_nx, St.set_nx, St.del_nx, St.bump_nx]; omega) | fail))
    refine go_pure h6 fun mm16 hm16 => ?_
    try simp only [St.new_nx, St.bump_nx, St.set_nx, St.del_nx] at hm16
    simp (implicitDefEqProofs := false) (maxSteps := 2000000) (disch := (first | omega | (simp only [St.new_nx, St.set_nx, St.del_nx, St.bump_nx]; done) | (simp only [St.new_nx, St.set_nx, St.del_nx, St.bump_nx]; omega) | fail)) [a9r6]
    refine go_pure (p13 t) fun mm17 hm17 => ?_
    try simp only [St.new_nx, St.bump_nx, St.set_nx, St.del_nx] at hm17
    simp (implicitDefEqProofs := false) (maxSteps := 2000000) (disch := (first | omega | (simp only [St.new_nx, St.set_nx, St.del_nx, St.bump_nx]; done) | (simp only [St.new_nx, St.set_nx, St.del_nx, St.bump_nx]; omega) | fail))
    refine ⟨fun k1 => ?_, fun k1 => ?_⟩
    · refine go_pure (p13 u) fun mm18 hm18 => ?_
      try simp only [St.new_nx, St.bump_nx, St.set_nx, St.del_nx] at hm18
      simp (implicitDefEqProofs := false) (maxSteps := 2000000) (disch := (first | omega | (simp only [St.new_nx, St.set_nx, St.del_nx, St.bump_nx]; done) | (simp only [St.new_nx, St.set_nx, St.del_nx, St.bump_nx]; omega) | fail))
      refine ⟨fun k2 => ?_, fun k2 => absurd ⟨k1, k2⟩ hp⟩
      simp (implicitDefEqProofs := false) (maxSteps := 2000000) (disch := (first | omega | (simp only [St.new_nx, St.set_nx, St.del_nx, St.bump_nx]; done) | (simp only [St.new_nx, St.set_nx, St.del_nx, St.bump_nx]; omega) | fail)) [a9r7]
      refine go_pure p16 fun mm19 hm19 => ?_
      try simp only [St.new_nx, St.bump_nx, St.set_nx, St.del_nx] at hm19
      simp (implicitDefEqProofs := false) (maxSteps := 2000000) (disch := (first | omega | (simp only [St.new_nx, St.set_nx, St.del_nx, St.bump_nx]; done) | (simp only [St.new_nx, St.set_nx, St.del_nx, St.bump_nx]; omega) | fail))
    · simp (implicitDefEqProofs := false) (maxSteps := 2000000) (disch := (first | omega | (simp only [St.new_nx, St.set_nx, St.del_nx, St.bump_nx]; done) | (simp only [St.new_nx, St.set_nx, St.del_nx, St.bump_nx]; omega) | fail)) [a9r7]
      refine go_pure p16 fun mm20 hm20 => ?_
      try simp only [St.new_nx, St.bump_nx, St.set_nx, St.del_nx] at hm20
      simp (implicitDefEqProofs := false) (maxSteps := 2000000) (disch := (first | omega | (simp only [St.new_nx, St.set_nx, St.del_nx, St.bump_nx]; done) | (simp only [St.new_nx, St.set_nx, St.del_nx, St.bump_nx]; omega) | fail))
end Go.AL.Ty
