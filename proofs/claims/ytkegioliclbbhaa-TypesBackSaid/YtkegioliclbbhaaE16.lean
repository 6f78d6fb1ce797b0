/- TypesShifts: the plain law, the walk. -/
import Derived.Test.YtkegioliclbbhaaE15
import Derived.Test.YtkegioliclbbhaaC4
set_option linter.unusedVariables false
set_option linter.unusedSimpArgs false
namespace Go.AL.Ty
open Go Go.Proofs

theorem wlks_lost (by_ from_ op : Int) : ∀ (l : List Ty) (i : Nat) (b : Int) (x : Bool), (∀ t ∈ l, ∀ b x, wlk (vlost by_ from_) t b x = (x || !(shf by_ from_ t b).2)) → wlks (vlost by_ from_) op l i b x = (x || !(shfs by_ from_ op l i b).2)
  | [], _, _, x, _ => by simp [wlks, shfs]
  | t :: ts, i, b, x, h => by
    simp only [wlks, shfs]
    rw [h t (by simp), wlks_lost by_ from_ op ts (i + 1) b _ fun y hy => h y (by simp [hy])]
    cases x <;> cases (shf by_ from_ t (b + belw op i)).2 <;> simp
theorem wlk_lost (by_ from_ : Int) (t : Ty) : Gd t → ∀ b x, wlk (vlost by_ from_) t b x = (x || !(shf by_ from_ t b).2) := by
  induction t using Ty.ind with
  | h t ih =>
    intro hg b x
    rw [wlk_eq, shf_eq]
    by_cases hc : t.op = 1 ∧ from_ ≤ t.n - b
    · rw [if_pos hc]
      have := hg.var hc.1
      obtain ⟨h1, h2⟩ := hc
      have e : t.args = [] := by rw [this]; rfl
      rw [e, wlks]
      simp only [vlost, h1, h2, decide_true, Bool.true_and]
      congr 1
      rw [← decide_not]
      congr 1
      exact propext (by omega)
    · rw [if_neg hc]
      have e : vlost by_ from_ t b x = x := by
        by_cases h1 : t.op = 1
        · have h2 : ¬ from_ ≤ t.n - b := fun h => hc ⟨h1, h⟩
          simp [vlost, h2]
        · simp [vlost, h1]
      rw [e, wlks_lost by_ from_ t.op t.args 0 b x fun y hy b x => ih y hy (hg.spec.2 y hy) b x]
theorem lost_shf {t : Ty} (by_ from_ : Int) (h : proper t = true) : lost t by_ from_ = !(shf by_ from_ t 0).2 := by
  rw [lost, wlk_lost by_ from_ t (.of h)]; simp
theorem moved_shf {t : Ty} (by_ from_ : Int) (h : proper t = true) : moved t by_ from_ = (shf by_ from_ t 0).1 := map_mv by_ from_ t (.of h) 0

/-- What whole says of what is put into form. -/
theorem fin_whol (x : Ty) : ∃ u e, lim u ∧ fin x = .tup [u.av, .int .i64 e] ∧ whol u e x = true := by
  by_cases hq : proper x = true
  · exact ⟨x, 0, proper_lim hq, by rw [fin, if_pos hq], by rw [whol, if_pos hq]; simp [same_refl]⟩
  · exact ⟨nul, 5, nul_lim, by rw [fin, if_neg hq]; rfl, by rw [whol, if_neg hq]; simp [same_refl]⟩
theorem p15n : PureC Try.prog 15 [nul.av] (.bool true) := by
  have h15 := p15 nul nul_lim
  rw [same_refl] at h15
  exact h15

theorem p4 (t : Ty) (by_ from_ : Int) : PureC Try.prog 4 [t.av, .int .i64 by_, .int .i64 from_] (.bool true) := by
  refine PureC.intro fun s => fun_sound mixed Try.func4 Try.call4 c4 rfl (awpFun_go _ _ _ _ ?_)
  simp (implicitDefEqProofs := false) (maxSteps := 2000000) (disch := (first | omega | (simp only [St.new_nx, St.set_nx, St.del_nx, St.bump_nx]; done) | (simp only [St.new_nx, St.set_nx, St.del_nx, St.bump_nx]; omega) | fail)) [a4, a4b, a4r0, a4r1]
  have h19 := p19 t by_ from_
  by_cases hc : proper t = true ∧ -9999 ≤ by_ ∧ by_ ≤ 9999 ∧ 0 ≤ from_ ∧ from_ ≤ 9999
  · rw [if_pos hc] at h19
    obtain ⟨hp, h1, h2, h3, h4⟩ := hc
    have g1 : ¬ by_ < -9999 := by omega
    have g2 : ¬ 9999 < by_ := by omega
    rw [lost_shf by_ from_ hp, moved_shf by_ from_ hp] at h19
    have h21 := p21 t by_ from_ (by omega) (by omega) (proper_fit hp)
    generalize shf by_ from_ t 0 = R at *
    obtain ⟨v, ok⟩ := R
    have h20 := p20 from_
    simp only [h3, h4, decide_true, Bool.and_self] at h20
    simp only at h21
    obtain ⟨u, e, hu, h19', hw⟩ : ∃ u e, lim u ∧ PureC Try.prog 19 [t.av, .int .i64 by_, .int .i64 from_] (.tup [u.av, .int .i64 e]) ∧ (ok = false → e = 6 ∧ same u nul = true) ∧ (ok = true → whol u e v = true) := by
      cases ok
      · exact ⟨nul, 6, nul_lim, h19, fun _ => ⟨rfl, same_refl nul⟩, by simp⟩
      · obtain ⟨u, e, hu, hfin, hw⟩ := fin_whol v
        simp only [Bool.not_true, Bool.false_eq_true, if_false] at h19
        rw [hfin] at h19
        exact ⟨u, e, hu, h19, by simp, fun _ => hw⟩
    clear h19
    refine go_pure h19' fun m1 hm1 => ?_
    simp only [St.new_nx, St.bump_nx, St.set_nx, St.del_nx] at hm1
    simp (implicitDefEqProofs := false) (maxSteps := 2000000) (disch := (first | omega | (simp only [St.new_nx, St.set_nx, St.del_nx, St.bump_nx]; done) | (simp only [St.new_nx, St.set_nx, St.del_nx, St.bump_nx]; omega) | fail)) [a4r2]
    refine go_pure (p13 t) fun m2 hm2 => ?_
    simp only [St.new_nx, St.bump_nx, St.set_nx, St.del_nx] at hm2
    rw [hp]
    simp (implicitDefEqProofs := false) (maxSteps := 2000000) (disch := (first | omega | (simp only [St.new_nx, St.set_nx, St.del_nx, St.bump_nx]; done) | (simp only [St.new_nx, St.set_nx, St.del_nx, St.bump_nx]; omega) | fail)) [g1, g2]
    refine go_pure h20 fun m3 hm3 => ?_
    simp only [St.new_nx, St.bump_nx, St.set_nx, St.del_nx] at hm3
    simp (implicitDefEqProofs := false) (maxSteps := 2000000) (disch := (first | omega | (simp only [St.new_nx, St.set_nx, St.del_nx, St.bump_nx]; done) | (simp only [St.new_nx, St.set_nx, St.del_nx, St.bump_nx]; omega) | fail)) [a4r4]
    refine go_pure h21 fun m4 hm4 => ?_
    simp only [St.new_nx, St.bump_nx, St.set_nx, St.del_nx] at hm4
    simp (implicitDefEqProofs := false) (maxSteps := 2000000) (disch := (first | omega | (simp only [St.new_nx, St.set_nx, St.del_nx, St.bump_nx]; done) | (simp only [St.new_nx, St.set_nx, St.del_nx, St.bump_nx]; omega) | fail)) [a4r5, a4r6, a4r7]
    cases ok
    · obtain ⟨rfl, hz⟩ := hw.1 rfl
      have h15 := p15 u hu
      rw [hz] at h15
      simp (implicitDefEqProofs := false) (maxSteps := 2000000) (disch := (first | omega | (simp only [St.new_nx, St.set_nx, St.del_nx, St.bump_nx]; done) | (simp only [St.new_nx, St.set_nx, St.del_nx, St.bump_nx]; omega) | fail)) [a4r6]
      refine go_pure h15 fun m5 hm5 => ?_
      simp only [St.new_nx, St.bump_nx, St.set_nx, St.del_nx] at hm5
      simp (implicitDefEqProofs := false) (maxSteps := 2000000) (disch := (first | omega | (simp only [St.new_nx, St.set_nx, St.del_nx, St.bump_nx]; done) | (simp only [St.new_nx, St.set_nx, St.del_nx, St.bump_nx]; omega) | fail))
      refine go_pure p16 fun m6 hm6 => ?_
      simp only [St.new_nx, St.bump_nx, St.set_nx, St.del_nx] at hm6
      simp (implicitDefEqProofs := false) (maxSteps := 2000000) (disch := (first | omega | (simp only [St.new_nx, St.set_nx, St.del_nx, St.bump_nx]; done) | (simp only [St.new_nx, St.set_nx, St.del_nx, St.bump_nx]; omega) | fail))
    · have h17 := p17 u e v hu
      rw [hw.2 rfl] at h17
      simp (implicitDefEqProofs := false) (maxSteps := 2000000) (disch := (first | omega | (simp only [St.new_nx, St.set_nx, St.del_nx, St.bump_nx]; done) | (simp only [St.new_nx, St.set_nx, St.del_nx, St.bump_nx]; omega) | fail)) [a4r7]
      refine go_pure h17 fun m5 hm5 => ?_
      simp only [St.new_nx, St.bump_nx, St.set_nx, St.del_nx] at hm5
      simp (implicitDefEqProofs := false) (maxSteps := 2000000) (disch := (first | omega | (simp only [St.new_nx, St.set_nx, St.del_nx, St.bump_nx]; done) | (simp only [St.new_nx, St.set_nx, St.del_nx, St.bump_nx]; omega) | fail))
      refine go_pure p16 fun m6 hm6 => ?_
      simp only [St.new_nx, St.bump_nx, St.set_nx, St.del_nx] at hm6
      simp (implicitDefEqProofs := false) (maxSteps := 2000000) (disch := (first | omega | (simp only [St.new_nx, St.set_nx, St.del_nx, St.bump_nx]; done) | (simp only [St.new_nx, St.set_nx, St.del_nx, St.bump_nx]; omega) | fail))
  · rw [if_neg hc] at h19
    have h20 := p20 from_
    have hcs : proper t = false ∨ (proper t = true ∧ by_ < -9999) ∨ (proper t = true ∧ ¬ by_ < -9999 ∧ 9999 < by_) ∨ (proper t = true ∧ ¬ by_ < -9999 ∧ ¬ 9999 < by_ ∧ (decide (0 ≤ from_) && decide (from_ ≤ 9999)) = false) := by
      cases hp : proper t
      · exact .inl rfl
      · refine .inr ?_
        by_cases k1 : by_ < -9999
        · exact .inl ⟨rfl, k1⟩
        by_cases k2 : 9999 < by_
        · exact .inr (.inl ⟨rfl, k1, k2⟩)
        refine .inr (.inr ⟨rfl, k1, k2, ?_⟩)
        by_cases k3 : 0 ≤ from_
        · have k4 : ¬ from_ ≤ 9999 := fun k4 => hc ⟨hp, by omega, by omega, k3, k4⟩
          simp [k4]
        · simp [k3]
    refine go_pure h19 fun m1 hm1 => ?_
    simp only [St.new_nx, St.bump_nx, St.set_nx, St.del_nx] at hm1
    simp (implicitDefEqProofs := false) (maxSteps := 2000000) (disch := (first | omega | (simp only [St.new_nx, St.set_nx, St.del_nx, St.bump_nx]; done) | (simp only [St.new_nx, St.set_nx, St.del_nx, St.bump_nx]; omega) | fail)) [a4r2]
    refine go_pure (p13 t) fun m2 hm2 => ?_
    simp only [St.new_nx, St.bump_nx, St.set_nx, St.del_nx] at hm2
    rcases hcs with hp | ⟨hp, k1⟩ | ⟨hp, k1, k2⟩ | ⟨hp, k1, k2, k3⟩ <;> rw [hp]
    · simp (implicitDefEqProofs := false) (maxSteps := 2000000) (disch := (first | omega | (simp only [St.new_nx, St.set_nx, St.del_nx, St.bump_nx]; done) | (simp only [St.new_nx, St.set_nx, St.del_nx, St.bump_nx]; omega) | fail)) [a4r3]
      refine go_pure p15n fun m5 hm5 => ?_
      simp only [St.new_nx, St.bump_nx, St.set_nx, St.del_nx] at hm5
      simp (implicitDefEqProofs := false) (maxSteps := 2000000) (disch := (first | omega | (simp only [St.new_nx, St.set_nx, St.del_nx, St.bump_nx]; done) | (simp only [St.new_nx, St.set_nx, St.del_nx, St.bump_nx]; omega) | fail))
      refine go_pure p16 fun m6 hm6 => ?_
      simp only [St.new_nx, St.bump_nx, St.set_nx, St.del_nx] at hm6
      simp (implicitDefEqProofs := false) (maxSteps := 2000000) (disch := (first | omega | (simp only [St.new_nx, St.set_nx, St.del_nx, St.bump_nx]; done) | (simp only [St.new_nx, St.set_nx, St.del_nx, St.bump_nx]; omega) | fail))
    · simp (implicitDefEqProofs := false) (maxSteps := 2000000) (disch := (first | omega | (simp only [St.new_nx, St.set_nx, St.del_nx, St.bump_nx]; done) | (simp only [St.new_nx, St.set_nx, St.del_nx, St.bump_nx]; omega) | fail)) [k1, a4r3]
      refine go_pure p15n fun m5 hm5 => ?_
      simp only [St.new_nx, St.bump_nx, St.set_nx, St.del_nx] at hm5
      simp (implicitDefEqProofs := false) (maxSteps := 2000000) (disch := (first | omega | (simp only [St.new_nx, St.set_nx, St.del_nx, St.bump_nx]; done) | (simp only [St.new_nx, St.set_nx, St.del_nx, St.bump_nx]; omega) | fail))
      refine go_pure p16 fun m6 hm6 => ?_
      simp only [St.new_nx, St.bump_nx, St.set_nx, St.del_nx] at hm6
      simp (implicitDefEqProofs := false) (maxSteps := 2000000) (disch := (first | omega | (simp only [St.new_nx, St.set_nx, St.del_nx, St.bump_nx]; done) | (simp only [St.new_nx, St.set_nx, St.del_nx, St.bump_nx]; omega) | fail))
    · simp (implicitDefEqProofs := false) (maxSteps := 2000000) (disch := (first | omega | (simp only [St.new_nx, St.set_nx, St.del_nx, St.bump_nx]; done) | (simp only [St.new_nx, St.set_nx, St.del_nx, St.bump_nx]; omega) | fail)) [k1, k2, a4r3]
      refine go_pure p15n fun m5 hm5 => ?_
      simp only [St.new_nx, St.bump_nx, St.set_nx, St.del_nx] at hm5
      simp (implicitDefEqProofs := false) (maxSteps := 2000000) (disch := (first | omega | (simp only [St.new_nx, St.set_nx, St.del_nx, St.bump_nx]; done) | (simp only [St.new_nx, St.set_nx, St.del_nx, St.bump_nx]; omega) | fail))
      refine go_pure p16 fun m6 hm6 => ?_
      simp only [St.new_nx, St.bump_nx, St.set_nx, St.del_nx] at hm6
      simp (implicitDefEqProofs := false) (maxSteps := 2000000) (disch := (first | omega | (simp only [St.new_nx, St.set_nx, St.del_nx, St.bump_nx]; done) | (simp only [St.new_nx, St.set_nx, St.del_nx, St.bump_nx]; omega) | fail))
    · rw [k3] at h20
      simp (implicitDefEqProofs := false) (maxSteps := 2000000) (disch := (first | omega | (simp only [St.new_nx, St.set_nx, St.del_nx, St.bump_nx]; done) | (simp only [St.new_nx, St.set_nx, St.del_nx, St.bump_nx]; omega) | fail)) [k1, k2]
      refine go_pure h20 fun m4 hm4 => ?_
      simp only [St.new_nx, St.bump_nx, St.set_nx, St.del_nx] at hm4
      simp (implicitDefEqProofs := false) (maxSteps := 2000000) (disch := (first | omega | (simp only [St.new_nx, St.set_nx, St.del_nx, St.bump_nx]; done) | (simp only [St.new_nx, St.set_nx, St.del_nx, St.bump_nx]; omega) | fail)) [a4r3]
      refine go_pure p15n fun m5 hm5 => ?_
      simp only [St.new_nx, St.bump_nx, St.set_nx, St.del_nx] at hm5
      simp (implicitDefEqProofs := false) (maxSteps := 2000000) (disch := (first | omega | (simp only [St.new_nx, St.set_nx, St.del_nx, St.bump_nx]; done) | (simp only [St.new_nx, St.set_nx, St.del_nx, St.bump_nx]; omega) | fail))
      refine go_pure p16 fun m6 hm6 => ?_
      simp only [St.new_nx, St.bump_nx, St.set_nx, St.del_nx] at hm6
      simp (implicitDefEqProofs := false) (maxSteps := 2000000) (disch := (first | omega | (simp only [St.new_nx, St.set_nx, St.del_nx, St.bump_nx]; done) | (simp only [St.new_nx, St.set_nx, St.del_nx, St.bump_nx]; omega) | fail))
end Go.AL.Ty
