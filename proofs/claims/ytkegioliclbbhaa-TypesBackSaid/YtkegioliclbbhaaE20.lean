/- TypesBinds. -/
import Derived.Test.YtkegioliclbbhaaE19
set_option linter.unusedVariables false
set_option linter.unusedSimpArgs false
namespace Go.AL.Ty
open Go Go.Proofs

def bind (t : Ty) (op : Int) (l : List Int) : Ty := bn op l t 0
theorem p24 (t : Ty) (op : Int) (l : List Int) (hl : l.length ≤ 1000000) (ht : Fit t 0) : PureC Try.prog 24 [t.av, .int .i64 op, .list 1 .none (il l)] (bind t op l).av := by
  refine PureC.intro fun s => fun_sound mixed Try.func24 Try.call24 c24 rfl (awpFun_go _ _ _ _ ?_)
  simp (implicitDefEqProofs := false) (maxSteps := 2000000) (disch := (first | omega | (simp only [St.new_nx, St.set_nx, St.del_nx, St.bump_nx]; done) | (simp only [St.new_nx, St.set_nx, St.del_nx, St.bump_nx]; omega) | fail)) [a24, a24b, a24r0, a24r1]
  refine go_pure (p67 op l hl t 0 ht) fun mm1 hm1 => ?_
  try simp only [St.new_nx, St.bump_nx, St.set_nx, St.del_nx] at hm1
  simp (implicitDefEqProofs := false) (maxSteps := 2000000) (disch := (first | omega | (simp only [St.new_nx, St.set_nx, St.del_nx, St.bump_nx]; done) | (simp only [St.new_nx, St.set_nx, St.del_nx, St.bump_nx]; omega) | fail)) [bind]

theorem maps_bns (op : Int) (l : List Int) (o : Int) : ∀ (ts : List Ty) (i : Nat) (b : Int), 0 ≤ b → (∀ x ∈ ts, ∀ b, 0 ≤ b → map (bnd op l) x b = bn op l x b) → maps (bnd op l) o ts i b = bns op l o ts i b
  | [], _, _, _, _ => by simp [maps, bns]
  | t :: ts, i, b, hb, h => by
    have := belw_bound o i
    simp only [maps, bns]
    rw [h t (by simp) _ (by omega), maps_bns op l o ts (i + 1) b hb fun x hx => h x (by simp [hx])]
theorem map_bn (op : Int) (l : List Int) (t : Ty) : Gd t → ∀ b, 0 ≤ b → map (bnd op l) t b = bn op l t b := by
  induction t using Ty.ind with
  | h t ih =>
    intro hg b hb
    rw [map_eq, bn_eq]
    by_cases hA : t.op = op ∧ t.n ∈ l
    · rw [bnd, if_pos hA, if_pos hA]
    · rw [if_neg hA]
      by_cases ho : t.op = 1
      · have hv := hg.var ho
        have e1 : t.s = ⟨#[]⟩ := by rw [hv]; rfl
        have e2 : t.args = [] := by rw [hv]; rfl
        by_cases hn : b ≤ t.n
        · have e : bnd op l t b = some (var (t.n + l.length)) := by rw [bnd, if_neg hA, if_pos ⟨ho, hn⟩]
          rw [e, if_pos ⟨ho, hn⟩, ho, e1, e2]
          rfl
        · have e : bnd op l t b = some t := by rw [bnd, if_neg hA, if_neg (by omega), if_pos ho]
          rw [e, if_neg (by omega), e2, bns]
          simp only
          rw [← e2, eta]
      · have e : bnd op l t b = none := by rw [bnd, if_neg hA, if_neg (by simp [ho]), if_neg ho]
        rw [e, if_neg (by simp [ho])]
        simp only
        rw [maps_bns op l t.op t.args 0 b hb fun x hx b hb => ih x hx (hg.spec.2 x hx) b hb]
theorem bound_bind {t : Ty} (op : Int) (l : List Int) (h : proper t = true) : bound t op l = bind t op l := map_bn op l t (.of h) 0 (by omega)

theorem p5 (t : Ty) (op : Int) (l0 : List Int) (hlen : l0.length * 8 ≤ 140737488355328) : PureC Try.prog 5 [t.av, .int .i64 op, .list 1 .none (il l0)] (.bool true) := by
  refine PureC.intro fun s => fun_sound mixed Try.func5 Try.call5 c5 rfl (awpFun_go _ _ _ _ ?_)
  simp (implicitDefEqProofs := false) (maxSteps := 2000000) (disch := (first | omega | (simp only [St.new_nx, St.set_nx, St.del_nx, St.bump_nx]; done) | (simp only [St.new_nx, St.set_nx, St.del_nx, St.bump_nx]; omega) | fail)) [a5, a5b, a5r0, a5r1]
  have e : List.take (if (601 : Int) < l0.length then (601 : Int) else l0.length).toNat (il l0) = il (l0.take 601) := by
    rw [il_take]
    split
    · rfl
    · congr 1
      rw [List.take_of_length_le (by omega), List.take_of_length_le (by omega)]
  have hl : (l0.take 601).length ≤ 601 := by rw [List.length_take]; omega
  rw [e]
  clear e
  generalize l0.take 601 = l at hl
  have h22 := p22 t op l
  have h23 := p23 l (by omega)
  simp (implicitDefEqProofs := false) (maxSteps := 2000000) (disch := (first | omega | (simp only [St.new_nx, St.set_nx, St.del_nx, St.bump_nx]; done) | (simp only [St.new_nx, St.set_nx, St.del_nx, St.bump_nx]; omega) | fail)) [a5r2]
  by_cases hc : proper t = true ∧ l.length ≤ 600 ∧ (op = 7 ∨ op = 6) ∧ chk [] l = true
  · rw [bindR, if_pos hc] at h22
    obtain ⟨hp, h1, h2, h3⟩ := hc
    obtain ⟨u, e, hu, hfin, hw⟩ := fin_whol (bound t op l)
    rw [hfin] at h22
    rw [bound_bind op l hp] at hw
    have h2' : ¬ (¬ op = 6 ∧ ¬ op = 7) := by omega
    have h17 := p17 u e (bind t op l) hu
    rw [hw] at h17
    refine pcV_intro (PureC.argw h22 (by simp [il])) ?_
    simp (implicitDefEqProofs := false) (maxSteps := 2000000) (disch := (first | omega | (simp only [St.new_nx, St.set_nx, St.del_nx, St.bump_nx]; done) | (simp only [St.new_nx, St.set_nx, St.del_nx, St.bump_nx]; omega) | fail)) [a5r3]
    intro m0 hm0
    refine go_pure (p13 t) fun mm2 hm2 => ?_
    try simp only [St.new_nx, St.bump_nx, St.set_nx, St.del_nx] at hm2
    rw [hp]
    rw [h3] at h23
    simp only [h1, decide_true, Bool.and_self] at h23
    have fin2 : ∀ (op' : Int), op = op' → (op' = 7 ∨ op' = 6) → PureC Try.prog 24 [t.av, .int .i64 op', .list 1 .none (il l)] (bind t op l).av := by
      rintro op' rfl _
      exact p24 t op l (by omega) (proper_fit hp)
    rcases h2 with h2 | h2
    · have h24 := fin2 7 h2 (.inl rfl)
      generalize bind t op l = B at *
      subst h2
      simp (implicitDefEqProofs := false) (maxSteps := 2000000) (disch := (first | omega | (simp only [St.new_nx, St.set_nx, St.del_nx, St.bump_nx]; done) | (simp only [St.new_nx, St.set_nx, St.del_nx, St.bump_nx]; omega) | fail))
      refine go_pure h23 fun mm3 hm3 => ?_
      try simp only [St.new_nx, St.bump_nx, St.set_nx, St.del_nx] at hm3
      simp (implicitDefEqProofs := false) (maxSteps := 2000000) (disch := (first | omega | (simp only [St.new_nx, St.set_nx, St.del_nx, St.bump_nx]; done) | (simp only [St.new_nx, St.set_nx, St.del_nx, St.bump_nx]; omega) | fail)) [a5r5]
      refine pcV_intro h24 ?_
      simp (implicitDefEqProofs := false) (maxSteps := 2000000) (disch := (first | omega | (simp only [St.new_nx, St.set_nx, St.del_nx, St.bump_nx]; done) | (simp only [St.new_nx, St.set_nx, St.del_nx, St.bump_nx]; omega) | fail))
      refine pcV_intro h17 ?_
      simp (implicitDefEqProofs := false) (maxSteps := 2000000) (disch := (first | omega | (simp only [St.new_nx, St.set_nx, St.del_nx, St.bump_nx]; done) | (simp only [St.new_nx, St.set_nx, St.del_nx, St.bump_nx]; omega) | fail))
      refine pcV_intro p16 ?_
      simp (implicitDefEqProofs := false) (maxSteps := 2000000) (disch := (first | omega | (simp only [St.new_nx, St.set_nx, St.del_nx, St.bump_nx]; done) | (simp only [St.new_nx, St.set_nx, St.del_nx, St.bump_nx]; omega) | fail))
    · have h24 := fin2 6 h2 (.inr rfl)
      generalize bind t op l = B at *
      subst h2
      simp (implicitDefEqProofs := false) (maxSteps := 2000000) (disch := (first | omega | (simp only [St.new_nx, St.set_nx, St.del_nx, St.bump_nx]; done) | (simp only [St.new_nx, St.set_nx, St.del_nx, St.bump_nx]; omega) | fail))
      refine go_pure h23 fun mm4 hm4 => ?_
      try simp only [St.new_nx, St.bump_nx, St.set_nx, St.del_nx] at hm4
      simp (implicitDefEqProofs := false) (maxSteps := 2000000) (disch := (first | omega | (simp only [St.new_nx, St.set_nx, St.del_nx, St.bump_nx]; done) | (simp only [St.new_nx, St.set_nx, St.del_nx, St.bump_nx]; omega) | fail)) [a5r5]
      refine pcV_intro h24 ?_
      simp (implicitDefEqProofs := false) (maxSteps := 2000000) (disch := (first | omega | (simp only [St.new_nx, St.set_nx, St.del_nx, St.bump_nx]; done) | (simp only [St.new_nx, St.set_nx, St.del_nx, St.bump_nx]; omega) | fail))
      refine pcV_intro h17 ?_
      simp (implicitDefEqProofs := false) (maxSteps := 2000000) (disch := (first | omega | (simp only [St.new_nx, St.set_nx, St.del_nx, St.bump_nx]; done) | (simp only [St.new_nx, St.set_nx, St.del_nx, St.bump_nx]; omega) | fail))
      refine pcV_intro p16 ?_
      simp (implicitDefEqProofs := false) (maxSteps := 2000000) (disch := (first | omega | (simp only [St.new_nx, St.set_nx, St.del_nx, St.bump_nx]; done) | (simp only [St.new_nx, St.set_nx, St.del_nx, St.bump_nx]; omega) | fail))
  · rw [bindR, if_neg hc] at h22
    have hcs : proper t = false ∨ (proper t = true ∧ ¬ op = 6 ∧ ¬ op = 7) ∨ (proper t = true ∧ (op = 6 ∨ op = 7) ∧ (decide (l.length ≤ 600) && chk [] l) = false) := by
      cases hp : proper t
      · exact .inl rfl
      · refine .inr ?_
        by_cases k1 : op = 6 ∨ op = 7
        · refine .inr ⟨rfl, k1, ?_⟩
          by_cases k2 : l.length ≤ 600
          · have : ¬ chk [] l = true := fun h => hc ⟨hp, k2, by omega, h⟩
            simp [this]
          · simp [k2]
        · exact .inl ⟨rfl, by omega, by omega⟩
    refine pcV_intro (PureC.argw h22 (by simp [il])) ?_
    simp (implicitDefEqProofs := false) (maxSteps := 2000000) (disch := (first | omega | (simp only [St.new_nx, St.set_nx, St.del_nx, St.bump_nx]; done) | (simp only [St.new_nx, St.set_nx, St.del_nx, St.bump_nx]; omega) | fail)) [a5r3]
    intro m0 hm0
    refine go_pure (p13 t) fun mm5 hm5 => ?_
    try simp only [St.new_nx, St.bump_nx, St.set_nx, St.del_nx] at hm5
    rcases hcs with hp | ⟨hp, k1, k2⟩ | ⟨hp, k1, k3⟩ <;> rw [hp]
    · simp (implicitDefEqProofs := false) (maxSteps := 2000000) (disch := (first | omega | (simp only [St.new_nx, St.set_nx, St.del_nx, St.bump_nx]; done) | (simp only [St.new_nx, St.set_nx, St.del_nx, St.bump_nx]; omega) | fail)) [a5r4]
      refine go_pure p15n fun mm6 hm6 => ?_
      try simp only [St.new_nx, St.bump_nx, St.set_nx, St.del_nx] at hm6
      simp (implicitDefEqProofs := false) (maxSteps := 2000000) (disch := (first | omega | (simp only [St.new_nx, St.set_nx, St.del_nx, St.bump_nx]; done) | (simp only [St.new_nx, St.set_nx, St.del_nx, St.bump_nx]; omega) | fail))
      refine go_pure p16 fun mm7 hm7 => ?_
      try simp only [St.new_nx, St.bump_nx, St.set_nx, St.del_nx] at hm7
      simp (implicitDefEqProofs := false) (maxSteps := 2000000) (disch := (first | omega | (simp only [St.new_nx, St.set_nx, St.del_nx, St.bump_nx]; done) | (simp only [St.new_nx, St.set_nx, St.del_nx, St.bump_nx]; omega) | fail))
    · simp (implicitDefEqProofs := false) (maxSteps := 2000000) (disch := (first | omega | (simp only [St.new_nx, St.set_nx, St.del_nx, St.bump_nx]; done) | (simp only [St.new_nx, St.set_nx, St.del_nx, St.bump_nx]; omega) | fail)) [k1, k2, a5r4]
      refine go_pure p15n fun mm8 hm8 => ?_
      try simp only [St.new_nx, St.bump_nx, St.set_nx, St.del_nx] at hm8
      simp (implicitDefEqProofs := false) (maxSteps := 2000000) (disch := (first | omega | (simp only [St.new_nx, St.set_nx, St.del_nx, St.bump_nx]; done) | (simp only [St.new_nx, St.set_nx, St.del_nx, St.bump_nx]; omega) | fail))
      refine go_pure p16 fun mm9 hm9 => ?_
      try simp only [St.new_nx, St.bump_nx, St.set_nx, St.del_nx] at hm9
      simp (implicitDefEqProofs := false) (maxSteps := 2000000) (disch := (first | omega | (simp only [St.new_nx, St.set_nx, St.del_nx, St.bump_nx]; done) | (simp only [St.new_nx, St.set_nx, St.del_nx, St.bump_nx]; omega) | fail))
    · rw [k3] at h23
      rcases k1 with rfl | rfl
      · simp (implicitDefEqProofs := false) (maxSteps := 2000000) (disch := (first | omega | (simp only [St.new_nx, St.set_nx, St.del_nx, St.bump_nx]; done) | (simp only [St.new_nx, St.set_nx, St.del_nx, St.bump_nx]; omega) | fail))
        refine go_pure h23 fun mm10 hm10 => ?_
        try simp only [St.new_nx, St.bump_nx, St.set_nx, St.del_nx] at hm10
        simp (implicitDefEqProofs := false) (maxSteps := 2000000) (disch := (first | omega | (simp only [St.new_nx, St.set_nx, St.del_nx, St.bump_nx]; done) | (simp only [St.new_nx, St.set_nx, St.del_nx, St.bump_nx]; omega) | fail)) [a5r4]
        refine go_pure p15n fun mm11 hm11 => ?_
        try simp only [St.new_nx, St.bump_nx, St.set_nx, St.del_nx] at hm11
        simp (implicitDefEqProofs := false) (maxSteps := 2000000) (disch := (first | omega | (simp only [St.new_nx, St.set_nx, St.del_nx, St.bump_nx]; done) | (simp only [St.new_nx, St.set_nx, St.del_nx, St.bump_nx]; omega) | fail))
        refine go_pure p16 fun mm12 hm12 => ?_
        try simp only [St.new_nx, St.bump_nx, St.set_nx, St.del_nx] at hm12
        simp (implicitDefEqProofs := false) (maxSteps := 2000000) (disch := (first | omega | (simp only [St.new_nx, St.set_nx, St.del_nx, St.bump_nx]; done) | (simp only [St.new_nx, St.set_nx, St.del_nx, St.bump_nx]; omega) | fail))
      · simp (implicitDefEqProofs := false) (maxSteps := 2000000) (disch := (first | omega | (simp only [St.new_nx, St.set_nx, St.del_nx, St.bump_nx]; done) | (simp only [St.new_nx, St.set_nx, St.del_nx, St.bump_nx]; omega) | fail))
        refine go_pure h23 fun mm13 hm13 => ?_
        try simp only [St.new_nx, St.bump_nx, St.set_nx, St.del_nx] at hm13
        simp (implicitDefEqProofs := false) (maxSteps := 2000000) (disch := (first | omega | (simp only [St.new_nx, St.set_nx, St.del_nx, St.bump_nx]; done) | (simp only [St.new_nx, St.set_nx, St.del_nx, St.bump_nx]; omega) | fail)) [a5r4]
        refine go_pure p15n fun mm14 hm14 => ?_
        try simp only [St.new_nx, St.bump_nx, St.set_nx, St.del_nx] at hm14
        simp (implicitDefEqProofs := false) (maxSteps := 2000000) (disch := (first | omega | (simp only [St.new_nx, St.set_nx, St.del_nx, St.bump_nx]; done) | (simp only [St.new_nx, St.set_nx, St.del_nx, St.bump_nx]; omega) | fail))
        refine go_pure p16 fun mm15 hm15 => ?_
        try simp only [St.new_nx, St.bump_nx, St.set_nx, St.del_nx] at hm15
        simp (implicitDefEqProofs := false) (maxSteps := 2000000) (disch := (first | omega | (simp only [St.new_nx, St.set_nx, St.del_nx, St.bump_nx]; done) | (simp only [St.new_nx, St.set_nx, St.del_nx, St.bump_nx]; omega) | fail))
end Go.AL.Ty
