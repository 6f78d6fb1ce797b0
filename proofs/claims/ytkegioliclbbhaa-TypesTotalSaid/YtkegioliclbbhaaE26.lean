/- TypesTotal. -/
import Derived.Test.YtkegioliclbbhaaE25
import Derived.Test.YtkegioliclbbhaaC4
set_option linter.unusedVariables false
set_option linter.unusedSimpArgs false
namespace Go.AL.Ty
open Go Go.Proofs

/-- What three comparisons keep to. -/
def Tr (a b c : Int) : Prop := (a ≤ 0 → b ≤ 0 → c ≤ 0) ∧ (a < 0 → b ≤ 0 → c < 0) ∧ (a ≤ 0 → b < 0 → c < 0) ∧ (a = 0 → b = 0 → c = 0)
theorem Tr.lex {a b c a' b' c' : Int} (h : Tr a b c) (h' : Tr a' b' c') : Tr (orI [a, a']) (orI [b, b']) (orI [c, c']) := by
  simp only [orI_two]
  unfold Tr at *
  split <;> split <;> split <;> omega
theorem tr_cmpI (a b c : Int) : Tr (cmpI a b) (cmpI b c) (cmpI a c) := by
  unfold Tr cmpI
  split <;> split <;> split <;> (try split) <;> (try split) <;> (try split) <;> omega
theorem tr_cmpS (a b c : ByteArray) : Tr (cmpS a b) (cmpS b c) (cmpS a c) := by
  have b1 := cmpS_bound a b
  have b2 := cmpS_bound b c
  have neg : ∀ x y, cmpS x y = -1 ↔ Op.bytesLess x.toList y.toList = true := by
    intro x y
    unfold cmpS
    cases h : Op.bytesLess x.toList y.toList
    · simp only [Bool.false_eq_true, if_false, iff_false]; split <;> omega
    · simp
  have tr : cmpS a b = -1 → cmpS b c = -1 → cmpS a c = -1 := fun h1 h2 => (neg _ _).2 (bl_trans _ _ _ ((neg _ _).1 h1) ((neg _ _).1 h2))
  have z1 := cmpS_zero a b
  have z2 := cmpS_zero b c
  have e1 : cmpS a b = 0 → cmpS a c = cmpS b c := fun h => by rw [z1.1 h]
  have e2 : cmpS b c = 0 → cmpS a c = cmpS a b := fun h => by rw [z2.1 h]
  unfold Tr
  refine ⟨fun h1 h2 => ?_, fun h1 h2 => ?_, fun h1 h2 => ?_, fun h1 h2 => ?_⟩ <;> omega
theorem tr_ords : ∀ (ts us ws : List Ty), (∀ x ∈ ts, ∀ u w, Tr (ord x u) (ord u w) (ord x w)) → Tr (ords ts us) (ords us ws) (ords ts ws)
  | [], [], ws, _ => by
    simp only [ords, List.length_nil, if_true]
    unfold Tr
    split <;> omega
  | [], u :: us, [], _ => by simp [ords, Tr]
  | [], u :: us, w :: ws, _ => by simp [ords, Tr]
  | t :: ts, [], ws, _ => by simp [ords, Tr]
  | t :: ts, u :: us, [], _ => by simp [ords, Tr]
  | t :: ts, u :: us, w :: ws, h => by
    simp only [ords]
    exact (h t (by simp) u w).lex (tr_ords ts us ws fun x hx => h x (by simp [hx]))
theorem orI_lex3 (a b c : Int) : orI [a, b, c] = orI [a, orI [b, c]] := by
  rw [orI_three, orI_two, orI_two]
theorem tr_ord (t : Ty) : ∀ u w, Tr (ord t u) (ord u w) (ord t w) := by
  induction t using Ty.ind with
  | h t ih =>
    intro u w
    rw [ord_eq t u, ord_eq u w, ord_eq t w]
    simp only [orI_lex3]
    exact (tr_cmpI _ _ _).lex (((tr_cmpI _ _ _).lex ((tr_cmpI _ _ _).lex (tr_cmpS _ _ _))).lex (tr_ords _ _ _ ih))

set_option maxHeartbeats 4000000 in
theorem p8 (t u v : Ty) : PureC Try.prog 8 [t.av, u.av, v.av] (.bool true) := by
  refine PureC.intro fun s => fun_sound mixed Try.func8 Try.call8 c8 rfl (awpFun_go _ _ _ _ ?_)
  have h1 := p36 t u
  have h2 := p36 u v
  have h3 := p36 t v
  by_cases hp : proper t = true ∧ proper u = true ∧ proper v = true
  · obtain ⟨k1, k2, k3⟩ := hp
    rw [if_pos ⟨k1, k2⟩] at h1
    rw [if_pos ⟨k2, k3⟩] at h2
    rw [if_pos ⟨k1, k3⟩] at h3
    have htr := tr_ord t u v
    have htr2 := tr_ord v u t
    rw [ord_neg u v, ord_neg t u, ord_neg t v] at htr2
    have hab := ord_bound t u
    have hbb := ord_bound u v
    have hcb := ord_bound t v
    generalize ord t u = a at *
    generalize ord u v = b at *
    generalize ord t v = c at *
    simp (implicitDefEqProofs := false) (maxSteps := 2000000) (disch := (first | omega | (simp only [St.new_nx, St.set_nx, St.del_nx, St.bump_nx]; done) | (simp only [St.new_nx, St.set_nx, St.del_nx, St.bump_nx]; omega) | fail)) [a8, a8b, a8r0, a8r1]
    refine go_pure (p13 t) fun mm1 hm1 => ?_
    try simp only [St.new_nx, St.bump_nx, St.set_nx, St.del_nx] at hm1
    rw [k1]
    simp (implicitDefEqProofs := false) (maxSteps := 2000000) (disch := (first | omega | (simp only [St.new_nx, St.set_nx, St.del_nx, St.bump_nx]; done) | (simp only [St.new_nx, St.set_nx, St.del_nx, St.bump_nx]; omega) | fail))
    refine go_pure (p13 u) fun mm2 hm2 => ?_
    try simp only [St.new_nx, St.bump_nx, St.set_nx, St.del_nx] at hm2
    rw [k2]
    simp (implicitDefEqProofs := false) (maxSteps := 2000000) (disch := (first | omega | (simp only [St.new_nx, St.set_nx, St.del_nx, St.bump_nx]; done) | (simp only [St.new_nx, St.set_nx, St.del_nx, St.bump_nx]; omega) | fail))
    refine go_pure (p13 v) fun mm3 hm3 => ?_
    try simp only [St.new_nx, St.bump_nx, St.set_nx, St.del_nx] at hm3
    rw [k3]
    simp (implicitDefEqProofs := false) (maxSteps := 2000000) (disch := (first | omega | (simp only [St.new_nx, St.set_nx, St.del_nx, St.bump_nx]; done) | (simp only [St.new_nx, St.set_nx, St.del_nx, St.bump_nx]; omega) | fail)) [a8r3]
    refine go_pure h1 fun mm4 hm4 => ?_
    try simp only [St.new_nx, St.bump_nx, St.set_nx, St.del_nx] at hm4
    simp (implicitDefEqProofs := false) (maxSteps := 2000000) (disch := (first | omega | (simp only [St.new_nx, St.set_nx, St.del_nx, St.bump_nx]; done) | (simp only [St.new_nx, St.set_nx, St.del_nx, St.bump_nx]; omega) | fail)) [a8r4]
    refine go_pure h2 fun mm5 hm5 => ?_
    try simp only [St.new_nx, St.bump_nx, St.set_nx, St.del_nx] at hm5
    simp (implicitDefEqProofs := false) (maxSteps := 2000000) (disch := (first | omega | (simp only [St.new_nx, St.set_nx, St.del_nx, St.bump_nx]; done) | (simp only [St.new_nx, St.set_nx, St.del_nx, St.bump_nx]; omega) | fail)) [a8r5]
    refine go_pure h3 fun mm6 hm6 => ?_
    try simp only [St.new_nx, St.bump_nx, St.set_nx, St.del_nx] at hm6
    simp (implicitDefEqProofs := false) (maxSteps := 2000000) (disch := (first | omega | (simp only [St.new_nx, St.set_nx, St.del_nx, St.bump_nx]; done) | (simp only [St.new_nx, St.set_nx, St.del_nx, St.bump_nx]; omega) | fail)) [a8r6]
    unfold Tr at htr htr2
    have ha : a = -1 ∨ a = 0 ∨ a = 1 := by omega
    have hb : b = -1 ∨ b = 0 ∨ b = 1 := by omega
    have hc : c = -1 ∨ c = 0 ∨ c = 1 := by omega
    clear h1 h2 h3 hab hbb hcb
    rcases ha with rfl | rfl | rfl <;> rcases hb with rfl | rfl | rfl <;> rcases hc with rfl | rfl | rfl <;> first | (exfalso; omega) | skip
    all_goals simp (implicitDefEqProofs := false) (maxSteps := 2000000) (disch := (first | omega | (simp only [St.new_nx, St.set_nx, St.del_nx, St.bump_nx]; done) | (simp only [St.new_nx, St.set_nx, St.del_nx, St.bump_nx]; omega) | fail)) [a8r8, a8r10]
    all_goals refine go_pure p16 fun m hm => ?_
    all_goals simp (implicitDefEqProofs := false) (maxSteps := 2000000) (disch := (first | omega | (simp only [St.new_nx, St.set_nx, St.del_nx, St.bump_nx]; done) | (simp only [St.new_nx, St.set_nx, St.del_nx, St.bump_nx]; omega) | fail))
  · simp (implicitDefEqProofs := false) (maxSteps := 2000000) (disch := (first | omega | (simp only [St.new_nx, St.set_nx, St.del_nx, St.bump_nx]; done) | (simp only [St.new_nx, St.set_nx, St.del_nx, St.bump_nx]; omega) | fail)) [a8, a8b, a8r0, a8r1]
    refine go_pure (p13 t) fun mm7 hm7 => ?_
    try simp only [St.new_nx, St.bump_nx, St.set_nx, St.del_nx] at hm7
    simp (implicitDefEqProofs := false) (maxSteps := 2000000) (disch := (first | omega | (simp only [St.new_nx, St.set_nx, St.del_nx, St.bump_nx]; done) | (simp only [St.new_nx, St.set_nx, St.del_nx, St.bump_nx]; omega) | fail))
    refine ⟨fun k1 => ?_, fun k1 => ?_⟩
    · refine go_pure (p13 u) fun mm8 hm8 => ?_
      try simp only [St.new_nx, St.bump_nx, St.set_nx, St.del_nx] at hm8
      simp (implicitDefEqProofs := false) (maxSteps := 2000000) (disch := (first | omega | (simp only [St.new_nx, St.set_nx, St.del_nx, St.bump_nx]; done) | (simp only [St.new_nx, St.set_nx, St.del_nx, St.bump_nx]; omega) | fail))
      refine ⟨fun k2 => ?_, fun k2 => ?_⟩
      · refine go_pure (p13 v) fun mm9 hm9 => ?_
        try simp only [St.new_nx, St.bump_nx, St.set_nx, St.del_nx] at hm9
        simp (implicitDefEqProofs := false) (maxSteps := 2000000) (disch := (first | omega | (simp only [St.new_nx, St.set_nx, St.del_nx, St.bump_nx]; done) | (simp only [St.new_nx, St.set_nx, St.del_nx, St.bump_nx]; omega) | fail))
        refine ⟨fun k3 => ?_, fun k3 => absurd ⟨k1, k2, k3⟩ hp⟩
        simp (implicitDefEqProofs := false) (maxSteps := 2000000) (disch := (first | omega | (simp only [St.new_nx, St.set_nx, St.del_nx, St.bump_nx]; done) | (simp only [St.new_nx, St.set_nx, St.del_nx, St.bump_nx]; omega) | fail)) [a8r2]
        refine go_pure p16 fun mm10 hm10 => ?_
        try simp only [St.new_nx, St.bump_nx, St.set_nx, St.del_nx] at hm10
        simp (implicitDefEqProofs := false) (maxSteps := 2000000) (disch := (first | omega | (simp only [St.new_nx, St.set_nx, St.del_nx, St.bump_nx]; done) | (simp only [St.new_nx, St.set_nx, St.del_nx, St.bump_nx]; omega) | fail))
      · simp (implicitDefEqProofs := false) (maxSteps := 2000000) (disch := (first | omega | (simp only [St.new_nx, St.set_nx, St.del_nx, St.bump_nx]; done) | (simp only [St.new_nx, St.set_nx, St.del_nx, St.bump_nx]; omega) | fail)) [a8r2]
        refine go_pure p16 fun mm11 hm11 => ?_
        try simp only [St.new_nx, St.bump_nx, St.set_nx, St.del_nx] at hm11
        simp (implicitDefEqProofs := false) (maxSteps := 2000000) (disch := (first | omega | (simp only [St.new_nx, St.set_nx, St.del_nx, St.bump_nx]; done) | (simp only [St.new_nx, St.set_nx, St.del_nx, St.bump_nx]; omega) | fail))
    · simp (implicitDefEqProofs := false) (maxSteps := 2000000) (disch := (first | omega | (simp only [St.new_nx, St.set_nx, St.del_nx, St.bump_nx]; done) | (simp only [St.new_nx, St.set_nx, St.del_nx, St.bump_nx]; omega) | fail)) [a8r2]
      refine go_pure p16 fun mm12 hm12 => ?_
      try simp only [St.new_nx, St.bump_nx, St.set_nx, St.del_nx] at hm12
      simp (implicitDefEqProofs := false) (maxSteps := 2000000) (disch := (first | omega | (simp only [St.new_nx, St.set_nx, St.del_nx, St.bump_nx]; done) | (simp only [St.new_nx, St.set_nx, St.del_nx, St.bump_nx]; omega) | fail))
end Go.AL.Ty
