/- TypesShifts: the plain law, the walk. -/
import Derived.Test.YtkegioliclbbhaaC4
set_option linter.unusedVariables false
set_option linter.unusedSimpArgs false
namespace Go.AL.Ty
open Go Go.Proofs

theorem wlks_lost (by_ from_ op : Int) : ∀ (l : List Ty) (i : Nat) (b : Int) (x : Bool), (∀ t ∈ l, ∀ b x, wlk (vlost by_ from_) t b x = (x || !(shf by_ from_ t b).2)) → wlks (vlost by_ from_) op l i b x = (x || !(shfs by_ from_ op l i b).2)
  | [], _, _, x, _ => by simp [wlks, shfs]
  | t :: ts, i, b, x, h => by
    simp only [wlks, shfs]
    rw [h t (by simp), wlks_lost by_ from_ op ts (i + 1) b _ fun y hy => h y (by simp [hy])]
    cases x <;> cases (shf by_ from_ t (b + belw op i)).2 <;> simp
theorem wlk_lost (by_ from_ : Int) (t : Ty) : Gd t → ∀ b x, wlk (vlost by_ from_) t b x = (x || !(shf by_ from_ t b).2) := by
  induction t using Ty.ind with
  | h t ih =>
    intro hg b x
    rw [wlk_eq, shf_eq]
    by_cases hc : t.op = 1 ∧ from_ ≤ t.n - b
    · rw [if_pos hc]
      have := hg.var hc.1
      obtain ⟨h1, h2⟩ := hc
      have e : t.args = [] := by rw [this]; rfl
      rw [e, wlks]
      simp only [vlost, h1, h2, decide_true, Bool.true_and]
      congr 1
      rw [← decide_not]
      congr 1
      exact propext (by omega)
    · rw [if_neg hc]
      have e : vlost by_ from_ t b x = x := by
        by_cases h1 : t.op = 1
        · have h2 : ¬ from_ ≤ t.n - b := fun h => hc ⟨h1, h⟩
          simp [vlost, h2]
        · simp [vlost, h1]
      rw [e, wlks_lost by_ from_ t.op t.args 0 b x fun y hy b x => ih y hy (hg.spec.2 y hy) b x]
theorem lost_shf {t : Ty} (by_ from_ : Int) (h : proper t = true) : lost t by_ from_ = !(shf by_ from_ t 0).2 := by
  rw [lost, wlk_lost by_ from_ t (.of h)]; simp
theorem moved_shf {t : Ty} (by_ from_ : Int) (h : proper t = true) : moved t by_ from_ = (shf by_ from_ t 0).1 := map_mv by_ from_ t (.of h) 0

/-- What whole says of what is put into form. -/
theorem fin_whol (x : Ty) : ∃ u e, lim u ∧ fin x = .tup [u.av, .int .i64 e] ∧ whol u e x = true := by
  by_cases hq : proper x = true
  · exact ⟨x, 0, proper_lim hq, by rw [fin, if_pos hq], by rw [whol, if_pos hq]; simp [same_refl]⟩
  · exact ⟨nul, 5, nul_lim, by rw [fin, if_neg hq]; rfl, by rw [whol, if_neg hq]; simp [same_refl]⟩
theorem p15n : PureC Try.prog 15 [nul.av] (.bool true) := by
  have h15 := p15 nul nul_lim
  rw [same_refl] at h15
  exact h15

theorem p4 (t : Ty) (by_ from_ : Int) : PureC Try.prog 4 [t.av, .int .i64 by_, .int .i64 from_] (.bool true) := by
  refine PureC.intro fun s => fun_sound mixed Try.func4 Try.call4 c4 rfl (awpFun_go _ _ _ _ ?_)
  simp (implicitDefEqProofs := false) (maxSteps := 2000000) (disch := (first | omega | (simp only [St.new_nx, St.set_nx, St.del_nx, St.bump_nx]; done) | (simp only [St.new_nx, St.set_nx, St.del_nx, St.bump_nx]; omega) | fail)) [a4, a4b, a4r0, a4r1]
  have h19 := p19 t by_ from_
  by_cases hc : proper t = true ∧ -9999 ≤ by_ ∧ by_ ≤ 9999 ∧ 0 ≤ from_ ∧ from_ ≤ 9999
  · rw [if_pos hc] at h19
    obtain ⟨hp, h1, h2, h3, h4⟩ := hc
    have g1 : ¬ by_ < -9999 := by omega
    have g2 : ¬ 9999 < by_ := by omega
    rw [lost_shf by_ from_ hp, moved_shf by_ from_ hp] at h19
    have h21 := p21 t by_ from_ (by omega) (by omega) (proper_fit hp)
    generalize shf by_ from_ t 0 = R at *
    obtain ⟨v, ok⟩ := R
    have h20 := p20 from_
    simp only [h3, h4, decide_true, Bool.and_self] at h20
    simp only at h21
    obtain ⟨u, e, hu, h19', hw⟩ : ∃ u e, lim u ∧ PureC Try.prog 19 [t.av, .int .i64 by_, .int .i64 from_] (.tup [u.av, .int .i64 e]) ∧ (ok = false → e = 6 ∧ same u nul = true) ∧ (ok = true → whol u e v = true) := by
      cases ok
      · exact ⟨nul, 6, nul_lim, h19, fun _ => ⟨rfl, same_refl nul⟩, by simp⟩
      · obtain ⟨u, e, hu, hfin, hw⟩ := fin_whol v
        simp only [Bool.not_true, Bool.false_eq_true, if_false] at h19
        rw [hfin] at h19
        exact ⟨u, e, hu, h19, by simp, fun _ => hw⟩
    clear h19
    refine go_pure h19' fun m1 hm1 => ?_
    simp only [St.new_nx, St.bump_nx, St.set_nx, St.del_nx] at hm1
    simp (implicitDefEqProofs := false) (maxSteps := 2000000) (disch := (first | omega | (simp only [St.new_nx, St.set_nx, St.del_nx, St.bump_nx]; done) | (simp only [St.new_nx, St.set_nx, St.del_nx, St.bump_nx]; omega) | fail)) [a4r2]
    refine go_pure (p13 t) fun m2 hm2 => ?_
    simp only [St.new_nx, St.bump_nx, St.set_nx, St.del_nx] at hm2
    rw [hp]
    simp (implicitDefEqProofs := false) (maxSteps := 2000000) (disch := (first | omega | (simp only [St.new_nx, St.set_nx, St.del_nx, St.bump_nx]; done) | (simp only [St.new_nx, St.set_nx, St.del_nx, St.bump_nx]; omega) | fail)) [g1, g2]
    refine go_pure h20 fun m3 hm3 => ?_
    simp only [St.new_nx, St.bump_nx, St.set_nx, St.del_nx] at hm3
    simp (implicitDefEqProofs := false) (maxSteps := 2000000) (disch := (first | omega | (simp only [St.new_nx, St.set_nx, St.del_nx, St.bump_nx]; done) | (simp only [St.new_nx, St.set_nx, St.del_nx, St.bump_nx]; omega) | fail)) [a4r4]
    refine go_pure h21 fun m4 hm4 => ?_
    simp only [St.new_nx, St.bump_nx, St.set_nx, St.del_nx] at hm4
    simp (implicitDefEqProofs := false) (maxSteps := 2000000) (disch := (first | omega | (simp only [St.new_nx, St.set_nx, St.del_nx, St.bump_nx]; done) | (simp only [St.new_nx, St.set_nx, St.del_nx, St.bump_nx]; omega) | fail)) [a4r5, a4r6, a4r7]
    cases ok
    · obtain ⟨rfl, hz⟩ := hw.1 rfl
      have h15 := p15 u hu
      rw [hz] at h15
      simp (implicitDefEqProofs := false) (maxSteps := 2000000) (disch := (first | omega | (simp only [St.new_nx, St.set_nx, St.del_nx, St.bump_nx]; done) | (simp only [St.new_nx, St.set_nx, St.del_nx, St.bump_nx]; omega) | fail)) [a4r6]
      refine go_pure h15 fun m5 hm5 => ?_
      simp only [St.new_nx, St.bump_nx, St.set_nx, St.del_nx] at hm5
      simp (implicitDefEqProofs := false) (maxSteps := 2000000) (disch := (first | omega | (simp only [St.new_nx, St.set_nx, St.del_nx, St.bump_nx]; done) | (simp only [St.new_nx, St.set_nx, St.del_nx, St.bump_nx]; omega) | fail))
      refine go_pure p16 fun m6 hm6 => ?_
      simp only [St.new_nx, St.bump_nx, St.set_nx, St.del_nx] at hm6
      simp (implicitDefEqProofs := false) (maxSteps := 2000000) (disch := (first | omega | (simp only [St.new_nx, St.set_nx, St.del_nx, St.bump_nx]; done) | (simp only [St.new_nx, St.set_nx, St.del_nx, St.bump_nx]; omega) | fail))
    · have h17 := p17 u e v hu
      rw [hw.2 rfl] at h17
      simp (implicitDefEqProofs := false) (maxSteps := 2000000) (disch := (first | omega | (simp only [St.new_nx, St.set_nx, St.del_nx, St.bump_nx]; done) | (simp only [St.new_nx, St.set_nx, St.del_nx, St.bump_nx]; omega) | fail)) [a4r7]
      refine go_pure h17 fun m5 hm5 => ?_
      simp only [St.new_nx, St.bump_nx, St.set_nx, St.del_nx] at hm5
      simp (implicitDefEqProofs := false) (maxSteps := 2000000) (disch := (first | omega | (simp only [St.new_nx, St.set_nx, St.del_nx, St.bump_nx]; done) | (simp only [St.new_nx, St.set_nx, St.del_nx, St.bump_nx]; omega) | fail))
      refine go_pure p16 fun m6 hm6 => ?_
      simp only [St.new_nx, St.bump_nx, St.set_nx, St.del_nx] at hm6
      simp (implicitDefEqProofs := false) (maxSteps := 2000000) (disch := (first | omega | (simp only [St.new_nx, St.set_nx, St.del_nx, St.bump_nx]; done) | (simp only [St.new_nx, St.set_nx, St.del_nx, St.bump_nx]; omega) | fail))
  · rw [if_neg hc] at h19
    have h20 := p20 from_
    have hcs : proper t = false ∨ (proper t = true ∧ by_ < -9999) ∨ (proper t = true ∧ ¬ by_ < -9999 ∧ 9999 < by_) ∨ (proper t = true ∧ ¬ by_ < -9999 ∧ ¬ 9999 < by_ ∧ (decide (0 ≤ from_) && decide (from_ ≤ 9999)) = false) := by
      cases hp : proper t
      · exact .inl rfl
      · refine .inr ?_
        by_cases k1 : by_ < -9999
        · exact .inl ⟨rfl, k1⟩
        by_cases k2 : 9999 < by_
        · exact .inr (.inl ⟨rfl, k1, k2⟩)
        refine .inr (.inr ⟨rfl, k1, k2, ?_⟩)
        by_cases k3 : 0 ≤ from_
        · have k4 : ¬ from_ ≤ 9999 := fun k4 => hc ⟨hp, by omega, by omega, k3, k4⟩
          simp [k4]
        · simp [k3]
    refine go_pure h19 fun m1 hm1 => ?_
    simp only [St.new_nx, St.bump_nx, St.set_nx, St.del_nx] at hm1
    simp (implicitDefEqProofs := false) (maxSteps := 2000000) (disch := (first | omega | (simp only [St.new_nx, St.set_nx, St.del_nx, St.bump_nx]; done) | (simp only [St.new_nx, St.set_nx, St.del_nx, St.bump_nx]; omega) | fail)) [a4r2]
    refine go_pure (p13 t) fun m2 hm2 => ?_
    simp only [St.new_nx, St.bump_nx, St.set_nx, St.del_nx] at hm2
    rcases hcs with hp | ⟨hp, k1⟩ | ⟨hp, k1, k2⟩ | ⟨hp, k1, k2, k3⟩ <;> rw [hp]
    · simp (implicitDefEqProofs := false) (maxSteps := 2000000) (disch := (first | omega | (simp only [St.new_nx, St.set_nx, St.del_nx, St.bump_nx]; done) | (simp only [St.new_nx, St.set_nx, St.del_nx, St.bump_nx]; omega) | fail)) [a4r3]
      refine go_pure p15n fun m5 hm5 => ?_
      simp only [St.new_nx, St.bump_nx, St.set_nx, St.del_nx] at hm5
      simp (implicitDefEqProofs := false) (maxSteps := 2000000) (disch := (first | omega | (simp only [St.new_nx, St.set_nx, St.del_nx, St.bump_nx]; done) | (simp only [St.new_nx, St.set_nx, St.del_nx, St.bump_nx]; omega) | fail))
      refine go_pure p16 fun m6 hm6 => ?_
      simp only [St.new_nx, St.bump_nx, St.set_nx, St.del_nx] at hm6
      simp (implicitDefEqProofs := false) (maxSteps := 2000000) (disch := (first | omega | (simp only [St.new_nx, St.set_nx, St.del_nx, St.bump_nx]; done) | (simp only [St.new_nx, St.set_nx, St.del_nx, St.bump_nx]; omega) | fail))
    · simp (implicitDefEqProofs := false) (maxSteps := 2000000) (disch := (first | omega | (simp only [St.new_nx, St.set_nx, St.del_nx, St.bump_nx]; done) | (simp only [St.new_nx, St.set_nx, St.del_nx, St.bump_nx]; omega) | fail)) [k1, a4r3]
      refine go_pure p15n fun m5 hm5 => ?_
      simp only [St.new_nx, St.bump_nx, St.set_nx, St.del_nx] at hm5
      simp (implicitDefEqProofs := false) (maxSteps := 2000000) (disch := (first | omega | (simp only [St.new_nx, St.set_nx, St.del_nx, St.bump_nx]; done) | (simp only [St.new_nx, St.set_nx, St.del_nx, St.bump_nx]; omega) | fail))
      refine go_pure p16 fun m6 hm6 => ?_
      simp only [St.new_nx, St.bump_nx, St.set_nx, St.del_nx] at hm6
      simp (implicitDefEqProofs := false) (maxSteps := 2000000) (disch := (first | omega | (simp only [St.new_nx, St.set_nx, St.del_nx, St.bump_nx]; done) | (simp only [St.new_nx, St.set_nx, St.del_nx, St.bump_nx]; omega) | fail))
    · simp (implicitDefEqProofs := false) (maxSteps := 2000000) (disch := (first | omega | (simp only [St.new_nx, St.set_nx, St.del_nx, St.bump_nx]; done) | (simp only [St.new_nx, St.set_nx, St.del_nx, St.bump_nx]; omega) | fail)) [k1, k2, a4r3]
      refine go_pure p15n fun m5 hm5 => ?_
      simp only [St.new_nx, St.bump_nx, St.set_nx, St.del_nx] at hm5
      simp (implicitDefEqProofs := false) (maxSteps := 2000000) (disch := (first | omega | (simp only [St.new_nx, St.set_nx, St.del_nx, St.bump_nx]; done) | (simp only [St.new_nx, St.set_nx, St.del_nx, St.bump_nx]; omega) | fail))
      refine go_pure p16 fun m6 hm6 => ?_
      simp only [St.new_nx, St.bump_nx, St.set_nx, St.del_nx] at hm6
      simp (implicitDefEqProofs := false) (maxSteps := 2000000) (disch := (first | omega | (simp only [St.new_nx, St.set_nx, St.del_nx, St.bump_nx]; done) | (simp only [St.new_nx, St.set_nx, St.del_nx, St.bump_nx]; omega) | fail))
    · rw [k3] at h20
      simp (implicitDefEqProofs := false) (maxSteps := 2000000) (disch := (first | omega | (simp only [St.new_nx, St.set_nx, St.del_nx, St.bump_nx]; done) | (simp only [St.new_nx, St.set_nx, St.del_nx, St.bump_nx]; omega) | fail)) [k1, k2]
      refine go_pure h20 fun m4 hm4 => ?_
      simp only [St.new_nx, St.bump_nx, St.set_nx, St.del_nx] at hm4
      simp (implicitDefEqProofs := false) (maxSteps := 2000000) (disch := (first | omega | (simp only [St.new_nx, St.set_nx, St.del_nx, St.bump_nx]; done) | (simp only [St.new_nx, St.set_nx, St.del_nx, St.bump_nx]; omega) | fail)) [a4r3]
      refine go_pure p15n fun m5 hm5 => ?_
      simp only [St.new_nx, St.bump_nx, St.set_nx, St.del_nx] at hm5
      simp (implicitDefEqProofs := false) (maxSteps := 2000000) (disch := (first | omega | (simp only [St.new_nx, St.set_nx, St.del_nx, St.bump_nx]; done) | (simp only [St.new_nx, St.set_nx, St.del_nx, St.bump_nx]; omega) | fail))
      refine go_pure p16 fun m6 hm6 => ?_
      simp only [St.new_nx, St.bump_nx, St.set_nx, St.del_nx] at hm6
      simp (implicitDefEqProofs := false) (maxSteps := 2000000) (disch := (first | omega | (simp only [St.new_nx, St.set_nx, St.del_nx, St.bump_nx]; done) | (simp only [St.new_nx, St.set_nx, St.del_nx, St.bump_nx]; omega) | fail))
end Go.AL.Ty
/- Numbers in lists, variables bound. -/
set_option linter.unusedVariables false
set_option linter.unusedSimpArgs false
namespace Go.AL.Ty
open Go Go.Proofs

def il (l : List Int) : List AV := l.map (.int .i64)
@[simp] theorem il_length (l : List Int) : (il l).length = l.length := by simp [il]
theorem il_get {l : List Int} {i : Nat} {x : Int} (h : l[i]? = some x) : (il l)[i]? = some (.int .i64 x) := by simp [il, h]
theorem il_take (l : List Int) (i : Nat) : (il l).take i = il (l.take i) := by simp [il, List.map_take]
def idx (l : List Int) (n : Int) : Int := firstAt (fun x => decide (n = x)) l 0
theorem idx_neg (l : List Int) (n : Int) : decide (0 ≤ idx l n) = decide (n ∈ l) := by
  have h := firstAt_neg (fun x => decide (n = x)) l 0
  rw [idx, decide_eq_decide, h]
  simp only [List.any_eq_true, decide_eq_true_eq]
  exact ⟨fun ⟨x, hx, e⟩ => e ▸ hx, fun h => ⟨n, h, rfl⟩⟩

theorem p107 (l : List Int) (n : Int) (hlen : l.length ≤ 9223372036854775807) : PureC Try.prog 107 [.list 1 .none (il l), .int .i64 n] (.int .i64 (idx l n)) := by
  refine PureC.intro fun s => fun_sound mixed Try.func107 Try.call107 c107 rfl (awpFun_go _ _ _ _ ?_)
  simp (implicitDefEqProofs := false) (maxSteps := 2000000) (disch := (first | omega | (simp only [St.new_nx, St.set_nx, St.del_nx, St.bump_nx]; done) | (simp only [St.new_nx, St.set_nx, St.del_nx, St.bump_nx]; omega) | fail)) [a107, a107b, a107r0, a107r1]
  refine go_loop (fun k g s1 => ∃ (i : Nat), i ≤ l.length ∧ k = l.length - i ∧ firstAt (fun x => decide (n = x)) (l.drop i) i = idx l n ∧
    g.get 0 = .list 1 .none (il l) ∧ g.get 7 = .int .i64 l.length ∧ g.get 8 = .int .i64 i ∧ g.get 1 = .int .i64 n ∧ Kept s s1 ∧ s.nx ≤ s1.nx) l.length ⟨0, Nat.zero_le _, by simp, by simp [idx], by simp, by simp, by simp, by simp, by simp, by simp⟩ ?_
  rintro k g s1 ⟨i, hi, rfl, hg, h0, h7, h8, h1, hk, hn⟩
  by_cases hlt : i < l.length
  · have hx : l[i]? = some l[i] := by simp [hlt]
    have hx' := il_get hx
    have hlt' : (i : Int) < l.length := by omega
    have w2 : IntKind.i64.wrap ((i : Int) + 1) = ((i + 1 : Nat) : Int) := by rw [wrap64 (by omega) (by omega)]; omega
    have hdrop : l.drop i = l[i] :: l.drop (i + 1) := List.drop_eq_getElem_cons hlt
    rw [hdrop, firstAt] at hg
    simp (implicitDefEqProofs := false) (maxSteps := 2000000) (disch := (first | omega | (simp only [St.new_nx, St.set_nx, St.del_nx, St.bump_nx]; done) | (simp only [St.new_nx, St.set_nx, St.del_nx, St.bump_nx]; omega) | fail)) [a107l7, a107r2, a107r3, a107r4, a107r5, a107r6, h0, h7, h8, h1, hlt', hlt, hx']
    refine ⟨fun hb => ?_, fun hb => ?_⟩
    · rw [if_pos (by simpa using hb)] at hg
      exact ⟨hg, hk⟩
    · rw [if_neg (by simpa using hb)] at hg
      rw [w2]
      refine go_next (l.length - (i + 1)) (by omega) ⟨i + 1, by omega, rfl, hg, ?_, ?_, ?_, ?_, ?_, ?_⟩ <;> (try simp (implicitDefEqProofs := false) (maxSteps := 2000000) (disch := (first | omega | (simp only [St.new_nx, St.set_nx, St.del_nx, St.bump_nx]; done) | (simp only [St.new_nx, St.set_nx, St.del_nx, St.bump_nx]; omega) | fail)) [h0, h7, h8, h1, hk])
      exact hn
  · have hlt' : ¬ (i : Int) < l.length := by omega
    have hdrop : l.drop i = [] := List.drop_eq_nil_of_le (by omega)
    rw [hdrop, firstAt] at hg
    simp (implicitDefEqProofs := false) (maxSteps := 2000000) (disch := (first | omega | (simp only [St.new_nx, St.set_nx, St.del_nx, St.bump_nx]; done) | (simp only [St.new_nx, St.set_nx, St.del_nx, St.bump_nx]; omega) | fail)) [a107l7, a107r2, h0, h7, h8, h1, hlt', a107r8, ← hg, hk]

theorem p65 (l : List Int) (n : Int) (hlen : l.length ≤ 9223372036854775807) : PureC Try.prog 65 [.list 1 .none (il l), .int .i64 n] (.bool (decide (n ∈ l))) := by
  refine PureC.intro fun s => fun_sound mixed Try.func65 Try.call65 c65 rfl (awpFun_go _ _ _ _ ?_)
  simp (implicitDefEqProofs := false) (maxSteps := 2000000) (disch := (first | omega | (simp only [St.new_nx, St.set_nx, St.del_nx, St.bump_nx]; done) | (simp only [St.new_nx, St.set_nx, St.del_nx, St.bump_nx]; omega) | fail)) [a65, a65b, a65r0, a65r1]
  refine go_pure (p107 l n hlen) fun mm1 hm1 => ?_
  try simp only [St.new_nx, St.bump_nx, St.set_nx, St.del_nx] at hm1
  simp (implicitDefEqProofs := false) (maxSteps := 2000000) (disch := (first | omega | (simp only [St.new_nx, St.set_nx, St.del_nx, St.bump_nx]; done) | (simp only [St.new_nx, St.set_nx, St.del_nx, St.bump_nx]; omega) | fail)) [idx_neg]

theorem p109 (n : Int) : PureC Try.prog 109 [.int .i64 n] (var n).av := by
  refine PureC.intro fun s => fun_sound mixed Try.func109 Try.call109 c109 rfl (awpFun_go _ _ _ _ ?_)
  simp (implicitDefEqProofs := false) (maxSteps := 2000000) (disch := (first | omega | (simp only [St.new_nx, St.set_nx, St.del_nx, St.bump_nx]; done) | (simp only [St.new_nx, St.set_nx, St.del_nx, St.bump_nx]; omega) | fail)) [a109, a109b, a109r0, a109r1, var, av_mk]

theorem idx_bound (l : List Int) (n : Int) : -1 ≤ idx l n ∧ idx l n < l.length ∨ l = [] ∧ idx l n = -1 := by
  have : ∀ (l : List Int) (i : Nat), firstAt (fun x => decide (n = x)) l i = -1 ∨ (i : Int) ≤ firstAt (fun x => decide (n = x)) l i ∧ firstAt (fun x => decide (n = x)) l i < i + l.length := by
    intro l
    induction l with
    | nil => intro i; simp [firstAt]
    | cons x xs ih =>
      intro i
      simp only [firstAt]
      split
      · right; simp; omega
      · rcases ih (i + 1) with h | h
        · exact .inl h
        · right; simp at h ⊢; omega
  have h := this l 0
  rw [← idx] at h
  cases l with
  | nil => right; simp [idx, firstAt]
  | cons x xs => left; simp at h ⊢; omega

/-- What Bound does at a node. -/
def bnd (op : Int) (l : List Int) (t : Ty) (b : Int) : Option Ty :=
  if t.op = op ∧ t.n ∈ l then some (var (l.length - 1 - idx l t.n + b))
  else if t.op = 1 ∧ b ≤ t.n then some (var (t.n + l.length))
  else if t.op = 1 then some t else none
theorem p108 (op : Int) (l : List Int) (t : Ty) (b : Int) (hf : Fit t b) (hl : l.length ≤ 1000000) :
    ∃ u : Ty, PureC Try.prog 108 [t.av, .int .i64 b, .cptr [.int .i64 op], .cptr [.list 1 .none (il l)]] (.tup [u.av, .bool (bnd op l t b).isSome]) ∧ ∀ v, bnd op l t b = some v → u = v := by
  refine ⟨(bnd op l t b).getD t, PureC.intro fun s => fun_sound mixed Try.func108 Try.call108 c108 rfl (awpFun_go _ _ _ _ ?_), fun v hv => by rw [hv]; rfl⟩
  have hn := wide_n hf.1
  have hb := hf.2
  have hi := idx_bound l t.n
  have w1 : IntKind.i64.wrap ((l.length : Int) - 1) = (l.length : Int) - 1 := wrap64 (by omega) (by omega)
  have w2 : IntKind.i64.wrap ((l.length : Int) - 1 - idx l t.n) = (l.length : Int) - 1 - idx l t.n := wrap64 (by omega) (by omega)
  have w3 : IntKind.i64.wrap ((l.length : Int) - 1 - idx l t.n + b) = (l.length : Int) - 1 - idx l t.n + b := wrap64 (by omega) (by omega)
  have w4 : IntKind.i64.wrap (t.n + l.length) = t.n + l.length := wrap64 (by omega) (by omega)
  generalize hB : bnd op l t b = B
  simp (implicitDefEqProofs := false) (maxSteps := 2000000) (disch := (first | omega | (simp only [St.new_nx, St.set_nx, St.del_nx, St.bump_nx]; done) | (simp only [St.new_nx, St.set_nx, St.del_nx, St.bump_nx]; omega) | fail)) [a108, a108b, a108r0, a108r1, a108r2, a108r3, a108r4, a108r5]
  have tail : ¬ (t.op = op ∧ t.n ∈ l) → B = if t.op = 1 ∧ b ≤ t.n then some (var (t.n + l.length)) else if t.op = 1 then some t else none := fun h1 => by rw [← hB, bnd, if_neg h1]
  refine ⟨fun h1 => ?_, fun h1 => ?_⟩
  · refine go_pure (p65 l t.n (by omega)) fun mm2 hm2 => ?_
    try simp only [St.new_nx, St.bump_nx, St.set_nx, St.del_nx] at hm2
    simp (implicitDefEqProofs := false) (maxSteps := 2000000) (disch := (first | omega | (simp only [St.new_nx, St.set_nx, St.del_nx, St.bump_nx]; done) | (simp only [St.new_nx, St.set_nx, St.del_nx, St.bump_nx]; omega) | fail))
    refine ⟨fun h2 => ?_, fun h2 => ?_⟩
    · have hB' : B = some (var (l.length - 1 - idx l t.n + b)) := by rw [← hB, bnd, if_pos ⟨h1, h2⟩]
      refine pcV_intro (p107 l t.n (by omega)) ?_
      simp (implicitDefEqProofs := false) (maxSteps := 2000000) (disch := (first | omega | (simp only [St.new_nx, St.set_nx, St.del_nx, St.bump_nx]; done) | (simp only [St.new_nx, St.set_nx, St.del_nx, St.bump_nx]; omega) | fail)) [w1, w2, w3]
      refine pcV_intro (p109 (l.length - 1 - idx l t.n + b)) ?_
      simp (implicitDefEqProofs := false) (maxSteps := 2000000) (disch := (first | omega | (simp only [St.new_nx, St.set_nx, St.del_nx, St.bump_nx]; done) | (simp only [St.new_nx, St.set_nx, St.del_nx, St.bump_nx]; omega) | fail)) [hB']
    · have hB' := tail (by simp [h2])
      refine ⟨fun h3 => ⟨fun h4 => ?_, fun h4 => ?_⟩, fun h3 => ?_⟩
      · rw [w4]
        rw [if_pos ⟨h3, h4⟩] at hB'
        refine go_pure (p109 (t.n + l.length)) fun mm3 hm3 => ?_
        try simp only [St.new_nx, St.bump_nx, St.set_nx, St.del_nx] at hm3
        simp (implicitDefEqProofs := false) (maxSteps := 2000000) (disch := (first | omega | (simp only [St.new_nx, St.set_nx, St.del_nx, St.bump_nx]; done) | (simp only [St.new_nx, St.set_nx, St.del_nx, St.bump_nx]; omega) | fail)) [hB']
      · rw [if_neg (by omega), if_pos h3] at hB'
        simp [hB', h3]
      · rw [if_neg (by omega), if_neg h3] at hB'
        simp [hB', h3]
  · have hB' := tail (by simp [h1])
    refine ⟨fun h3 => ⟨fun h4 => ?_, fun h4 => ?_⟩, fun h3 => ?_⟩
    · rw [w4]
      rw [if_pos ⟨h3, h4⟩] at hB'
      refine go_pure (p109 (t.n + l.length)) fun mm4 hm4 => ?_
      try simp only [St.new_nx, St.bump_nx, St.set_nx, St.del_nx] at hm4
      simp (implicitDefEqProofs := false) (maxSteps := 2000000) (disch := (first | omega | (simp only [St.new_nx, St.set_nx, St.del_nx, St.bump_nx]; done) | (simp only [St.new_nx, St.set_nx, St.del_nx, St.bump_nx]; omega) | fail)) [hB']
    · rw [if_neg (by omega), if_pos h3] at hB'
      simp [hB', h3]
    · rw [if_neg (by omega), if_neg h3] at hB'
      simp [hB', h3]

def bound (t : Ty) (op : Int) (l : List Int) : Ty := map (bnd op l) t 0
theorem p66 (t : Ty) (op : Int) (l : List Int) (hl : l.length ≤ 1000000) (ht : Fit t 0) : PureC Try.prog 66 [t.av, .int .i64 op, .list 1 .none (il l)] (bound t op l).av := by
  refine PureC.intro fun s => fun_sound mixed Try.func66 Try.call66 c66 rfl (awpFun_go _ _ _ _ ?_)
  simp (implicitDefEqProofs := false) (maxSteps := 2000000) (disch := (first | omega | (simp only [St.new_nx, St.set_nx, St.del_nx, St.bump_nx]; done) | (simp only [St.new_nx, St.set_nx, St.del_nx, St.bump_nx]; omega) | fail)) [a66, a66b, a66r0, a66r1]
  have h98 := p98 108 [] [.cptr [.int .i64 op], .cptr [.list 1 .none (il l)]] (bnd op l) Fit
    (fun t b h => p108 op l t b h hl)
    (fun t b h _ => ⟨wide_len h.1, by have := h.2; omega, by have := h.2; omega, h.child⟩) t 0 ht
  refine go_pure h98 fun mm5 hm5 => ?_
  try simp only [St.new_nx, St.bump_nx, St.set_nx, St.del_nx] at hm5
  simp (implicitDefEqProofs := false) (maxSteps := 2000000) (disch := (first | omega | (simp only [St.new_nx, St.set_nx, St.del_nx, St.bump_nx]; done) | (simp only [St.new_nx, St.set_nx, St.del_nx, St.bump_nx]; omega) | fail)) [bound]
end Go.AL.Ty
/- Bind, and what the reference says of it. -/
set_option linter.unusedVariables false
set_option linter.unusedSimpArgs false
namespace Go.AL.Ty
open Go Go.Proofs

/-- Numbers of variables, no two the same. -/
def chk (pre : List Int) : List Int → Bool
  | [] => true
  | n :: r => (decide (0 ≤ n) && decide (n ≤ 9999) && !decide (n ∈ pre)) && chk (pre ++ [n]) r

def I22 (t : Ty) (op : Int) (l : List Int) (fn : Bool) (s : St) (oT oR : Nat) (n : Nat) (g : Env) (s1 : St) : Prop :=
  ∃ (i : Nat), i ≤ l.length ∧ n = l.length - i ∧ chk (l.take i) (l.drop i) = fn ∧
    g.get 27 = .list 1 .none (il l) ∧ g.get 28 = .int .i64 l.length ∧ g.get 29 = .int .i64 i ∧ g.get 1 = .int .i64 op ∧ g.get 2 = .list 1 .none (il l) ∧ g.get 3 = .ptr oT 0 ∧ g.get 6 = .ptr oR 0 ∧
    s1.m oT = some (.box [.int .i64 t.op, .int .i64 t.n, .str t.s, .list 4 .none (t.args.map av)]) ∧ s1.m oR = some (.box [.int .i64 0, .int .i64 0, .str ⟨#[]⟩, .list 0 .full []]) ∧ Kept s s1 ∧ oT < s1.nx ∧ oR < s1.nx

def bindR (t : Ty) (op : Int) (l : List Int) : AV := if proper t = true ∧ l.length ≤ 600 ∧ (op = 7 ∨ op = 6) ∧ chk [] l = true then fin (bound t op l) else .tup [nul.av, .int .i64 2]
theorem fin_or (x : Ty) (hx : ¬ proper x = true) : fin x = .tup [nul.av, .int .i64 5] := by rw [fin, if_neg hx]; rfl

theorem p22 (t : Ty) (op : Int) (l : List Int) : PureC Try.prog 22 [t.av, .int .i64 op, .list 1 .none (il l)] (bindR t op l) := by
  refine PureC.intro fun s => fun_sound mixed Try.func22 Try.call22 c22 rfl (awpFun_go _ _ _ _ ?_)
  simp (implicitDefEqProofs := false) (maxSteps := 2000000) (disch := (first | omega | (simp only [St.new_nx, St.set_nx, St.del_nx, St.bump_nx]; done) | (simp only [St.new_nx, St.set_nx, St.del_nx, St.bump_nx]; omega) | fail)) [a22, a22b, a22r0, a22r1]
  by_cases hc : proper t = true ∧ l.length ≤ 600 ∧ (op = 7 ∨ op = 6)
  · obtain ⟨hp, h1, h2⟩ := hc
    have h1' : ¬ (600 : Int) < l.length := by omega
    have e1 : bindR t op l = if chk [] l = true then fin (bound t op l) else .tup [nul.av, .int .i64 2] := by simp [bindR, hp, h1, h2]
    rw [e1]
    generalize hfn : chk [] l = fn
    generalize hres : (if fn = true then fin (bound t op l) else .tup [nul.av, .int .i64 2]) = res
    refine go_pure (p53 t) fun mm1 hm1 => ?_
    try simp only [St.new_nx, St.bump_nx, St.set_nx, St.del_nx] at hm1
    rw [hp]
    simp (implicitDefEqProofs := false) (maxSteps := 2000000) (disch := (first | omega | (simp only [St.new_nx, St.set_nx, St.del_nx, St.bump_nx]; done) | (simp only [St.new_nx, St.set_nx, St.del_nx, St.bump_nx]; omega) | fail)) [h1', a22r2, a22r3]
    have key : ∀ (G : Env) (S : St), G.get 27 = .list 1 .none (il l) → G.get 28 = .int .i64 l.length → G.get 29 = .int .i64 0 → G.get 1 = .int .i64 op → G.get 2 = .list 1 .none (il l) → G.get 3 = .ptr s.nx 0 → G.get 6 = .ptr (s.nx + 1) 0 →
        S.m s.nx = some (.box [.int .i64 t.op, .int .i64 t.n, .str t.s, .list 4 .none (t.args.map av)]) → S.m (s.nx + 1) = some (.box [.int .i64 0, .int .i64 0, .str ⟨#[]⟩, .list 0 .full []]) → Kept s S → s.nx + 1 < S.nx →
        go (awp Try.prog (.loop a22l9) (blockQ 0 (seqQ Try.prog ((ACode.reg false a22r10).seq .ret) (finQ [.cell (true, 6) 4 true, .tmp (true, 7)] fun r' s' => wk r' res ∧ Kept s s'))) G S) := by
      intro G S h27 h28 h29 h1 h2 h3 h6 hT hR hk hn
      refine go_loop (I22 t op l fn s s.nx (s.nx + 1)) l.length ⟨0, by omega, by omega, by simpa using hfn, h27, h28, h29, h1, h2, h3, h6, hT, hR, hk, by omega, hn⟩ ?_
      clear h27 h28 h29 h1 h2 h3 h6 hT hR hk hn
      rintro n g s1 ⟨i, hi, rfl, hg, h27, h28, h29, h1, h2, h3, h6, hT, hR, hk, hn, hn2⟩
      by_cases hlt : i < l.length
      · have hx : l[i]? = some l[i] := by simp [hlt]
        have hx' := il_get hx
        have hlt' : (i : Int) < l.length := by omega
        have w2 : IntKind.i64.wrap ((i : Int) + 1) = ((i + 1 : Nat) : Int) := by rw [wrap64 (by omega) (by omega)]; omega
        have hdrop : l.drop i = l[i] :: l.drop (i + 1) := List.drop_eq_getElem_cons hlt
        have hta : l.take (i + 1) = l.take i ++ [l[i]] := by rw [List.take_add_one, hx]; rfl
        rw [hdrop, chk] at hg
        simp (implicitDefEqProofs := false) (maxSteps := 2000000) (disch := (first | omega | (simp only [St.new_nx, St.set_nx, St.del_nx, St.bump_nx]; done) | (simp only [St.new_nx, St.set_nx, St.del_nx, St.bump_nx]; omega) | fail)) [a22l9, a22r4, a22r5, a22r6, a22r7, a22r8, h27, h28, h29, h1, h2, h3, h6, hlt', hlt, hx', w2, il_take]
        have hbad : fn = false → AV.tup [.agg [.int .i64 0, .int .i64 0, .str ⟨#[]⟩, .list 4 .none []], .int .i64 2] = res := fun h => by rw [← hres, h]; simp [nul, av_mk]
        refine ⟨fun g1 => ⟨fun g2 => ?_, fun g2 => ?_⟩, fun g1 => ?_⟩
        · refine go_pure (p65 (l.take i) l[i] (by rw [List.length_take]; omega)) fun mm2 hm2 => ?_
          try simp only [St.new_nx, St.bump_nx, St.set_nx, St.del_nx] at hm2
          simp (implicitDefEqProofs := false) (maxSteps := 2000000) (disch := (first | omega | (simp only [St.new_nx, St.set_nx, St.del_nx, St.bump_nx]; done) | (simp only [St.new_nx, St.set_nx, St.del_nx, St.bump_nx]; omega) | fail)) [w2, h29]
          simp only [g1, g2, decide_true, Bool.true_and] at hg
          refine ⟨fun g3 => ?_, fun g3 => ?_⟩
          · have hb := hbad (by rw [← hg]; simp [g3])
            simp (implicitDefEqProofs := false) (maxSteps := 2000000) (disch := (first | omega | (simp only [St.new_nx, St.set_nx, St.del_nx, St.bump_nx]; done) | (simp only [St.new_nx, St.set_nx, St.del_nx, St.bump_nx]; omega) | fail)) [h6, hR, ← hb, hk]
          · simp only [g3, decide_false, Bool.not_false, Bool.true_and] at hg
            refine go_next (l.length - (i + 1)) (by omega) ⟨i + 1, by omega, rfl, by rw [hta]; exact hg, ?_, ?_, ?_, ?_, ?_, ?_, ?_, ?_, ?_, ?_, ?_, ?_⟩
            all_goals (try simp (implicitDefEqProofs := false) (maxSteps := 2000000) (disch := (first | omega | (simp only [St.new_nx, St.set_nx, St.del_nx, St.bump_nx]; done) | (simp only [St.new_nx, St.set_nx, St.del_nx, St.bump_nx]; omega) | fail)) [h27, h28, h29, h1, h2, h3, h6, hT, hR, hk])
            all_goals omega
        · have g2' : ¬ l[i] ≤ 9999 := by omega
          have hb := hbad (by rw [← hg]; simp [g2'])
          simp (implicitDefEqProofs := false) (maxSteps := 2000000) (disch := (first | omega | (simp only [St.new_nx, St.set_nx, St.del_nx, St.bump_nx]; done) | (simp only [St.new_nx, St.set_nx, St.del_nx, St.bump_nx]; omega) | fail)) [h6, hR, ← hb, hk]
        · have g1' : ¬ 0 ≤ l[i] := by omega
          have hb := hbad (by rw [← hg]; simp [g1'])
          simp (implicitDefEqProofs := false) (maxSteps := 2000000) (disch := (first | omega | (simp only [St.new_nx, St.set_nx, St.del_nx, St.bump_nx]; done) | (simp only [St.new_nx, St.set_nx, St.del_nx, St.bump_nx]; omega) | fail)) [h6, hR, ← hb, hk]
      · have hlt' : ¬ (i : Int) < l.length := by omega
        have hdrop : l.drop i = [] := List.drop_eq_nil_of_le (by omega)
        rw [hdrop, chk] at hg
        subst hg
        rw [if_pos rfl] at hres
        simp (implicitDefEqProofs := false) (maxSteps := 2000000) (disch := (first | omega | (simp only [St.new_nx, St.set_nx, St.del_nx, St.bump_nx]; done) | (simp only [St.new_nx, St.set_nx, St.del_nx, St.bump_nx]; omega) | fail)) [a22l9, a22r4, h27, h28, h29, h1, h2, h3, h6, hlt', a22r10, hT, hR]
        refine go_pure (p66 t op l (by omega) (proper_fit hp)) fun mm3 hm3 => ?_
        try simp only [St.new_nx, St.bump_nx, St.set_nx, St.del_nx] at hm3
        simp (implicitDefEqProofs := false) (maxSteps := 2000000) (disch := (first | omega | (simp only [St.new_nx, St.set_nx, St.del_nx, St.bump_nx]; done) | (simp only [St.new_nx, St.set_nx, St.del_nx, St.bump_nx]; omega) | fail)) [h6, hR]
        refine go_pure (p55 (bound t op l)) fun mm4 hm4 => ?_
        try simp only [St.new_nx, St.bump_nx, St.set_nx, St.del_nx] at hm4
        by_cases hp2 : proper (bound t op l) = true
        · rw [if_pos hp2]
          rw [fin, if_pos hp2] at hres
          simp (implicitDefEqProofs := false) (maxSteps := 2000000) (disch := (first | omega | (simp only [St.new_nx, St.set_nx, St.del_nx, St.bump_nx]; done) | (simp only [St.new_nx, St.set_nx, St.del_nx, St.bump_nx]; omega) | fail)) [h6, hR, ← hres, hk]
        · rw [if_neg hp2]
          rw [fin, if_neg hp2] at hres
          simp (implicitDefEqProofs := false) (maxSteps := 2000000) (disch := (first | omega | (simp only [St.new_nx, St.set_nx, St.del_nx, St.bump_nx]; done) | (simp only [St.new_nx, St.set_nx, St.del_nx, St.bump_nx]; omega) | fail)) [h6, hR, ← hres, hk, av_mk]
    have h2' : ¬ (¬ op = 7 ∧ ¬ op = 6) := by omega
    refine ⟨fun k1 => ⟨fun k2 => absurd ⟨k1, k2⟩ h2', fun k2 => ?_⟩, fun k1 => ?_⟩
    · refine key _ _ ?_ ?_ ?_ ?_ ?_ ?_ ?_ ?_ ?_ ?_ ?_
      all_goals (try simp (implicitDefEqProofs := false) (maxSteps := 2000000) (disch := (first | omega | (simp only [St.new_nx, St.set_nx, St.del_nx, St.bump_nx]; done) | (simp only [St.new_nx, St.set_nx, St.del_nx, St.bump_nx]; omega) | fail)))
      all_goals omega
    · refine key _ _ ?_ ?_ ?_ ?_ ?_ ?_ ?_ ?_ ?_ ?_ ?_
      all_goals (try simp (implicitDefEqProofs := false) (maxSteps := 2000000) (disch := (first | omega | (simp only [St.new_nx, St.set_nx, St.del_nx, St.bump_nx]; done) | (simp only [St.new_nx, St.set_nx, St.del_nx, St.bump_nx]; omega) | fail)))
      all_goals omega
  · have hE : bindR t op l = .tup [nul.av, .int .i64 2] := by rw [bindR, if_neg fun h => hc ⟨h.1, h.2.1, h.2.2.1⟩]
    rw [hE]
    refine go_pure (p53 t) fun mm5 hm5 => ?_
    try simp only [St.new_nx, St.bump_nx, St.set_nx, St.del_nx] at hm5
    simp (implicitDefEqProofs := false) (maxSteps := 2000000) (disch := (first | omega | (simp only [St.new_nx, St.set_nx, St.del_nx, St.bump_nx]; done) | (simp only [St.new_nx, St.set_nx, St.del_nx, St.bump_nx]; omega) | fail))
    refine ⟨fun k1 => ⟨fun k2 => ⟨fun k3 => ⟨fun k4 => ?_, fun k4 => absurd ⟨k1, by omega, .inr k4⟩ hc⟩, fun k3 => absurd ⟨k1, by omega, .inl k3⟩ hc⟩, fun k2 => ?_⟩, fun k1 => ?_⟩
    all_goals simp (implicitDefEqProofs := false) (maxSteps := 2000000) (disch := (first | omega | (simp only [St.new_nx, St.set_nx, St.del_nx, St.bump_nx]; done) | (simp only [St.new_nx, St.set_nx, St.del_nx, St.bump_nx]; omega) | fail)) [a22r2, nul, av_mk]

def I23a (l : List Int) (fn : Bool) (s : St) (n : Nat) (g : Env) (s1 : St) : Prop :=
  ∃ (i : Nat), i ≤ l.length ∧ n = l.length - i ∧ chk (l.take i) (l.drop i) = fn ∧ (i = 0 ∨ l.length ≤ 600) ∧ g.get 0 = .list 1 .none (il l) ∧ g.get 6 = .int .i64 l.length ∧ g.get 7 = .int .i64 i ∧ Kept s s1 ∧ s.nx ≤ s1.nx
def I23b (l : List Int) (i : Nat) (x : Int) (s : St) (n : Nat) (g : Env) (s1 : St) : Prop :=
  ∃ (k : Nat), k ≤ i ∧ n = i - k ∧ ¬ x ∈ l.take k ∧ g.get 0 = .list 1 .none (il l) ∧ g.get 6 = .int .i64 l.length ∧ g.get 7 = .int .i64 i ∧ g.get 3 = .int .i64 i ∧ g.get 21 = .int .i64 i ∧ g.get 22 = .int .i64 k ∧ Kept s s1 ∧ s.nx ≤ s1.nx
theorem p23 (l : List Int) (hlen : l.length ≤ 1000000) : PureC Try.prog 23 [.list 1 .none (il l)] (.bool (decide (l.length ≤ 600) && chk [] l)) := by
  refine PureC.intro fun s => fun_sound mixed Try.func23 Try.call23 c23 rfl (awpFun_go _ _ _ _ ?_)
  generalize hfn : chk [] l = fn
  generalize hres : (decide (l.length ≤ 600) && fn) = res
  simp (implicitDefEqProofs := false) (maxSteps := 2000000) (disch := (first | omega | (simp only [St.new_nx, St.set_nx, St.del_nx, St.bump_nx]; done) | (simp only [St.new_nx, St.set_nx, St.del_nx, St.bump_nx]; omega) | fail)) [a23, a23b, a23r0, a23r1]
  refine go_loop (I23a l fn s) l.length ⟨0, by omega, by omega, by simpa using hfn, .inl rfl, ?_, ?_, ?_, ?_, ?_⟩ ?_
  rotate_right
  · rintro n g s1 ⟨i, hi, rfl, hg, hbig, h0, h6, h7, hk, hn⟩
    by_cases hlt : i < l.length
    · have hx : l[i]? = some l[i] := by simp [hlt]
      have hx' := il_get hx
      have hlt' : (i : Int) < l.length := by omega
      have w2 : IntKind.i64.wrap ((i : Int) + 1) = ((i + 1 : Nat) : Int) := by rw [wrap64 (by omega) (by omega)]; omega
      have hdrop : l.drop i = l[i] :: l.drop (i + 1) := List.drop_eq_getElem_cons hlt
      have hta : l.take (i + 1) = l.take i ++ [l[i]] := by rw [List.take_add_one, hx]; rfl
      rw [hdrop, chk] at hg
      have hbad : (¬ (0 ≤ l[i] ∧ l[i] ≤ 9999) ∨ ¬ l.length ≤ 600 ∨ l[i] ∈ l.take i) → res = false := by
        rw [← hres, ← hg]
        rintro (h | h | h)
        · by_cases k : 0 ≤ l[i]
          · have : ¬ l[i] ≤ 9999 := fun k2 => h ⟨k, k2⟩
            simp [this]
          · simp [k]
        · simp [h]
        · simp [h]
      simp (implicitDefEqProofs := false) (maxSteps := 2000000) (disch := (first | omega | (simp only [St.new_nx, St.set_nx, St.del_nx, St.bump_nx]; done) | (simp only [St.new_nx, St.set_nx, St.del_nx, St.bump_nx]; omega) | fail)) [a23l14, a23r2, a23r3, a23r4, h0, h6, h7, hlt', hlt, hx']
      refine go_pure (p20 l[i]) fun mm6 hm6 => ?_
      try simp only [St.new_nx, St.bump_nx, St.set_nx, St.del_nx] at hm6
      simp (implicitDefEqProofs := false) (maxSteps := 2000000) (disch := (first | omega | (simp only [St.new_nx, St.set_nx, St.del_nx, St.bump_nx]; done) | (simp only [St.new_nx, St.set_nx, St.del_nx, St.bump_nx]; omega) | fail))
      refine ⟨fun k1 k2 => ?_, fun k1 => ?_⟩
      · by_cases h600 : l.length ≤ 600
        · have h600' : ¬ (600 : Int) < l.length := by omega
          simp (implicitDefEqProofs := false) (maxSteps := 2000000) (disch := (first | omega | (simp only [St.new_nx, St.set_nx, St.del_nx, St.bump_nx]; done) | (simp only [St.new_nx, St.set_nx, St.del_nx, St.bump_nx]; omega) | fail)) [h0, h600', a23r6]
          refine go_loop (I23b l i l[i] s) i ⟨0, by omega, by omega, by simp, ?_, ?_, ?_, ?_, ?_, ?_, ?_, ?_⟩ ?_
          rotate_right
          · rintro n g s1 ⟨k, hki, rfl, hnot, h0, h6, h7, h3, h21, h22, hk, hn⟩
            by_cases hlt2 : k < i
            · have hlt2' : (k : Int) < i := by omega
              have hxk : l[k]? = some (l[k]'(by omega)) := by simp
              have hxk' := il_get hxk
              have hkl : (k : Int) < l.length := by omega
              have w3 : IntKind.i64.wrap ((k : Int) + 1) = ((k + 1 : Nat) : Int) := by rw [wrap64 (by omega) (by omega)]; omega
              have htk : l.take (k + 1) = l.take k ++ [l[k]'(by omega)] := by rw [List.take_add_one, hxk]; rfl
              simp (implicitDefEqProofs := false) (maxSteps := 2000000) (disch := (first | omega | (simp only [St.new_nx, St.set_nx, St.del_nx, St.bump_nx]; done) | (simp only [St.new_nx, St.set_nx, St.del_nx, St.bump_nx]; omega) | fail)) [a23l12, a23r7, a23r8, a23r9, a23r10, a23r11, h0, h6, h7, h3, h21, h22, hlt2', hlt', hx', hkl, hxk', w3]
              intro m hm
              refine ⟨fun k3 => ⟨hbad (.inr (.inr ?_)), hk⟩, fun k3 => ?_⟩
              · rw [k3]
                exact List.mem_take_iff_getElem.2 ⟨k, by omega, rfl⟩
              · refine go_next (i - (k + 1)) (by omega) ⟨k + 1, by omega, rfl, ?_, ?_, ?_, ?_, ?_, ?_, ?_, ?_, ?_⟩
                · rw [htk]
                  simp only [List.mem_append, List.mem_singleton, not_or]
                  exact ⟨hnot, k3⟩
                all_goals (try simp (implicitDefEqProofs := false) (maxSteps := 2000000) (disch := (first | omega | (simp only [St.new_nx, St.set_nx, St.del_nx, St.bump_nx]; done) | (simp only [St.new_nx, St.set_nx, St.del_nx, St.bump_nx]; omega) | fail)) [h0, h6, h7, h3, h21, hk])
                all_goals omega
            · have hlt2' : ¬ (k : Int) < i := by omega
              have hki' : k = i := by omega
              subst hki'
              simp (implicitDefEqProofs := false) (maxSteps := 2000000) (disch := (first | omega | (simp only [St.new_nx, St.set_nx, St.del_nx, St.bump_nx]; done) | (simp only [St.new_nx, St.set_nx, St.del_nx, St.bump_nx]; omega) | fail)) [a23l12, a23r7, h0, h6, h7, h3, h21, h22, hlt2', a23r13, w2]
              simp only [k1, k2, hnot, decide_true, decide_false, Bool.not_false, Bool.true_and] at hg
              refine go_next (l.length - (k + 1)) (by omega) ⟨k + 1, by omega, rfl, by rw [hta]; exact hg, .inr h600, ?_, ?_, ?_, ?_, ?_⟩
              all_goals (try simp (implicitDefEqProofs := false) (maxSteps := 2000000) (disch := (first | omega | (simp only [St.new_nx, St.set_nx, St.del_nx, St.bump_nx]; done) | (simp only [St.new_nx, St.set_nx, St.del_nx, St.bump_nx]; omega) | fail)) [h0, h6, h7, hk])
              all_goals omega
          all_goals (try simp (implicitDefEqProofs := false) (maxSteps := 2000000) (disch := (first | omega | (simp only [St.new_nx, St.set_nx, St.del_nx, St.bump_nx]; done) | (simp only [St.new_nx, St.set_nx, St.del_nx, St.bump_nx]; omega) | fail)) [h0, h6, h7, hk])
          all_goals omega
        · have h600' : (600 : Int) < l.length := by omega
          simp (implicitDefEqProofs := false) (maxSteps := 2000000) (disch := (first | omega | (simp only [St.new_nx, St.set_nx, St.del_nx, St.bump_nx]; done) | (simp only [St.new_nx, St.set_nx, St.del_nx, St.bump_nx]; omega) | fail)) [h0, h600', a23r5]
          exact ⟨hbad (.inr (.inl h600)), hk⟩
      · simp (implicitDefEqProofs := false) (maxSteps := 2000000) (disch := (first | omega | (simp only [St.new_nx, St.set_nx, St.del_nx, St.bump_nx]; done) | (simp only [St.new_nx, St.set_nx, St.del_nx, St.bump_nx]; omega) | fail)) [a23r5]
        exact ⟨hbad (.inl (by omega)), hk⟩
    · have hlt' : ¬ (i : Int) < l.length := by omega
      have hdrop : l.drop i = [] := List.drop_eq_nil_of_le (by omega)
      rw [hdrop, chk] at hg
      simp (implicitDefEqProofs := false) (maxSteps := 2000000) (disch := (first | omega | (simp only [St.new_nx, St.set_nx, St.del_nx, St.bump_nx]; done) | (simp only [St.new_nx, St.set_nx, St.del_nx, St.bump_nx]; omega) | fail)) [a23l14, a23r2, h0, h6, h7, hlt', a23r15]
      have : l.length ≤ 600 := by omega
      exact ⟨by rw [← hres, ← hg]; simpa using this, hk⟩
  all_goals (try simp (implicitDefEqProofs := false) (maxSteps := 2000000) (disch := (first | omega | (simp only [St.new_nx, St.set_nx, St.del_nx, St.bump_nx]; done) | (simp only [St.new_nx, St.set_nx, St.del_nx, St.bump_nx]; omega) | fail)))
end Go.AL.Ty
/- The reference's bind; TypesBinds. -/
set_option linter.unusedVariables false
set_option linter.unusedSimpArgs false
namespace Go.AL.Ty
open Go Go.Proofs

mutual
def bn (op : Int) (l : List Int) : Ty → Int → Ty
  | mk o n s args, k => if o = op ∧ n ∈ l then var (l.length - 1 - idx l n + k) else mk o (if o = 1 ∧ k ≤ n then n + l.length else n) s (bns op l o args 0 k)
def bns (op : Int) (l : List Int) (o : Int) : List Ty → Nat → Int → List Ty
  | [], _, _ => []
  | t :: ts, i, k => bn op l t (k + belw o i) :: bns op l o ts (i + 1) k
end
theorem bn_eq (op : Int) (l : List Int) (t : Ty) (k : Int) : bn op l t k = if t.op = op ∧ t.n ∈ l then var (l.length - 1 - idx l t.n + k) else mk t.op (if t.op = 1 ∧ k ≤ t.n then t.n + l.length else t.n) t.s (bns op l t.op t.args 0 k) := by cases t; rw [bn]; rfl
theorem bns_length (op : Int) (l : List Int) (o : Int) : ∀ (ts : List Ty) (i : Nat) (k : Int), (bns op l o ts i k).length = ts.length
  | [], _, _ => by simp [bns]
  | t :: ts, i, k => by simp [bns, bns_length op l o ts (i + 1) k]
theorem bns_get (op : Int) (l : List Int) (o : Int) : ∀ (ts : List Ty) (i j : Nat) (k : Int) (x : Ty), ts[j]? = some x → (bns op l o ts i k)[j]? = some (bn op l x (k + belw o ((i + j : Nat) : Int)))
  | t :: ts, i, 0, k, x, h => by simp at h; subst h; simp [bns]
  | t :: ts, i, j + 1, k, x, h => by
    simp at h
    have := bns_get op l o ts (i + 1) j k x h
    simp only [bns, List.getElem?_cons_succ, this]
    rw [show i + 1 + j = i + (j + 1) by omega]

def C67 (op : Int) (l : List Int) (t : Ty) (k : Int) : Prop := PureC Try.prog 67 [t.av, .int .i64 op, .list 1 .none (il l), .int .i64 k] (bn op l t k).av

def I67 (op : Int) (l : List Int) (t : Ty) (b : Int) (on : Int) (res : List Ty) (s : St) (oT oO oR : Nat) (n : Nat) (g : Env) (s1 : St) : Prop :=
  ∃ (i sz : Nat) (tok : Tok), i ≤ t.args.length ∧ n = t.args.length - i ∧
    g.get 61 = .list 4 .none (t.args.map av) ∧ g.get 62 = .int .i64 t.args.length ∧ g.get 63 = .int .i64 i ∧ g.get 1 = .int .i64 op ∧ g.get 2 = .list 1 .none (il l) ∧ g.get 3 = .int .i64 b ∧ g.get 4 = .ptr oT 0 ∧ g.get 9 = .ptr oO 0 ∧ g.get 8 = .ptr oR 0 ∧
    s1.m oT = some (.box [.int .i64 t.op, .int .i64 t.n, .str t.s, .list 4 .none (t.args.map av)]) ∧ s1.m oO = some (.box [.int .i64 t.op, .int .i64 on, .str t.s, .list sz tok ((res.take i).map av)]) ∧
    s1.m oR = some (.box [.int .i64 0, .int .i64 0, .str ⟨#[]⟩, .list 0 .full []]) ∧ Kept s s1 ∧ oO < s1.nx ∧
    ((i = 0 ∧ sz = 0 ∧ tok = .full) ∨ (sz = 4 ∧ ∃ q, tok = .own q ∧ s1.m q = some (.spare (i * 4)) ∧ oO < q ∧ q < s1.nx))

theorem loop67 (op : Int) (l : List Int) (t : Ty) (b on : Int) (s : St) (oT oO oR : Nat) (G : Env) (S : St)
    (ih : ∀ (i : Nat) x, t.args[i]? = some x → C67 op l x (b + belw t.op i)) (hlen : t.args.length ≤ 1000000) (hb : -1000000 ≤ b) (hb2 : b ≤ 1000000)
    (h61 : G.get 61 = .list 4 .none (t.args.map av)) (h62 : G.get 62 = .int .i64 t.args.length) (h63 : G.get 63 = .int .i64 0) (h1 : G.get 1 = .int .i64 op) (h2 : G.get 2 = .list 1 .none (il l)) (h3 : G.get 3 = .int .i64 b)
    (h4 : G.get 4 = .ptr oT 0) (h9 : G.get 9 = .ptr oO 0) (h8 : G.get 8 = .ptr oR 0)
    (hT : S.m oT = some (.box [.int .i64 t.op, .int .i64 t.n, .str t.s, .list 4 .none (t.args.map av)])) (hO : S.m oO = some (.box [.int .i64 t.op, .int .i64 on, .str t.s, .list 0 .full []]))
    (hR : S.m oR = some (.box [.int .i64 0, .int .i64 0, .str ⟨#[]⟩, .list 0 .full []])) (hk : Kept s S) (n1 : s.nx ≤ oT) (n2 : oT < oR) (n3 : oR < oO) (n4 : oO < S.nx) :
    go (awp Try.prog (.loop a67l17) (blockQ 2 (seqQ Try.prog ((ACode.reg false a67r18).seq .ret) (finQ [.cell (true, 8) 4 true] fun r' s' => wk r' (mk t.op on t.s (bns op l t.op t.args 0 b)).av ∧ Kept s s'))) G S) := by
  have hml := bns_length op l t.op t.args 0 b
  generalize hres : bns op l t.op t.args 0 b = res at hml ⊢
  refine go_loop (I67 op l t b on res s oT oO oR) t.args.length
    ⟨0, 0, .full, Nat.zero_le _, by simp, h61, h62, h63, h1, h2, h3, h4, h9, h8, hT, by simpa using hO, hR, hk, n4, .inl ⟨rfl, rfl, rfl⟩⟩ ?_
  clear h61 h62 h63 h1 h2 h3 h4 h9 h8 hT hO hR hk n4
  rintro n g s1 ⟨i, sz, tok, hi, rfl, h61, h62, h63, h1, h2, h3, h4, h9, h8, hT, hO, hR, hk, n4, htok⟩
  by_cases hlt : i < t.args.length
  · have hx : t.args[i]? = some t.args[i] := by simp [hlt]
    have hlt' : (i : Int) < t.args.length := by omega
    have w2 : IntKind.i64.wrap ((i : Int) + 1) = ((i + 1 : Nat) : Int) := by rw [wrap64 (by omega) (by omega)]; omega
    have hbw := belw_bound t.op i
    have w1 : IntKind.i64.wrap (b + belw t.op i) = b + belw t.op i := wrap64 (by omega) (by omega)
    have hri : res[i]? = some (bn op l t.args[i] (b + belw t.op i)) := by
      have := bns_get op l t.op t.args 0 i b _ hx
      rw [hres] at this
      simpa using this
    have htake : (res.take (i + 1)).map av = (res.take i).map av ++ [(bn op l t.args[i] (b + belw t.op i)).av] := by
      rw [List.take_add_one, hri]; simp
    simp (implicitDefEqProofs := false) (maxSteps := 2000000) (disch := (first | omega | (simp only [St.new_nx, St.set_nx, St.del_nx, St.bump_nx]; done) | (simp only [St.new_nx, St.set_nx, St.del_nx, St.bump_nx]; omega) | fail)) [a67l17, a67r13, a67r14, a67r15, h61, h62, h63, h1, h2, h3, h4, h9, h8, hT, hO, hlt', hlt, hx]
    refine pcV_intro (p103 t i) ?_
    simp (implicitDefEqProofs := false) (maxSteps := 2000000) (disch := (first | omega | (simp only [St.new_nx, St.set_nx, St.del_nx, St.bump_nx]; done) | (simp only [St.new_nx, St.set_nx, St.del_nx, St.bump_nx]; omega) | fail)) [w1, h1, h2]
    refine pcV_intro (ih i _ hx) ?_
    rcases htok with ⟨rfl, rfl, rfl⟩ | ⟨rfl, q, rfl, hq, q1, q2⟩
    · simp (implicitDefEqProofs := false) (maxSteps := 2000000) (disch := (first | omega | (simp only [St.new_nx, St.set_nx, St.del_nx, St.bump_nx]; done) | (simp only [St.new_nx, St.set_nx, St.del_nx, St.bump_nx]; omega) | fail)) [hO, h9, h63, show IntKind.i64.wrap 1 = 1 from rfl, a67r16]
      intro m hm
      simp only [Nat.zero_add, List.take_zero, List.map_nil, List.nil_append] at htake
      refine go_next (t.args.length - 1) (by omega) ⟨1, 4, .own (s1.nx + 1), by omega, rfl, ?_, ?_, ?_, ?_, ?_, ?_, ?_, ?_, ?_, ?_, ?_, ?_, ?_, ?_, .inr ⟨rfl, _, rfl, ?_, ?_, ?_⟩⟩ <;> (try simp (implicitDefEqProofs := false) (maxSteps := 2000000) (disch := (first | omega | (simp only [St.new_nx, St.set_nx, St.del_nx, St.bump_nx]; done) | (simp only [St.new_nx, St.set_nx, St.del_nx, St.bump_nx]; omega) | fail)) [h61, h62, h63, h1, h2, h3, h4, h9, h8, hT, hO, hR, hk, ← List.map_take, htake])
      all_goals omega
    · simp (implicitDefEqProofs := false) (maxSteps := 2000000) (disch := (first | omega | (simp only [St.new_nx, St.set_nx, St.del_nx, St.bump_nx]; done) | (simp only [St.new_nx, St.set_nx, St.del_nx, St.bump_nx]; omega) | fail)) [hO, hq, h9, h63, w2, a67r16]
      intro m hm
      refine go_next (t.args.length - (i + 1)) (by omega) ⟨i + 1, 4, .own (s1.nx + 1), by omega, rfl, ?_, ?_, ?_, ?_, ?_, ?_, ?_, ?_, ?_, ?_, ?_, ?_, ?_, ?_, .inr ⟨rfl, _, rfl, ?_, ?_, ?_⟩⟩ <;> (try simp (implicitDefEqProofs := false) (maxSteps := 2000000) (disch := (first | omega | (simp only [St.new_nx, St.set_nx, St.del_nx, St.bump_nx]; done) | (simp only [St.new_nx, St.set_nx, St.del_nx, St.bump_nx]; omega) | fail)) [h61, h62, h63, h1, h2, h3, h4, h9, h8, hT, hO, hR, hk, ← List.map_take, htake])
      all_goals omega
  · have hlt' : ¬ (i : Int) < t.args.length := by omega
    have hie : i = t.args.length := by omega
    subst hie
    have htk : res.take t.args.length = res := by rw [← hml]; simp
    rw [htk] at hO
    simp (implicitDefEqProofs := false) (maxSteps := 2000000) (disch := (first | omega | (simp only [St.new_nx, St.set_nx, St.del_nx, St.bump_nx]; done) | (simp only [St.new_nx, St.set_nx, St.del_nx, St.bump_nx]; omega) | fail)) [a67l17, a67r13, h61, h62, h63, h9, h8, hlt', a67r18, hO, hR, hk]
    rw [av_mk]
    rcases htok with ⟨h0, rfl, rfl⟩ | ⟨rfl, q, rfl, _⟩
    · have : res = [] := List.length_eq_zero_iff.1 (by omega)
      simp [this]
    · simp

def S67 (op : Int) (l : List Int) (t : Ty) (k on : Int) (s : St) (G : Env) (S : St) : Prop :=
  G.get 1 = .int .i64 op ∧ G.get 2 = .list 1 .none (il l) ∧ G.get 3 = .int .i64 k ∧ G.get 4 = .ptr s.nx 0 ∧ G.get 9 = .ptr (s.nx + 1 + 1) 0 ∧ G.get 8 = .ptr (s.nx + 1) 0 ∧
    S.m s.nx = some (.box [.int .i64 t.op, .int .i64 t.n, .str t.s, .list 4 .none (t.args.map av)]) ∧ S.m (s.nx + 1 + 1) = some (.box [.int .i64 t.op, .int .i64 on, .str t.s, .list 0 .full []]) ∧
    S.m (s.nx + 1) = some (.box [.int .i64 0, .int .i64 0, .str ⟨#[]⟩, .list 0 .full []]) ∧ Kept s S ∧ s.nx + 1 + 1 < S.nx
def I67s (op : Int) (l : List Int) (t : Ty) (k on : Int) (s : St) (n : Nat) (g : Env) (s1 : St) : Prop :=
  ∃ (i : Nat), i ≤ l.length ∧ n = l.length - i ∧ firstAt (fun x => decide (t.n = x)) (l.drop i) i = idx l t.n ∧ g.get 40 = .list 1 .none (il l) ∧ g.get 41 = .int .i64 l.length ∧ g.get 42 = .int .i64 i ∧ S67 op l t k on s g s1

theorem p67 (op : Int) (l : List Int) (hl : l.length ≤ 1000000) (t : Ty) : ∀ k, Fit t k → C67 op l t k := by
  induction t using Ty.ind with
  | h t ih =>
    intro k hf
    refine PureC.intro fun s => fun_sound mixed Try.func67 Try.call67 c67 rfl (awpFun_go _ _ _ _ ?_)
    have hn := wide_n hf.1
    have hk := hf.2
    have hil := idx_bound l t.n
    have hin := idx_neg l t.n
    have w1 : IntKind.i64.wrap (t.n + l.length) = t.n + l.length := wrap64 (by omega) (by omega)
    have hb := bn_eq op l t k
    generalize hres : bn op l t k = res at hb
    generalize hon : (if t.op = 1 ∧ k ≤ t.n then t.n + (l.length : Int) else t.n) = on at hb
    have keyA : ∀ (G : Env) (S : St), ¬ (t.op = op ∧ t.n ∈ l) → G.get 61 = .list 4 .none (t.args.map av) → G.get 62 = .int .i64 t.args.length → G.get 63 = .int .i64 0 → S67 op l t k on s G S →
        go (awp Try.prog (.loop a67l17) (blockQ 2 (seqQ Try.prog ((ACode.reg false a67r18).seq .ret) (finQ [.cell (true, 8) 4 true] fun r' s' => wk r' res.av ∧ Kept s s'))) G S) := by
      rintro G S hne h61 h62 h63 ⟨h1, h2, h3, h4, h9, h8, hT, hO, hR, hk1, hn1⟩
      rw [hb, if_neg hne]
      exact loop67 op l t k on s s.nx (s.nx + 1 + 1) (s.nx + 1) _ _ (fun i x hx => ih x (List.mem_of_getElem? hx) _ (hf.child i x hx)) (wide_len hf.1) (by omega) (by omega) h61 h62 h63 h1 h2 h3 h4 h9 h8 hT hO hR hk1 (by omega) (by omega) (by omega) hn1
    have keyS : ∀ (G : Env) (S : St), t.op = op → G.get 40 = .list 1 .none (il l) → G.get 41 = .int .i64 l.length → G.get 42 = .int .i64 0 → S67 op l t k on s G S →
        go (awp Try.prog (.loop a67l11) (blockQ 0 (seqQ Try.prog (((ACode.reg false a67r12).seq (ACode.block 2 a67l17.loop)).seq ((ACode.reg false a67r18).seq .ret)) (finQ [.cell (true, 8) 4 true] fun r' s' => wk r' res.av ∧ Kept s s'))) G S) := by
      intro G S hop h40 h41 h42 hS
      refine go_loop (I67s op l t k on s) l.length ⟨0, by omega, by omega, by simp [idx], h40, h41, h42, hS⟩ ?_
      clear h40 h41 h42 hS
      rintro n g s1 ⟨i, hi, rfl, hg, h40, h41, h42, hS⟩
      have hS' := hS
      obtain ⟨h1, h2, h3, h4, h9, h8, hT, hO, hR, hk1, hn1⟩ := hS'
      by_cases hlt : i < l.length
      · have hx : l[i]? = some l[i] := by simp [hlt]
        have hx' := il_get hx
        have hlt' : (i : Int) < l.length := by omega
        have w2 : IntKind.i64.wrap ((i : Int) + 1) = ((i + 1 : Nat) : Int) := by rw [wrap64 (by omega) (by omega)]; omega
        have w3 : IntKind.i64.wrap ((l.length : Int) - 1) = (l.length : Int) - 1 := wrap64 (by omega) (by omega)
        have w4 : IntKind.i64.wrap ((l.length : Int) - 1 - i) = (l.length : Int) - 1 - i := wrap64 (by omega) (by omega)
        have w5 : IntKind.i64.wrap ((l.length : Int) - 1 - i + k) = (l.length : Int) - 1 - i + k := wrap64 (by omega) (by omega)
        have hdrop : l.drop i = l[i] :: l.drop (i + 1) := List.drop_eq_getElem_cons hlt
        rw [hdrop, firstAt] at hg
        simp (implicitDefEqProofs := false) (maxSteps := 2000000) (disch := (first | omega | (simp only [St.new_nx, St.set_nx, St.del_nx, St.bump_nx]; done) | (simp only [St.new_nx, St.set_nx, St.del_nx, St.bump_nx]; omega) | fail)) [a67l11, a67r6, a67r7, a67r8, a67r9, a67r10, h40, h41, h42, h1, h2, h3, h4, h9, h8, hT, hO, hR, hlt', hlt, hx', w2, w3, w4, w5]
        refine ⟨fun g1 => ?_, fun g1 => ?_⟩
        · rw [if_pos (by simp [g1])] at hg
          have hm : t.n ∈ l := by rw [← g1]; exact List.getElem_mem hlt
          rw [if_pos ⟨hop, hm⟩, ← hg] at hb
          refine go_pure (p59 _) fun mm1 hm1 => ?_
          try simp only [St.new_nx, St.bump_nx, St.set_nx, St.del_nx] at hm1
          simp (implicitDefEqProofs := false) (maxSteps := 2000000) (disch := (first | omega | (simp only [St.new_nx, St.set_nx, St.del_nx, St.bump_nx]; done) | (simp only [St.new_nx, St.set_nx, St.del_nx, St.bump_nx]; omega) | fail)) [h8, hR, hb, var, av_mk, hk1]
        · rw [if_neg (by simpa using fun h => g1 h.symm)] at hg
          refine go_next (l.length - (i + 1)) (by omega) ⟨i + 1, by omega, rfl, hg, ?_, ?_, ?_, ?_, ?_, ?_, ?_, ?_, ?_, hT, hO, hR, hk1, hn1⟩ <;> simp (implicitDefEqProofs := false) (maxSteps := 2000000) (disch := (first | omega | (simp only [St.new_nx, St.set_nx, St.del_nx, St.bump_nx]; done) | (simp only [St.new_nx, St.set_nx, St.del_nx, St.bump_nx]; omega) | fail)) [h40, h41, h42, h1, h2, h3, h4, h9, h8]
      · have hlt' : ¬ (i : Int) < l.length := by omega
        have hdrop : l.drop i = [] := List.drop_eq_nil_of_le (by omega)
        rw [hdrop, firstAt] at hg
        rw [← hg] at hin
        simp (implicitDefEqProofs := false) (maxSteps := 2000000) (disch := (first | omega | (simp only [St.new_nx, St.set_nx, St.del_nx, St.bump_nx]; done) | (simp only [St.new_nx, St.set_nx, St.del_nx, St.bump_nx]; omega) | fail)) [a67l11, a67r6, h40, h41, h42, h4, hT, hlt', a67r12]
        refine keyA _ _ (fun h => ?_) ?_ ?_ ?_ ?_
        · have := hin.symm
          simp [h.2] at this
        · simp (implicitDefEqProofs := false) (maxSteps := 2000000) (disch := (first | omega | (simp only [St.new_nx, St.set_nx, St.del_nx, St.bump_nx]; done) | (simp only [St.new_nx, St.set_nx, St.del_nx, St.bump_nx]; omega) | fail))
        · simp (implicitDefEqProofs := false) (maxSteps := 2000000) (disch := (first | omega | (simp only [St.new_nx, St.set_nx, St.del_nx, St.bump_nx]; done) | (simp only [St.new_nx, St.set_nx, St.del_nx, St.bump_nx]; omega) | fail))
        · simp (implicitDefEqProofs := false) (maxSteps := 2000000) (disch := (first | omega | (simp only [St.new_nx, St.set_nx, St.del_nx, St.bump_nx]; done) | (simp only [St.new_nx, St.set_nx, St.del_nx, St.bump_nx]; omega) | fail))
        · refine ⟨?_, ?_, ?_, ?_, ?_, ?_, hT, hO, hR, hk1, hn1⟩ <;> simp (implicitDefEqProofs := false) (maxSteps := 2000000) (disch := (first | omega | (simp only [St.new_nx, St.set_nx, St.del_nx, St.bump_nx]; done) | (simp only [St.new_nx, St.set_nx, St.del_nx, St.bump_nx]; omega) | fail)) [h1, h2, h3, h4, h9, h8]
    simp (implicitDefEqProofs := false) (maxSteps := 2000000) (disch := (first | omega | (simp only [St.new_nx, St.set_nx, St.del_nx, St.bump_nx]; done) | (simp only [St.new_nx, St.set_nx, St.del_nx, St.bump_nx]; omega) | fail)) [a67, a67b, a67r0, a67r1, a67r2, a67r3, a67r4, a67r5, w1]
    refine ⟨fun g1 => ⟨fun g2 => ?_, fun g2 => ?_⟩, fun g1 => ?_⟩
    · rw [if_pos ⟨g1, g2⟩] at hon
      subst hon
      refine ⟨fun g3 => ?_, fun g3 => ?_⟩
      · refine keyS _ _ g3 ?_ ?_ ?_ ⟨?_, ?_, ?_, ?_, ?_, ?_, ?_, ?_, ?_, ?_, ?_⟩ <;> (try simp (implicitDefEqProofs := false) (maxSteps := 2000000) (disch := (first | omega | (simp only [St.new_nx, St.set_nx, St.del_nx, St.bump_nx]; done) | (simp only [St.new_nx, St.set_nx, St.del_nx, St.bump_nx]; omega) | fail)))
      · simp (implicitDefEqProofs := false) (maxSteps := 2000000) (disch := (first | omega | (simp only [St.new_nx, St.set_nx, St.del_nx, St.bump_nx]; done) | (simp only [St.new_nx, St.set_nx, St.del_nx, St.bump_nx]; omega) | fail)) [a67r12]
        refine keyA _ _ (fun h => g3 h.1) ?_ ?_ ?_ ⟨?_, ?_, ?_, ?_, ?_, ?_, ?_, ?_, ?_, ?_, ?_⟩ <;> (try simp (implicitDefEqProofs := false) (maxSteps := 2000000) (disch := (first | omega | (simp only [St.new_nx, St.set_nx, St.del_nx, St.bump_nx]; done) | (simp only [St.new_nx, St.set_nx, St.del_nx, St.bump_nx]; omega) | fail)))
    · rw [if_neg (by omega)] at hon
      subst hon
      refine ⟨fun g3 => ?_, fun g3 => ?_⟩
      · refine keyS _ _ g3 ?_ ?_ ?_ ⟨?_, ?_, ?_, ?_, ?_, ?_, ?_, ?_, ?_, ?_, ?_⟩ <;> (try simp (implicitDefEqProofs := false) (maxSteps := 2000000) (disch := (first | omega | (simp only [St.new_nx, St.set_nx, St.del_nx, St.bump_nx]; done) | (simp only [St.new_nx, St.set_nx, St.del_nx, St.bump_nx]; omega) | fail)))
      · simp (implicitDefEqProofs := false) (maxSteps := 2000000) (disch := (first | omega | (simp only [St.new_nx, St.set_nx, St.del_nx, St.bump_nx]; done) | (simp only [St.new_nx, St.set_nx, St.del_nx, St.bump_nx]; omega) | fail)) [a67r12]
        refine keyA _ _ (fun h => g3 h.1) ?_ ?_ ?_ ⟨?_, ?_, ?_, ?_, ?_, ?_, ?_, ?_, ?_, ?_, ?_⟩ <;> (try simp (implicitDefEqProofs := false) (maxSteps := 2000000) (disch := (first | omega | (simp only [St.new_nx, St.set_nx, St.del_nx, St.bump_nx]; done) | (simp only [St.new_nx, St.set_nx, St.del_nx, St.bump_nx]; omega) | fail)))
    · rw [if_neg (by simp [g1])] at hon
      subst hon
      refine ⟨fun g3 => ?_, fun g3 => ?_⟩
      · refine keyS _ _ g3 ?_ ?_ ?_ ⟨?_, ?_, ?_, ?_, ?_, ?_, ?_, ?_, ?_, ?_, ?_⟩ <;> (try simp (implicitDefEqProofs := false) (maxSteps := 2000000) (disch := (first | omega | (simp only [St.new_nx, St.set_nx, St.del_nx, St.bump_nx]; done) | (simp only [St.new_nx, St.set_nx, St.del_nx, St.bump_nx]; omega) | fail)))
      · simp (implicitDefEqProofs := false) (maxSteps := 2000000) (disch := (first | omega | (simp only [St.new_nx, St.set_nx, St.del_nx, St.bump_nx]; done) | (simp only [St.new_nx, St.set_nx, St.del_nx, St.bump_nx]; omega) | fail)) [a67r12]
        refine keyA _ _ (fun h => g3 h.1) ?_ ?_ ?_ ⟨?_, ?_, ?_, ?_, ?_, ?_, ?_, ?_, ?_, ?_, ?_⟩ <;> (try simp (implicitDefEqProofs := false) (maxSteps := 2000000) (disch := (first | omega | (simp only [St.new_nx, St.set_nx, St.del_nx, St.bump_nx]; done) | (simp only [St.new_nx, St.set_nx, St.del_nx, St.bump_nx]; omega) | fail)))
end Go.AL.Ty
