/- TypesShifts: the plain law, the walk. -/
import Derived.Test.YtkegioliclbbhaaC4
import Derived.Test.YtkegioliclbbhaaD1
import Derived.Test.YtkegioliclbbhaaProg
import Derived.KernelRfl
set_option linter.unusedVariables false
set_option linter.unusedSimpArgs false
namespace Go.AL.Ty
open Go Go.Proofs

theorem wlks_lost (by_ from_ op : Int) : ∀ (l : List Ty) (i : Nat) (b : Int) (x : Bool), (∀ t ∈ l, ∀ b x, wlk (vlost by_ from_) t b x = (x || !(shf by_ from_ t b).2)) → wlks (vlost by_ from_) op l i b x = (x || !(shfs by_ from_ op l i b).2)
  | [], _, _, x, _ => by simp [wlks, shfs]
  | t :: ts, i, b, x, h => by
    simp only [wlks, shfs]
    rw [h t (by simp), wlks_lost by_ from_ op ts (i + 1) b _ fun y hy => h y (by simp [hy])]
    cases x <;> cases (shf by_ from_ t (b + belw op i)).2 <;> simp
theorem wlk_lost (by_ from_ : Int) (t : Ty) : Gd t → ∀ b x, wlk (vlost by_ from_) t b x = (x || !(shf by_ from_ t b).2) := by
  induction t using Ty.ind with
  | h t ih =>
    intro hg b x
    rw [wlk_eq, shf_eq]
    by_cases hc : t.op = 1 ∧ from_ ≤ t.n - b
    · rw [if_pos hc]
      have := hg.var hc.1
      obtain ⟨h1, h2⟩ := hc
      have e : t.args = [] := by rw [this]; rfl
      rw [e, wlks]
      simp only [vlost, h1, h2, decide_true, Bool.true_and]
      congr 1
      rw [← decide_not]
      congr 1
      exact propext (by omega)
    · rw [if_neg hc]
      have e : vlost by_ from_ t b x = x := by
        by_cases h1 : t.op = 1
        · have h2 : ¬ from_ ≤ t.n - b := fun h => hc ⟨h1, h⟩
          simp [vlost, h2]
        · simp [vlost, h1]
      rw [e, wlks_lost by_ from_ t.op t.args 0 b x fun y hy b x => ih y hy (hg.spec.2 y hy) b x]
theorem lost_shf {t : Ty} (by_ from_ : Int) (h : proper t = true) : lost t by_ from_ = !(shf by_ from_ t 0).2 := by
  rw [lost, wlk_lost by_ from_ t (.of h)]; simp
theorem moved_shf {t : Ty} (by_ from_ : Int) (h : proper t = true) : moved t by_ from_ = (shf by_ from_ t 0).1 := map_mv by_ from_ t (.of h) 0

/-- What whole says of what is put into form. -/
theorem fin_whol (x : Ty) : ∃ u e, lim u ∧ fin x = .tup [u.av, .int .i64 e] ∧ whol u e x = true := by
  by_cases hq : proper x = true
  · exact ⟨x, 0, proper_lim hq, by rw [fin, if_pos hq], by rw [whol, if_pos hq]; simp [same_refl]⟩
  · exact ⟨nul, 5, nul_lim, by rw [fin, if_neg hq]; rfl, by rw [whol, if_neg hq]; simp [same_refl]⟩
theorem p15n : PureC Try.prog 15 [nul.av] (.bool true) := by
  have h15 := p15 nul nul_lim
  rw [same_refl] at h15
  exact h15

theorem p4 (t : Ty) (by_ from_ : Int) : PureC Try.prog 4 [t.av, .int .i64 by_, .int .i64 from_] (.bool true) := by
  refine PureC.intro fun s => fun_sound mixed Try.func4 Try.call4 c4 rfl (awpFun_go _ _ _ _ ?_)
  simp (implicitDefEqProofs := false) (maxSteps := 2000000) (disch := (first | omega | (simp only [St.new_nx, St.set_nx, St.del_nx, St.bump_nx]; done) | (simp only [St.new_nx, St.set_nx, St.del_nx, St.bump_nx]; omega) | fail)) [a4, a4b, a4r0, a4r1]
  have h19 := p19 t by_ from_
  by_cases hc : proper t = true ∧ -9999 ≤ by_ ∧ by_ ≤ 9999 ∧ 0 ≤ from_ ∧ from_ ≤ 9999
  · rw [if_pos hc] at h19
    obtain ⟨hp, h1, h2, h3, h4⟩ := hc
    have g1 : ¬ by_ < -9999 := by omega
    have g2 : ¬ 9999 < by_ := by omega
    rw [lost_shf by_ from_ hp, moved_shf by_ from_ hp] at h19
    have h21 := p21 t by_ from_ (by omega) (by omega) (proper_fit hp)
    generalize shf by_ from_ t 0 = R at *
    obtain ⟨v, ok⟩ := R
    have h20 := p20 from_
    simp only [h3, h4, decide_true, Bool.and_self] at h20
    simp only at h21
    obtain ⟨u, e, hu, h19', hw⟩ : ∃ u e, lim u ∧ PureC Try.prog 19 [t.av, .int .i64 by_, .int .i64 from_] (.tup [u.av, .int .i64 e]) ∧ (ok = false → e = 6 ∧ same u nul = true) ∧ (ok = true → whol u e v = true) := by
      cases ok
      · exact ⟨nul, 6, nul_lim, h19, fun _ => ⟨rfl, same_refl nul⟩, by simp⟩
      · obtain ⟨u, e, hu, hfin, hw⟩ := fin_whol v
        simp only [Bool.not_true, Bool.false_eq_true, if_false] at h19
        rw [hfin] at h19
        exact ⟨u, e, hu, h19, by simp, fun _ => hw⟩
    clear h19
    refine go_pure h19' fun m1 hm1 => ?_
    simp only [St.new_nx, St.bump_nx, St.set_nx, St.del_nx] at hm1
    simp (implicitDefEqProofs := false) (maxSteps := 2000000) (disch := (first | omega | (simp only [St.new_nx, St.set_nx, St.del_nx, St.bump_nx]; done) | (simp only [St.new_nx, St.set_nx, St.del_nx, St.bump_nx]; omega) | fail)) [a4r2]
    refine go_pure (p13 t) fun m2 hm2 => ?_
    simp only [St.new_nx, St.bump_nx, St.set_nx, St.del_nx] at hm2
    rw [hp]
    simp (implicitDefEqProofs := false) (maxSteps := 2000000) (disch := (first | omega | (simp only [St.new_nx, St.set_nx, St.del_nx, St.bump_nx]; done) | (simp only [St.new_nx, St.set_nx, St.del_nx, St.bump_nx]; omega) | fail)) [g1, g2]
    refine go_pure h20 fun m3 hm3 => ?_
    simp only [St.new_nx, St.bump_nx, St.set_nx, St.del_nx] at hm3
    simp (implicitDefEqProofs := false) (maxSteps := 2000000) (disch := (first | omega | (simp only [St.new_nx, St.set_nx, St.del_nx, St.bump_nx]; done) | (simp only [St.new_nx, St.set_nx, St.del_nx, St.bump_nx]; omega) | fail)) [a4r4]
    refine go_pure h21 fun m4 hm4 => ?_
    simp only [St.new_nx, St.bump_nx, St.set_nx, St.del_nx] at hm4
    simp (implicitDefEqProofs := false) (maxSteps := 2000000) (disch := (first | omega | (simp only [St.new_nx, St.set_nx, St.del_nx, St.bump_nx]; done) | (simp only [St.new_nx, St.set_nx, St.del_nx, St.bump_nx]; omega) | fail)) [a4r5, a4r6, a4r7]
    cases ok
    · obtain ⟨rfl, hz⟩ := hw.1 rfl
      have h15 := p15 u hu
      rw [hz] at h15
      simp (implicitDefEqProofs := false) (maxSteps := 2000000) (disch := (first | omega | (simp only [St.new_nx, St.set_nx, St.del_nx, St.bump_nx]; done) | (simp only [St.new_nx, St.set_nx, St.del_nx, St.bump_nx]; omega) | fail)) [a4r6]
      refine go_pure h15 fun m5 hm5 => ?_
      simp only [St.new_nx, St.bump_nx, St.set_nx, St.del_nx] at hm5
      simp (implicitDefEqProofs := false) (maxSteps := 2000000) (disch := (first | omega | (simp only [St.new_nx, St.set_nx, St.del_nx, St.bump_nx]; done) | (simp only [St.new_nx, St.set_nx, St.del_nx, St.bump_nx]; omega) | fail))
      refine go_pure p16 fun m6 hm6 => ?_
      simp only [St.new_nx, St.bump_nx, St.set_nx, St.del_nx] at hm6
      simp (implicitDefEqProofs := false) (maxSteps := 2000000) (disch := (first | omega | (simp only [St.new_nx, St.set_nx, St.del_nx, St.bump_nx]; done) | (simp only [St.new_nx, St.set_nx, St.del_nx, St.bump_nx]; omega) | fail))
    · have h17 := p17 u e v hu
      rw [hw.2 rfl] at h17
      simp (implicitDefEqProofs := false) (maxSteps := 2000000) (disch := (first | omega | (simp only [St.new_nx, St.set_nx, St.del_nx, St.bump_nx]; done) | (simp only [St.new_nx, St.set_nx, St.del_nx, St.bump_nx]; omega) | fail)) [a4r7]
      refine go_pure h17 fun m5 hm5 => ?_
      simp only [St.new_nx, St.bump_nx, St.set_nx, St.del_nx] at hm5
      simp (implicitDefEqProofs := false) (maxSteps := 2000000) (disch := (first | omega | (simp only [St.new_nx, St.set_nx, St.del_nx, St.bump_nx]; done) | (simp only [St.new_nx, St.set_nx, St.del_nx, St.bump_nx]; omega) | fail))
      refine go_pure p16 fun m6 hm6 => ?_
      simp only [St.new_nx, St.bump_nx, St.set_nx, St.del_nx] at hm6
      simp (implicitDefEqProofs := false) (maxSteps := 2000000) (disch := (first | omega | (simp only [St.new_nx, St.set_nx, St.del_nx, St.bump_nx]; done) | (simp only [St.new_nx, St.set_nx, St.del_nx, St.bump_nx]; omega) | fail))
  · rw [if_neg hc] at h19
    have h20 := p20 from_
    have hcs : proper t = false ∨ (proper t = true ∧ by_ < -9999) ∨ (proper t = true ∧ ¬ by_ < -9999 ∧ 9999 < by_) ∨ (proper t = true ∧ ¬ by_ < -9999 ∧ ¬ 9999 < by_ ∧ (decide (0 ≤ from_) && decide (from_ ≤ 9999)) = false) := by
      cases hp : proper t
      · exact .inl rfl
      · refine .inr ?_
        by_cases k1 : by_ < -9999
        · exact .inl ⟨rfl, k1⟩
        by_cases k2 : 9999 < by_
        · exact .inr (.inl ⟨rfl, k1, k2⟩)
        refine .inr (.inr ⟨rfl, k1, k2, ?_⟩)
        by_cases k3 : 0 ≤ from_
        · have k4 : ¬ from_ ≤ 9999 := fun k4 => hc ⟨hp, by omega, by omega, k3, k4⟩
          simp [k4]
        · simp [k3]
    refine go_pure h19 fun m1 hm1 => ?_
    simp only [St.new_nx, St.bump_nx, St.set_nx, St.del_nx] at hm1
    simp (implicitDefEqProofs := false) (maxSteps := 2000000) (disch := (first | omega | (simp only [St.new_nx, St.set_nx, St.del_nx, St.bump_nx]; done) | (simp only [St.new_nx, St.set_nx, St.del_nx, St.bump_nx]; omega) | fail)) [a4r2]
    refine go_pure (p13 t) fun m2 hm2 => ?_
    simp only [St.new_nx, St.bump_nx, St.set_nx, St.del_nx] at hm2
    rcases hcs with hp | ⟨hp, k1⟩ | ⟨hp, k1, k2⟩ | ⟨hp, k1, k2, k3⟩ <;> rw [hp]
    · simp (implicitDefEqProofs := false) (maxSteps := 2000000) (disch := (first | omega | (simp only [St.new_nx, St.set_nx, St.del_nx, St.bump_nx]; done) | (simp only [St.new_nx, St.set_nx, St.del_nx, St.bump_nx]; omega) | fail)) [a4r3]
      refine go_pure p15n fun m5 hm5 => ?_
      simp only [St.new_nx, St.bump_nx, St.set_nx, St.del_nx] at hm5
      simp (implicitDefEqProofs := false) (maxSteps := 2000000) (disch := (first | omega | (simp only [St.new_nx, St.set_nx, St.del_nx, St.bump_nx]; done) | (simp only [St.new_nx, St.set_nx, St.del_nx, St.bump_nx]; omega) | fail))
      refine go_pure p16 fun m6 hm6 => ?_
      simp only [St.new_nx, St.bump_nx, St.set_nx, St.del_nx] at hm6
      simp (implicitDefEqProofs := false) (maxSteps := 2000000) (disch := (first | omega | (simp only [St.new_nx, St.set_nx, St.del_nx, St.bump_nx]; done) | (simp only [St.new_nx, St.set_nx, St.del_nx, St.bump_nx]; omega) | fail))
    · simp (implicitDefEqProofs := false) (maxSteps := 2000000) (disch := (first | omega | (simp only [St.new_nx, St.set_nx, St.del_nx, St.bump_nx]; done) | (simp only [St.new_nx, St.set_nx, St.del_nx, St.bump_nx]; omega) | fail)) [k1, a4r3]
      refine go_pure p15n fun m5 hm5 => ?_
      simp only [St.new_nx, St.bump_nx, St.set_nx, St.del_nx] at hm5
      simp (implicitDefEqProofs := false) (maxSteps := 2000000) (disch := (first | omega | (simp only [St.new_nx, St.set_nx, St.del_nx, St.bump_nx]; done) | (simp only [St.new_nx, St.set_nx, St.del_nx, St.bump_nx]; omega) | fail))
      refine go_pure p16 fun m6 hm6 => ?_
      simp only [St.new_nx, St.bump_nx, St.set_nx, St.del_nx] at hm6
      simp (implicitDefEqProofs := false) (maxSteps := 2000000) (disch := (first | omega | (simp only [St.new_nx, St.set_nx, St.del_nx, St.bump_nx]; done) | (simp only [St.new_nx, St.set_nx, St.del_nx, St.bump_nx]; omega) | fail))
    · simp (implicitDefEqProofs := false) (maxSteps := 2000000) (disch := (first | omega | (simp only [St.new_nx, St.set_nx, St.del_nx, St.bump_nx]; done) | (simp only [St.new_nx, St.set_nx, St.del_nx, St.bump_nx]; omega) | fail)) [k1, k2, a4r3]
      refine go_pure p15n fun m5 hm5 => ?_
      simp only [St.new_nx, St.bump_nx, St.set_nx, St.del_nx] at hm5
      simp (implicitDefEqProofs := false) (maxSteps := 2000000) (disch := (first | omega | (simp only [St.new_nx, St.set_nx, St.del_nx, St.bump_nx]; done) | (simp only [St.new_nx, St.set_nx, St.del_nx, St.bump_nx]; omega) | fail))
      refine go_pure p16 fun m6 hm6 => ?_
      simp only [St.new_nx, St.bump_nx, St.set_nx, St.del_nx] at hm6
      simp (implicitDefEqProofs := false) (maxSteps := 2000000) (disch := (first | omega | (simp only [St.new_nx, St.set_nx, St.del_nx, St.bump_nx]; done) | (simp only [St.new_nx, St.set_nx, St.del_nx, St.bump_nx]; omega) | fail))
    · rw [k3] at h20
      simp (implicitDefEqProofs := false) (maxSteps := 2000000) (disch := (first | omega | (simp only [St.new_nx, St.set_nx, St.del_nx, St.bump_nx]; done) | (simp only [St.new_nx, St.set_nx, St.del_nx, St.bump_nx]; omega) | fail)) [k1, k2]
      refine go_pure h20 fun m4 hm4 => ?_
      simp only [St.new_nx, St.bump_nx, St.set_nx, St.del_nx] at hm4
      simp (implicitDefEqProofs := false) (maxSteps := 2000000) (disch := (first | omega | (simp only [St.new_nx, St.set_nx, St.del_nx, St.bump_nx]; done) | (simp only [St.new_nx, St.set_nx, St.del_nx, St.bump_nx]; omega) | fail)) [a4r3]
      refine go_pure p15n fun m5 hm5 => ?_
      simp only [St.new_nx, St.bump_nx, St.set_nx, St.del_nx] at hm5
      simp (implicitDefEqProofs := false) (maxSteps := 2000000) (disch := (first | omega | (simp only [St.new_nx, St.set_nx, St.del_nx, St.bump_nx]; done) | (simp only [St.new_nx, St.set_nx, St.del_nx, St.bump_nx]; omega) | fail))
      refine go_pure p16 fun m6 hm6 => ?_
      simp only [St.new_nx, St.bump_nx, St.set_nx, St.del_nx] at hm6
      simp (implicitDefEqProofs := false) (maxSteps := 2000000) (disch := (first | omega | (simp only [St.new_nx, St.set_nx, St.del_nx, St.bump_nx]; done) | (simp only [St.new_nx, St.set_nx, St.del_nx, St.bump_nx]; omega) | fail))
end Go.AL.Ty
/- Numbers in lists, variables bound. -/
set_option linter.unusedVariables false
set_option linter.unusedSimpArgs false
namespace Go.AL.Ty
open Go Go.Proofs

def il (l : List Int) : List AV := l.map (.int .i64)
@[simp] theorem il_length (l : List Int) : (il l).length = l.length := by simp [il]
theorem il_get {l : List Int} {i : Nat} {x : Int} (h : l[i]? = some x) : (il l)[i]? = some (.int .i64 x) := by simp [il, h]
theorem il_take (l : List Int) (i : Nat) : (il l).take i = il (l.take i) := by simp [il, List.map_take]
def idx (l : List Int) (n : Int) : Int := firstAt (fun x => decide (n = x)) l 0
theorem idx_neg (l : List Int) (n : Int) : decide (0 ≤ idx l n) = decide (n ∈ l) := by
  have h := firstAt_neg (fun x => decide (n = x)) l 0
  rw [idx, decide_eq_decide, h]
  simp only [List.any_eq_true, decide_eq_true_eq]
  exact ⟨fun ⟨x, hx, e⟩ => e ▸ hx, fun h => ⟨n, h, rfl⟩⟩

theorem p107 (l : List Int) (n : Int) (hlen : l.length ≤ 9223372036854775807) : PureC Try.prog 107 [.list 1 .none (il l), .int .i64 n] (.int .i64 (idx l n)) := by
  refine PureC.intro fun s => fun_sound mixed Try.func107 Try.call107 c107 rfl (awpFun_go _ _ _ _ ?_)
  simp (implicitDefEqProofs := false) (maxSteps := 2000000) (disch := (first | omega | (simp only [St.new_nx, St.set_nx, St.del_nx, St.bump_nx]; done) | (simp only [St.new_nx, St.set_nx, St.del_nx, St.bump_nx]; omega) | fail)) [a107, a107b, a107r0, a107r1]
  refine go_loop (fun k g s1 => ∃ (i : Nat), i ≤ l.length ∧ k = l.length - i ∧ firstAt (fun x => decide (n = x)) (l.drop i) i = idx l n ∧
    g.get 0 = .list 1 .none (il l) ∧ g.get 7 = .int .i64 l.length ∧ g.get 8 = .int .i64 i ∧ g.get 1 = .int .i64 n ∧ Kept s s1 ∧ s.nx ≤ s1.nx) l.length ⟨0, Nat.zero_le _, by simp, by simp [idx], by simp, by simp, by simp, by simp, by simp, by simp⟩ ?_
  rintro k g s1 ⟨i, hi, rfl, hg, h0, h7, h8, h1, hk, hn⟩
  by_cases hlt : i < l.length
  · have hx : l[i]? = some l[i] := by simp [hlt]
    have hx' := il_get hx
    have hlt' : (i : Int) < l.length := by omega
    have w2 : IntKind.i64.wrap ((i : Int) + 1) = ((i + 1 : Nat) : Int) := by rw [wrap64 (by omega) (by omega)]; omega
    have hdrop : l.drop i = l[i] :: l.drop (i + 1) := List.drop_eq_getElem_cons hlt
    rw [hdrop, firstAt] at hg
    simp (implicitDefEqProofs := false) (maxSteps := 2000000) (disch := (first | omega | (simp only [St.new_nx, St.set_nx, St.del_nx, St.bump_nx]; done) | (simp only [St.new_nx, St.set_nx, St.del_nx, St.bump_nx]; omega) | fail)) [a107l7, a107r2, a107r3, a107r4, a107r5, a107r6, h0, h7, h8, h1, hlt', hlt, hx']
    refine ⟨fun hb => ?_, fun hb => ?_⟩
    · rw [if_pos (by simpa using hb)] at hg
      exact ⟨hg, hk⟩
    · rw [if_neg (by simpa using hb)] at hg
      rw [w2]
      refine go_next (l.length - (i + 1)) (by omega) ⟨i + 1, by omega, rfl, hg, ?_, ?_, ?_, ?_, ?_, ?_⟩ <;> (try simp (implicitDefEqProofs := false) (maxSteps := 2000000) (disch := (first | omega | (simp only [St.new_nx, St.set_nx, St.del_nx, St.bump_nx]; done) | (simp only [St.new_nx, St.set_nx, St.del_nx, St.bump_nx]; omega) | fail)) [h0, h7, h8, h1, hk])
      exact hn
  · have hlt' : ¬ (i : Int) < l.length := by omega
    have hdrop : l.drop i = [] := List.drop_eq_nil_of_le (by omega)
    rw [hdrop, firstAt] at hg
    simp (implicitDefEqProofs := false) (maxSteps := 2000000) (disch := (first | omega | (simp only [St.new_nx, St.set_nx, St.del_nx, St.bump_nx]; done) | (simp only [St.new_nx, St.set_nx, St.del_nx, St.bump_nx]; omega) | fail)) [a107l7, a107r2, h0, h7, h8, h1, hlt', a107r8, ← hg, hk]

theorem p65 (l : List Int) (n : Int) (hlen : l.length ≤ 9223372036854775807) : PureC Try.prog 65 [.list 1 .none (il l), .int .i64 n] (.bool (decide (n ∈ l))) := by
  refine PureC.intro fun s => fun_sound mixed Try.func65 Try.call65 c65 rfl (awpFun_go _ _ _ _ ?_)
  simp (implicitDefEqProofs := false) (maxSteps := 2000000) (disch := (first | omega | (simp only [St.new_nx, St.set_nx, St.del_nx, St.bump_nx]; done) | (simp only [St.new_nx, St.set_nx, St.del_nx, St.bump_nx]; omega) | fail)) [a65, a65b, a65r0, a65r1]
  refine go_pure (p107 l n hlen) fun mm1 hm1 => ?_
  try simp only [St.new_nx, St.bump_nx, St.set_nx, St.del_nx] at hm1
  simp (implicitDefEqProofs := false) (maxSteps := 2000000) (disch := (first | omega | (simp only [St.new_nx, St.set_nx, St.del_nx, St.bump_nx]; done) | (simp only [St.new_nx, St.set_nx, St.del_nx, St.bump_nx]; omega) | fail)) [idx_neg]

theorem p109 (n : Int) : PureC Try.prog 109 [.int .i64 n] (var n).av := by
  refine PureC.intro fun s => fun_sound mixed Try.func109 Try.call109 c109 rfl (awpFun_go _ _ _ _ ?_)
  simp (implicitDefEqProofs := false) (maxSteps := 2000000) (disch := (first | omega | (simp only [St.new_nx, St.set_nx, St.del_nx, St.bump_nx]; done) | (simp only [St.new_nx, St.set_nx, St.del_nx, St.bump_nx]; omega) | fail)) [a109, a109b, a109r0, a109r1, var, av_mk]

theorem idx_bound (l : List Int) (n : Int) : -1 ≤ idx l n ∧ idx l n < l.length ∨ l = [] ∧ idx l n = -1 := by
  have : ∀ (l : List Int) (i : Nat), firstAt (fun x => decide (n = x)) l i = -1 ∨ (i : Int) ≤ firstAt (fun x => decide (n = x)) l i ∧ firstAt (fun x => decide (n = x)) l i < i + l.length := by
    intro l
    induction l with
    | nil => intro i; simp [firstAt]
    | cons x xs ih =>
      intro i
      simp only [firstAt]
      split
      · right; simp; omega
      · rcases ih (i + 1) with h | h
        · exact .inl h
        · right; simp at h ⊢; omega
  have h := this l 0
  rw [← idx] at h
  cases l with
  | nil => right; simp [idx, firstAt]
  | cons x xs => left; simp at h ⊢; omega

/-- What Bound does at a node. -/
def bnd (op : Int) (l : List Int) (t : Ty) (b : Int) : Option Ty :=
  if t.op = op ∧ t.n ∈ l then some (var (l.length - 1 - idx l t.n + b))
  else if t.op = 1 ∧ b ≤ t.n then some (var (t.n + l.length))
  else if t.op = 1 then some t else none
theorem p108 (op : Int) (l : List Int) (t : Ty) (b : Int) (hf : Fit t b) (hl : l.length ≤ 1000000) :
    ∃ u : Ty, PureC Try.prog 108 [t.av, .int .i64 b, .cptr [.int .i64 op], .cptr [.list 1 .none (il l)]] (.tup [u.av, .bool (bnd op l t b).isSome]) ∧ ∀ v, bnd op l t b = some v → u = v := by
  refine ⟨(bnd op l t b).getD t, PureC.intro fun s => fun_sound mixed Try.func108 Try.call108 c108 rfl (awpFun_go _ _ _ _ ?_), fun v hv => by rw [hv]; rfl⟩
  have hn := wide_n hf.1
  have hb := hf.2
  have hi := idx_bound l t.n
  have w1 : IntKind.i64.wrap ((l.length : Int) - 1) = (l.length : Int) - 1 := wrap64 (by omega) (by omega)
  have w2 : IntKind.i64.wrap ((l.length : Int) - 1 - idx l t.n) = (l.length : Int) - 1 - idx l t.n := wrap64 (by omega) (by omega)
  have w3 : IntKind.i64.wrap ((l.length : Int) - 1 - idx l t.n + b) = (l.length : Int) - 1 - idx l t.n + b := wrap64 (by omega) (by omega)
  have w4 : IntKind.i64.wrap (t.n + l.length) = t.n + l.length := wrap64 (by omega) (by omega)
  generalize hB : bnd op l t b = B
  simp (implicitDefEqProofs := false) (maxSteps := 2000000) (disch := (first | omega | (simp only [St.new_nx, St.set_nx, St.del_nx, St.bump_nx]; done) | (simp only [St.new_nx, St.set_nx, St.del_nx, St.bump_nx]; omega) | fail)) [a108, a108b, a108r0, a108r1, a108r2, a108r3, a108r4, a108r5]
  have tail : ¬ (t.op = op ∧ t.n ∈ l) → B = if t.op = 1 ∧ b ≤ t.n then some (var (t.n + l.length)) else if t.op = 1 then some t else none := fun h1 => by rw [← hB, bnd, if_neg h1]
  refine ⟨fun h1 => ?_, fun h1 => ?_⟩
  · refine go_pure (p65 l t.n (by omega)) fun mm2 hm2 => ?_
    try simp only [St.new_nx, St.bump_nx, St.set_nx, St.del_nx] at hm2
    simp (implicitDefEqProofs := false) (maxSteps := 2000000) (disch := (first | omega | (simp only [St.new_nx, St.set_nx, St.del_nx, St.bump_nx]; done) | (simp only [St.new_nx, St.set_nx, St.del_nx, St.bump_nx]; omega) | fail))
    refine ⟨fun h2 => ?_, fun h2 => ?_⟩
    · have hB' : B = some (var (l.length - 1 - idx l t.n + b)) := by rw [← hB, bnd, if_pos ⟨h1, h2⟩]
      refine pcV_intro (p107 l t.n (by omega)) ?_
      simp (implicitDefEqProofs := false) (maxSteps := 2000000) (disch := (first | omega | (simp only [St.new_nx, St.set_nx, St.del_nx, St.bump_nx]; done) | (simp only [St.new_nx, St.set_nx, St.del_nx, St.bump_nx]; omega) | fail)) [w1, w2, w3]
      refine pcV_intro (p109 (l.length - 1 - idx l t.n + b)) ?_
      simp (implicitDefEqProofs := false) (maxSteps := 2000000) (disch := (first | omega | (simp only [St.new_nx, St.set_nx, St.del_nx, St.bump_nx]; done) | (simp only [St.new_nx, St.set_nx, St.del_nx, St.bump_nx]; omega) | fail)) [hB']
    · have hB' := tail (by simp [h2])
      refine ⟨fun h3 => ⟨fun h4 => ?_, fun h4 => ?_⟩, fun h3 => ?_⟩
      · rw [w4]
        rw [if_pos ⟨h3, h4⟩] at hB'
        refine go_pure (p109 (t.n + l.length)) fun mm3 hm3 => ?_
        try simp only [St.new_nx, St.bump_nx, St.set_nx, St.del_nx] at hm3
        simp (implicitDefEqProofs := false) (maxSteps := 2000000) (disch := (first | omega | (simp only [St.new_nx, St.set_nx, St.del_nx, St.bump_nx]; done) | (simp only [St.new_nx, St.set_nx, St.del_nx, St.bump_nx]; omega) | fail)) [hB']
      · rw [if_neg (by omega), if_pos h3] at hB'
        simp [hB', h3]
      · rw [if_neg (by omega), if_neg h3] at hB'
        simp [hB', h3]
  · have hB' := tail (by simp [h1])
    refine ⟨fun h3 => ⟨fun h4 => ?_, fun h4 => ?_⟩, fun h3 => ?_⟩
    · rw [w4]
      rw [if_pos ⟨h3, h4⟩] at hB'
      refine go_pure (p109 (t.n + l.length)) fun mm4 hm4 => ?_
      try simp only [St.new_nx, St.bump_nx, St.set_nx, St.del_nx] at hm4
      simp (implicitDefEqProofs := false) (maxSteps := 2000000) (disch := (first | omega | (simp only [St.new_nx, St.set_nx, St.del_nx, St.bump_nx]; done) | (simp only [St.new_nx, St.set_nx, St.del_nx, St.bump_nx]; omega) | fail)) [hB']
    · rw [if_neg (by omega), if_pos h3] at hB'
      simp [hB', h3]
    · rw [if_neg (by omega), if_neg h3] at hB'
      simp [hB', h3]

def bound (t : Ty) (op : Int) (l : List Int) : Ty := map (bnd op l) t 0
theorem p66 (t : Ty) (op : Int) (l : List Int) (hl : l.length ≤ 1000000) (ht : Fit t 0) : PureC Try.prog 66 [t.av, .int .i64 op, .list 1 .none (il l)] (bound t op l).av := by
  refine PureC.intro fun s => fun_sound mixed Try.func66 Try.call66 c66 rfl (awpFun_go _ _ _ _ ?_)
  simp (implicitDefEqProofs := false) (maxSteps := 2000000) (disch := (first | omega | (simp only [St.new_nx, St.set_nx, St.del_nx, St.bump_nx]; done) | (simp only [St.new_nx, St.set_nx, St.del_nx, St.bump_nx]; omega) | fail)) [a66, a66b, a66r0, a66r1]
  have h98 := p98 108 [] [.cptr [.int .i64 op], .cptr [.list 1 .none (il l)]] (bnd op l) Fit
    (fun t b h => p108 op l t b h hl)
    (fun t b h _ => ⟨wide_len h.1, by have := h.2; omega, by have := h.2; omega, h.child⟩) t 0 ht
  refine go_pure h98 fun mm5 hm5 => ?_
  try simp only [St.new_nx, St.bump_nx, St.set_nx, St.del_nx] at hm5
  simp (implicitDefEqProofs := false) (maxSteps := 2000000) (disch := (first | omega | (simp only [St.new_nx, St.set_nx, St.del_nx, St.bump_nx]; done) | (simp only [St.new_nx, St.set_nx, St.del_nx, St.bump_nx]; omega) | fail)) [bound]
end Go.AL.Ty
namespace Go.AL.Ty
open Go.Proofs

/- damask/types.Order -/
def a36r0 : List AOper :=
  [⟨some (true, 2), .box (.g 0), none, []⟩,
   ⟨some (true, 3), .box (.g 1), none, []⟩,
   ⟨some (true, 4), .mv (.c (.int .i64 0)), none, []⟩,
   ⟨some (true, 5), .mv (.c (.int .i64 0)), none, []⟩]
def a36r1 : List AOper :=
  [⟨some (false, 6), .load 4 true (.g 2), none, []⟩,
   ⟨some (false, 7), .call false (.c (.fn 53 [] [])) [(.l 6)], none, []⟩,
   ⟨some (false, 8), .un .not (.l 7), none, []⟩,
   ⟨some (false, 9), .mv (.l 8), none, []⟩,
   ⟨some (false, 10), .load 4 true (.g 3), some (false, 9, false), []⟩,
   ⟨some (false, 11), .call false (.c (.fn 53 [] [])) [(.l 10)], some (false, 9, false), []⟩,
   ⟨some (false, 12), .un .not (.l 11), some (false, 9, false), []⟩,
   ⟨some (true, 13), .pick (.l 9) (.c (.bool true)) (.l 12), none, []⟩]
def a36r2 : List AOper :=
  [⟨some (true, 4), .mv (.c (.int .i64 0)), none, []⟩,
   ⟨some (true, 5), .mv (.c (.int .i64 2)), none, []⟩]
def a36r3 : List AOper :=
  [⟨some (false, 14), .load 4 true (.g 2), none, []⟩,
   ⟨some (false, 15), .load 4 true (.g 3), none, []⟩,
   ⟨some (false, 16), .call false (.c (.fn 79 [] [])) [(.l 14), (.l 15)], none, []⟩,
   ⟨some (true, 4), .mv (.l 16), none, []⟩,
   ⟨some (true, 5), .mv (.c (.int .i64 0)), none, []⟩]
def a36b : ACode :=
  (.seq (.reg false a36r0) (.seq (.seq (.reg false a36r1) (.cond (.g 13) (.seq (.reg false a36r2) .ret) .skip)) (.seq (.reg false a36r3) .ret)))
def a36 : AFun := ⟨2, 17, a36b, [.tmp (true, 4), .tmp (true, 5)]⟩
theorem c36 : compileFun Try.prog [0, 1, 2, 3, 4, 5, 13] Try.f36 = some a36 := by kernel_rfl

/- damask/types.Same -/
def a37r0 : List AOper :=
  [⟨some (true, 2), .box (.g 0), none, []⟩,
   ⟨some (true, 3), .box (.g 1), none, []⟩,
   ⟨some (true, 4), .mv (.c (.bool false)), none, []⟩]
def a37r1 : List AOper :=
  [⟨some (false, 5), .fieldAddr 0 (.g 2), none, []⟩,
   ⟨some (false, 6), .load 1 false (.l 5), none, []⟩,
   ⟨some (false, 7), .fieldAddr 0 (.g 3), none, []⟩,
   ⟨some (false, 8), .load 1 false (.l 7), none, []⟩,
   ⟨some (false, 9), .bin .eql (.l 6) (.l 8), none, []⟩,
   ⟨some (false, 10), .mv (.l 9), none, []⟩,
   ⟨some (false, 11), .fieldAddr 1 (.g 2), some (false, 10, true), []⟩,
   ⟨some (false, 12), .load 1 false (.l 11), some (false, 10, true), []⟩,
   ⟨some (false, 13), .fieldAddr 1 (.g 3), some (false, 10, true), []⟩,
   ⟨some (false, 14), .load 1 false (.l 13), some (false, 10, true), []⟩,
   ⟨some (false, 15), .bin .eql (.l 12) (.l 14), some (false, 10, true), []⟩,
   ⟨some (false, 16), .pick (.l 10) (.l 15) (.c (.bool false)), none, []⟩,
   ⟨some (false, 17), .mv (.l 16), none, []⟩,
   ⟨some (false, 18), .fieldAddr 2 (.g 2), some (false, 17, true), []⟩,
   ⟨some (false, 19), .load 1 false (.l 18), some (false, 17, true), []⟩,
   ⟨some (false, 20), .fieldAddr 2 (.g 3), some (false, 17, true), []⟩,
   ⟨some (false, 21), .load 1 false (.l 20), some (false, 17, true), []⟩,
   ⟨some (false, 22), .bin .eql (.l 19) (.l 21), some (false, 17, true), []⟩,
   ⟨some (false, 23), .pick (.l 17) (.l 22) (.c (.bool false)), none, []⟩,
   ⟨some (false, 24), .mv (.l 23), none, []⟩,
   ⟨some (false, 25), .fieldAddr 3 (.g 2), some (false, 24, true), []⟩,
   ⟨some (false, 26), .load 1 false (.l 25), some (false, 24, true), []⟩,
   ⟨some (false, 27), .fieldAddr 3 (.g 3), some (false, 24, true), []⟩,
   ⟨some (false, 28), .load 1 false (.l 27), some (false, 24, true), []⟩,
   ⟨some (false, 29), .call false (.c (.fn 80 [] [])) [(.l 26), (.l 28), (.c (.fn 37 [] []))], some (false, 24, true), []⟩,
   ⟨some (false, 30), .pick (.l 24) (.l 29) (.c (.bool false)), none, []⟩,
   ⟨some (true, 4), .mv (.l 30), none, []⟩]
def a37b : ACode :=
  (.seq (.reg false a37r0) (.seq (.reg false a37r1) .ret))
def a37 : AFun := ⟨2, 31, a37b, [.tmp (true, 4)]⟩
theorem c37 : compileFun Try.prog [0, 1, 2, 3, 4] Try.f37 = some a37 := by kernel_rfl

/- damask/damaskref05.Order -/
def a38r0 : List AOper :=
  [⟨some (true, 2), .box (.g 0), none, []⟩,
   ⟨some (true, 3), .box (.g 1), none, []⟩,
   ⟨some (true, 4), .mv (.c (.int .i64 0)), none, []⟩]
def a38r1 : List AOper :=
  [⟨some (false, 9), .load 4 true (.g 2), none, []⟩,
   ⟨some (false, 10), .call true (.c (.fn 48 [] [])) [(.l 9)], none, []⟩,
   ⟨some (false, 11), .load 4 true (.g 3), none, []⟩,
   ⟨some (false, 12), .call true (.c (.fn 48 [] [])) [(.l 11)], none, []⟩,
   ⟨some (false, 13), .call true (.c (.fn 81 [] [])) [(.l 10), (.l 12)], none, []⟩,
   ⟨some (false, 14), .fieldAddr 0 (.g 2), none, []⟩,
   ⟨some (false, 15), .load 1 false (.l 14), none, []⟩,
   ⟨some (false, 16), .fieldAddr 0 (.g 3), none, []⟩,
   ⟨some (false, 17), .load 1 false (.l 16), none, []⟩,
   ⟨some (false, 18), .call true (.c (.fn 81 [] [])) [(.l 15), (.l 17)], none, []⟩,
   ⟨some (false, 19), .fieldAddr 1 (.g 2), none, []⟩,
   ⟨some (false, 20), .load 1 false (.l 19), none, []⟩,
   ⟨some (false, 21), .fieldAddr 1 (.g 3), none, []⟩,
   ⟨some (false, 22), .load 1 false (.l 21), none, []⟩,
   ⟨some (false, 23), .call true (.c (.fn 81 [] [])) [(.l 20), (.l 22)], none, []⟩,
   ⟨some (false, 24), .fieldAddr 2 (.g 2), none, []⟩,
   ⟨some (false, 25), .load 1 false (.l 24), none, []⟩,
   ⟨some (false, 26), .fieldAddr 2 (.g 3), none, []⟩,
   ⟨some (false, 27), .load 1 false (.l 26), none, []⟩,
   ⟨some (false, 28), .call true (.c (.fn 82 [] [])) [(.l 25), (.l 27)], none, []⟩,
   ⟨some (true, 29), .buildSlice 1 false [(.int .i64 0)] 4 [(0, (.l 13)), (1, (.l 18)), (2, (.l 23)), (3, (.l 28))], none, []⟩,
   ⟨some (true, 30), .len (.g 29), none, []⟩,
   ⟨some (true, 31), .mv (.c (.int .i64 0)), none, []⟩]
def a38r2 : List AOper :=
  [⟨some (true, 32), .bin .lss (.g 31) (.g 30), none, []⟩]
def a38r3 : List AOper :=
  [⟨some (false, 33), .indexAddr 1 (.g 29) (.g 31), none, []⟩,
   ⟨some (false, 34), .load 1 false (.l 33), none, []⟩,
   ⟨some (true, 6), .mv (.l 34), none, []⟩]
def a38r4 : List AOper :=
  [⟨some (false, 35), .mv (.g 6), none, []⟩,
   ⟨some (true, 36), .bin .neq (.l 35) (.c (.int .i64 0)), none, []⟩]
def a38r5 : List AOper :=
  [⟨some (false, 37), .mv (.g 6), none, []⟩,
   ⟨some (true, 4), .mv (.l 37), none, []⟩]
def a38r6 : List AOper :=
  [⟨some (false, 38), .bin .add (.g 31) (.c (.int .i64 1)), none, []⟩,
   ⟨some (true, 31), .mv (.l 38), none, []⟩]
def a38l7 : ACode :=
  (.seq (.reg false a38r2) (.seq (.cond (.g 32) .skip (.exit 0)) (.seq (.block 1 (.seq (.reg false a38r3) (.seq (.reg false a38r4) (.cond (.g 36) (.seq (.reg false a38r5) .ret) .skip)))) (.reg false a38r6))))
def a38r8 : List AOper :=
  [⟨some (false, 39), .fieldAddr 3 (.g 2), none, []⟩,
   ⟨some (false, 40), .load 1 false (.l 39), none, []⟩,
   ⟨some (true, 41), .len (.l 40), none, []⟩,
   ⟨some (true, 42), .mv (.c (.int .i64 0)), none, []⟩]
def a38r9 : List AOper :=
  [⟨some (true, 43), .bin .lss (.g 42) (.g 41), none, []⟩]
def a38r10 : List AOper :=
  [⟨some (false, 44), .mv (.g 42), none, []⟩,
   ⟨some (true, 7), .mv (.l 44), none, []⟩]
def a38r11 : List AOper :=
  [⟨some (false, 45), .fieldAddr 3 (.g 2), none, []⟩,
   ⟨some (false, 46), .load 1 false (.l 45), none, []⟩,
   ⟨some (false, 47), .mv (.g 7), none, []⟩,
   ⟨some (false, 48), .indexAddr 4 (.l 46) (.l 47), none, []⟩,
   ⟨some (false, 49), .load 4 true (.l 48), none, []⟩,
   ⟨some (false, 50), .fieldAddr 3 (.g 3), none, []⟩,
   ⟨some (false, 51), .load 1 false (.l 50), none, []⟩,
   ⟨some (false, 52), .mv (.g 7), none, []⟩,
   ⟨some (false, 53), .indexAddr 4 (.l 51) (.l 52), none, []⟩,
   ⟨some (false, 54), .load 4 true (.l 53), none, []⟩,
   ⟨some (false, 55), .call true (.c (.fn 38 [] [])) [(.l 49), (.l 54)], none, []⟩,
   ⟨some (true, 8), .mv (.l 55), none, []⟩]
def a38r12 : List AOper :=
  [⟨some (false, 56), .mv (.g 8), none, []⟩,
   ⟨some (true, 57), .bin .neq (.l 56) (.c (.int .i64 0)), none, []⟩]
def a38r13 : List AOper :=
  [⟨some (false, 58), .mv (.g 8), none, []⟩,
   ⟨some (true, 4), .mv (.l 58), none, []⟩]
def a38r14 : List AOper :=
  [⟨some (false, 59), .bin .add (.g 42) (.c (.int .i64 1)), none, []⟩,
   ⟨some (true, 42), .mv (.l 59), none, []⟩]
def a38l15 : ACode :=
  (.seq (.reg false a38r9) (.seq (.cond (.g 43) .skip (.exit 2)) (.seq (.block 3 (.seq (.reg false a38r10) (.seq (.reg true a38r11) (.seq (.reg false a38r12) (.cond (.g 57) (.seq (.reg false a38r13) .ret) .skip))))) (.reg false a38r14))))
def a38r16 : List AOper :=
  [⟨some (true, 4), .mv (.c (.int .i64 0)), none, []⟩]
def a38b : ACode :=
  (.seq (.reg false a38r0) (.seq (.seq (.reg true a38r1) (.block 0 (.loop a38l7))) (.seq (.seq (.reg false a38r8) (.block 2 (.loop a38l15))) (.seq (.reg false a38r16) .ret))))
def a38 : AFun := ⟨2, 60, a38b, [.tmp (true, 4)]⟩
theorem c38 : compileFun Try.prog [0, 1, 2, 3, 4, 6, 7, 8, 29, 30, 31, 32, 36, 41, 42, 43, 57] Try.f38 = some a38 := by kernel_rfl

/- damask/types.Compare -/
def a79r0 : List AOper :=
  [⟨some (true, 2), .box (.g 0), none, []⟩,
   ⟨some (true, 3), .box (.g 1), none, []⟩,
   ⟨some (true, 4), .mv (.c (.int .i64 0)), none, []⟩]
def a79r1 : List AOper :=
  [⟨some (false, 6), .load 4 true (.g 2), none, []⟩,
   ⟨some (false, 7), .call true (.c (.fn 84 [] [])) [(.l 6)], none, []⟩,
   ⟨some (false, 8), .load 4 true (.g 3), none, []⟩,
   ⟨some (false, 9), .call true (.c (.fn 84 [] [])) [(.l 8)], none, []⟩,
   ⟨some (false, 10), .call true (.c (.fn 117 [] [])) [(.l 7), (.l 9)], none, []⟩,
   ⟨some (true, 5), .mv (.l 10), none, []⟩]
def a79r2 : List AOper :=
  [⟨some (false, 11), .mv (.g 5), none, []⟩,
   ⟨some (true, 12), .bin .neq (.l 11) (.c (.int .i64 0)), none, []⟩]
def a79r3 : List AOper :=
  [⟨some (false, 13), .mv (.g 5), none, []⟩,
   ⟨some (true, 4), .mv (.l 13), none, []⟩]
def a79r4 : List AOper :=
  [⟨some (false, 14), .load 4 true (.g 2), none, []⟩,
   ⟨some (false, 15), .load 4 true (.g 3), none, []⟩,
   ⟨some (false, 16), .call false (.c (.fn 118 [] [])) [(.l 14), (.l 15)], none, []⟩,
   ⟨some (true, 4), .mv (.l 16), none, []⟩]
def a79b : ACode :=
  (.seq (.reg false a79r0) (.seq (.seq (.reg true a79r1) (.seq (.reg false a79r2) (.cond (.g 12) (.seq (.reg false a79r3) .ret) .skip))) (.seq (.reg false a79r4) .ret)))
def a79 : AFun := ⟨2, 17, a79b, [.tmp (true, 4)]⟩
theorem c79 : compileFun Try.prog [0, 1, 2, 3, 4, 5, 12] Try.f79 = some a79 := by kernel_rfl

/- slices.EqualFunc[[]damask/api.Type,[]damask/api.Type,damask/api.Type,damask/api.Type] -/
def a80r0 : List AOper :=
  [⟨some (true, 6), .mv (.c (.bool false)), none, []⟩]
def a80r1 : List AOper :=
  [⟨some (false, 10), .mv (.g 0), none, []⟩,
   ⟨some (false, 11), .len (.l 10), none, []⟩,
   ⟨some (false, 12), .mv (.g 1), none, []⟩,
   ⟨some (false, 13), .len (.l 12), none, []⟩,
   ⟨some (true, 14), .bin .neq (.l 11) (.l 13), none, []⟩]
def a80r2 : List AOper :=
  [⟨some (true, 6), .mv (.c (.bool false)), none, []⟩]
def a80r3 : List AOper :=
  [⟨some (true, 15), .mv (.g 0), none, []⟩,
   ⟨some (true, 16), .len (.g 15), none, []⟩,
   ⟨some (true, 17), .mv (.c (.int .i64 0)), none, []⟩]
def a80r4 : List AOper :=
  [⟨some (true, 18), .bin .lss (.g 17) (.g 16), none, []⟩]
def a80r5 : List AOper :=
  [⟨some (false, 19), .mv (.g 17), none, []⟩,
   ⟨some (false, 20), .indexAddr 4 (.g 15) (.g 17), none, []⟩,
   ⟨some (false, 21), .load 4 true (.l 20), none, []⟩,
   ⟨some (true, 8), .alloc [(.int .i64 0), (.int .i64 0), (.str ⟨#[]⟩), (.list 0 .full [])], none, []⟩,
   ⟨some (true, 7), .mv (.l 19), none, []⟩,
   ⟨none, .store 4 (.g 8) (.l 21), none, []⟩]
def a80r6 : List AOper :=
  [⟨some (false, 22), .mv (.g 1), none, []⟩,
   ⟨some (false, 23), .mv (.g 7), none, []⟩,
   ⟨some (false, 24), .indexAddr 4 (.l 22) (.l 23), none, []⟩,
   ⟨some (false, 25), .load 4 true (.l 24), none, []⟩,
   ⟨some (true, 9), .alloc [(.int .i64 0), (.int .i64 0), (.str ⟨#[]⟩), (.list 0 .full [])], none, []⟩,
   ⟨none, .store 4 (.g 9) (.l 25), none, []⟩]
def a80r7 : List AOper :=
  [⟨some (false, 26), .mv (.g 2), none, []⟩,
   ⟨some (false, 27), .load 4 true (.g 8), none, []⟩,
   ⟨some (false, 28), .load 4 true (.g 9), none, []⟩,
   ⟨some (false, 29), .call false (.l 26) [(.l 27), (.l 28)], none, []⟩,
   ⟨some (true, 30), .un .not (.l 29), none, []⟩]
def a80r8 : List AOper :=
  [⟨some (true, 6), .mv (.c (.bool false)), none, []⟩]
def a80r9 : List AOper :=
  [⟨some (false, 31), .bin .add (.g 17) (.c (.int .i64 1)), none, []⟩,
   ⟨some (true, 17), .mv (.l 31), none, []⟩]
def a80l10 : ACode :=
  (.seq (.reg false a80r4) (.seq (.cond (.g 18) .skip (.exit 0)) (.seq (.block 1 (.seq (.reg false a80r5) (.seq (.reg false a80r6) (.seq (.reg false a80r7) (.cond (.g 30) (.seq (.reg false a80r8) .ret) .skip))))) (.reg false a80r9))))
def a80r11 : List AOper :=
  [⟨some (true, 6), .mv (.c (.bool true)), none, []⟩]
def a80b : ACode :=
  (.seq (.reg false a80r0) (.seq (.seq (.reg false a80r1) (.cond (.g 14) (.seq (.reg false a80r2) .ret) .skip)) (.seq (.seq (.reg false a80r3) (.block 0 (.loop a80l10))) (.seq (.reg false a80r11) .ret))))
def a80 : AFun := ⟨3, 32, a80b, [.tmp (true, 6)]⟩
theorem c80 : compileFun Try.prog [0, 1, 2, 6, 7, 8, 9, 14, 15, 16, 17, 18, 30] Try.f80 = some a80 := by kernel_rfl

/- damask/damaskref05.compare -/
def a81r0 : List AOper :=
  [⟨some (true, 4), .mv (.c (.int .i64 0)), none, []⟩]
def a81r1 : List AOper :=
  [⟨some (false, 5), .mv (.g 0), none, []⟩,
   ⟨some (false, 6), .mv (.g 1), none, []⟩,
   ⟨some (true, 7), .bin .lss (.l 5) (.l 6), none, []⟩]
def a81r2 : List AOper :=
  [⟨some (true, 4), .mv (.c (.int .i64 (-1))), none, []⟩]
def a81r3 : List AOper :=
  [⟨some (false, 8), .mv (.g 0), none, []⟩,
   ⟨some (false, 9), .mv (.g 1), none, []⟩,
   ⟨some (true, 10), .bin .gtr (.l 8) (.l 9), none, []⟩]
def a81r4 : List AOper :=
  [⟨some (true, 4), .mv (.c (.int .i64 1)), none, []⟩]
def a81r5 : List AOper :=
  [⟨some (true, 4), .mv (.c (.int .i64 0)), none, []⟩]
def a81b : ACode :=
  (.seq (.reg false a81r0) (.seq (.seq (.reg false a81r1) (.cond (.g 7) (.seq (.reg false a81r2) .ret) .skip)) (.seq (.seq (.reg false a81r3) (.cond (.g 10) (.seq (.reg false a81r4) .ret) .skip)) (.seq (.reg false a81r5) .ret))))
def a81 : AFun := ⟨2, 11, a81b, [.tmp (true, 4)]⟩
theorem c81 : compileFun Try.prog [0, 1, 4, 7, 10] Try.f81 = some a81 := by kernel_rfl

/- damask/damaskref05.words -/
def a82r0 : List AOper :=
  [⟨some (true, 4), .mv (.c (.int .i64 0)), none, []⟩]
def a82r1 : List AOper :=
  [⟨some (false, 5), .mv (.g 0), none, []⟩,
   ⟨some (false, 6), .mv (.g 1), none, []⟩,
   ⟨some (true, 7), .bin .lss (.l 5) (.l 6), none, []⟩]
def a82r2 : List AOper :=
  [⟨some (true, 4), .mv (.c (.int .i64 (-1))), none, []⟩]
def a82r3 : List AOper :=
  [⟨some (false, 8), .mv (.g 0), none, []⟩,
   ⟨some (false, 9), .mv (.g 1), none, []⟩,
   ⟨some (true, 10), .bin .gtr (.l 8) (.l 9), none, []⟩]
def a82r4 : List AOper :=
  [⟨some (true, 4), .mv (.c (.int .i64 1)), none, []⟩]
def a82r5 : List AOper :=
  [⟨some (true, 4), .mv (.c (.int .i64 0)), none, []⟩]
def a82b : ACode :=
  (.seq (.reg false a82r0) (.seq (.seq (.reg false a82r1) (.cond (.g 7) (.seq (.reg false a82r2) .ret) .skip)) (.seq (.seq (.reg false a82r3) (.cond (.g 10) (.seq (.reg false a82r4) .ret) .skip)) (.seq (.reg false a82r5) .ret))))
def a82 : AFun := ⟨2, 11, a82b, [.tmp (true, 4)]⟩
theorem c82 : compileFun Try.prog [0, 1, 4, 7, 10] Try.f82 = some a82 := by kernel_rfl

/- damask/types.size -/
def a84r0 : List AOper :=
  [⟨some (true, 1), .box (.g 0), none, []⟩,
   ⟨some (true, 2), .mv (.c (.int .i64 0)), none, []⟩]
def a84r1 : List AOper :=
  [⟨some (true, 3), .mv (.c (.int .i64 1)), none, []⟩]
def a84r2 : List AOper :=
  [⟨some (false, 6), .fieldAddr 3 (.g 1), none, []⟩,
   ⟨some (true, 7), .load 1 false (.l 6), none, []⟩,
   ⟨some (true, 8), .len (.g 7), none, []⟩,
   ⟨some (true, 9), .mv (.c (.int .i64 0)), none, []⟩]
def a84r3 : List AOper :=
  [⟨some (true, 10), .bin .lss (.g 9) (.g 8), none, []⟩]
def a84r4 : List AOper :=
  [⟨some (false, 11), .indexAddr 4 (.g 7) (.g 9), none, []⟩,
   ⟨some (false, 12), .load 4 true (.l 11), none, []⟩,
   ⟨some (true, 5), .alloc [(.int .i64 0), (.int .i64 0), (.str ⟨#[]⟩), (.list 0 .full [])], none, []⟩,
   ⟨none, .store 4 (.g 5) (.l 12), none, []⟩]
def a84r5 : List AOper :=
  [⟨some (false, 13), .mv (.g 3), none, []⟩,
   ⟨some (false, 14), .load 4 true (.g 5), none, []⟩,
   ⟨some (false, 15), .call false (.c (.fn 84 [] [])) [(.l 14)], none, []⟩,
   ⟨some (false, 16), .bin .add (.l 13) (.l 15), none, []⟩,
   ⟨some (true, 3), .mv (.l 16), none, []⟩]
def a84r6 : List AOper :=
  [⟨some (false, 17), .bin .add (.g 9) (.c (.int .i64 1)), none, []⟩,
   ⟨some (true, 9), .mv (.l 17), none, []⟩]
def a84l7 : ACode :=
  (.seq (.reg false a84r3) (.seq (.cond (.g 10) .skip (.exit 0)) (.seq (.block 1 (.seq (.reg false a84r4) (.reg false a84r5))) (.reg false a84r6))))
def a84r8 : List AOper :=
  [⟨some (false, 18), .mv (.g 3), none, []⟩,
   ⟨some (true, 2), .mv (.l 18), none, []⟩]
def a84b : ACode :=
  (.seq (.reg false a84r0) (.seq (.reg false a84r1) (.seq (.seq (.reg false a84r2) (.block 0 (.loop a84l7))) (.seq (.reg false a84r8) .ret))))
def a84 : AFun := ⟨1, 19, a84b, [.tmp (true, 2)]⟩
theorem c84 : compileFun Try.prog [0, 1, 2, 3, 5, 7, 8, 9, 10] Try.f84 = some a84 := by kernel_rfl

/- cmp.Compare[int] -/
def a117r0 : List AOper :=
  [⟨some (true, 4), .mv (.c (.int .i64 0)), none, []⟩]
def a117r1 : List AOper :=
  [⟨some (false, 7), .mv (.g 0), none, []⟩,
   ⟨some (false, 8), .call false (.c (.fn 130 [] [])) [(.l 7)], none, []⟩,
   ⟨some (true, 5), .mv (.l 8), none, []⟩]
def a117r2 : List AOper :=
  [⟨some (false, 9), .mv (.g 1), none, []⟩,
   ⟨some (false, 10), .call false (.c (.fn 130 [] [])) [(.l 9)], none, []⟩,
   ⟨some (true, 6), .mv (.l 10), none, []⟩]
def a117r3 : List AOper :=
  [⟨some (true, 11), .mv (.g 5), none, []⟩]
def a117r4 : List AOper :=
  [⟨some (true, 12), .mv (.g 6), none, []⟩]
def a117r5 : List AOper :=
  [⟨some (true, 4), .mv (.c (.int .i64 0)), none, []⟩]
def a117r6 : List AOper :=
  [⟨some (true, 4), .mv (.c (.int .i64 (-1))), none, []⟩]
def a117r7 : List AOper :=
  [⟨some (true, 13), .mv (.g 6), none, []⟩]
def a117r8 : List AOper :=
  [⟨some (true, 4), .mv (.c (.int .i64 1)), none, []⟩]
def a117r9 : List AOper :=
  [⟨some (false, 14), .mv (.g 0), none, []⟩,
   ⟨some (false, 15), .mv (.g 1), none, []⟩,
   ⟨some (true, 16), .bin .lss (.l 14) (.l 15), none, []⟩]
def a117r10 : List AOper :=
  [⟨some (true, 4), .mv (.c (.int .i64 (-1))), none, []⟩]
def a117r11 : List AOper :=
  [⟨some (false, 17), .mv (.g 0), none, []⟩,
   ⟨some (false, 18), .mv (.g 1), none, []⟩,
   ⟨some (true, 19), .bin .gtr (.l 17) (.l 18), none, []⟩]
def a117r12 : List AOper :=
  [⟨some (true, 4), .mv (.c (.int .i64 1)), none, []⟩]
def a117r13 : List AOper :=
  [⟨some (true, 4), .mv (.c (.int .i64 0)), none, []⟩]
def a117b : ACode :=
  (.seq (.reg false a117r0) (.seq (.reg false a117r1) (.seq (.reg false a117r2) (.seq (.seq (.reg false a117r3) (.cond (.g 11) (.seq (.seq (.reg false a117r4) (.cond (.g 12) (.seq (.reg false a117r5) .ret) .skip)) (.seq (.reg false a117r6) .ret)) .skip)) (.seq (.seq (.reg false a117r7) (.cond (.g 13) (.seq (.reg false a117r8) .ret) .skip)) (.seq (.seq (.reg false a117r9) (.cond (.g 16) (.seq (.reg false a117r10) .ret) .skip)) (.seq (.seq (.reg false a117r11) (.cond (.g 19) (.seq (.reg false a117r12) .ret) .skip)) (.seq (.reg false a117r13) .ret))))))))
def a117 : AFun := ⟨2, 20, a117b, [.tmp (true, 4)]⟩
theorem c117 : compileFun Try.prog [0, 1, 4, 5, 6, 11, 12, 13, 16, 19] Try.f117 = some a117 := by kernel_rfl

/- damask/types.compare -/
def a118r0 : List AOper :=
  [⟨some (true, 2), .box (.g 0), none, []⟩,
   ⟨some (true, 3), .box (.g 1), none, []⟩,
   ⟨some (true, 4), .mv (.c (.int .i64 0)), none, []⟩]
def a118r1 : List AOper :=
  [⟨some (false, 6), .fieldAddr 0 (.g 2), none, []⟩,
   ⟨some (false, 7), .load 1 false (.l 6), none, []⟩,
   ⟨some (false, 8), .fieldAddr 0 (.g 3), none, []⟩,
   ⟨some (false, 9), .load 1 false (.l 8), none, []⟩,
   ⟨some (false, 10), .call true (.c (.fn 117 [] [])) [(.l 7), (.l 9)], none, []⟩,
   ⟨some (false, 11), .fieldAddr 1 (.g 2), none, []⟩,
   ⟨some (false, 12), .load 1 false (.l 11), none, []⟩,
   ⟨some (false, 13), .fieldAddr 1 (.g 3), none, []⟩,
   ⟨some (false, 14), .load 1 false (.l 13), none, []⟩,
   ⟨some (false, 15), .call true (.c (.fn 117 [] [])) [(.l 12), (.l 14)], none, []⟩,
   ⟨some (false, 16), .fieldAddr 2 (.g 2), none, []⟩,
   ⟨some (false, 17), .load 1 false (.l 16), none, []⟩,
   ⟨some (false, 18), .fieldAddr 2 (.g 3), none, []⟩,
   ⟨some (false, 19), .load 1 false (.l 18), none, []⟩,
   ⟨some (false, 20), .call true (.c (.fn 132 [] [])) [(.l 17), (.l 19)], none, []⟩,
   ⟨some (false, 21), .buildSlice 1 false [(.int .i64 0)] 3 [(0, (.l 10)), (1, (.l 15)), (2, (.l 20))], none, []⟩,
   ⟨some (false, 22), .call true (.c (.fn 131 [] [])) [(.l 21)], none, []⟩,
   ⟨some (true, 5), .mv (.l 22), none, []⟩]
def a118r2 : List AOper :=
  [⟨some (false, 23), .mv (.g 5), none, []⟩,
   ⟨some (true, 24), .bin .neq (.l 23) (.c (.int .i64 0)), none, []⟩]
def a118r3 : List AOper :=
  [⟨some (false, 25), .mv (.g 5), none, []⟩,
   ⟨some (true, 4), .mv (.l 25), none, []⟩]
def a118r4 : List AOper :=
  [⟨some (false, 26), .fieldAddr 3 (.g 2), none, []⟩,
   ⟨some (false, 27), .load 1 false (.l 26), none, []⟩,
   ⟨some (false, 28), .fieldAddr 3 (.g 3), none, []⟩,
   ⟨some (false, 29), .load 1 false (.l 28), none, []⟩,
   ⟨some (false, 30), .call false (.c (.fn 133 [] [])) [(.l 27), (.l 29), (.c (.fn 79 [] []))], none, []⟩,
   ⟨some (true, 4), .mv (.l 30), none, []⟩]
def a118b : ACode :=
  (.seq (.reg false a118r0) (.seq (.seq (.reg true a118r1) (.seq (.reg false a118r2) (.cond (.g 24) (.seq (.reg false a118r3) .ret) .skip))) (.seq (.reg false a118r4) .ret)))
def a118 : AFun := ⟨2, 31, a118b, [.tmp (true, 4)]⟩
theorem c118 : compileFun Try.prog [0, 1, 2, 3, 4, 5, 24] Try.f118 = some a118 := by kernel_rfl

/- cmp.isNaN[int] -/
def a130r0 : List AOper :=
  [⟨some (true, 2), .mv (.c (.bool false)), none, []⟩]
def a130r1 : List AOper :=
  [⟨some (false, 3), .mv (.g 0), none, []⟩,
   ⟨some (false, 4), .mv (.g 0), none, []⟩,
   ⟨some (false, 5), .bin .neq (.l 3) (.l 4), none, []⟩,
   ⟨some (true, 2), .mv (.l 5), none, []⟩]
def a130b : ACode :=
  (.seq (.reg false a130r0) (.seq (.reg false a130r1) .ret))
def a130 : AFun := ⟨1, 6, a130b, [.tmp (true, 2)]⟩
theorem c130 : compileFun Try.prog [0, 2] Try.f130 = some a130 := by kernel_rfl

/- cmp.Or[int] -/
def a131r0 : List AOper :=
  [⟨some (true, 2), .mv (.c (.int .i64 0)), none, []⟩]
def a131r1 : List AOper :=
  [⟨some (true, 3), .mv (.c (.int .i64 0)), none, []⟩]
def a131r2 : List AOper :=
  [⟨some (true, 6), .mv (.g 0), none, []⟩,
   ⟨some (true, 7), .len (.g 6), none, []⟩,
   ⟨some (true, 8), .mv (.c (.int .i64 0)), none, []⟩]
def a131r3 : List AOper :=
  [⟨some (true, 9), .bin .lss (.g 8) (.g 7), none, []⟩]
def a131r4 : List AOper :=
  [⟨some (false, 10), .indexAddr 1 (.g 6) (.g 8), none, []⟩,
   ⟨some (false, 11), .load 1 false (.l 10), none, []⟩,
   ⟨some (true, 5), .mv (.l 11), none, []⟩]
def a131r5 : List AOper :=
  [⟨some (false, 12), .mv (.g 5), none, []⟩,
   ⟨some (false, 13), .mv (.g 3), none, []⟩,
   ⟨some (true, 14), .bin .neq (.l 12) (.l 13), none, []⟩]
def a131r6 : List AOper :=
  [⟨some (false, 15), .mv (.g 5), none, []⟩,
   ⟨some (true, 2), .mv (.l 15), none, []⟩]
def a131r7 : List AOper :=
  [⟨some (false, 16), .bin .add (.g 8) (.c (.int .i64 1)), none, []⟩,
   ⟨some (true, 8), .mv (.l 16), none, []⟩]
def a131l8 : ACode :=
  (.seq (.reg false a131r3) (.seq (.cond (.g 9) .skip (.exit 0)) (.seq (.block 1 (.seq (.reg false a131r4) (.seq (.reg false a131r5) (.cond (.g 14) (.seq (.reg false a131r6) .ret) .skip)))) (.reg false a131r7))))
def a131r9 : List AOper :=
  [⟨some (false, 17), .mv (.g 3), none, []⟩,
   ⟨some (true, 2), .mv (.l 17), none, []⟩]
def a131b : ACode :=
  (.seq (.reg false a131r0) (.seq (.reg false a131r1) (.seq (.seq (.reg false a131r2) (.block 0 (.loop a131l8))) (.seq (.reg false a131r9) .ret))))
def a131 : AFun := ⟨1, 18, a131b, [.tmp (true, 2)]⟩
theorem c131 : compileFun Try.prog [0, 2, 3, 5, 6, 7, 8, 9, 14] Try.f131 = some a131 := by kernel_rfl

/- cmp.Compare[string] -/
def a132r0 : List AOper :=
  [⟨some (true, 4), .mv (.c (.int .i64 0)), none, []⟩]
def a132r1 : List AOper :=
  [⟨some (false, 7), .mv (.g 0), none, []⟩,
   ⟨some (false, 8), .call false (.c (.fn 137 [] [])) [(.l 7)], none, []⟩,
   ⟨some (true, 5), .mv (.l 8), none, []⟩]
def a132r2 : List AOper :=
  [⟨some (false, 9), .mv (.g 1), none, []⟩,
   ⟨some (false, 10), .call false (.c (.fn 137 [] [])) [(.l 9)], none, []⟩,
   ⟨some (true, 6), .mv (.l 10), none, []⟩]
def a132r3 : List AOper :=
  [⟨some (true, 11), .mv (.g 5), none, []⟩]
def a132r4 : List AOper :=
  [⟨some (true, 12), .mv (.g 6), none, []⟩]
def a132r5 : List AOper :=
  [⟨some (true, 4), .mv (.c (.int .i64 0)), none, []⟩]
def a132r6 : List AOper :=
  [⟨some (true, 4), .mv (.c (.int .i64 (-1))), none, []⟩]
def a132r7 : List AOper :=
  [⟨some (true, 13), .mv (.g 6), none, []⟩]
def a132r8 : List AOper :=
  [⟨some (true, 4), .mv (.c (.int .i64 1)), none, []⟩]
def a132r9 : List AOper :=
  [⟨some (false, 14), .mv (.g 0), none, []⟩,
   ⟨some (false, 15), .mv (.g 1), none, []⟩,
   ⟨some (true, 16), .bin .lss (.l 14) (.l 15), none, []⟩]
def a132r10 : List AOper :=
  [⟨some (true, 4), .mv (.c (.int .i64 (-1))), none, []⟩]
def a132r11 : List AOper :=
  [⟨some (false, 17), .mv (.g 0), none, []⟩,
   ⟨some (false, 18), .mv (.g 1), none, []⟩,
   ⟨some (true, 19), .bin .gtr (.l 17) (.l 18), none, []⟩]
def a132r12 : List AOper :=
  [⟨some (true, 4), .mv (.c (.int .i64 1)), none, []⟩]
def a132r13 : List AOper :=
  [⟨some (true, 4), .mv (.c (.int .i64 0)), none, []⟩]
def a132b : ACode :=
  (.seq (.reg false a132r0) (.seq (.reg false a132r1) (.seq (.reg false a132r2) (.seq (.seq (.reg false a132r3) (.cond (.g 11) (.seq (.seq (.reg false a132r4) (.cond (.g 12) (.seq (.reg false a132r5) .ret) .skip)) (.seq (.reg false a132r6) .ret)) .skip)) (.seq (.seq (.reg false a132r7) (.cond (.g 13) (.seq (.reg false a132r8) .ret) .skip)) (.seq (.seq (.reg false a132r9) (.cond (.g 16) (.seq (.reg false a132r10) .ret) .skip)) (.seq (.seq (.reg false a132r11) (.cond (.g 19) (.seq (.reg false a132r12) .ret) .skip)) (.seq (.reg false a132r13) .ret))))))))
def a132 : AFun := ⟨2, 20, a132b, [.tmp (true, 4)]⟩
theorem c132 : compileFun Try.prog [0, 1, 4, 5, 6, 11, 12, 13, 16, 19] Try.f132 = some a132 := by kernel_rfl

/- slices.CompareFunc[[]damask/api.Type,[]damask/api.Type,damask/api.Type,damask/api.Type] -/
def a133r0 : List AOper :=
  [⟨some (true, 6), .mv (.c (.int .i64 0)), none, []⟩]
def a133r1 : List AOper :=
  [⟨some (true, 11), .mv (.g 0), none, []⟩,
   ⟨some (true, 12), .len (.g 11), none, []⟩,
   ⟨some (true, 13), .mv (.c (.int .i64 0)), none, []⟩]
def a133r2 : List AOper :=
  [⟨some (true, 14), .bin .lss (.g 13) (.g 12), none, []⟩]
def a133r3 : List AOper :=
  [⟨some (false, 15), .mv (.g 13), none, []⟩,
   ⟨some (false, 16), .indexAddr 4 (.g 11) (.g 13), none, []⟩,
   ⟨some (false, 17), .load 4 true (.l 16), none, []⟩,
   ⟨some (true, 8), .alloc [(.int .i64 0), (.int .i64 0), (.str ⟨#[]⟩), (.list 0 .full [])], none, []⟩,
   ⟨some (true, 7), .mv (.l 15), none, []⟩,
   ⟨none, .store 4 (.g 8) (.l 17), none, []⟩]
def a133r4 : List AOper :=
  [⟨some (false, 18), .mv (.g 7), none, []⟩,
   ⟨some (false, 19), .mv (.g 1), none, []⟩,
   ⟨some (false, 20), .len (.l 19), none, []⟩,
   ⟨some (true, 21), .bin .geq (.l 18) (.l 20), none, []⟩]
def a133r5 : List AOper :=
  [⟨some (true, 6), .mv (.c (.int .i64 1)), none, []⟩]
def a133r6 : List AOper :=
  [⟨some (false, 22), .mv (.g 1), none, []⟩,
   ⟨some (false, 23), .mv (.g 7), none, []⟩,
   ⟨some (false, 24), .indexAddr 4 (.l 22) (.l 23), none, []⟩,
   ⟨some (false, 25), .load 4 true (.l 24), none, []⟩,
   ⟨some (true, 9), .alloc [(.int .i64 0), (.int .i64 0), (.str ⟨#[]⟩), (.list 0 .full [])], none, []⟩,
   ⟨none, .store 4 (.g 9) (.l 25), none, []⟩]
def a133r7 : List AOper :=
  [⟨some (false, 26), .mv (.g 2), none, []⟩,
   ⟨some (false, 27), .load 4 true (.g 8), none, []⟩,
   ⟨some (false, 28), .load 4 true (.g 9), none, []⟩,
   ⟨some (false, 29), .call false (.l 26) [(.l 27), (.l 28)], none, []⟩,
   ⟨some (true, 10), .mv (.l 29), none, []⟩]
def a133r8 : List AOper :=
  [⟨some (false, 30), .mv (.g 10), none, []⟩,
   ⟨some (true, 31), .bin .neq (.l 30) (.c (.int .i64 0)), none, []⟩]
def a133r9 : List AOper :=
  [⟨some (false, 32), .mv (.g 10), none, []⟩,
   ⟨some (true, 6), .mv (.l 32), none, []⟩]
def a133r10 : List AOper :=
  [⟨some (false, 33), .bin .add (.g 13) (.c (.int .i64 1)), none, []⟩,
   ⟨some (true, 13), .mv (.l 33), none, []⟩]
def a133l11 : ACode :=
  (.seq (.reg false a133r2) (.seq (.cond (.g 14) .skip (.exit 0)) (.seq (.block 1 (.seq (.reg false a133r3) (.seq (.seq (.reg false a133r4) (.cond (.g 21) (.seq (.reg false a133r5) .ret) .skip)) (.seq (.reg false a133r6) (.seq (.reg false a133r7) (.seq (.reg false a133r8) (.cond (.g 31) (.seq (.reg false a133r9) .ret) .skip))))))) (.reg false a133r10))))
def a133r12 : List AOper :=
  [⟨some (false, 34), .mv (.g 0), none, []⟩,
   ⟨some (false, 35), .len (.l 34), none, []⟩,
   ⟨some (false, 36), .mv (.g 1), none, []⟩,
   ⟨some (false, 37), .len (.l 36), none, []⟩,
   ⟨some (true, 38), .bin .lss (.l 35) (.l 37), none, []⟩]
def a133r13 : List AOper :=
  [⟨some (true, 6), .mv (.c (.int .i64 (-1))), none, []⟩]
def a133r14 : List AOper :=
  [⟨some (true, 6), .mv (.c (.int .i64 0)), none, []⟩]
def a133b : ACode :=
  (.seq (.reg false a133r0) (.seq (.seq (.reg false a133r1) (.block 0 (.loop a133l11))) (.seq (.seq (.reg false a133r12) (.cond (.g 38) (.seq (.reg false a133r13) .ret) .skip)) (.seq (.reg false a133r14) .ret))))
def a133 : AFun := ⟨3, 39, a133b, [.tmp (true, 6)]⟩
theorem c133 : compileFun Try.prog [0, 1, 2, 6, 7, 8, 9, 10, 11, 12, 13, 14, 21, 31, 38] Try.f133 = some a133 := by kernel_rfl

/- cmp.isNaN[string] -/
def a137r0 : List AOper :=
  [⟨some (true, 2), .mv (.c (.bool false)), none, []⟩]
def a137r1 : List AOper :=
  [⟨some (false, 3), .mv (.g 0), none, []⟩,
   ⟨some (false, 4), .mv (.g 0), none, []⟩,
   ⟨some (false, 5), .bin .neq (.l 3) (.l 4), none, []⟩,
   ⟨some (true, 2), .mv (.l 5), none, []⟩]
def a137b : ACode :=
  (.seq (.reg false a137r0) (.seq (.reg false a137r1) .ret))
def a137 : AFun := ⟨1, 6, a137b, [.tmp (true, 2)]⟩
theorem c137 : compileFun Try.prog [0, 2] Try.f137 = some a137 := by kernel_rfl

/- damask/damaskref05.Size -/
def a48r0 : List AOper :=
  [⟨some (true, 1), .box (.g 0), none, []⟩,
   ⟨some (true, 2), .mv (.c (.int .i64 0)), none, []⟩]
def a48r1 : List AOper :=
  [⟨some (true, 3), .mv (.c (.int .i64 1)), none, []⟩]
def a48r2 : List AOper :=
  [⟨some (false, 6), .fieldAddr 3 (.g 1), none, []⟩,
   ⟨some (true, 7), .load 1 false (.l 6), none, []⟩,
   ⟨some (true, 8), .len (.g 7), none, []⟩,
   ⟨some (true, 9), .mv (.c (.int .i64 0)), none, []⟩]
def a48r3 : List AOper :=
  [⟨some (true, 10), .bin .lss (.g 9) (.g 8), none, []⟩]
def a48r4 : List AOper :=
  [⟨some (false, 11), .indexAddr 4 (.g 7) (.g 9), none, []⟩,
   ⟨some (false, 12), .load 4 true (.l 11), none, []⟩,
   ⟨some (true, 5), .alloc [(.int .i64 0), (.int .i64 0), (.str ⟨#[]⟩), (.list 0 .full [])], none, []⟩,
   ⟨none, .store 4 (.g 5) (.l 12), none, []⟩]
def a48r5 : List AOper :=
  [⟨some (false, 13), .mv (.g 3), none, []⟩,
   ⟨some (false, 14), .load 4 true (.g 5), none, []⟩,
   ⟨some (false, 15), .call false (.c (.fn 48 [] [])) [(.l 14)], none, []⟩,
   ⟨some (false, 16), .bin .add (.l 13) (.l 15), none, []⟩,
   ⟨some (true, 3), .mv (.l 16), none, []⟩]
def a48r6 : List AOper :=
  [⟨some (false, 17), .bin .add (.g 9) (.c (.int .i64 1)), none, []⟩,
   ⟨some (true, 9), .mv (.l 17), none, []⟩]
def a48l7 : ACode :=
  (.seq (.reg false a48r3) (.seq (.cond (.g 10) .skip (.exit 0)) (.seq (.block 1 (.seq (.reg false a48r4) (.reg false a48r5))) (.reg false a48r6))))
def a48r8 : List AOper :=
  [⟨some (false, 18), .mv (.g 3), none, []⟩,
   ⟨some (true, 2), .mv (.l 18), none, []⟩]
def a48b : ACode :=
  (.seq (.reg false a48r0) (.seq (.reg false a48r1) (.seq (.seq (.reg false a48r2) (.block 0 (.loop a48l7))) (.seq (.reg false a48r8) .ret))))
def a48 : AFun := ⟨1, 19, a48b, [.tmp (true, 2)]⟩
theorem c48 : compileFun Try.prog [0, 1, 2, 3, 5, 7, 8, 9, 10] Try.f48 = some a48 := by kernel_rfl

/- damask/damasklaw05.TypesOrders -/
def a9r0 : List AOper :=
  [⟨some (true, 2), .box (.g 0), none, []⟩,
   ⟨some (true, 3), .box (.g 1), none, []⟩,
   ⟨some (true, 4), .mv (.c (.bool false)), none, []⟩]
def a9r1 : List AOper :=
  [⟨some (false, 11), .load 4 true (.g 2), none, []⟩,
   ⟨some (false, 12), .load 4 true (.g 3), none, []⟩,
   ⟨some (false, 13), .call false (.c (.fn 36 [] [])) [(.l 11), (.l 12)], none, []⟩,
   ⟨some (false, 10), .mv (.l 13), none, []⟩,
   ⟨some (false, 14), .extract (.l 10) 0, none, []⟩,
   ⟨some (false, 15), .extract (.l 10) 1, none, []⟩,
   ⟨some (true, 5), .mv (.l 14), none, []⟩,
   ⟨some (true, 6), .mv (.l 15), none, []⟩]
def a9r2 : List AOper :=
  [⟨some (false, 17), .load 4 true (.g 3), none, []⟩,
   ⟨some (false, 18), .load 4 true (.g 2), none, []⟩,
   ⟨some (false, 19), .call false (.c (.fn 36 [] [])) [(.l 17), (.l 18)], none, []⟩,
   ⟨some (false, 16), .mv (.l 19), none, []⟩,
   ⟨some (false, 20), .extract (.l 16) 0, none, []⟩,
   ⟨some (false, 21), .extract (.l 16) 1, none, []⟩,
   ⟨some (true, 7), .mv (.l 20), none, []⟩,
   ⟨some (true, 8), .mv (.l 21), none, []⟩]
def a9r3 : List AOper :=
  [⟨some (false, 22), .load 4 true (.g 2), none, []⟩,
   ⟨some (false, 23), .load 4 true (.g 3), none, []⟩,
   ⟨some (false, 24), .call false (.c (.fn 37 [] [])) [(.l 22), (.l 23)], none, []⟩,
   ⟨some (true, 9), .mv (.l 24), none, []⟩]
def a9r4 : List AOper :=
  [⟨some (false, 25), .mv (.g 9), none, []⟩,
   ⟨some (false, 26), .load 4 true (.g 2), none, []⟩,
   ⟨some (false, 27), .load 4 true (.g 3), none, []⟩,
   ⟨some (false, 28), .call false (.c (.fn 31 [] [])) [(.l 26), (.l 27)], none, []⟩,
   ⟨some (false, 29), .eqb true (.l 25) (.l 28), none, []⟩,
   ⟨some (false, 30), .mv (.l 29), none, []⟩,
   ⟨some (false, 31), .load 4 true (.g 3), some (false, 30, false), []⟩,
   ⟨some (false, 32), .load 4 true (.g 2), some (false, 30, false), []⟩,
   ⟨some (false, 33), .call false (.c (.fn 37 [] [])) [(.l 31), (.l 32)], some (false, 30, false), []⟩,
   ⟨some (false, 34), .mv (.g 9), some (false, 30, false), []⟩,
   ⟨some (false, 35), .eqb true (.l 33) (.l 34), some (false, 30, false), []⟩,
   ⟨some (false, 36), .pick (.l 30) (.c (.bool true)) (.l 35), none, []⟩,
   ⟨some (false, 37), .mv (.l 36), none, []⟩,
   ⟨some (false, 38), .load 4 true (.g 2), some (false, 37, false), []⟩,
   ⟨some (false, 39), .load 4 true (.g 2), some (false, 37, false), []⟩,
   ⟨some (false, 40), .call false (.c (.fn 37 [] [])) [(.l 38), (.l 39)], some (false, 37, false), []⟩,
   ⟨some (false, 41), .un .not (.l 40), some (false, 37, false), []⟩,
   ⟨some (true, 42), .pick (.l 37) (.c (.bool true)) (.l 41), none, []⟩]
def a9r5 : List AOper :=
  [⟨some (true, 4), .mv (.c (.bool false)), none, []⟩]
def a9r6 : List AOper :=
  [⟨some (false, 43), .load 4 true (.g 2), none, []⟩,
   ⟨some (false, 44), .call false (.c (.fn 13 [] [])) [(.l 43)], none, []⟩,
   ⟨some (false, 45), .un .not (.l 44), none, []⟩,
   ⟨some (false, 46), .mv (.l 45), none, []⟩,
   ⟨some (false, 47), .load 4 true (.g 3), some (false, 46, false), []⟩,
   ⟨some (false, 48), .call false (.c (.fn 13 [] [])) [(.l 47)], some (false, 46, false), []⟩,
   ⟨some (false, 49), .un .not (.l 48), some (false, 46, false), []⟩,
   ⟨some (true, 50), .pick (.l 46) (.c (.bool true)) (.l 49), none, []⟩]
def a9r7 : List AOper :=
  [⟨some (false, 51), .mv (.g 5), none, []⟩,
   ⟨some (false, 52), .bin .eql (.l 51) (.c (.int .i64 0)), none, []⟩,
   ⟨some (false, 53), .mv (.l 52), none, []⟩,
   ⟨some (false, 54), .mv (.g 7), some (false, 53, true), []⟩,
   ⟨some (false, 55), .bin .eql (.l 54) (.c (.int .i64 0)), some (false, 53, true), []⟩,
   ⟨some (false, 56), .pick (.l 53) (.l 55) (.c (.bool false)), none, []⟩,
   ⟨some (false, 57), .mv (.l 56), none, []⟩,
   ⟨some (false, 58), .mv (.g 6), some (false, 57, true), []⟩,
   ⟨some (false, 59), .bin .eql (.l 58) (.c (.int .i64 2)), some (false, 57, true), []⟩,
   ⟨some (false, 60), .pick (.l 57) (.l 59) (.c (.bool false)), none, []⟩,
   ⟨some (false, 61), .mv (.l 60), none, []⟩,
   ⟨some (false, 62), .mv (.g 8), some (false, 61, true), []⟩,
   ⟨some (false, 63), .bin .eql (.l 62) (.c (.int .i64 2)), some (false, 61, true), []⟩,
   ⟨some (false, 64), .pick (.l 61) (.l 63) (.c (.bool false)), none, []⟩,
   ⟨some (false, 65), .mv (.l 64), none, []⟩,
   ⟨some (false, 66), .call false (.c (.fn 16 [] [])) [], some (false, 65, true), []⟩,
   ⟨some (false, 67), .pick (.l 65) (.l 66) (.c (.bool false)), none, []⟩,
   ⟨some (true, 4), .mv (.l 67), none, []⟩]
def a9r8 : List AOper :=
  [⟨some (false, 68), .mv (.g 6), none, []⟩,
   ⟨some (false, 69), .bin .eql (.l 68) (.c (.int .i64 0)), none, []⟩,
   ⟨some (false, 70), .mv (.l 69), none, []⟩,
   ⟨some (false, 71), .mv (.g 8), some (false, 70, true), []⟩,
   ⟨some (false, 72), .bin .eql (.l 71) (.c (.int .i64 0)), some (false, 70, true), []⟩,
   ⟨some (false, 73), .pick (.l 70) (.l 72) (.c (.bool false)), none, []⟩,
   ⟨some (false, 74), .mv (.l 73), none, []⟩,
   ⟨some (false, 75), .mv (.g 5), some (false, 74, true), []⟩,
   ⟨some (false, 76), .load 4 true (.g 2), some (false, 74, true), []⟩,
   ⟨some (false, 77), .load 4 true (.g 3), some (false, 74, true), []⟩,
   ⟨some (false, 78), .call false (.c (.fn 38 [] [])) [(.l 76), (.l 77)], some (false, 74, true), []⟩,
   ⟨some (false, 79), .bin .eql (.l 75) (.l 78), some (false, 74, true), []⟩,
   ⟨some (false, 80), .pick (.l 74) (.l 79) (.c (.bool false)), none, []⟩,
   ⟨some (false, 81), .mv (.l 80), none, []⟩,
   ⟨some (false, 82), .mv (.g 7), some (false, 81, true), []⟩,
   ⟨some (false, 83), .mv (.g 5), some (false, 81, true), []⟩,
   ⟨some (false, 84), .un .neg (.l 83), some (false, 81, true), []⟩,
   ⟨some (false, 85), .bin .eql (.l 82) (.l 84), some (false, 81, true), []⟩,
   ⟨some (false, 86), .pick (.l 81) (.l 85) (.c (.bool false)), none, []⟩,
   ⟨some (false, 87), .mv (.l 86), none, []⟩,
   ⟨some (false, 88), .mv (.g 5), some (false, 87, true), []⟩,
   ⟨some (false, 89), .bin .eql (.l 88) (.c (.int .i64 0)), some (false, 87, true), []⟩,
   ⟨some (false, 90), .mv (.g 9), some (false, 87, true), []⟩,
   ⟨some (false, 91), .eqb false (.l 89) (.l 90), some (false, 87, true), []⟩,
   ⟨some (false, 92), .pick (.l 87) (.l 91) (.c (.bool false)), none, []⟩,
   ⟨some (false, 93), .mv (.l 92), none, []⟩,
   ⟨some (false, 94), .call false (.c (.fn 16 [] [])) [], some (false, 93, true), []⟩,
   ⟨some (false, 95), .pick (.l 93) (.l 94) (.c (.bool false)), none, []⟩,
   ⟨some (true, 4), .mv (.l 95), none, []⟩]
def a9b : ACode :=
  (.seq (.reg false a9r0) (.seq (.reg false a9r1) (.seq (.reg false a9r2) (.seq (.reg false a9r3) (.seq (.seq (.reg false a9r4) (.cond (.g 42) (.seq (.reg false a9r5) .ret) .skip)) (.seq (.seq (.reg false a9r6) (.cond (.g 50) (.seq (.reg false a9r7) .ret) .skip)) (.seq (.reg false a9r8) .ret)))))))
def a9 : AFun := ⟨2, 96, a9b, [.tmp (true, 4)]⟩
theorem c9 : compileFun Try.prog [0, 1, 2, 3, 4, 5, 6, 7, 8, 9, 42, 50] Try.f9 = some a9 := by kernel_rfl

end Go.AL.Ty
