/- TypesPuts: the plain law, the walk. -/
import Derived.Test.YtkegioliclbbhaaE13
set_option linter.unusedVariables false
set_option linter.unusedSimpArgs false
namespace Go.AL.Ty
open Go Go.Proofs

theorem sames_refl : ∀ (l : List Ty), (∀ x ∈ l, same x x = true) → sames l l = true
  | [], _ => by simp [sames]
  | t :: ts, h => by simp [sames, h t (by simp), sames_refl ts fun x hx => h x (by simp [hx])]
theorem same_refl (t : Ty) : same t t = true := by
  induction t using Ty.ind with
  | h t ih =>
    cases t
    rw [args_mk] at ih
    simp [same, sames_refl _ ih]
theorem lims_of : ∀ (l : List Ty), (∀ x ∈ l, lim x) → lims l
  | [], _ => by simp [lims]
  | t :: ts, h => by
    simp only [lims]
    exact ⟨h t (by simp), lims_of ts fun x hx => h x (by simp [hx])⟩
theorem wide_lim (t : Ty) : wide t → lim t := by
  induction t using Ty.ind with
  | h t ih =>
    intro h
    have h1 := wide_len h
    have h2 : ∀ x ∈ t.args, lim x := fun x hx => ih x hx (wide_mem h hx)
    cases t
    simp only [lim, args_mk] at *
    exact ⟨by omega, lims_of _ h2⟩
theorem proper_lim {t : Ty} (h : proper t = true) : lim t := wide_lim t (proper_fit h).1
theorem nul_lim : lim nul := by simp [lim, lims, nul]

theorem maps_congr (f g : Ty → Int → Option Ty) (op : Int) : ∀ (l : List Ty) (i : Nat) (b : Int), 0 ≤ b → (∀ x ∈ l, ∀ b, 0 ≤ b → map f x b = map g x b) → maps f op l i b = maps g op l i b
  | [], _, _, _, _ => by simp [maps]
  | t :: ts, i, b, hb, h => by
    have := belw_bound op i
    simp only [maps]
    rw [h t (by simp) _ (by omega), maps_congr f g op ts (i + 1) b hb fun x hx => h x (by simp [hx])]
theorem maps_shfs (f : Ty → Int → Option Ty) (by_ from_ op : Int) : ∀ (l : List Ty) (i : Nat) (b : Int), (∀ x ∈ l, ∀ b, map f x b = (shf by_ from_ x b).1) → maps f op l i b = (shfs by_ from_ op l i b).1
  | [], _, _, _ => by simp [maps, shfs]
  | t :: ts, i, b, h => by
    simp only [maps, shfs]
    rw [h t (by simp), maps_shfs f by_ from_ op ts (i + 1) b fun x hx => h x (by simp [hx])]
theorem Gd.var {t : Ty} (h : Gd t) (ho : t.op = 1) : t = Ty.var t.n := by
  obtain ⟨⟨h1, h2, h3, h4, h5, h6, h7⟩, h8⟩ := h.spec
  cases t with
  | mk op n s args =>
    simp only [op_mk, n_mk, s_mk, args_mk] at *
    subst ho
    have e1 : args = [] := List.length_eq_zero_iff.1 (by simpa [kids] using h1)
    have e2 : s = ⟨#[]⟩ := Decidable.byContradiction fun hn => by simpa using h7.2 hn
    rw [e1, e2]; rfl
theorem map_mv (by_ from_ : Int) (t : Ty) : Gd t → ∀ b, map (mv by_ from_) t b = (shf by_ from_ t b).1 := by
  induction t using Ty.ind with
  | h t ih =>
    intro hg b
    rw [map_eq, shf_eq]
    by_cases ho : t.op = 1
    · by_cases hn : t.n < b + from_
      · have e : mv by_ from_ t b = some t := by simp [mv, ho, hn]
        rw [e, if_neg (by omega)]
        have := hg.var ho
        generalize t.n = k at *
        subst this
        simp [Ty.var, shfs]
      · have e : mv by_ from_ t b = some (mk 1 (t.n + by_) ⟨#[]⟩ []) := by simp [mv, ho, hn]
        rw [e, if_pos ⟨ho, by omega⟩]
        have := hg.var ho
        generalize t.n = k at *
        subst this
        simp [Ty.var]
    · have e : mv by_ from_ t b = none := by simp [mv, ho]
      rw [e, if_neg (by simp [ho])]
      simp only
      rw [maps_shfs _ by_ from_ t.op t.args 0 b fun x hx b => ih x hx (hg.spec.2 x hx) b]
theorem map_put (l : List Ty) (hl : ∀ x ∈ l, Gd x) (t : Ty) : Gd t → ∀ b, 0 ≤ b → map (pt l) t b = map (pr l) t b := by
  induction t using Ty.ind with
  | h t ih =>
    intro hg b hb
    have e : pt l t b = pr l t b := by
      unfold pt pr
      by_cases ho : t.op = 1
      · simp only [ho, ne_eq, not_true, if_false]
        by_cases h1 : t.n < b
        · rw [if_pos (by omega), if_pos h1]
        · rw [if_neg (by omega), if_neg h1]
          by_cases h2 : t.n - b < l.length
          · rw [if_pos h2, if_pos h2]
            cases hx : l[l.length - 1 - (t.n - b).toNat]? with
            | none => rfl
            | some x => simp only [Option.map_some, moved, map_mv b 0 x (hl x (List.mem_of_getElem? hx)) 0]
          · rw [if_neg h2, if_neg h2]; rfl
      · simp [ho]
    rw [map_eq, map_eq, e]
    rw [maps_congr (pt l) (pr l) t.op t.args 0 b hb fun x hx b hb => ih x hx (hg.spec.2 x hx) b hb]
theorem putted_put {t : Ty} {l : List Ty} (ht : proper t = true) (hl : ∀ x ∈ l, proper x = true) : putted t l = put t l := map_put l (fun x hx => .of (hl x hx)) t (.of ht) 0 (by omega)

theorem p3 (t : Ty) (l : List Ty) (hlen : l.length * 56 ≤ 140737488355328) : PureC Try.prog 3 [t.av, .list 4 .none (l.map av)] (.bool true) := by
  refine PureC.intro fun s => fun_sound mixed Try.func3 Try.call3 c3 rfl (awpFun_go _ _ _ _ ?_)
  simp (implicitDefEqProofs := false) (maxSteps := 2000000) (disch := (first | omega | (simp only [St.new_nx, St.set_nx, St.del_nx, St.bump_nx]; done) | (simp only [St.new_nx, St.set_nx, St.del_nx, St.bump_nx]; omega) | fail)) [a3, a3b, a3r0, a3r1]
  by_cases hp : (proper t && propers l) = true
  · have h12 := p12 t l
    rw [if_pos hp] at h12
    simp only [Bool.and_eq_true] at hp
    obtain ⟨hp1, hp2⟩ := hp
    have hall : l.length ≤ 600 ∧ ∀ x ∈ l, proper x = true := by simpa [propers] using hp2
    obtain ⟨u, e, hu, hfin, hw⟩ : ∃ u e, lim u ∧ fin (putted t l) = .tup [u.av, .int .i64 e] ∧ whol u e (put t l) = true := by
      rw [putted_put hp1 hall.2, fin]
      by_cases hq : proper (put t l) = true
      · exact ⟨put t l, 0, proper_lim hq, by rw [if_pos hq], by rw [whol, if_pos hq]; simp [same_refl]⟩
      · exact ⟨nul, 5, nul_lim, by rw [if_neg hq]; rfl, by rw [whol, if_neg hq]; simp [same_refl]⟩
    rw [hfin] at h12
    refine pcV_intro (PureC.argw h12 (by simp)) ?_
    simp (implicitDefEqProofs := false) (maxSteps := 2000000) (disch := (first | omega | (simp only [St.new_nx, St.set_nx, St.del_nx, St.bump_nx]; done) | (simp only [St.new_nx, St.set_nx, St.del_nx, St.bump_nx]; omega) | fail)) [a3r2]
    intro m0 hm0
    refine go_pure (p13 t) fun m hm => ?_
    simp only [St.new_nx, St.bump_nx, St.set_nx] at hm
    simp (implicitDefEqProofs := false) (maxSteps := 2000000) (disch := (first | omega | (simp only [St.new_nx, St.set_nx, St.del_nx, St.bump_nx]; done) | (simp only [St.new_nx, St.set_nx, St.del_nx, St.bump_nx]; omega) | fail)) [hp1]
    refine go_pure (p14 l) fun m2 hm2 => ?_
    simp only [St.new_nx, St.bump_nx, St.set_nx] at hm2
    simp (implicitDefEqProofs := false) (maxSteps := 2000000) (disch := (first | omega | (simp only [St.new_nx, St.set_nx, St.del_nx, St.bump_nx]; done) | (simp only [St.new_nx, St.set_nx, St.del_nx, St.bump_nx]; omega) | fail)) [hp2, a3r4]
    refine pcV_intro (p18 t l (by omega) (fun x hx => proper_fit (hall.2 x hx)) (proper_fit hp1)) ?_
    simp (implicitDefEqProofs := false) (maxSteps := 2000000) (disch := (first | omega | (simp only [St.new_nx, St.set_nx, St.del_nx, St.bump_nx]; done) | (simp only [St.new_nx, St.set_nx, St.del_nx, St.bump_nx]; omega) | fail))
    refine pcV_intro (p17 u e _ hu) ?_
    rw [hw]
    simp (implicitDefEqProofs := false) (maxSteps := 2000000) (disch := (first | omega | (simp only [St.new_nx, St.set_nx, St.del_nx, St.bump_nx]; done) | (simp only [St.new_nx, St.set_nx, St.del_nx, St.bump_nx]; omega) | fail))
    refine pcV_intro p16 ?_
    simp (implicitDefEqProofs := false) (maxSteps := 2000000) (disch := (first | omega | (simp only [St.new_nx, St.set_nx, St.del_nx, St.bump_nx]; done) | (simp only [St.new_nx, St.set_nx, St.del_nx, St.bump_nx]; omega) | fail))
  · have h12 := p12 t l
    rw [if_neg hp] at h12
    have h15 := p15 nul nul_lim
    rw [same_refl] at h15
    refine pcV_intro (PureC.argw h12 (by simp)) ?_
    simp (implicitDefEqProofs := false) (maxSteps := 2000000) (disch := (first | omega | (simp only [St.new_nx, St.set_nx, St.del_nx, St.bump_nx]; done) | (simp only [St.new_nx, St.set_nx, St.del_nx, St.bump_nx]; omega) | fail)) [a3r2]
    intro m0 hm0
    refine go_pure (p13 t) fun m hm => ?_
    simp only [St.new_nx, St.bump_nx, St.set_nx] at hm
    simp (implicitDefEqProofs := false) (maxSteps := 2000000) (disch := (first | omega | (simp only [St.new_nx, St.set_nx, St.del_nx, St.bump_nx]; done) | (simp only [St.new_nx, St.set_nx, St.del_nx, St.bump_nx]; omega) | fail))
    refine ⟨fun h1 => ?_, fun h1 => ?_⟩
    rotate_left
    · try rw [h1]
      simp (implicitDefEqProofs := false) (maxSteps := 2000000) (disch := (first | omega | (simp only [St.new_nx, St.set_nx, St.del_nx, St.bump_nx]; done) | (simp only [St.new_nx, St.set_nx, St.del_nx, St.bump_nx]; omega) | fail)) [a3r3]
      refine go_pure h15 fun m3 hm3 => ?_
      simp only [St.new_nx, St.bump_nx, St.set_nx] at hm3
      simp (implicitDefEqProofs := false) (maxSteps := 2000000) (disch := (first | omega | (simp only [St.new_nx, St.set_nx, St.del_nx, St.bump_nx]; done) | (simp only [St.new_nx, St.set_nx, St.del_nx, St.bump_nx]; omega) | fail))
      refine go_pure p16 fun m4 hm4 => ?_
      simp only [St.new_nx, St.bump_nx, St.set_nx] at hm4
      simp (implicitDefEqProofs := false) (maxSteps := 2000000) (disch := (first | omega | (simp only [St.new_nx, St.set_nx, St.del_nx, St.bump_nx]; done) | (simp only [St.new_nx, St.set_nx, St.del_nx, St.bump_nx]; omega) | fail))
    · try rw [h1]
      refine go_pure (p14 l) fun m2 hm2 => ?_
      simp only [St.new_nx, St.bump_nx, St.set_nx] at hm2
      have h2 : propers l = false := by simpa [h1] using hp
      rw [h2]
      simp (implicitDefEqProofs := false) (maxSteps := 2000000) (disch := (first | omega | (simp only [St.new_nx, St.set_nx, St.del_nx, St.bump_nx]; done) | (simp only [St.new_nx, St.set_nx, St.del_nx, St.bump_nx]; omega) | fail)) [a3r3]
      refine go_pure h15 fun m3 hm3 => ?_
      simp only [St.new_nx, St.bump_nx, St.set_nx] at hm3
      simp (implicitDefEqProofs := false) (maxSteps := 2000000) (disch := (first | omega | (simp only [St.new_nx, St.set_nx, St.del_nx, St.bump_nx]; done) | (simp only [St.new_nx, St.set_nx, St.del_nx, St.bump_nx]; omega) | fail))
      refine go_pure p16 fun m4 hm4 => ?_
      simp only [St.new_nx, St.bump_nx, St.set_nx] at hm4
      simp (implicitDefEqProofs := false) (maxSteps := 2000000) (disch := (first | omega | (simp only [St.new_nx, St.set_nx, St.del_nx, St.bump_nx]; done) | (simp only [St.new_nx, St.set_nx, St.del_nx, St.bump_nx]; omega) | fail))
end Go.AL.Ty
