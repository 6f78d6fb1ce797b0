/- TypesBinds. -/
import Derived.Test.YtkegioliclbbhaaE19
import Derived.Test.YtkegioliclbbhaaE30
set_option linter.unusedVariables false
set_option linter.unusedSimpArgs false
namespace Go.AL.Ty
open Go Go.Proofs

def bind (t : Ty) (op : Int) (l : List Int) : Ty := bn op l t 0
theorem p24 (t : Ty) (op : Int) (l : List Int) (hl : l.length ≤ 1000000) (ht : Fit t 0) : PureC Try.prog 24 [t.av, .int .i64 op, .list 1 .none (il l)] (bind t op l).av := by
  refine PureC.intro fun s => fun_sound mixed Try.func24 Try.call24 c24 rfl (awpFun_go _ _ _ _ ?_)
  simp (implicitDefEqProofs := false) (maxSteps := 2000000) (disch := (first | omega | (simp only [St.new_nx, St.set_nx, St.del_nx, St.bump_nx]; done) | (simp only [St.new_nx, St.set_nx, St.del_nx, St.bump_nx]; omega) | fail)) [a24, a24b, a24r0, a24r1]
  refine go_pure (p67 op l hl t 0 ht) fun mm1 hm1 => ?_
  try simp only [St.new_nx, St.bump_nx, St.set_nx, St.del_nx] at hm1
  simp (implicitDefEqProofs := false) (maxSteps := 2000000) (disch := (first | omega | (simp only [St.new_nx, St.set_nx, St.del_nx, St.bump_nx]; done) | (simp only [St.new_nx, St.set_nx, St.del_nx, St.bump_nx]; omega) | fail)) [bind]

theorem maps_bns (op : Int) (l : List Int) (o : Int) : ∀ (ts : List Ty) (i : Nat) (b : Int), 0 ≤ b → (∀ x ∈ ts, ∀ b, 0 ≤ b → map (bnd op l) x b = bn op l x b) → maps (bnd op l) o ts i b = bns op l o ts i b
  | [], _, _, _, _ => by simp [maps, bns]
  | t :: ts, i, b, hb, h => by
    have := belw_bound o i
    simp only [maps, bns]
    rw [h t (by simp) _ (by omega), maps_bns op l o ts (i + 1) b hb fun x hx => h x (by simp [hx])]
theorem map_bn (op : Int) (l : List Int) (t : Ty) : Gd t → ∀ b, 0 ≤ b → map (bnd op l) t b = bn op l t b := by
  induction t using Ty.ind with
  | h t ih =>
    intro hg b hb
    rw [map_eq, bn_eq]
    by_cases hA : t.op = op ∧ t.n ∈ l
    · rw [bnd, if_pos hA, if_pos hA]
    · rw [if_neg hA]
      by_cases ho : t.op = 1
      · have hv := hg.var ho
        have e1 : t.s = ⟨#[]⟩ := by rw [hv]; rfl
        have e2 : t.args = [] := by rw [hv]; rfl
        by_cases hn : b ≤ t.n
        · have e : bnd op l t b = some (var (t.n + l.length)) := by rw [bnd, if_neg hA, if_pos ⟨ho, hn⟩]
          rw [e, if_pos ⟨ho, hn⟩, ho, e1, e2]
          rfl
        · have e : bnd op l t b = some t := by rw [bnd, if_neg hA, if_neg (by omega), if_pos ho]
          rw [e, if_neg (by omega), e2, bns]
          simp only
          rw [← e2, eta]
      · have e : bnd op l t b = none := by rw [bnd, if_neg hA, if_neg (by simp [ho]), if_neg ho]
        rw [e, if_neg (by simp [ho])]
        simp only
        rw [maps_bns op l t.op t.args 0 b hb fun x hx b hb => ih x hx (hg.spec.2 x hx) b hb]
theorem bound_bind {t : Ty} (op : Int) (l : List Int) (h : proper t = true) : bound t op l = bind t op l := map_bn op l t (.of h) 0 (by omega)

theorem p5 (t : Ty) (op : Int) (l0 : List Int) (hlen : l0.length * 8 ≤ 140737488355328) : PureC Try.prog 5 [t.av, .int .i64 op, .list 1 .none (il l0)] (.bool true) := by
  refine PureC.intro fun s => fun_sound mixed Try.func5 Try.call5 c5 rfl (awpFun_go _ _ _ _ ?_)
  simp (implicitDefEqProofs := false) (maxSteps := 2000000) (disch := (first | omega | (simp only [St.new_nx, St.set_nx, St.del_nx, St.bump_nx]; done) | (simp only [St.new_nx, St.set_nx, St.del_nx, St.bump_nx]; omega) | fail)) [a5, a5b, a5r0, a5r1]
  have e : List.take (if (601 : Int) < l0.length then (601 : Int) else l0.length).toNat (il l0) = il (l0.take 601) := by
    rw [il_take]
    split
    · rfl
    · congr 1
      rw [List.take_of_length_le (by omega), List.take_of_length_le (by omega)]
  have hl : (l0.take 601).length ≤ 601 := by rw [List.length_take]; omega
  rw [e]
  clear e
  generalize l0.take 601 = l at hl
  have h22 := p22 t op l
  have h23 := p23 l (by omega)
  simp (implicitDefEqProofs := false) (maxSteps := 2000000) (disch := (first | omega | (simp only [St.new_nx, St.set_nx, St.del_nx, St.bump_nx]; done) | (simp only [St.new_nx, St.set_nx, St.del_nx, St.bump_nx]; omega) | fail)) [a5r2]
  by_cases hc : proper t = true ∧ l.length ≤ 600 ∧ (op = 7 ∨ op = 6) ∧ chk [] l = true
  · rw [bindR, if_pos hc] at h22
    obtain ⟨hp, h1, h2, h3⟩ := hc
    obtain ⟨u, e, hu, hfin, hw⟩ := fin_whol (bound t op l)
    rw [hfin] at h22
    rw [bound_bind op l hp] at hw
    have h2' : ¬ (¬ op = 6 ∧ ¬ op = 7) := by omega
    have h17 := p17 u e (bind t op l) hu
    rw [hw] at h17
    refine pcV_intro (PureC.argw h22 (by simp [il])) ?_
    simp (implicitDefEqProofs := false) (maxSteps := 2000000) (disch := (first | omega | (simp only [St.new_nx, St.set_nx, St.del_nx, St.bump_nx]; done) | (simp only [St.new_nx, St.set_nx, St.del_nx, St.bump_nx]; omega) | fail)) [a5r3]
    intro m0 hm0
    refine go_pure (p13 t) fun mm2 hm2 => ?_
    try simp only [St.new_nx, St.bump_nx, St.set_nx, St.del_nx] at hm2
    rw [hp]
    rw [h3] at h23
    simp only [h1, decide_true, Bool.and_self] at h23
    have fin2 : ∀ (op' : Int), op = op' → (op' = 7 ∨ op' = 6) → PureC Try.prog 24 [t.av, .int .i64 op', .list 1 .none (il l)] (bind t op l).av := by
      rintro op' rfl _
      exact p24 t op l (by omega) (proper_fit hp)
    rcases h2 with h2 | h2
    · have h24 := fin2 7 h2 (.inl rfl)
      generalize bind t op l = B at *
      subst h2
      simp (implicitDefEqProofs := false) (maxSteps := 2000000) (disch := (first | omega | (simp only [St.new_nx, St.set_nx, St.del_nx, St.bump_nx]; done) | (simp only [St.new_nx, St.set_nx, St.del_nx, St.bump_nx]; omega) | fail))
      refine go_pure h23 fun mm3 hm3 => ?_
      try simp only [St.new_nx, St.bump_nx, St.set_nx, St.del_nx] at hm3
      simp (implicitDefEqProofs := false) (maxSteps := 2000000) (disch := (first | omega | (simp only [St.new_nx, St.set_nx, St.del_nx, St.bump_nx]; done) | (simp only [St.new_nx, St.set_nx, St.del_nx, St.bump_nx]; omega) | fail)) [a5r5]
      refine pcV_intro h24 ?_
      simp (implicitDefEqProofs := false) (maxSteps := 2000000) (disch := (first | omega | (simp only [St.new_nx, St.set_nx, St.del_nx, St.bump_nx]; done) | (simp only [St.new_nx, St.set_nx, St.del_nx, St.bump_nx]; omega) | fail))
      refine pcV_intro h17 ?_
      simp (implicitDefEqProofs := false) (maxSteps := 2000000) (disch := (first | omega | (simp only [St.new_nx, St.set_nx, St.del_nx, St.bump_nx]; done) | (simp only [St.new_nx, St.set_nx, St.del_nx, St.bump_nx]; omega) | fail))
      refine pcV_intro p16 ?_
      simp (implicitDefEqProofs := false) (maxSteps := 2000000) (disch := (first | omega | (simp only [St.new_nx, St.set_nx, St.del_nx, St.bump_nx]; done) | (simp only [St.new_nx, St.set_nx, St.del_nx, St.bump_nx]; omega) | fail))
    · have h24 := fin2 6 h2 (.inr rfl)
      generalize bind t op l = B at *
      subst h2
      simp (implicitDefEqProofs := false) (maxSteps := 2000000) (disch := (first | omega | (simp only [St.new_nx, St.set_nx, St.del_nx, St.bump_nx]; done) | (simp only [St.new_nx, St.set_nx, St.del_nx, St.bump_nx]; omega) | fail))
      refine go_pure h23 fun mm4 hm4 => ?_
      try simp only [St.new_nx, St.bump_nx, St.set_nx, St.del_nx] at hm4
      simp (implicitDefEqProofs := false) (maxSteps := 2000000) (disch := (first | omega | (simp only [St.new_nx, St.set_nx, St.del_nx, St.bump_nx]; done) | (simp only [St.new_nx, St.set_nx, St.del_nx, St.bump_nx]; omega) | fail)) [a5r5]
      refine pcV_intro h24 ?_
      simp (implicitDefEqProofs := false) (maxSteps := 2000000) (disch := (first | omega | (simp only [St.new_nx, St.set_nx, St.del_nx, St.bump_nx]; done) | (simp only [St.new_nx, St.set_nx, St.del_nx, St.bump_nx]; omega) | fail))
      refine pcV_intro h17 ?_
      simp (implicitDefEqProofs := false) (maxSteps := 2000000) (disch := (first | omega | (simp only [St.new_nx, St.set_nx, St.del_nx, St.bump_nx]; done) | (simp only [St.new_nx, St.set_nx, St.del_nx, St.bump_nx]; omega) | fail))
      refine pcV_intro p16 ?_
      simp (implicitDefEqProofs := false) (maxSteps := 2000000) (disch := (first | omega | (simp only [St.new_nx, St.set_nx, St.del_nx, St.bump_nx]; done) | (simp only [St.new_nx, St.set_nx, St.del_nx, St.bump_nx]; omega) | fail))
  · rw [bindR, if_neg hc] at h22
    have hcs : proper t = false ∨ (proper t = true ∧ ¬ op = 6 ∧ ¬ op = 7) ∨ (proper t = true ∧ (op = 6 ∨ op = 7) ∧ (decide (l.length ≤ 600) && chk [] l) = false) := by
      cases hp : proper t
      · exact .inl rfl
      · refine .inr ?_
        by_cases k1 : op = 6 ∨ op = 7
        · refine .inr ⟨rfl, k1, ?_⟩
          by_cases k2 : l.length ≤ 600
          · have : ¬ chk [] l = true := fun h => hc ⟨hp, k2, by omega, h⟩
            simp [this]
          · simp [k2]
        · exact .inl ⟨rfl, by omega, by omega⟩
    refine pcV_intro (PureC.argw h22 (by simp [il])) ?_
    simp (implicitDefEqProofs := false) (maxSteps := 2000000) (disch := (first | omega | (simp only [St.new_nx, St.set_nx, St.del_nx, St.bump_nx]; done) | (simp only [St.new_nx, St.set_nx, St.del_nx, St.bump_nx]; omega) | fail)) [a5r3]
    intro m0 hm0
    refine go_pure (p13 t) fun mm5 hm5 => ?_
    try simp only [St.new_nx, St.bump_nx, St.set_nx, St.del_nx] at hm5
    rcases hcs with hp | ⟨hp, k1, k2⟩ | ⟨hp, k1, k3⟩ <;> rw [hp]
    · simp (implicitDefEqProofs := false) (maxSteps := 2000000) (disch := (first | omega | (simp only [St.new_nx, St.set_nx, St.del_nx, St.bump_nx]; done) | (simp only [St.new_nx, St.set_nx, St.del_nx, St.bump_nx]; omega) | fail)) [a5r4]
      refine go_pure p15n fun mm6 hm6 => ?_
      try simp only [St.new_nx, St.bump_nx, St.set_nx, St.del_nx] at hm6
      simp (implicitDefEqProofs := false) (maxSteps := 2000000) (disch := (first | omega | (simp only [St.new_nx, St.set_nx, St.del_nx, St.bump_nx]; done) | (simp only [St.new_nx, St.set_nx, St.del_nx, St.bump_nx]; omega) | fail))
      refine go_pure p16 fun mm7 hm7 => ?_
      try simp only [St.new_nx, St.bump_nx, St.set_nx, St.del_nx] at hm7
      simp (implicitDefEqProofs := false) (maxSteps := 2000000) (disch := (first | omega | (simp only [St.new_nx, St.set_nx, St.del_nx, St.bump_nx]; done) | (simp only [St.new_nx, St.set_nx, St.del_nx, St.bump_nx]; omega) | fail))
    · simp (implicitDefEqProofs := false) (maxSteps := 2000000) (disch := (first | omega | (simp only [St.new_nx, St.set_nx, St.del_nx, St.bump_nx]; done) | (simp only [St.new_nx, St.set_nx, St.del_nx, St.bump_nx]; omega) | fail)) [k1, k2, a5r4]
      refine go_pure p15n fun mm8 hm8 => ?_
      try simp only [St.new_nx, St.bump_nx, St.set_nx, St.del_nx] at hm8
      simp (implicitDefEqProofs := false) (maxSteps := 2000000) (disch := (first | omega | (simp only [St.new_nx, St.set_nx, St.del_nx, St.bump_nx]; done) | (simp only [St.new_nx, St.set_nx, St.del_nx, St.bump_nx]; omega) | fail))
      refine go_pure p16 fun mm9 hm9 => ?_
      try simp only [St.new_nx, St.bump_nx, St.set_nx, St.del_nx] at hm9
      simp (implicitDefEqProofs := false) (maxSteps := 2000000) (disch := (first | omega | (simp only [St.new_nx, St.set_nx, St.del_nx, St.bump_nx]; done) | (simp only [St.new_nx, St.set_nx, St.del_nx, St.bump_nx]; omega) | fail))
    · rw [k3] at h23
      rcases k1 with rfl | rfl
      · simp (implicitDefEqProofs := false) (maxSteps := 2000000) (disch := (first | omega | (simp only [St.new_nx, St.set_nx, St.del_nx, St.bump_nx]; done) | (simp only [St.new_nx, St.set_nx, St.del_nx, St.bump_nx]; omega) | fail))
        refine go_pure h23 fun mm10 hm10 => ?_
        try simp only [St.new_nx, St.bump_nx, St.set_nx, St.del_nx] at hm10
        simp (implicitDefEqProofs := false) (maxSteps := 2000000) (disch := (first | omega | (simp only [St.new_nx, St.set_nx, St.del_nx, St.bump_nx]; done) | (simp only [St.new_nx, St.set_nx, St.del_nx, St.bump_nx]; omega) | fail)) [a5r4]
        refine go_pure p15n fun mm11 hm11 => ?_
        try simp only [St.new_nx, St.bump_nx, St.set_nx, St.del_nx] at hm11
        simp (implicitDefEqProofs := false) (maxSteps := 2000000) (disch := (first | omega | (simp only [St.new_nx, St.set_nx, St.del_nx, St.bump_nx]; done) | (simp only [St.new_nx, St.set_nx, St.del_nx, St.bump_nx]; omega) | fail))
        refine go_pure p16 fun mm12 hm12 => ?_
        try simp only [St.new_nx, St.bump_nx, St.set_nx, St.del_nx] at hm12
        simp (implicitDefEqProofs := false) (maxSteps := 2000000) (disch := (first | omega | (simp only [St.new_nx, St.set_nx, St.del_nx, St.bump_nx]; done) | (simp only [St.new_nx, St.set_nx, St.del_nx, St.bump_nx]; omega) | fail))
      · simp (implicitDefEqProofs := false) (maxSteps := 2000000) (disch := (first | omega | (simp only [St.new_nx, St.set_nx, St.del_nx, St.bump_nx]; done) | (simp only [St.new_nx, St.set_nx, St.del_nx, St.bump_nx]; omega) | fail))
        refine go_pure h23 fun mm13 hm13 => ?_
        try simp only [St.new_nx, St.bump_nx, St.set_nx, St.del_nx] at hm13
        simp (implicitDefEqProofs := false) (maxSteps := 2000000) (disch := (first | omega | (simp only [St.new_nx, St.set_nx, St.del_nx, St.bump_nx]; done) | (simp only [St.new_nx, St.set_nx, St.del_nx, St.bump_nx]; omega) | fail)) [a5r4]
        refine go_pure p15n fun mm14 hm14 => ?_
        try simp only [St.new_nx, St.bump_nx, St.set_nx, St.del_nx] at hm14
        simp (implicitDefEqProofs := false) (maxSteps := 2000000) (disch := (first | omega | (simp only [St.new_nx, St.set_nx, St.del_nx, St.bump_nx]; done) | (simp only [St.new_nx, St.set_nx, St.del_nx, St.bump_nx]; omega) | fail))
        refine go_pure p16 fun mm15 hm15 => ?_
        try simp only [St.new_nx, St.bump_nx, St.set_nx, St.del_nx] at hm15
        simp (implicitDefEqProofs := false) (maxSteps := 2000000) (disch := (first | omega | (simp only [St.new_nx, St.set_nx, St.del_nx, St.bump_nx]; done) | (simp only [St.new_nx, St.set_nx, St.del_nx, St.bump_nx]; omega) | fail))
end Go.AL.Ty
/- TypesBack: the plain laws. -/
set_option linter.unusedVariables false
set_option linter.unusedSimpArgs false
namespace Go.AL.Ty
open Go Go.Proofs

theorem pt_mk (l : List Ty) (op n : Int) (s : ByteArray) (a : List Ty) (b : Int) : pt l (mk op n s a) b = if op ≠ 1 then none else if n - b < 0 then some (mk op n s a)
  else if n - b < l.length then (l[l.length - 1 - (n - b).toNat]?).map fun x => moved x b 0 else some (mk 1 (n - l.length) ⟨#[]⟩ []) := rfl
theorem mv_mk (by_ from_ : Int) (op n : Int) (s : ByteArray) (a : List Ty) (b : Int) : mv by_ from_ (mk op n s a) b = if op ≠ 1 then none else if n < b + from_ then some (mk op n s a) else some (mk 1 (n + by_) ⟨#[]⟩ []) := rfl
theorem map_mk (f : Ty → Int → Option Ty) (op n : Int) (s : ByteArray) (a : List Ty) (b : Int) : map f (mk op n s a) b = match f (mk op n s a) b with | some u => u | none => mk op n s (maps f op a 0 b) := by rw [map]; rfl
theorem shf_mk (by_ from_ : Int) (op n : Int) (s : ByteArray) (a : List Ty) (k : Int) : shf by_ from_ (mk op n s a) k = if op = 1 ∧ from_ ≤ n - k then (mk op (n + by_) s [], decide (from_ ≤ n + by_ - k)) else (mk op n s (shfs by_ from_ op a 0 k).1, (shfs by_ from_ op a 0 k).2) := by rw [shf]
theorem shfs_back (d op : Int) : ∀ (l : List Ty) (i : Nat) (b : Int), (∀ x ∈ l, ∀ b, shf (-d) 0 (shf d 0 x b).1 b = (x, true)) → shfs (-d) 0 op (shfs d 0 op l i b).1 i b = (l, true)
  | [], _, _, _ => by simp [shfs]
  | t :: ts, i, b, h => by
    simp only [shfs]
    rw [h t (by simp), shfs_back d op ts (i + 1) b fun x hx => h x (by simp [hx])]
    rfl
theorem shf_back (d : Int) (hd : 0 ≤ d) (t : Ty) : Gd t → ∀ b, shf (-d) 0 (shf d 0 t b).1 b = (t, true) := by
  induction t using Ty.ind with
  | h t ih =>
    intro hg b
    rw [shf_eq d]
    by_cases hc : t.op = 1 ∧ 0 ≤ t.n - b
    · rw [if_pos hc]
      dsimp only
      rw [shf_mk, if_pos ⟨hc.1, by omega⟩]
      have hv := hg.var hc.1
      have e1 : t.s = ⟨#[]⟩ := by rw [hv]; rfl
      have e2 : mk t.op (t.n + d + -d) t.s [] = t := by
        rw [hc.1, e1, show t.n + d + -d = t.n by omega]
        exact hv.symm
      rw [e2]
      congr 1
      simp only [decide_eq_true_eq]; omega
    · rw [if_neg hc]
      dsimp only
      rw [shf_mk, if_neg hc, shfs_back d t.op t.args 0 b fun x hx b => ih x hx (hg.spec.2 x hx) b]
      simp only [eta]

theorem maps_back (f : Ty → Int → Option Ty) (g : Ty → Int → Ty) (gs : List Ty → Nat → Int → List Ty) (op : Int) (h0 : ∀ i b, gs [] i b = []) (h1 : ∀ t ts i b, gs (t :: ts) i b = g t (b + belw op i) :: gs ts (i + 1) b) :
    ∀ (l : List Ty) (i : Nat) (b : Int), 0 ≤ b → (∀ x ∈ l, ∀ b, 0 ≤ b → map f (g x b) b = x) → maps f op (gs l i b) i b = l
  | [], i, b, _, _ => by simp [maps, h0]
  | t :: ts, i, b, hb, h => by
    have := belw_bound op i
    rw [h1, maps, h t (by simp) _ (by omega), maps_back f g gs op h0 h1 ts (i + 1) b hb fun x hx => h x (by simp [hx])]
theorem put_back (l : List Ty) (t : Ty) : Gd t → ∀ b, 0 ≤ b → map (pt l) (shf l.length 0 t b).1 b = t := by
  induction t using Ty.ind with
  | h t ih =>
    intro hg b hb
    rw [shf_eq]
    by_cases hc : t.op = 1 ∧ 0 ≤ t.n - b
    · rw [if_pos hc]
      have hv := hg.var hc.1
      have e1 : t.s = ⟨#[]⟩ := by rw [hv]; rfl
      dsimp only
      rw [map_mk, pt_mk, if_neg (by simp [hc.1]), if_neg (by omega), if_neg (by omega)]
      simp only
      rw [show t.n + (l.length : Int) - l.length = t.n by omega]
      exact hv.symm
    · rw [if_neg hc]
      dsimp only
      rw [map_mk, pt_mk]
      by_cases ho : t.op = 1
      · have hv := hg.var ho
        have e2 : t.args = [] := by rw [hv]; rfl
        rw [if_neg (by simp [ho]), if_pos (by omega), e2, shfs]
        simp only
        rw [← e2, eta]
      · rw [if_pos (by simp [ho])]
        simp only
        rw [maps_back (pt l) (fun x b => (shf l.length 0 x b).1) (fun x i b => (shfs l.length 0 t.op x i b).1) t.op (fun _ _ => by simp [shfs]) (fun _ _ _ _ => by simp [shfs]) t.args 0 b hb fun x hx b hb => ih x hx (hg.spec.2 x hx) b hb, eta]

theorem idx_get (l : List Int) (n : Int) (h : n ∈ l) : 0 ≤ idx l n ∧ idx l n < l.length ∧ l[(idx l n).toNat]? = some n := by
  have : ∀ (l : List Int) (i : Nat), n ∈ l → ∃ j : Nat, firstAt (fun x => decide (n = x)) l i = ((i + j : Nat) : Int) ∧ l[j]? = some n := by
    intro l
    induction l with
    | nil => intro i h; cases h
    | cons x xs ih =>
      intro i h
      simp only [firstAt]
      by_cases e : n = x
      · exact ⟨0, by simp [e], by simp [e]⟩
      · obtain ⟨j, h1, h2⟩ := ih (i + 1) (by simpa [e] using h)
        exact ⟨j + 1, by simp [e, h1]; omega, by simpa using h2⟩
  obtain ⟨j, h1, h2⟩ := this l 0 h
  have hj := (List.getElem?_eq_some_iff.1 h2).1
  rw [← idx] at h1
  rw [h1]
  refine ⟨by omega, by omega, ?_⟩
  simpa using h2
theorem Gd.num {t : Ty} (h : Gd t) (ho : t.op = 6 ∨ t.op = 7) : t = mk t.op t.n ⟨#[]⟩ [] := by
  obtain ⟨⟨h1, h2, h3, h4, h5, h6, h7⟩, h8⟩ := h.spec
  cases t with
  | mk op n s args =>
    simp only [op_mk, n_mk, s_mk, args_mk] at *
    have e1 : args = [] := List.length_eq_zero_iff.1 (by have : kids op = 0 := by unfold kids; split <;> omega
                                                         omega)
    have e2 : s = ⟨#[]⟩ := Decidable.byContradiction fun hn => by have := h7.2 hn; omega
    rw [e1, e2]
def owns (op : Int) (l : List Int) : List Ty := l.map fun n => mk op n ⟨#[]⟩ []
theorem own_back (op : Int) (hop : op = 6 ∨ op = 7) (l : List Int) (t : Ty) : Gd t → ∀ b, 0 ≤ b → map (pt (owns op l)) (bn op l t b) b = t := by
  induction t using Ty.ind with
  | h t ih =>
    intro hg b hb
    have hlen : (owns op l).length = l.length := by simp [owns]
    rw [bn_eq]
    by_cases hA : t.op = op ∧ t.n ∈ l
    · rw [if_pos hA]
      obtain ⟨g1, g2, g3⟩ := idx_get l t.n hA.2
      have hgt : (owns op l)[(owns op l).length - 1 - ((l.length : Int) - 1 - idx l t.n + b - b).toNat]? = some (mk op t.n ⟨#[]⟩ []) := by
        rw [hlen, show l.length - 1 - ((l.length : Int) - 1 - idx l t.n + b - b).toNat = (idx l t.n).toNat by omega]
        simp [owns, g3]
      rw [var, map_mk, pt_mk, if_neg (by simp), if_neg (by omega), if_pos (by omega), hgt]
      simp only [Option.map_some]
      have e : moved (mk op t.n ⟨#[]⟩ []) b 0 = mk op t.n ⟨#[]⟩ [] := by
        rw [moved, map_mk, mv_mk, if_pos (by omega)]
        simp [maps]
      rw [e, ← hA.1]
      exact (hg.num (by rw [hA.1]; exact hop)).symm
    · rw [if_neg hA]
      by_cases ho : t.op = 1
      · have hv := hg.var ho
        have e1 : t.s = ⟨#[]⟩ := by rw [hv]; rfl
        have e2 : t.args = [] := by rw [hv]; rfl
        by_cases hn : b ≤ t.n
        · rw [if_pos ⟨ho, hn⟩, map_mk, pt_mk, if_neg (by simp [ho]), if_neg (by omega), if_neg (by omega), hlen]
          simp only
          rw [show t.n + (l.length : Int) - l.length = t.n by omega]
          exact hv.symm
        · rw [if_neg (by omega), map_mk, pt_mk, if_neg (by simp [ho]), if_pos (by omega), e2, bns]
          simp only
          rw [← e2, eta]
      · rw [if_neg (by simp [ho]), map_mk, pt_mk, if_pos (by simp [ho])]
        simp only
        rw [maps_back (pt (owns op l)) (bn op l) (bns op l t.op) t.op (fun _ _ => by simp [bns]) (fun _ _ _ _ => by simp [bns]) t.args 0 b hb fun x hx b hb => ih x hx (hg.spec.2 x hx) b hb, eta]
end Go.AL.Ty
/- TypesBack. -/
set_option linter.unusedVariables false
set_option linter.unusedSimpArgs false
namespace Go.AL.Ty
open Go Go.Proofs

theorem wrapu (d : Int) : 0 ≤ IntKind.u64.wrap d := by
  unfold IntKind.wrap
  simp [IntKind.bits, IntKind.signed]
  omega
theorem dd_bound (d : Int) : 0 ≤ IntKind.i64.wrap ((IntKind.u64.wrap d).tmod 40) ∧ IntKind.i64.wrap ((IntKind.u64.wrap d).tmod 40) < 40 := by
  have h := wrapu d
  generalize IntKind.u64.wrap d = x at *
  have h1 : 0 ≤ x.tmod 40 := Int.tmod_nonneg _ h
  have h2 : x.tmod 40 < 40 := Int.tmod_lt_of_pos _ (by omega)
  rw [wrap64 (by omega) (by omega)]
  exact ⟨h1, h2⟩
theorem chk_all : ∀ (l pre : List Int), chk pre l = true → ∀ n ∈ l, 0 ≤ n ∧ n ≤ 9999
  | [], _, _, n, hn => by cases hn
  | x :: xs, pre, h, n, hn => by
    simp only [chk, Bool.and_eq_true, decide_eq_true_eq] at h
    simp only [List.mem_cons] at hn
    rcases hn with rfl | hn
    · exact h.1.1
    · exact chk_all xs _ h.2 n hn
theorem owns_propers (op : Int) (hop : op = 6 ∨ op = 7) (l : List Int) (hl : l.length ≤ 600) (h : ∀ n ∈ l, 0 ≤ n ∧ n ≤ 9999) : propers (owns op l) = true := by
  simp only [propers, owns, List.length_map, Bool.and_eq_true, decide_eq_true_eq, List.all_eq_true]
  refine ⟨hl, fun x hx => ?_⟩
  obtain ⟨n, hn, rfl⟩ := List.mem_map.1 hx
  have := h n hn
  rw [proper, gd]
  rw [if_neg (by omega), if_neg, if_neg, if_neg]
  · rfl
  · rcases hop with rfl | rfl <;> simp [ByteArray.size]
  · rcases hop with rfl | rfl <;> simp [isNum] <;> omega
  · rcases hop with rfl | rfl <;> simp [kids]

/-- The box of the law's argument, and what else stays. -/
def S7 (t : Ty) (s : St) (g : Env) (s1 : St) : Prop :=
  g.get 3 = .ptr s.nx 0 ∧ s1.m s.nx = some (.box [.int .i64 t.op, .int .i64 t.n, .str t.s, .list 4 .none (t.args.map av)]) ∧ Kept s s1 ∧ s.nx < s1.nx
def ol (op : Int) (l : List Int) : List AV := l.map fun n => .agg [.int .i64 op, .int .i64 n, .str ⟨#[]⟩, .list 0 .full []]
theorem ol_wk (op : Int) (l : List Int) : wkL (ol op l) ((owns op l).map av) := by
  induction l with
  | nil => simp [ol, owns]
  | cons n l ih =>
    simp only [ol, owns, List.map_cons, wkL_cons] at ih ⊢
    exact ⟨by simp [av_mk], ih⟩
def own1 (s : St) (i : Nat) (sz : Nat) (tok : Tok) (s1 : St) : Prop := (i = 0 ∧ sz = 0 ∧ tok = .full) ∨ (sz = 4 ∧ ∃ q, tok = .own q ∧ s1.m q = some (.spare (i * 4)) ∧ q < s1.nx ∧ s.nx < q)
def I7c (t : Ty) (op : Int) (l : List Int) (i : Nat) (s : St) (n : Nat) (g : Env) (s1 : St) : Prop :=
  ∃ (k sz : Nat) (tok : Tok), k ≤ l.length ∧ n = l.length - k ∧ g.get 93 = .list 1 .none (il l) ∧ g.get 94 = .int .i64 l.length ∧ g.get 95 = .int .i64 k ∧ g.get 15 = .int .i64 op ∧ g.get 2 = .list 1 .none (il l) ∧
    g.get 16 = .list sz tok (ol op (l.take k)) ∧ g.get 87 = .list 1 .full [.int .i64 6, .int .i64 7] ∧ g.get 88 = .int .i64 2 ∧ g.get 89 = .int .i64 i ∧ own1 s k sz tok s1 ∧ S7 t s g s1
def I7b (t : Ty) (l : List Int) (s : St) (n : Nat) (g : Env) (s1 : St) : Prop :=
  ∃ (i : Nat), i ≤ 2 ∧ n = 2 - i ∧ g.get 2 = .list 1 .none (il l) ∧ g.get 87 = .list 1 .full [.int .i64 6, .int .i64 7] ∧ g.get 88 = .int .i64 2 ∧ g.get 89 = .int .i64 i ∧ S7 t s g s1
/-- What is known when the owns are laid. -/
def E7c (t : Ty) (op : Int) (l : List Int) (i : Nat) (s : St) (g : Env) (s1 : St) : Prop :=
  (∃ sz tok, g.get 16 = .list sz tok (ol op l) ∧ (sz = 4 ∨ ol op l = [])) ∧ g.get 15 = .int .i64 op ∧ g.get 2 = .list 1 .none (il l) ∧ g.get 87 = .list 1 .full [.int .i64 6, .int .i64 7] ∧ g.get 88 = .int .i64 2 ∧ g.get 89 = .int .i64 i ∧ S7 t s g s1
theorem inner7 (t : Ty) (op : Int) (l : List Int) (hl : l.length ≤ 1000) (i : Nat) (s : St) (G : Env) (S : St) (Q : AExit → Env → St → Prop) (h : I7c t op l i s l.length G S)
    (hQ : ∀ g s1, E7c t op l i s g s1 → go (Q .normal g s1)) : go (awp Try.prog (.loop a7l28) (blockQ 4 Q) G S) := by
  refine go_loop (I7c t op l i s) l.length h ?_
  rintro n g s1 ⟨k, sz, tok, hk, rfl, h93, h94, h95, h15, h2, h16, h87, h88, h89, hown, hS⟩
  have hS' := hS
  obtain ⟨h3, hT, hkp, hn⟩ := hS'
  by_cases hlt : k < l.length
  · have hx : l[k]? = some l[k] := by simp [hlt]
    have hx' := il_get hx
    have hlt' : (k : Int) < l.length := by omega
    have w2 : IntKind.i64.wrap ((k : Int) + 1) = ((k + 1 : Nat) : Int) := by rw [wrap64 (by omega) (by omega)]; omega
    have hta : ol op (l.take (k + 1)) = ol op (l.take k) ++ [.agg [.int .i64 op, .int .i64 l[k], .str ⟨#[]⟩, .list 0 .full []]] := by
      rw [List.take_add_one, hx, ol, List.map_append]; rfl
    have hlo : (ol op (l.take k)).length = k := by simp [ol]; omega
    generalize ol op (l.take k) = A at *
    rcases hown with ⟨rfl, rfl, rfl⟩ | ⟨rfl, q, rfl, hq, hq2, hq3⟩
    · have hA : A = [] := List.length_eq_zero_iff.1 hlo
      subst hA
      simp only [List.nil_append] at hta
      simp (implicitDefEqProofs := false) (maxSteps := 2000000) (disch := (first | omega | (simp only [St.new_nx, St.set_nx, St.del_nx, St.bump_nx]; done) | (simp only [St.new_nx, St.set_nx, St.del_nx, St.bump_nx]; omega) | fail)) [a7l28, a7r24, a7r25, a7r26, a7r27, h93, h94, h95, h15, h2, h16, hlt', hlt, hx', w2, show IntKind.i64.wrap 1 = 1 from rfl]
      rw [← hta]
      refine go_next (l.length - 1) (by omega) ⟨1, 4, .own s1.nx, by omega, rfl, ?_, ?_, ?_, ?_, ?_, ?_, ?_, ?_, ?_, .inr ⟨rfl, _, rfl, ?_, ?_, hn⟩, ?_, ?_, ?_, ?_⟩
      all_goals (try simp (implicitDefEqProofs := false) (maxSteps := 2000000) (disch := (first | omega | (simp only [St.new_nx, St.set_nx, St.del_nx, St.bump_nx]; done) | (simp only [St.new_nx, St.set_nx, St.del_nx, St.bump_nx]; omega) | fail)) [h93, h94, h95, h15, h2, h87, h88, h89, h3, hT, hkp])
      all_goals omega
    · simp (implicitDefEqProofs := false) (maxSteps := 2000000) (disch := (first | omega | (simp only [St.new_nx, St.set_nx, St.del_nx, St.bump_nx]; done) | (simp only [St.new_nx, St.set_nx, St.del_nx, St.bump_nx]; omega) | fail)) [a7l28, a7r24, a7r25, a7r26, a7r27, h93, h94, h95, h15, h2, h16, hlt', hlt, hx', w2, hq, hlo]
      rw [← hta]
      refine go_next (l.length - (k + 1)) (by omega) ⟨k + 1, 4, .own s1.nx, by omega, rfl, ?_, ?_, ?_, ?_, ?_, ?_, ?_, ?_, ?_, .inr ⟨rfl, _, rfl, ?_, ?_, hn⟩, ?_, ?_, ?_, ?_⟩
      all_goals (try simp (implicitDefEqProofs := false) (maxSteps := 2000000) (disch := (first | omega | (simp only [St.new_nx, St.set_nx, St.del_nx, St.bump_nx]; done) | (simp only [St.new_nx, St.set_nx, St.del_nx, St.bump_nx]; omega) | fail)) [h93, h94, h95, h15, h2, h87, h88, h89, h3, hT, hkp])
      all_goals omega
  · have hlt' : ¬ (k : Int) < l.length := by omega
    have hke : k = l.length := by omega
    subst hke
    rw [List.take_length] at h16
    simp (implicitDefEqProofs := false) (maxSteps := 2000000) (disch := (first | omega | (simp only [St.new_nx, St.set_nx, St.del_nx, St.bump_nx]; done) | (simp only [St.new_nx, St.set_nx, St.del_nx, St.bump_nx]; omega) | fail)) [a7l28, a7r24, h93, h94, h95, hlt']
    refine hQ _ _ ⟨⟨sz, tok, ?_, ?_⟩, ?_, ?_, ?_, ?_, ?_, ?_, hT, hkp, hn⟩
    · simp (implicitDefEqProofs := false) (maxSteps := 2000000) (disch := (first | omega | (simp only [St.new_nx, St.set_nx, St.del_nx, St.bump_nx]; done) | (simp only [St.new_nx, St.set_nx, St.del_nx, St.bump_nx]; omega) | fail)) [h16]
    · rcases hown with ⟨h0, _, _⟩ | ⟨h4, _⟩
      · right
        have : l = [] := List.length_eq_zero_iff.1 h0
        rw [this]; rfl
      · exact .inl h4
    all_goals simp (implicitDefEqProofs := false) (maxSteps := 2000000) (disch := (first | omega | (simp only [St.new_nx, St.set_nx, St.del_nx, St.bump_nx]; done) | (simp only [St.new_nx, St.set_nx, St.del_nx, St.bump_nx]; omega) | fail)) [h15, h2, h87, h88, h89, h3]

/-- The second half: what Bind makes is put back. -/
theorem half7 (t : Ty) (hp : proper t = true) (l : List Int) (hl : l.length ≤ 20) (hc : chk [] l = true) (s : St) (n : Nat) (g : Env) (s1 : St) (h : I7b t l s n g s1) :
    go (awp Try.prog a7l37 (loopQ n (I7b t l s) (blockQ 2 (seqQ Try.prog ((ACode.reg false a7r38).seq .ret) (finQ [.tmp (true, 6)] fun r' s' => wk r' (.bool true) ∧ Kept s s')))) g s1) := by
  obtain ⟨i, hi, rfl, h2, h87, h88, h89, hS⟩ := h
  have hS' := hS
  obtain ⟨h3, hT, hkp, hn⟩ := hS'
  by_cases hlt : i < 2
  · have hlt' : (i : Int) < 2 := by omega
    obtain ⟨op, hop, hx⟩ : ∃ op : Int, (op = 6 ∨ op = 7) ∧ [AV.int .i64 6, .int .i64 7][i]? = some (.int .i64 op) := by
      match i, hlt with
      | 0, _ => exact ⟨6, .inl rfl, rfl⟩
      | 1, _ => exact ⟨7, .inr rfl, rfl⟩
    have w2 : IntKind.i64.wrap ((i : Int) + 1) = ((i + 1 : Nat) : Int) := by rw [wrap64 (by omega) (by omega)]; omega
    have hcc : [AV.int .i64 6, AV.int .i64 7][i]'(by simpa using hlt) = .int .i64 op := by
      have := List.getElem?_eq_some_iff.1 hx
      exact this.2
    have hb := p22 t op l
    have hok : proper t = true ∧ l.length ≤ 600 ∧ (op = 7 ∨ op = 6) ∧ chk [] l = true := ⟨hp, by omega, by omega, hc⟩
    rw [bindR, if_pos hok] at hb
    have hback : putted (bound t op l) (owns op l) = t := by
      rw [bound_bind op l hp]
      exact own_back op hop l t (.of hp) 0 (by omega)
    have hpr : propers (owns op l) = true := owns_propers op hop l (by omega) (chk_all l [] hc)
    have hft : fin t = .tup [t.av, .int .i64 0] := by rw [fin, if_pos hp]
    have h31 := p31 t (proper_lim hp) t
    rw [same_refl] at h31
    simp (implicitDefEqProofs := false) (maxSteps := 2000000) (disch := (first | omega | (simp only [St.new_nx, St.set_nx, St.del_nx, St.bump_nx]; done) | (simp only [St.new_nx, St.set_nx, St.del_nx, St.bump_nx]; omega) | fail)) [a7l37, a7r20, a7r21, a7r22, a7r23, h2, h87, h88, h89, hlt', hlt, hx, hcc]
    refine inner7 t op l (by omega) i s _ _ _ ⟨0, 0, .full, by omega, by omega, ?_, ?_, ?_, ?_, ?_, ?_, ?_, ?_, ?_, .inl ⟨rfl, rfl, rfl⟩, ?_, hT, hkp, hn⟩ fun g s1 hE => ?_
    iterate 10 (simp (implicitDefEqProofs := false) (maxSteps := 2000000) (disch := (first | omega | (simp only [St.new_nx, St.set_nx, St.del_nx, St.bump_nx]; done) | (simp only [St.new_nx, St.set_nx, St.del_nx, St.bump_nx]; omega) | fail)) [h2, h87, h88, h89, h3, ol])
    obtain ⟨⟨sz, tok, h16, hsz⟩, h15, h2, h87, h88, h89, h3, hT, hkp, hn⟩ := hE
    simp (implicitDefEqProofs := false) (maxSteps := 2000000) (disch := (first | omega | (simp only [St.new_nx, St.set_nx, St.del_nx, St.bump_nx]; done) | (simp only [St.new_nx, St.set_nx, St.del_nx, St.bump_nx]; omega) | fail)) [a7r29, h16, h15, h2, h87, h88, h89, h3, hT]
    by_cases hpb : proper (bound t op l) = true
    · rw [fin, if_pos hpb] at hb
      have h12 := p12 (bound t op l) (owns op l)
      rw [if_pos (by rw [hpb, hpr]; rfl), hback, hft] at h12
      refine go_pure hb fun mm1 hm1 => ?_
      try simp only [St.new_nx, St.bump_nx, St.set_nx, St.del_nx] at hm1
      simp (implicitDefEqProofs := false) (maxSteps := 2000000) (disch := (first | omega | (simp only [St.new_nx, St.set_nx, St.del_nx, St.bump_nx]; done) | (simp only [St.new_nx, St.set_nx, St.del_nx, St.bump_nx]; omega) | fail)) [a7r30, a7r31, a7r33, h16]
      refine go_pure (PureC.argw h12 ?_) fun m4 hm4 => ?_
      · simp only [wkL_cons, wk_rfl, wk_list, wkL_nil, true_and, and_true]
        exact ⟨hsz, ol_wk op l⟩
      simp only [St.new_nx, St.bump_nx, St.set_nx, St.del_nx] at hm4
      simp (implicitDefEqProofs := false) (maxSteps := 2000000) (disch := (first | omega | (simp only [St.new_nx, St.set_nx, St.del_nx, St.bump_nx]; done) | (simp only [St.new_nx, St.set_nx, St.del_nx, St.bump_nx]; omega) | fail)) [a7r34, h3, hT]
      refine go_pure h31 fun mm2 hm2 => ?_
      try simp only [St.new_nx, St.bump_nx, St.set_nx, St.del_nx] at hm2
      simp (implicitDefEqProofs := false) (maxSteps := 2000000) (disch := (first | omega | (simp only [St.new_nx, St.set_nx, St.del_nx, St.bump_nx]; done) | (simp only [St.new_nx, St.set_nx, St.del_nx, St.bump_nx]; omega) | fail)) [a7r36, h89, w2]
      refine go_next (2 - (i + 1)) (by omega) ⟨i + 1, by omega, rfl, ?_, ?_, ?_, ?_, ?_, ?_, ?_, ?_⟩
      all_goals (try simp (implicitDefEqProofs := false) (maxSteps := 2000000) (disch := (first | omega | (simp only [St.new_nx, St.set_nx, St.del_nx, St.bump_nx]; done) | (simp only [St.new_nx, St.set_nx, St.del_nx, St.bump_nx]; omega) | fail)) [h2, h87, h88, h89, h3, hT, hkp])
      all_goals omega
    · rw [fin, if_neg hpb] at hb
      refine go_pure hb fun mm3 hm3 => ?_
      try simp only [St.new_nx, St.bump_nx, St.set_nx, St.del_nx] at hm3
      simp (implicitDefEqProofs := false) (maxSteps := 2000000) (disch := (first | omega | (simp only [St.new_nx, St.set_nx, St.del_nx, St.bump_nx]; done) | (simp only [St.new_nx, St.set_nx, St.del_nx, St.bump_nx]; omega) | fail)) [a7r30, a7r31, a7r36, h89, w2]
      refine go_next (2 - (i + 1)) (by omega) ⟨i + 1, by omega, rfl, ?_, ?_, ?_, ?_, ?_, ?_, ?_, ?_⟩
      all_goals (try simp (implicitDefEqProofs := false) (maxSteps := 2000000) (disch := (first | omega | (simp only [St.new_nx, St.set_nx, St.del_nx, St.bump_nx]; done) | (simp only [St.new_nx, St.set_nx, St.del_nx, St.bump_nx]; omega) | fail)) [h2, h87, h88, h89, h3, hT, hkp])
      all_goals omega
  · have hlt' : ¬ (i : Int) < 2 := by omega
    simp (implicitDefEqProofs := false) (maxSteps := 2000000) (disch := (first | omega | (simp only [St.new_nx, St.set_nx, St.del_nx, St.bump_nx]; done) | (simp only [St.new_nx, St.set_nx, St.del_nx, St.bump_nx]; omega) | fail)) [a7l37, a7r20, h2, h87, h88, h89, hlt', a7r38]
    refine go_pure p16 fun mm4 hm4 => ?_
    try simp only [St.new_nx, St.bump_nx, St.set_nx, St.del_nx] at hm4
    simp (implicitDefEqProofs := false) (maxSteps := 2000000) (disch := (first | omega | (simp only [St.new_nx, St.set_nx, St.del_nx, St.bump_nx]; done) | (simp only [St.new_nx, St.set_nx, St.del_nx, St.bump_nx]; omega) | fail)) [hkp]
end Go.AL.Ty
/- TypesBack. -/
set_option linter.unusedVariables false
set_option linter.unusedSimpArgs false
namespace Go.AL.Ty
open Go Go.Proofs

def own2 (a b : Nat) (i : Nat) (sz : Nat) (tok : Tok) (s1 : St) : Prop := (i = 0 ∧ sz = 0 ∧ tok = .full) ∨ (sz = 4 ∧ ∃ q, tok = .own q ∧ s1.m q = some (.spare (i * 4)) ∧ q < s1.nx ∧ a < q ∧ b < q)
def B7 (t u v : Ty) (ou ov : Nat) (f : Int) (l : List Int) (s : St) (g : Env) (s1 : St) : Prop :=
    g.get 7 = .ptr ou 0 ∧ g.get 9 = .ptr ov 0 ∧ g.get 10 = .int .i64 f ∧ g.get 2 = .list 1 .none (il l) ∧
    s1.m ou = some (.box [.int .i64 u.op, .int .i64 u.n, .str u.s, .list 4 .none (u.args.map av)]) ∧ s1.m ov = some (.box [.int .i64 v.op, .int .i64 v.n, .str v.s, .list 4 .none (v.args.map av)]) ∧ ou < s1.nx ∧ ov < s1.nx ∧ S7 t s g s1
def I7a (t u v : Ty) (D : Nat) (ou ov : Nat) (f : Int) (l : List Int) (s : St) (n : Nat) (g : Env) (s1 : St) : Prop :=
  ∃ (k sz : Nat) (tok : Tok), k ≤ D ∧ n = D - k ∧ g.get 46 = .int .i64 D ∧ g.get 47 = .int .i64 k ∧ g.get 11 = .list sz tok ((List.replicate k tInt).map av) ∧ own2 ou ov k sz tok s1 ∧ B7 t u v ou ov f l s g s1
def E7a (t u v : Ty) (D : Nat) (ou ov : Nat) (f : Int) (l : List Int) (s : St) (g : Env) (s1 : St) : Prop :=
  (∃ sz tok, g.get 11 = .list sz tok ((List.replicate D tInt).map av) ∧ (sz = 4 ∨ (List.replicate D tInt).map av = [])) ∧ B7 t u v ou ov f l s g s1
theorem some7 (t u v : Ty) (D : Nat) (hD2 : D < 40) (ou ov : Nat) (f : Int) (l : List Int) (s : St) (G : Env) (S : St) (Q : AExit → Env → St → Prop) (hou : s.nx < ou) (hov : s.nx < ov) (h : I7a t u v D ou ov f l s D G S)
    (hQ : ∀ g s1, E7a t u v D ou ov f l s g s1 → go (Q .normal g s1)) : go (awp Try.prog (.loop a7l12) (blockQ 0 Q) G S) := by
  refine go_loop (I7a t u v D ou ov f l s) D h ?_
  rintro n g s1 ⟨k, sz, tok, hk, rfl, h46, h47, h11, hown, h7, h9, h10, h2, hU, hV, hu, hv, hS⟩
  have hS' := hS
  obtain ⟨h3, hT, hkp, hn⟩ := hS'
  by_cases hlt : k < D
  · have w2 : IntKind.i64.wrap ((k : Int) + 1) = ((k + 1 : Nat) : Int) := by rw [wrap64 (by omega) (by omega)]; omega
    have hlt' : (k : Int) < D := by omega
    have hta : (List.replicate (k + 1) tInt).map av = (List.replicate k tInt).map av ++ [tInt.av] := by
      rw [List.replicate_succ', List.map_append]; rfl
    have hlo : ((List.replicate k tInt).map av).length = k := by simp
    have h35 := p35 ⟨#[73, 110, 116]⟩
    have hti : (mk 2 0 ⟨#[73, 110, 116]⟩ []) = tInt := rfl
    rw [hti] at h35
    generalize (List.replicate k tInt).map av = A at *
    simp (implicitDefEqProofs := false) (maxSteps := 2000000) (disch := (first | omega | (simp only [St.new_nx, St.set_nx, St.del_nx, St.bump_nx]; done) | (simp only [St.new_nx, St.set_nx, St.del_nx, St.bump_nx]; omega) | fail)) [a7l12, a7r9, a7r10, a7r11, h46, h47, h11, hlt', hlt]
    rcases hown with ⟨rfl, rfl, rfl⟩ | ⟨rfl, q, rfl, hq, hq2, hq3, hq4⟩
    · have hA : A = [] := List.length_eq_zero_iff.1 hlo
      subst hA
      simp only [List.nil_append] at hta
      refine go_pure h35 fun mm1 hm1 => ?_
      try simp only [St.new_nx, St.bump_nx, St.set_nx, St.del_nx] at hm1
      simp (implicitDefEqProofs := false) (maxSteps := 2000000) (disch := (first | omega | (simp only [St.new_nx, St.set_nx, St.del_nx, St.bump_nx]; done) | (simp only [St.new_nx, St.set_nx, St.del_nx, St.bump_nx]; omega) | fail)) [h11, h47, w2, show IntKind.i64.wrap 1 = 1 from rfl]
      rw [← hta]
      refine go_next (D - 1) (by omega) ⟨1, 4, .own mm1, by omega, rfl, ?_, ?_, ?_, .inr ⟨rfl, _, rfl, ?_, ?_, ?_, ?_⟩, ?_, ?_, ?_, ?_, ?_, ?_, ?_, ?_, ?_, ?_, ?_, ?_⟩
      all_goals (try simp (implicitDefEqProofs := false) (maxSteps := 2000000) (disch := (first | omega | (simp only [St.new_nx, St.set_nx, St.del_nx, St.bump_nx]; done) | (simp only [St.new_nx, St.set_nx, St.del_nx, St.bump_nx]; omega) | fail)) [h46, h47, h7, h9, h10, h2, hU, hV, h3, hT, hkp])
      all_goals omega
    · refine go_pure h35 fun mm2 hm2 => ?_
      try simp only [St.new_nx, St.bump_nx, St.set_nx, St.del_nx] at hm2
      simp (implicitDefEqProofs := false) (maxSteps := 2000000) (disch := (first | omega | (simp only [St.new_nx, St.set_nx, St.del_nx, St.bump_nx]; done) | (simp only [St.new_nx, St.set_nx, St.del_nx, St.bump_nx]; omega) | fail)) [h11, h47, w2, hq, hlo]
      rw [← hta]
      refine go_next (D - (k + 1)) (by omega) ⟨k + 1, 4, .own mm2, by omega, rfl, ?_, ?_, ?_, .inr ⟨rfl, _, rfl, ?_, ?_, ?_, ?_⟩, ?_, ?_, ?_, ?_, ?_, ?_, ?_, ?_, ?_, ?_, ?_, ?_⟩
      all_goals (try simp (implicitDefEqProofs := false) (maxSteps := 2000000) (disch := (first | omega | (simp only [St.new_nx, St.set_nx, St.del_nx, St.bump_nx]; done) | (simp only [St.new_nx, St.set_nx, St.del_nx, St.bump_nx]; omega) | fail)) [h46, h47, h7, h9, h10, h2, hU, hV, h3, hT, hkp])
      all_goals omega
  · have hke : k = D := by omega
    subst hke
    have hlt' : ¬ (k : Int) < k := by omega
    simp (implicitDefEqProofs := false) (maxSteps := 2000000) (disch := (first | omega | (simp only [St.new_nx, St.set_nx, St.del_nx, St.bump_nx]; done) | (simp only [St.new_nx, St.set_nx, St.del_nx, St.bump_nx]; omega) | fail)) [a7l12, a7r9, h46, h47, hlt']
    refine hQ _ _ ⟨⟨sz, tok, ?_, ?_⟩, ?_, ?_, ?_, ?_, hU, hV, hu, hv, ?_, hT, hkp, hn⟩
    · simp (implicitDefEqProofs := false) (maxSteps := 2000000) (disch := (first | omega | (simp only [St.new_nx, St.set_nx, St.del_nx, St.bump_nx]; done) | (simp only [St.new_nx, St.set_nx, St.del_nx, St.bump_nx]; omega) | fail)) [h11]
    · rcases hown with ⟨h0, _, _⟩ | ⟨h4, _⟩
      · right; rw [h0]; rfl
      · exact .inl h4
    all_goals simp (implicitDefEqProofs := false) (maxSteps := 2000000) (disch := (first | omega | (simp only [St.new_nx, St.set_nx, St.del_nx, St.bump_nx]; done) | (simp only [St.new_nx, St.set_nx, St.del_nx, St.bump_nx]; omega) | fail)) [h7, h9, h10, h2, h3]

theorem shf_up (d : Int) (hd : 0 ≤ d) (t : Ty) : Gd t → ∀ b, (shf d 0 t b).2 = true := by
  induction t using Ty.ind with
  | h t ih =>
    intro hg b
    have hs : ∀ (l : List Ty) (i : Nat) (b : Int), (∀ x ∈ l, ∀ b, (shf d 0 x b).2 = true) → (shfs d 0 t.op l i b).2 = true := by
      intro l
      induction l with
      | nil => intros; simp [shfs]
      | cons x xs ih2 =>
        intro i b h
        simp only [shfs]
        rw [h x (by simp), ih2 (i + 1) b fun y hy => h y (by simp [hy])]
        rfl
    rw [shf_eq]
    by_cases hc : t.op = 1 ∧ 0 ≤ t.n - b
    · rw [if_pos hc]
      simp only [decide_eq_true_eq]; omega
    · rw [if_neg hc]
      exact hs t.args 0 b fun x hx b => ih x hx (hg.spec.2 x hx) b

theorem tInts (D : Nat) (h : D < 40) : propers (List.replicate D tInt) = true := by
  simp only [propers, List.length_replicate, Bool.and_eq_true, decide_eq_true_eq, List.all_eq_true]
  refine ⟨by omega, fun x hx => ?_⟩
  rw [List.eq_of_mem_replicate hx]
  kernel_rfl

theorem p7 (t : Ty) (d : Int) (l0 : List Int) : PureC Try.prog 7 [t.av, .int .i64 d, .list 1 .none (il l0)] (.bool true) := by
  refine PureC.intro fun s => fun_sound mixed Try.func7 Try.call7 c7 rfl (awpFun_go _ _ _ _ ?_)
  simp (implicitDefEqProofs := false) (maxSteps := 2000000) (disch := (first | omega | (simp only [St.new_nx, St.set_nx, St.del_nx, St.bump_nx]; done) | (simp only [St.new_nx, St.set_nx, St.del_nx, St.bump_nx]; omega) | fail)) [a7, a7b, a7r0, a7r1]
  have hd := dd_bound d
  generalize IntKind.i64.wrap ((IntKind.u64.wrap d).tmod 40) = D0 at *
  obtain ⟨D, rfl⟩ : ∃ D : Nat, D0 = D := ⟨D0.toNat, by omega⟩
  have hD : D < 40 := by omega
  have el : List.take (if (20 : Int) < l0.length then (20 : Int) else l0.length).toNat (il l0) = il (l0.take 20) := by
    rw [il_take]
    split
    · rfl
    · congr 1
      rw [List.take_of_length_le (by omega), List.take_of_length_le (by omega)]
  have hl : (l0.take 20).length ≤ 20 := by rw [List.length_take]; omega
  generalize l0.take 20 = l at *
  have h13 := p13 t
  by_cases hp : proper t = true
  · rw [hp] at h13
    have half : ∀ (G : Env) (S : St), G.get 2 = .list 1 .none (il l0) → S7 t s G S →
        go (aops Try.prog a7r16 (regQ (seqQ Try.prog (((ACode.reg false a7r17).seq (.cond (.g 85) ((ACode.reg false a7r18).seq .ret) .skip)).seq (((ACode.reg false a7r19).seq (.block 2 (.loop a7l37))).seq ((ACode.reg false a7r38).seq .ret))) (finQ [.tmp (true, 6)] fun r' s' => wk r' (.bool true) ∧ Kept s s'))) G [] S) := by
      rintro G S h2 ⟨h3, hT, hkp, hn⟩
      simp (implicitDefEqProofs := false) (maxSteps := 2000000) (disch := (first | omega | (simp only [St.new_nx, St.set_nx, St.del_nx, St.bump_nx]; done) | (simp only [St.new_nx, St.set_nx, St.del_nx, St.bump_nx]; omega) | fail)) [a7r16, h2, el, a7r17]
      refine go_pure (p23 l (by omega)) fun mm3 hm3 => ?_
      try simp only [St.new_nx, St.bump_nx, St.set_nx, St.del_nx] at hm3
      simp (implicitDefEqProofs := false) (maxSteps := 2000000) (disch := (first | omega | (simp only [St.new_nx, St.set_nx, St.del_nx, St.bump_nx]; done) | (simp only [St.new_nx, St.set_nx, St.del_nx, St.bump_nx]; omega) | fail)) [h2]
      refine ⟨fun k => ?_, fun k1 k2 => ?_⟩
      · simp (implicitDefEqProofs := false) (maxSteps := 2000000) (disch := (first | omega | (simp only [St.new_nx, St.set_nx, St.del_nx, St.bump_nx]; done) | (simp only [St.new_nx, St.set_nx, St.del_nx, St.bump_nx]; omega) | fail)) [a7r18]
        refine go_pure p16 fun mm4 hm4 => ?_
        try simp only [St.new_nx, St.bump_nx, St.set_nx, St.del_nx] at hm4
        simp (implicitDefEqProofs := false) (maxSteps := 2000000) (disch := (first | omega | (simp only [St.new_nx, St.set_nx, St.del_nx, St.bump_nx]; done) | (simp only [St.new_nx, St.set_nx, St.del_nx, St.bump_nx]; omega) | fail)) [hkp]
      · simp (implicitDefEqProofs := false) (maxSteps := 2000000) (disch := (first | omega | (simp only [St.new_nx, St.set_nx, St.del_nx, St.bump_nx]; done) | (simp only [St.new_nx, St.set_nx, St.del_nx, St.bump_nx]; omega) | fail)) [a7r19]
        refine go_loop (I7b t l s) 2 ⟨0, by omega, rfl, ?_, ?_, ?_, ?_, ?_, ?_, ?_, ?_⟩ fun n g s1 h => half7 t hp l hl k2 s n g s1 h
        all_goals (try simp (implicitDefEqProofs := false) (maxSteps := 2000000) (disch := (first | omega | (simp only [St.new_nx, St.set_nx, St.del_nx, St.bump_nx]; done) | (simp only [St.new_nx, St.set_nx, St.del_nx, St.bump_nx]; omega) | fail)) [h3, hT, hkp])
        all_goals omega
    simp (implicitDefEqProofs := false) (maxSteps := 2000000) (disch := (first | omega | (simp only [St.new_nx, St.set_nx, St.del_nx, St.bump_nx]; done) | (simp only [St.new_nx, St.set_nx, St.del_nx, St.bump_nx]; omega) | fail)) [a7r2]
    refine go_pure h13 fun mm5 hm5 => ?_
    try simp only [St.new_nx, St.bump_nx, St.set_nx, St.del_nx] at hm5
    simp (implicitDefEqProofs := false) (maxSteps := 2000000) (disch := (first | omega | (simp only [St.new_nx, St.set_nx, St.del_nx, St.bump_nx]; done) | (simp only [St.new_nx, St.set_nx, St.del_nx, St.bump_nx]; omega) | fail)) [a7r4]
    have h19 := p19 t D 0
    rw [if_pos ⟨hp, by omega, by omega, by omega, by omega⟩, lost_shf _ _ hp, shf_up D (by omega) t (.of hp) 0] at h19
    simp only [Bool.not_true, Bool.false_eq_true, if_false] at h19
    by_cases hpm : proper (moved t D 0) = true
    · rw [fin, if_pos hpm] at h19
      have hbk := shf_back D (by omega) t (.of hp) 0
      rw [← moved_shf (D : Int) 0 hp] at hbk
      have h19b := p19 (moved t D 0) (-D) 0
      rw [if_pos ⟨hpm, by omega, by omega, by omega, by omega⟩, lost_shf _ _ hpm, moved_shf (-D) 0 hpm, hbk] at h19b
      have hft : fin t = .tup [t.av, .int .i64 0] := by rw [fin, if_pos hp]
      simp only [Bool.not_true, Bool.false_eq_true, if_false, hft] at h19b
      have h12 := p12 (moved t D 0) (List.replicate D tInt)
      have hpb : putted (moved t D 0) (List.replicate D tInt) = t := by
        have := put_back (List.replicate D tInt) t (.of hp) 0 (by omega)
        rw [List.length_replicate] at this
        rw [moved_shf _ _ hp]
        exact this
      rw [if_pos (by rw [hpm, tInts D hD]; rfl), hpb, hft] at h12
      have h31 := p31 t (proper_lim hp) t
      rw [same_refl] at h31
      generalize moved t D 0 = M at *
      have wn : IntKind.i64.wrap (-(D : Int)) = -(D : Int) := wrap64 (by omega) (by omega)
      refine go_pure h19 fun mm6 hm6 => ?_
      try simp only [St.new_nx, St.bump_nx, St.set_nx, St.del_nx] at hm6
      simp (implicitDefEqProofs := false) (maxSteps := 2000000) (disch := (first | omega | (simp only [St.new_nx, St.set_nx, St.del_nx, St.bump_nx]; done) | (simp only [St.new_nx, St.set_nx, St.del_nx, St.bump_nx]; omega) | fail)) [a7r5, a7r6, wn]
      refine go_pure h19b fun mm7 hm7 => ?_
      try simp only [St.new_nx, St.bump_nx, St.set_nx, St.del_nx] at hm7
      simp (implicitDefEqProofs := false) (maxSteps := 2000000) (disch := (first | omega | (simp only [St.new_nx, St.set_nx, St.del_nx, St.bump_nx]; done) | (simp only [St.new_nx, St.set_nx, St.del_nx, St.bump_nx]; omega) | fail)) [a7r7, a7r8]
      refine some7 t M t D hD mm6 mm7 0 l0 s _ _ _ (by omega) (by omega) ⟨0, 0, .full, by omega, by omega, ?_, ?_, ?_, .inl ⟨rfl, rfl, rfl⟩, ?_, ?_, ?_, ?_, ?_, ?_, ?_, ?_, ?_, ?_, ?_, ?_⟩ fun g s1 hE => ?_
      rotate_right
      · obtain ⟨⟨sz, tok, h11, hsz⟩, h7, h9, h10, h2, hU, hV, hu, hv, h3, hT, hkp, hn⟩ := hE
        simp (implicitDefEqProofs := false) (maxSteps := 2000000) (disch := (first | omega | (simp only [St.new_nx, St.set_nx, St.del_nx, St.bump_nx]; done) | (simp only [St.new_nx, St.set_nx, St.del_nx, St.bump_nx]; omega) | fail)) [a7r13, h11, h7, hU]
        refine go_pure (PureC.argw h12 ?_) fun m8 hm8 => ?_
        · simp only [wkL_cons, wk_rfl, wk_list, wkL_nil, wkL_rfl, true_and, and_true]
          have hmr : (List.replicate D tInt).map av = List.replicate D tInt.av := List.map_replicate
          rw [hmr] at hsz ⊢
          exact ⟨hsz, wkL_refl _⟩
        try simp only [St.new_nx, St.bump_nx, St.set_nx, St.del_nx] at hm8
        simp (implicitDefEqProofs := false) (maxSteps := 2000000) (disch := (first | omega | (simp only [St.new_nx, St.set_nx, St.del_nx, St.bump_nx]; done) | (simp only [St.new_nx, St.set_nx, St.del_nx, St.bump_nx]; omega) | fail)) [a7r14, h10, h9, hV, h3, hT]
        refine go_pure h31 fun mm8 hm8 => ?_
        try simp only [St.new_nx, St.bump_nx, St.set_nx, St.del_nx] at hm8
        simp (implicitDefEqProofs := false) (maxSteps := 2000000) (disch := (first | omega | (simp only [St.new_nx, St.set_nx, St.del_nx, St.bump_nx]; done) | (simp only [St.new_nx, St.set_nx, St.del_nx, St.bump_nx]; omega) | fail)) [h3, hT]
        refine go_pure h31 fun mm9 hm9 => ?_
        try simp only [St.new_nx, St.bump_nx, St.set_nx, St.del_nx] at hm9
        simp (implicitDefEqProofs := false) (maxSteps := 2000000) (disch := (first | omega | (simp only [St.new_nx, St.set_nx, St.del_nx, St.bump_nx]; done) | (simp only [St.new_nx, St.set_nx, St.del_nx, St.bump_nx]; omega) | fail))
        refine half _ _ ?_ ⟨?_, ?_, ?_, ?_⟩
        all_goals (try simp (implicitDefEqProofs := false) (maxSteps := 2000000) (disch := (first | omega | (simp only [St.new_nx, St.set_nx, St.del_nx, St.bump_nx]; done) | (simp only [St.new_nx, St.set_nx, St.del_nx, St.bump_nx]; omega) | fail)) [h2, h3, hT, hkp])
        all_goals omega
      all_goals (try simp (implicitDefEqProofs := false) (maxSteps := 2000000) (disch := (first | omega | (simp only [St.new_nx, St.set_nx, St.del_nx, St.bump_nx]; done) | (simp only [St.new_nx, St.set_nx, St.del_nx, St.bump_nx]; omega) | fail)))
      all_goals omega
    · rw [fin, if_neg hpm] at h19
      refine go_pure h19 fun mm10 hm10 => ?_
      try simp only [St.new_nx, St.bump_nx, St.set_nx, St.del_nx] at hm10
      simp (implicitDefEqProofs := false) (maxSteps := 2000000) (disch := (first | omega | (simp only [St.new_nx, St.set_nx, St.del_nx, St.bump_nx]; done) | (simp only [St.new_nx, St.set_nx, St.del_nx, St.bump_nx]; omega) | fail)) [a7r5]
      refine half _ _ ?_ ⟨?_, ?_, ?_, ?_⟩
      all_goals (try simp (implicitDefEqProofs := false) (maxSteps := 2000000) (disch := (first | omega | (simp only [St.new_nx, St.set_nx, St.del_nx, St.bump_nx]; done) | (simp only [St.new_nx, St.set_nx, St.del_nx, St.bump_nx]; omega) | fail)))
      all_goals omega
  · have hp' : proper t = false := by simpa using hp
    rw [hp'] at h13
    simp (implicitDefEqProofs := false) (maxSteps := 2000000) (disch := (first | omega | (simp only [St.new_nx, St.set_nx, St.del_nx, St.bump_nx]; done) | (simp only [St.new_nx, St.set_nx, St.del_nx, St.bump_nx]; omega) | fail)) [a7r2]
    refine go_pure h13 fun mm11 hm11 => ?_
    try simp only [St.new_nx, St.bump_nx, St.set_nx, St.del_nx] at hm11
    simp (implicitDefEqProofs := false) (maxSteps := 2000000) (disch := (first | omega | (simp only [St.new_nx, St.set_nx, St.del_nx, St.bump_nx]; done) | (simp only [St.new_nx, St.set_nx, St.del_nx, St.bump_nx]; omega) | fail)) [a7r3]
    refine go_pure p16 fun mm12 hm12 => ?_
    try simp only [St.new_nx, St.bump_nx, St.set_nx, St.del_nx] at hm12
    simp (implicitDefEqProofs := false) (maxSteps := 2000000) (disch := (first | omega | (simp only [St.new_nx, St.set_nx, St.del_nx, St.bump_nx]; done) | (simp only [St.new_nx, St.set_nx, St.del_nx, St.bump_nx]; omega) | fail))
end Go.AL.Ty
/- Arguments of functions, split off. -/
set_option linter.unusedVariables false
set_option linter.unusedSimpArgs false
namespace Go.AL.Ty
open Go Go.Proofs

def I70 (R : List Ty × Ty) (s : St) (n : Nat) (g : Env) (s1 : St) : Prop :=
  ∃ (c : Ty) (acc : List Ty) (sz : Nat) (tok : Tok), Gd c ∧ ht c ≤ n ∧ acc.length + n ≤ 1000000 ∧ splt n c acc = R ∧ g.get 4 = .list sz tok (acc.map av) ∧ g.get 1 = .ptr s.nx 0 ∧ g.get 3 = .ptr (s.nx + 1) 0 ∧
    s1.m s.nx = some (.box [.int .i64 c.op, .int .i64 c.n, .str c.s, .list 4 .none (c.args.map av)]) ∧ s1.m (s.nx + 1) = some (.box [.int .i64 0, .int .i64 0, .str ⟨#[]⟩, .list 0 .full []]) ∧
    own2 s.nx (s.nx + 1) acc.length sz tok s1 ∧ s.nx + 1 < s1.nx ∧ Kept s s1
theorem ht_pos (t : Ty) : 1 ≤ ht t := by cases t; simp [ht]
theorem own_wk {a b k sz : Nat} {tok : Tok} {s1 : St} {l : List Ty} (h : own2 a b k sz tok s1) (hk : l.length = k) : sz = 4 ∨ l.map av = [] := by
  rcases h with ⟨h0, _, _⟩ | ⟨h4, _⟩
  · right
    have : l = [] := List.length_eq_zero_iff.1 (by omega)
    rw [this]; rfl
  · exact .inl h4
def argsOf (t : Ty) : List Ty × Ty := splt t.ht t []

theorem p70 (t : Ty) (hg : Gd t) (hf : ht t ≤ 1000000) : PureC Try.prog 70 [t.av] (.tup [.list 4 .none ((argsOf t).1.map av), (argsOf t).2.av]) := by
  refine PureC.intro fun s => fun_sound mixed Try.func70 Try.call70 c70 rfl (awpFun_go _ _ _ _ ?_)
  generalize hR : argsOf t = R
  rw [argsOf] at hR
  simp (implicitDefEqProofs := false) (maxSteps := 2000000) (disch := (first | omega | (simp only [St.new_nx, St.set_nx, St.del_nx, St.bump_nx]; done) | (simp only [St.new_nx, St.set_nx, St.del_nx, St.bump_nx]; omega) | fail)) [a70, a70b, a70r0, a70r1]
  refine go_loop (I70 R s) t.ht ⟨t, [], 0, .full, hg, by omega, by simp; omega, hR, ?_, ?_, ?_, ?_, ?_, .inl ⟨rfl, rfl, rfl⟩, ?_, ?_⟩ ?_
  iterate 7 (simp (implicitDefEqProofs := false) (maxSteps := 2000000) (disch := (first | omega | (simp only [St.new_nx, St.set_nx, St.del_nx, St.bump_nx]; done) | (simp only [St.new_nx, St.set_nx, St.del_nx, St.bump_nx]; omega) | fail)))
  rintro n g s1 ⟨c, acc, sz, tok, hc, hn, hac, hh, h4, h1, h3, hC, hZ, hown, hlt, hk⟩
  have hpos := ht_pos c
  obtain ⟨m, rfl⟩ : ∃ m, n = m + 1 := ⟨n - 1, by omega⟩
  have h112 := p112 c arr hc
  rw [splt] at hh
  rw [pairR] at h112
  cases hpo : pairOf arr c with
  | none =>
    rw [hpo] at hh h112
    simp only at hh h112
    subst hh
    simp (implicitDefEqProofs := false) (maxSteps := 2000000) (disch := (first | omega | (simp only [St.new_nx, St.set_nx, St.del_nx, St.bump_nx]; done) | (simp only [St.new_nx, St.set_nx, St.del_nx, St.bump_nx]; omega) | fail)) [a70l6, a70r2, h1, h3, h4, hC, hZ]
    refine go_pure h112 fun mm1 hm1 => ?_
    try simp only [St.new_nx, St.bump_nx, St.set_nx, St.del_nx] at hm1
    simp (implicitDefEqProofs := false) (maxSteps := 2000000) (disch := (first | omega | (simp only [St.new_nx, St.set_nx, St.del_nx, St.bump_nx]; done) | (simp only [St.new_nx, St.set_nx, St.del_nx, St.bump_nx]; omega) | fail)) [a70r3, a70r4, h1, h3, h4, hC, hZ]
    intro _ _
    have := own_wk hown rfl
    simp only [List.map_eq_nil_iff] at this
    exact ⟨this, hk⟩
  | some x =>
    obtain ⟨a, b⟩ := x
    rw [hpo] at hh h112
    simp only at hh h112
    obtain ⟨ha, hb, hht⟩ := pairOf_ht hc hpo
    simp (implicitDefEqProofs := false) (maxSteps := 2000000) (disch := (first | omega | (simp only [St.new_nx, St.set_nx, St.del_nx, St.bump_nx]; done) | (simp only [St.new_nx, St.set_nx, St.del_nx, St.bump_nx]; omega) | fail)) [a70l6, a70r2, h1, h3, h4, hC, hZ]
    refine go_pure h112 fun mm2 hm2 => ?_
    try simp only [St.new_nx, St.bump_nx, St.set_nx, St.del_nx] at hm2
    simp (implicitDefEqProofs := false) (maxSteps := 2000000) (disch := (first | omega | (simp only [St.new_nx, St.set_nx, St.del_nx, St.bump_nx]; done) | (simp only [St.new_nx, St.set_nx, St.del_nx, St.bump_nx]; omega) | fail)) [a70r3, a70r5, h1, h3, h4, hC, hZ]
    rcases hown with ⟨h0, rfl, rfl⟩ | ⟨rfl, q, rfl, hq, hq2, hq3, hq4⟩
    · have hA : acc = [] := List.length_eq_zero_iff.1 h0
      subst hA
      simp only [List.map_nil, List.nil_append] at h4 hh ⊢
      simp (implicitDefEqProofs := false) (maxSteps := 2000000) (disch := (first | omega | (simp only [St.new_nx, St.set_nx, St.del_nx, St.bump_nx]; done) | (simp only [St.new_nx, St.set_nx, St.del_nx, St.bump_nx]; omega) | fail)) [h1, h3, hC, hZ]
      intro m3 hm3
      refine go_next m (by omega) ⟨b, [a], 4, .own (mm2 + 1 + 1), hb, by omega, by simp; omega, hh, ?_, ?_, ?_, ?_, ?_, .inr ⟨rfl, _, rfl, ?_, ?_, ?_, ?_⟩, ?_, ?_⟩
      all_goals (try simp (implicitDefEqProofs := false) (maxSteps := 2000000) (disch := (first | omega | (simp only [St.new_nx, St.set_nx, St.del_nx, St.bump_nx]; done) | (simp only [St.new_nx, St.set_nx, St.del_nx, St.bump_nx]; omega) | fail)) [h1, h3, hZ, hk])
      all_goals omega
    · have hlo : (acc.map av).length = acc.length := by simp
      simp (implicitDefEqProofs := false) (maxSteps := 2000000) (disch := (first | omega | (simp only [St.new_nx, St.set_nx, St.del_nx, St.bump_nx]; done) | (simp only [St.new_nx, St.set_nx, St.del_nx, St.bump_nx]; omega) | fail)) [h1, h3, hC, hZ, hq, hlo]
      intro m3 hm3
      refine go_next m (by omega) ⟨b, acc ++ [a], 4, .own (mm2 + 1 + 1), hb, by omega, by simp; omega, hh, ?_, ?_, ?_, ?_, ?_, .inr ⟨rfl, _, rfl, ?_, ?_, ?_, ?_⟩, ?_, ?_⟩
      all_goals (try simp (implicitDefEqProofs := false) (maxSteps := 2000000) (disch := (first | omega | (simp only [St.new_nx, St.set_nx, St.del_nx, St.bump_nx]; done) | (simp only [St.new_nx, St.set_nx, St.del_nx, St.bump_nx]; omega) | fail)) [h1, h3, hZ, hk])
      all_goals (try simp)
      all_goals omega
theorem p30 (t : Ty) (hg : Gd t) (hf : ht t ≤ 1000000) : PureC Try.prog 30 [t.av] (.tup [.list 4 .none ((argsOf t).1.map av), (argsOf t).2.av]) := by
  refine PureC.intro fun s => fun_sound mixed Try.func30 Try.call30 c30 rfl (awpFun_go _ _ _ _ ?_)
  generalize hR : argsOf t = R
  rw [argsOf] at hR
  simp (implicitDefEqProofs := false) (maxSteps := 2000000) (disch := (first | omega | (simp only [St.new_nx, St.set_nx, St.del_nx, St.bump_nx]; done) | (simp only [St.new_nx, St.set_nx, St.del_nx, St.bump_nx]; omega) | fail)) [a30, a30b, a30r0, a30r1]
  refine go_loop (I70 R s) t.ht ⟨t, [], 0, .full, hg, by omega, by simp; omega, hR, ?_, ?_, ?_, ?_, ?_, .inl ⟨rfl, rfl, rfl⟩, ?_, ?_⟩ ?_
  iterate 7 (simp (implicitDefEqProofs := false) (maxSteps := 2000000) (disch := (first | omega | (simp only [St.new_nx, St.set_nx, St.del_nx, St.bump_nx]; done) | (simp only [St.new_nx, St.set_nx, St.del_nx, St.bump_nx]; omega) | fail)))
  rintro n g s1 ⟨c, acc, sz, tok, hc, hn, hac, hh, h4, h1, h3, hC, hZ, hown, hlt, hk⟩
  have hpos := ht_pos c
  obtain ⟨m, rfl⟩ : ∃ m, n = m + 1 := ⟨n - 1, by omega⟩
  have h112 := p73 c hc
  rw [splt] at hh
  rw [pairR] at h112
  cases hpo : pairOf arr c with
  | none =>
    rw [hpo] at hh h112
    simp only at hh h112
    subst hh
    simp (implicitDefEqProofs := false) (maxSteps := 2000000) (disch := (first | omega | (simp only [St.new_nx, St.set_nx, St.del_nx, St.bump_nx]; done) | (simp only [St.new_nx, St.set_nx, St.del_nx, St.bump_nx]; omega) | fail)) [a30l7, a30r2, h1, h3, h4, hC, hZ]
    refine go_pure h112 fun mm3 hm3 => ?_
    try simp only [St.new_nx, St.bump_nx, St.set_nx, St.del_nx] at hm3
    simp (implicitDefEqProofs := false) (maxSteps := 2000000) (disch := (first | omega | (simp only [St.new_nx, St.set_nx, St.del_nx, St.bump_nx]; done) | (simp only [St.new_nx, St.set_nx, St.del_nx, St.bump_nx]; omega) | fail)) [a30r3, a30r4, h1, h3, h4, hC, hZ]
    intro _ _
    have := own_wk hown rfl
    simp only [List.map_eq_nil_iff] at this
    exact ⟨this, hk⟩
  | some x =>
    obtain ⟨a, b⟩ := x
    rw [hpo] at hh h112
    simp only at hh h112
    obtain ⟨ha, hb, hht⟩ := pairOf_ht hc hpo
    simp (implicitDefEqProofs := false) (maxSteps := 2000000) (disch := (first | omega | (simp only [St.new_nx, St.set_nx, St.del_nx, St.bump_nx]; done) | (simp only [St.new_nx, St.set_nx, St.del_nx, St.bump_nx]; omega) | fail)) [a30l7, a30r2, h1, h3, h4, hC, hZ]
    refine go_pure h112 fun mm4 hm4 => ?_
    try simp only [St.new_nx, St.bump_nx, St.set_nx, St.del_nx] at hm4
    simp (implicitDefEqProofs := false) (maxSteps := 2000000) (disch := (first | omega | (simp only [St.new_nx, St.set_nx, St.del_nx, St.bump_nx]; done) | (simp only [St.new_nx, St.set_nx, St.del_nx, St.bump_nx]; omega) | fail)) [a30r3, a30r5, a30r6, h1, h3, h4, hC, hZ]
    rcases hown with ⟨h0, rfl, rfl⟩ | ⟨rfl, q, rfl, hq, hq2, hq3, hq4⟩
    · have hA : acc = [] := List.length_eq_zero_iff.1 h0
      subst hA
      simp only [List.map_nil, List.nil_append] at h4 hh ⊢
      simp (implicitDefEqProofs := false) (maxSteps := 2000000) (disch := (first | omega | (simp only [St.new_nx, St.set_nx, St.del_nx, St.bump_nx]; done) | (simp only [St.new_nx, St.set_nx, St.del_nx, St.bump_nx]; omega) | fail)) [h1, h3, hC, hZ]
      refine go_next m (by omega) ⟨b, [a], 4, .own (mm4 + 1 + 1), hb, by omega, by simp; omega, hh, ?_, ?_, ?_, ?_, ?_, .inr ⟨rfl, _, rfl, ?_, ?_, ?_, ?_⟩, ?_, ?_⟩
      all_goals (try simp (implicitDefEqProofs := false) (maxSteps := 2000000) (disch := (first | omega | (simp only [St.new_nx, St.set_nx, St.del_nx, St.bump_nx]; done) | (simp only [St.new_nx, St.set_nx, St.del_nx, St.bump_nx]; omega) | fail)) [h1, h3, hZ, hk])
      all_goals omega
    · have hlo : (acc.map av).length = acc.length := by simp
      simp (implicitDefEqProofs := false) (maxSteps := 2000000) (disch := (first | omega | (simp only [St.new_nx, St.set_nx, St.del_nx, St.bump_nx]; done) | (simp only [St.new_nx, St.set_nx, St.del_nx, St.bump_nx]; omega) | fail)) [h1, h3, hC, hZ, hq, hlo]
      refine go_next m (by omega) ⟨b, acc ++ [a], 4, .own (mm4 + 1 + 1), hb, by omega, by simp; omega, hh, ?_, ?_, ?_, ?_, ?_, .inr ⟨rfl, _, rfl, ?_, ?_, ?_, ?_⟩, ?_, ?_⟩
      all_goals (try simp (implicitDefEqProofs := false) (maxSteps := 2000000) (disch := (first | omega | (simp only [St.new_nx, St.set_nx, St.del_nx, St.bump_nx]; done) | (simp only [St.new_nx, St.set_nx, St.del_nx, St.bump_nx]; omega) | fail)) [h1, h3, hZ, hk])
      all_goals (try simp)
      all_goals omega

theorem p26 (t : Ty) : PureC Try.prog 26 [t.av] (if proper t then .tup [.list 4 .none ((argsOf t).1.map av), (argsOf t).2.av, .int .i64 0] else .tup [.list 4 .none [], nul.av, .int .i64 2]) := by
  refine PureC.intro fun s => fun_sound mixed Try.func26 Try.call26 c26 rfl (awpFun_go _ _ _ _ ?_)
  by_cases hp : proper t = true
  · rw [if_pos hp]
    have h53 := p53 t
    rw [hp] at h53
    have hf := (proper_fit hp).2
    have h70 := p70 t (.of hp) (by omega)
    generalize argsOf t = R at *
    obtain ⟨l, r⟩ := R
    simp only at h70 ⊢
    simp (implicitDefEqProofs := false) (maxSteps := 2000000) (disch := (first | omega | (simp only [St.new_nx, St.set_nx, St.del_nx, St.bump_nx]; done) | (simp only [St.new_nx, St.set_nx, St.del_nx, St.bump_nx]; omega) | fail)) [a26, a26b, a26r0, a26r1]
    refine go_pure h53 fun mm5 hm5 => ?_
    try simp only [St.new_nx, St.bump_nx, St.set_nx, St.del_nx] at hm5
    simp (implicitDefEqProofs := false) (maxSteps := 2000000) (disch := (first | omega | (simp only [St.new_nx, St.set_nx, St.del_nx, St.bump_nx]; done) | (simp only [St.new_nx, St.set_nx, St.del_nx, St.bump_nx]; omega) | fail)) [a26r3]
    refine go_pure (p69 t (proper_fit hp)) fun mm6 hm6 => ?_
    try simp only [St.new_nx, St.bump_nx, St.set_nx, St.del_nx] at hm6
    simp (implicitDefEqProofs := false) (maxSteps := 2000000) (disch := (first | omega | (simp only [St.new_nx, St.set_nx, St.del_nx, St.bump_nx]; done) | (simp only [St.new_nx, St.set_nx, St.del_nx, St.bump_nx]; omega) | fail))
    refine go_pure h70 fun mm7 hm7 => ?_
    try simp only [St.new_nx, St.bump_nx, St.set_nx, St.del_nx] at hm7
    simp (implicitDefEqProofs := false) (maxSteps := 2000000) (disch := (first | omega | (simp only [St.new_nx, St.set_nx, St.del_nx, St.bump_nx]; done) | (simp only [St.new_nx, St.set_nx, St.del_nx, St.bump_nx]; omega) | fail)) [a26r4]
  · rw [if_neg hp]
    have h53 := p53 t
    have hp' : proper t = false := by simpa using hp
    rw [hp'] at h53
    simp (implicitDefEqProofs := false) (maxSteps := 2000000) (disch := (first | omega | (simp only [St.new_nx, St.set_nx, St.del_nx, St.bump_nx]; done) | (simp only [St.new_nx, St.set_nx, St.del_nx, St.bump_nx]; omega) | fail)) [a26, a26b, a26r0, a26r1]
    refine go_pure h53 fun mm8 hm8 => ?_
    try simp only [St.new_nx, St.bump_nx, St.set_nx, St.del_nx] at hm8
    simp (implicitDefEqProofs := false) (maxSteps := 2000000) (disch := (first | omega | (simp only [St.new_nx, St.set_nx, St.del_nx, St.bump_nx]; done) | (simp only [St.new_nx, St.set_nx, St.del_nx, St.bump_nx]; omega) | fail)) [a26r2, nul, av_mk]
end Go.AL.Ty
