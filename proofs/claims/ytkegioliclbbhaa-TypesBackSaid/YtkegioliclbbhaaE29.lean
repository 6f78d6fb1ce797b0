/- TypesBack. -/
import Derived.Test.YtkegioliclbbhaaE28
set_option linter.unusedVariables false
set_option linter.unusedSimpArgs false
namespace Go.AL.Ty
open Go Go.Proofs

def own2 (a b : Nat) (i : Nat) (sz : Nat) (tok : Tok) (s1 : St) : Prop := (i = 0 ∧ sz = 0 ∧ tok = .full) ∨ (sz = 4 ∧ ∃ q, tok = .own q ∧ s1.m q = some (.spare (i * 4)) ∧ q < s1.nx ∧ a < q ∧ b < q)
def B7 (t u v : Ty) (ou ov : Nat) (f : Int) (l : List Int) (s : St) (g : Env) (s1 : St) : Prop :=
    g.get 7 = .ptr ou 0 ∧ g.get 9 = .ptr ov 0 ∧ g.get 10 = .int .i64 f ∧ g.get 2 = .list 1 .none (il l) ∧
    s1.m ou = some (.box [.int .i64 u.op, .int .i64 u.n, .str u.s, .list 4 .none (u.args.map av)]) ∧ s1.m ov = some (.box [.int .i64 v.op, .int .i64 v.n, .str v.s, .list 4 .none (v.args.map av)]) ∧ ou < s1.nx ∧ ov < s1.nx ∧ S7 t s g s1
def I7a (t u v : Ty) (D : Nat) (ou ov : Nat) (f : Int) (l : List Int) (s : St) (n : Nat) (g : Env) (s1 : St) : Prop :=
  ∃ (k sz : Nat) (tok : Tok), k ≤ D ∧ n = D - k ∧ g.get 46 = .int .i64 D ∧ g.get 47 = .int .i64 k ∧ g.get 11 = .list sz tok ((List.replicate k tInt).map av) ∧ own2 ou ov k sz tok s1 ∧ B7 t u v ou ov f l s g s1
def E7a (t u v : Ty) (D : Nat) (ou ov : Nat) (f : Int) (l : List Int) (s : St) (g : Env) (s1 : St) : Prop :=
  (∃ sz tok, g.get 11 = .list sz tok ((List.replicate D tInt).map av) ∧ (sz = 4 ∨ (List.replicate D tInt).map av = [])) ∧ B7 t u v ou ov f l s g s1
theorem some7 (t u v : Ty) (D : Nat) (hD2 : D < 40) (ou ov : Nat) (f : Int) (l : List Int) (s : St) (G : Env) (S : St) (Q : AExit → Env → St → Prop) (hou : s.nx < ou) (hov : s.nx < ov) (h : I7a t u v D ou ov f l s D G S)
    (hQ : ∀ g s1, E7a t u v D ou ov f l s g s1 → go (Q .normal g s1)) : go (awp Try.prog (.loop a7l12) (blockQ 0 Q) G S) := by
  refine go_loop (I7a t u v D ou ov f l s) D h ?_
  rintro n g s1 ⟨k, sz, tok, hk, rfl, h46, h47, h11, hown, h7, h9, h10, h2, hU, hV, hu, hv, hS⟩
  have hS' := hS
  obtain ⟨h3, hT, hkp, hn⟩ := hS'
  by_cases hlt : k < D
  · have w2 : IntKind.i64.wrap ((k : Int) + 1) = ((k + 1 : Nat) : Int) := by rw [wrap64 (by omega) (by omega)]; omega
    have hlt' : (k : Int) < D := by omega
    have hta : (List.replicate (k + 1) tInt).map av = (List.replicate k tInt).map av ++ [tInt.av] := by
      rw [List.replicate_succ', List.map_append]; rfl
    have hlo : ((List.replicate k tInt).map av).length = k := by simp
    have h35 := p35 ⟨#[73, 110, 116]⟩
    have hti : (mk 2 0 ⟨#[73, 110, 116]⟩ []) = tInt := rfl
    rw [hti] at h35
    generalize (List.replicate k tInt).map av = A at *
    simp (implicitDefEqProofs := false) (maxSteps := 2000000) (disch := (first | omega | (simp only [St.new_nx, St.set_nx, St.del_nx, St.bump_nx]; done) | (simp only [St.new_nx, St.set_nx, St.del_nx, St.bump_nx]; omega) | fail)) [a7l12, a7r9, a7r10, a7r11, h46, h47, h11, hlt', hlt]
    rcases hown with ⟨rfl, rfl, rfl⟩ | ⟨rfl, q, rfl, hq, hq2, hq3, hq4⟩
    · have hA : A = [] := List.length_eq_zero_iff.1 hlo
      subst hA
      simp only [List.nil_append] at hta
      refine go_pure h35 fun mm1 hm1 => ?_
      try simp only [St.new_nx, St.bump_nx, St.set_nx, St.del_nx] at hm1
      simp (implicitDefEqProofs := false) (maxSteps := 2000000) (disch := (first | omega | (simp only [St.new_nx, St.set_nx, St.del_nx, St.bump_nx]; done) | (simp only [St.new_nx, St.set_nx, St.del_nx, St.bump_nx]; omega) | fail)) [h11, h47, w2, show IntKind.i64.wrap 1 = 1 from rfl]
      rw [← hta]
      refine go_next (D - 1) (by omega) ⟨1, 4, .own mm1, by omega, rfl, ?_, ?_, ?_, .inr ⟨rfl, _, rfl, ?_, ?_, ?_, ?_⟩, ?_, ?_, ?_, ?_, ?_, ?_, ?_, ?_, ?_, ?_, ?_, ?_⟩
      all_goals (try simp (implicitDefEqProofs := false) (maxSteps := 2000000) (disch := (first | omega | (simp only [St.new_nx, St.set_nx, St.del_nx, St.bump_nx]; done) | (simp only [St.new_nx, St.set_nx, St.del_nx, St.bump_nx]; omega) | fail)) [h46, h47, h7, h9, h10, h2, hU, hV, h3, hT, hkp])
      all_goals omega
    · refine go_pure h35 fun mm2 hm2 => ?_
      try simp only [St.new_nx, St.bump_nx, St.set_nx, St.del_nx] at hm2
      simp (implicitDefEqProofs := false) (maxSteps := 2000000) (disch := (first | omega | (simp only [St.new_nx, St.set_nx, St.del_nx, St.bump_nx]; done) | (simp only [St.new_nx, St.set_nx, St.del_nx, St.bump_nx]; omega) | fail)) [h11, h47, w2, hq, hlo]
      rw [← hta]
      refine go_next (D - (k + 1)) (by omega) ⟨k + 1, 4, .own mm2, by omega, rfl, ?_, ?_, ?_, .inr ⟨rfl, _, rfl, ?_, ?_, ?_, ?_⟩, ?_, ?_, ?_, ?_, ?_, ?_, ?_, ?_, ?_, ?_, ?_, ?_⟩
      all_goals (try simp (implicitDefEqProofs := false) (maxSteps := 2000000) (disch := (first | omega | (simp only [St.new_nx, St.set_nx, St.del_nx, St.bump_nx]; done) | (simp only [St.new_nx, St.set_nx, St.del_nx, St.bump_nx]; omega) | fail)) [h46, h47, h7, h9, h10, h2, hU, hV, h3, hT, hkp])
      all_goals omega
  · have hke : k = D := by omega
    subst hke
    have hlt' : ¬ (k : Int) < k := by omega
    simp (implicitDefEqProofs := false) (maxSteps := 2000000) (disch := (first | omega | (simp only [St.new_nx, St.set_nx, St.del_nx, St.bump_nx]; done) | (simp only [St.new_nx, St.set_nx, St.del_nx, St.bump_nx]; omega) | fail)) [a7l12, a7r9, h46, h47, hlt']
    refine hQ _ _ ⟨⟨sz, tok, ?_, ?_⟩, ?_, ?_, ?_, ?_, hU, hV, hu, hv, ?_, hT, hkp, hn⟩
    · simp (implicitDefEqProofs := false) (maxSteps := 2000000) (disch := (first | omega | (simp only [St.new_nx, St.set_nx, St.del_nx, St.bump_nx]; done) | (simp only [St.new_nx, St.set_nx, St.del_nx, St.bump_nx]; omega) | fail)) [h11]
    · rcases hown with ⟨h0, _, _⟩ | ⟨h4, _⟩
      · right; rw [h0]; rfl
      · exact .inl h4
    all_goals simp (implicitDefEqProofs := false) (maxSteps := 2000000) (disch := (first | omega | (simp only [St.new_nx, St.set_nx, St.del_nx, St.bump_nx]; done) | (simp only [St.new_nx, St.set_nx, St.del_nx, St.bump_nx]; omega) | fail)) [h7, h9, h10, h2, h3]

theorem shf_up (d : Int) (hd : 0 ≤ d) (t : Ty) : Gd t → ∀ b, (shf d 0 t b).2 = true := by
  induction t using Ty.ind with
  | h t ih =>
    intro hg b
    have hs : ∀ (l : List Ty) (i : Nat) (b : Int), (∀ x ∈ l, ∀ b, (shf d 0 x b).2 = true) → (shfs d 0 t.op l i b).2 = true := by
      intro l
      induction l with
      | nil => intros; simp [shfs]
      | cons x xs ih2 =>
        intro i b h
        simp only [shfs]
        rw [h x (by simp), ih2 (i + 1) b fun y hy => h y (by simp [hy])]
        rfl
    rw [shf_eq]
    by_cases hc : t.op = 1 ∧ 0 ≤ t.n - b
    · rw [if_pos hc]
      simp only [decide_eq_true_eq]; omega
    · rw [if_neg hc]
      exact hs t.args 0 b fun x hx b => ih x hx (hg.spec.2 x hx) b

theorem tInts (D : Nat) (h : D < 40) : propers (List.replicate D tInt) = true := by
  simp only [propers, List.length_replicate, Bool.and_eq_true, decide_eq_true_eq, List.all_eq_true]
  refine ⟨by omega, fun x hx => ?_⟩
  rw [List.eq_of_mem_replicate hx]
  kernel_rfl

theorem p7 (t : Ty) (d : Int) (l0 : List Int) : PureC Try.prog 7 [t.av, .int .i64 d, .list 1 .none (il l0)] (.bool true) := by
  refine PureC.intro fun s => fun_sound mixed Try.func7 Try.call7 c7 rfl (awpFun_go _ _ _ _ ?_)
  simp (implicitDefEqProofs := false) (maxSteps := 2000000) (disch := (first | omega | (simp only [St.new_nx, St.set_nx, St.del_nx, St.bump_nx]; done) | (simp only [St.new_nx, St.set_nx, St.del_nx, St.bump_nx]; omega) | fail)) [a7, a7b, a7r0, a7r1]
  have hd := dd_bound d
  generalize IntKind.i64.wrap ((IntKind.u64.wrap d).tmod 40) = D0 at *
  obtain ⟨D, rfl⟩ : ∃ D : Nat, D0 = D := ⟨D0.toNat, by omega⟩
  have hD : D < 40 := by omega
  have el : List.take (if (20 : Int) < l0.length then (20 : Int) else l0.length).toNat (il l0) = il (l0.take 20) := by
    rw [il_take]
    split
    · rfl
    · congr 1
      rw [List.take_of_length_le (by omega), List.take_of_length_le (by omega)]
  have hl : (l0.take 20).length ≤ 20 := by rw [List.length_take]; omega
  generalize l0.take 20 = l at *
  have h13 := p13 t
  by_cases hp : proper t = true
  · rw [hp] at h13
    have half : ∀ (G : Env) (S : St), G.get 2 = .list 1 .none (il l0) → S7 t s G S →
        go (aops Try.prog a7r16 (regQ (seqQ Try.prog (((ACode.reg false a7r17).seq (.cond (.g 85) ((ACode.reg false a7r18).seq .ret) .skip)).seq (((ACode.reg false a7r19).seq (.block 2 (.loop a7l37))).seq ((ACode.reg false a7r38).seq .ret))) (finQ [.tmp (true, 6)] fun r' s' => wk r' (.bool true) ∧ Kept s s'))) G [] S) := by
      rintro G S h2 ⟨h3, hT, hkp, hn⟩
      simp (implicitDefEqProofs := false) (maxSteps := 2000000) (disch := (first | omega | (simp only [St.new_nx, St.set_nx, St.del_nx, St.bump_nx]; done) | (simp only [St.new_nx, St.set_nx, St.del_nx, St.bump_nx]; omega) | fail)) [a7r16, h2, el, a7r17]
      refine go_pure (p23 l (by omega)) fun mm3 hm3 => ?_
      try simp only [St.new_nx, St.bump_nx, St.set_nx, St.del_nx] at hm3
      simp (implicitDefEqProofs := false) (maxSteps := 2000000) (disch := (first | omega | (simp only [St.new_nx, St.set_nx, St.del_nx, St.bump_nx]; done) | (simp only [St.new_nx, St.set_nx, St.del_nx, St.bump_nx]; omega) | fail)) [h2]
      refine ⟨fun k => ?_, fun k1 k2 => ?_⟩
      · simp (implicitDefEqProofs := false) (maxSteps := 2000000) (disch := (first | omega | (simp only [St.new_nx, St.set_nx, St.del_nx, St.bump_nx]; done) | (simp only [St.new_nx, St.set_nx, St.del_nx, St.bump_nx]; omega) | fail)) [a7r18]
        refine go_pure p16 fun mm4 hm4 => ?_
        try simp only [St.new_nx, St.bump_nx, St.set_nx, St.del_nx] at hm4
        simp (implicitDefEqProofs := false) (maxSteps := 2000000) (disch := (first | omega | (simp only [St.new_nx, St.set_nx, St.del_nx, St.bump_nx]; done) | (simp only [St.new_nx, St.set_nx, St.del_nx, St.bump_nx]; omega) | fail)) [hkp]
      · simp (implicitDefEqProofs := false) (maxSteps := 2000000) (disch := (first | omega | (simp only [St.new_nx, St.set_nx, St.del_nx, St.bump_nx]; done) | (simp only [St.new_nx, St.set_nx, St.del_nx, St.bump_nx]; omega) | fail)) [a7r19]
        refine go_loop (I7b t l s) 2 ⟨0, by omega, rfl, ?_, ?_, ?_, ?_, ?_, ?_, ?_, ?_⟩ fun n g s1 h => half7 t hp l hl k2 s n g s1 h
        all_goals (try simp (implicitDefEqProofs := false) (maxSteps := 2000000) (disch := (first | omega | (simp only [St.new_nx, St.set_nx, St.del_nx, St.bump_nx]; done) | (simp only [St.new_nx, St.set_nx, St.del_nx, St.bump_nx]; omega) | fail)) [h3, hT, hkp])
        all_goals omega
    simp (implicitDefEqProofs := false) (maxSteps := 2000000) (disch := (first | omega | (simp only [St.new_nx, St.set_nx, St.del_nx, St.bump_nx]; done) | (simp only [St.new_nx, St.set_nx, St.del_nx, St.bump_nx]; omega) | fail)) [a7r2]
    refine go_pure h13 fun mm5 hm5 => ?_
    try simp only [St.new_nx, St.bump_nx, St.set_nx, St.del_nx] at hm5
    simp (implicitDefEqProofs := false) (maxSteps := 2000000) (disch := (first | omega | (simp only [St.new_nx, St.set_nx, St.del_nx, St.bump_nx]; done) | (simp only [St.new_nx, St.set_nx, St.del_nx, St.bump_nx]; omega) | fail)) [a7r4]
    have h19 := p19 t D 0
    rw [if_pos ⟨hp, by omega, by omega, by omega, by omega⟩, lost_shf _ _ hp, shf_up D (by omega) t (.of hp) 0] at h19
    simp only [Bool.not_true, Bool.false_eq_true, if_false] at h19
    by_cases hpm : proper (moved t D 0) = true
    · rw [fin, if_pos hpm] at h19
      have hbk := shf_back D (by omega) t (.of hp) 0
      rw [← moved_shf (D : Int) 0 hp] at hbk
      have h19b := p19 (moved t D 0) (-D) 0
      rw [if_pos ⟨hpm, by omega, by omega, by omega, by omega⟩, lost_shf _ _ hpm, moved_shf (-D) 0 hpm, hbk] at h19b
      have hft : fin t = .tup [t.av, .int .i64 0] := by rw [fin, if_pos hp]
      simp only [Bool.not_true, Bool.false_eq_true, if_false, hft] at h19b
      have h12 := p12 (moved t D 0) (List.replicate D tInt)
      have hpb : putted (moved t D 0) (List.replicate D tInt) = t := by
        have := put_back (List.replicate D tInt) t (.of hp) 0 (by omega)
        rw [List.length_replicate] at this
        rw [moved_shf _ _ hp]
        exact this
      rw [if_pos (by rw [hpm, tInts D hD]; rfl), hpb, hft] at h12
      have h31 := p31 t (proper_lim hp) t
      rw [same_refl] at h31
      generalize moved t D 0 = M at *
      have wn : IntKind.i64.wrap (-(D : Int)) = -(D : Int) := wrap64 (by omega) (by omega)
      refine go_pure h19 fun mm6 hm6 => ?_
      try simp only [St.new_nx, St.bump_nx, St.set_nx, St.del_nx] at hm6
      simp (implicitDefEqProofs := false) (maxSteps := 2000000) (disch := (first | omega | (simp only [St.new_nx, St.set_nx, St.del_nx, St.bump_nx]; done) | (simp only [St.new_nx, St.set_nx, St.del_nx, St.bump_nx]; omega) | fail)) [a7r5, a7r6, wn]
      refine go_pure h19b fun mm7 hm7 => ?_
      try simp only [St.new_nx, St.bump_nx, St.set_nx, St.del_nx] at hm7
      simp (implicitDefEqProofs := false) (maxSteps := 2000000) (disch := (first | omega | (simp only [St.new_nx, St.set_nx, St.del_nx, St.bump_nx]; done) | (simp only [St.new_nx, St.set_nx, St.del_nx, St.bump_nx]; omega) | fail)) [a7r7, a7r8]
      refine some7 t M t D hD mm6 mm7 0 l0 s _ _ _ (by omega) (by omega) ⟨0, 0, .full, by omega, by omega, ?_, ?_, ?_, .inl ⟨rfl, rfl, rfl⟩, ?_, ?_, ?_, ?_, ?_, ?_, ?_, ?_, ?_, ?_, ?_, ?_⟩ fun g s1 hE => ?_
      rotate_right
      · obtain ⟨⟨sz, tok, h11, hsz⟩, h7, h9, h10, h2, hU, hV, hu, hv, h3, hT, hkp, hn⟩ := hE
        simp (implicitDefEqProofs := false) (maxSteps := 2000000) (disch := (first | omega | (simp only [St.new_nx, St.set_nx, St.del_nx, St.bump_nx]; done) | (simp only [St.new_nx, St.set_nx, St.del_nx, St.bump_nx]; omega) | fail)) [a7r13, h11, h7, hU]
        refine go_pure (PureC.argw h12 ?_) fun m8 hm8 => ?_
        · simp only [wkL_cons, wk_rfl, wk_list, wkL_nil, wkL_rfl, true_and, and_true]
          have hmr : (List.replicate D tInt).map av = List.replicate D tInt.av := List.map_replicate
          rw [hmr] at hsz ⊢
          exact ⟨hsz, wkL_refl _⟩
        try simp only [St.new_nx, St.bump_nx, St.set_nx, St.del_nx] at hm8
        simp (implicitDefEqProofs := false) (maxSteps := 2000000) (disch := (first | omega | (simp only [St.new_nx, St.set_nx, St.del_nx, St.bump_nx]; done) | (simp only [St.new_nx, St.set_nx, St.del_nx, St.bump_nx]; omega) | fail)) [a7r14, h10, h9, hV, h3, hT]
        refine go_pure h31 fun mm8 hm8 => ?_
        try simp only [St.new_nx, St.bump_nx, St.set_nx, St.del_nx] at hm8
        simp (implicitDefEqProofs := false) (maxSteps := 2000000) (disch := (first | omega | (simp only [St.new_nx, St.set_nx, St.del_nx, St.bump_nx]; done) | (simp only [St.new_nx, St.set_nx, St.del_nx, St.bump_nx]; omega) | fail)) [h3, hT]
        refine go_pure h31 fun mm9 hm9 => ?_
        try simp only [St.new_nx, St.bump_nx, St.set_nx, St.del_nx] at hm9
        simp (implicitDefEqProofs := false) (maxSteps := 2000000) (disch := (first | omega | (simp only [St.new_nx, St.set_nx, St.del_nx, St.bump_nx]; done) | (simp only [St.new_nx, St.set_nx, St.del_nx, St.bump_nx]; omega) | fail))
        refine half _ _ ?_ ⟨?_, ?_, ?_, ?_⟩
        all_goals (try simp (implicitDefEqProofs := false) (maxSteps := 2000000) (disch := (first | omega | (simp only [St.new_nx, St.set_nx, St.del_nx, St.bump_nx]; done) | (simp only [St.new_nx, St.set_nx, St.del_nx, St.bump_nx]; omega) | fail)) [h2, h3, hT, hkp])
        all_goals omega
      all_goals (try simp (implicitDefEqProofs := false) (maxSteps := 2000000) (disch := (first | omega | (simp only [St.new_nx, St.set_nx, St.del_nx, St.bump_nx]; done) | (simp only [St.new_nx, St.set_nx, St.del_nx, St.bump_nx]; omega) | fail)))
      all_goals omega
    · rw [fin, if_neg hpm] at h19
      refine go_pure h19 fun mm10 hm10 => ?_
      try simp only [St.new_nx, St.bump_nx, St.set_nx, St.del_nx] at hm10
      simp (implicitDefEqProofs := false) (maxSteps := 2000000) (disch := (first | omega | (simp only [St.new_nx, St.set_nx, St.del_nx, St.bump_nx]; done) | (simp only [St.new_nx, St.set_nx, St.del_nx, St.bump_nx]; omega) | fail)) [a7r5]
      refine half _ _ ?_ ⟨?_, ?_, ?_, ?_⟩
      all_goals (try simp (implicitDefEqProofs := false) (maxSteps := 2000000) (disch := (first | omega | (simp only [St.new_nx, St.set_nx, St.del_nx, St.bump_nx]; done) | (simp only [St.new_nx, St.set_nx, St.del_nx, St.bump_nx]; omega) | fail)))
      all_goals omega
  · have hp' : proper t = false := by simpa using hp
    rw [hp'] at h13
    simp (implicitDefEqProofs := false) (maxSteps := 2000000) (disch := (first | omega | (simp only [St.new_nx, St.set_nx, St.del_nx, St.bump_nx]; done) | (simp only [St.new_nx, St.set_nx, St.del_nx, St.bump_nx]; omega) | fail)) [a7r2]
    refine go_pure h13 fun mm11 hm11 => ?_
    try simp only [St.new_nx, St.bump_nx, St.set_nx, St.del_nx] at hm11
    simp (implicitDefEqProofs := false) (maxSteps := 2000000) (disch := (first | omega | (simp only [St.new_nx, St.set_nx, St.del_nx, St.bump_nx]; done) | (simp only [St.new_nx, St.set_nx, St.del_nx, St.bump_nx]; omega) | fail)) [a7r3]
    refine go_pure p16 fun mm12 hm12 => ?_
    try simp only [St.new_nx, St.bump_nx, St.set_nx, St.del_nx] at hm12
    simp (implicitDefEqProofs := false) (maxSteps := 2000000) (disch := (first | omega | (simp only [St.new_nx, St.set_nx, St.del_nx, St.bump_nx]; done) | (simp only [St.new_nx, St.set_nx, St.del_nx, St.bump_nx]; omega) | fail))
end Go.AL.Ty
