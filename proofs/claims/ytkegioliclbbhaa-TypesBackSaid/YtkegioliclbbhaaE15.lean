/- Walks over types. -/
import Derived.Test.YtkegioliclbbhaaE14
set_option linter.unusedVariables false
set_option linter.unusedSimpArgs false
namespace Go.AL.Ty
open Go Go.Proofs

section
variable {σ : Type}
mutual
/-- What a walk does to a state: at each node, the parts after it. -/
def wlk (vis : Ty → Int → σ → σ) : Ty → Int → σ → σ
  | mk op n s args, b, x => wlks vis op args 0 b (vis (mk op n s args) b x)
def wlks (vis : Ty → Int → σ → σ) (op : Int) : List Ty → Nat → Int → σ → σ
  | [], _, _, x => x
  | t :: ts, i, b, x => wlks vis op ts (i + 1) b (wlk vis t (b + belw op i) x)
end
theorem wlk_eq (vis : Ty → Int → σ → σ) (t : Ty) (b : Int) (x : σ) : wlk vis t b x = wlks vis t.op t.args 0 b (vis t b x) := by cases t; rw [wlk]; rfl

/-- A function that is called at each node, and turns an object. -/
def Visits (vf : AV) (o : Nat) (ob : σ → AObj) (vis : Ty → Int → σ → σ) : Prop :=
  ∃ k a cap, vf = .fn k a cap ∧ ∀ (t : Ty) (b : Int) (x : σ) (s : St) (K : AV → St → Prop), Fit t b → s.m o = some (ob x) → o < s.nx → (∀ m, s.nx ≤ m → K (.bool true) ((s.set o (ob (vis t b x))).bump m)) →
    ACalls Try.prog k (a ++ [t.av, .int .i64 b] ++ cap) s K

def C104 (vf : AV) (o : Nat) (ob : σ → AObj) (vis : Ty → Int → σ → σ) (t : Ty) (b : Int) : Prop :=
  ∀ (x : σ) (ow : Nat) (s : St) (K : AV → St → Prop), s.m o = some (ob x) → s.m ow = some (.box [.fn 104 [] [.cptr [vf], .ptr ow 0]]) → o < s.nx → ow < s.nx → (o < ow ∨ ow < o) →
    (∀ m, s.nx ≤ m → K (.tup []) ((s.set o (ob (wlk vis t b x))).bump m)) → ACalls Try.prog 104 [t.av, .int .i64 b, .cptr [vf], .ptr ow 0] s K

def I104 (vf : AV) (ob : σ → AObj) (vis : Ty → Int → σ → σ) (t : Ty) (b : Int) (fin : σ) (s : St) (o ow oT : Nat) (n : Nat) (g : Env) (s1 : St) : Prop :=
  ∃ (i : Nat) (x : σ), i ≤ t.args.length ∧ n = t.args.length - i ∧ wlks vis t.op (t.args.drop i) i b x = fin ∧
    g.get 13 = .list 4 .none (t.args.map av) ∧ g.get 14 = .int .i64 t.args.length ∧ g.get 15 = .int .i64 i ∧ g.get 1 = .int .i64 b ∧ g.get 3 = .ptr ow 0 ∧ g.get 4 = .ptr oT 0 ∧
    s1.m oT = some (.box [.int .i64 t.op, .int .i64 t.n, .str t.s, .list 4 .none (t.args.map av)]) ∧ s1.m o = some (ob x) ∧ s1.m ow = some (.box [.fn 104 [] [.cptr [vf], .ptr ow 0]]) ∧ KeptX s o s1 ∧ oT < s1.nx

theorem p104 (vf : AV) (o : Nat) (ob : σ → AObj) (vis : Ty → Int → σ → σ) (hv : Visits vf o ob vis) (t : Ty) : ∀ b, Fit t b → C104 vf o ob vis t b := by
  induction t using Ty.ind with
  | h t ih =>
    intro b hf x ow s K ho how hon hown hne hK
    generalize hfin : wlk vis t b x = fin at hK
    rw [wlk_eq] at hfin
    refine ACalls.upd (r := .tup []) (ob := ob fin) hon (fun_sound mixed Try.func104 Try.call104 c104 rfl (awpFun_go _ _ _ _ ?_)) fun m hm => hK m hm
    obtain ⟨k, a, cap, rfl, hv⟩ := hv
    have hk := hf.2
    have hlen := wide_len hf.1
    simp only [List.append_assoc, List.cons_append, List.nil_append] at hv
    simp (implicitDefEqProofs := false) (maxSteps := 2000000) (disch := (first | omega | (simp only [St.new_nx, St.set_nx, St.del_nx, St.bump_nx]; done) | (simp only [St.new_nx, St.set_nx, St.del_nx, St.bump_nx]; omega) | fail)) [a104, a104b, a104r0, a104r1]
    refine go_calls (hv t b x _ _ hf ?_ ?_ fun m hm => go_of ?_)
    · simp (implicitDefEqProofs := false) (maxSteps := 2000000) (disch := (first | omega | (simp only [St.new_nx, St.set_nx, St.del_nx, St.bump_nx]; done) | (simp only [St.new_nx, St.set_nx, St.del_nx, St.bump_nx]; omega) | fail)) [ho]
    · simp (implicitDefEqProofs := false) (maxSteps := 2000000) (disch := (first | omega | (simp only [St.new_nx, St.set_nx, St.del_nx, St.bump_nx]; done) | (simp only [St.new_nx, St.set_nx, St.del_nx, St.bump_nx]; omega) | fail))
      omega
    simp only [St.new_nx, St.bump_nx, St.set_nx] at hm
    simp (implicitDefEqProofs := false) (maxSteps := 2000000) (disch := (first | omega | (simp only [St.new_nx, St.set_nx, St.del_nx, St.bump_nx]; done) | (simp only [St.new_nx, St.set_nx, St.del_nx, St.bump_nx]; omega) | fail)) [a104r2]
    refine go_loop (I104 (.fn k a cap) ob vis t b fin s o ow s.nx) t.args.length ⟨0, _, by omega, by omega, by simpa using hfin, ?_, ?_, ?_, ?_, ?_, ?_, ?_, ?_, ?_, ?_, ?_⟩ ?_
    rotate_right
    · rintro n g s1 ⟨i, x', hi, rfl, hg, h13, h14, h15, h1, h3, h4, hT, ho1, how1, hk1, hn⟩
      by_cases hlt : i < t.args.length
      · have hx : t.args[i]? = some t.args[i] := by simp [hlt]
        have hlt' : (i : Int) < t.args.length := by omega
        have w2 : IntKind.i64.wrap ((i : Int) + 1) = ((i + 1 : Nat) : Int) := by rw [wrap64 (by omega) (by omega)]; omega
        have hbw := belw_bound t.op i
        have w1 : IntKind.i64.wrap (b + belw t.op i) = b + belw t.op i := wrap64 (by omega) (by omega)
        have hdrop : t.args.drop i = t.args[i] :: t.args.drop (i + 1) := List.drop_eq_getElem_cons hlt
        rw [hdrop, wlks] at hg
        simp (implicitDefEqProofs := false) (maxSteps := 2000000) (disch := (first | omega | (simp only [St.new_nx, St.set_nx, St.del_nx, St.bump_nx]; done) | (simp only [St.new_nx, St.set_nx, St.del_nx, St.bump_nx]; omega) | fail)) [a104l7, a104r3, a104r4, a104r5, a104s5, h13, h14, h15, h1, h3, h4, hT, hlt', hlt, hx, how1]
        refine pcV_intro (p105 t i) ?_
        simp (implicitDefEqProofs := false) (maxSteps := 2000000) (disch := (first | omega | (simp only [St.new_nx, St.set_nx, St.del_nx, St.bump_nx]; done) | (simp only [St.new_nx, St.set_nx, St.del_nx, St.bump_nx]; omega) | fail)) [w1]
        intro m2 hm2
        refine go_calls (ih _ (List.getElem_mem hlt) _ (hf.child i _ hx) x' ow _ _ ?_ ?_ ?_ ?_ hne fun m3 hm3 => go_of ?_)
        · simp (implicitDefEqProofs := false) (maxSteps := 2000000) (disch := (first | omega | (simp only [St.new_nx, St.set_nx, St.del_nx, St.bump_nx]; done) | (simp only [St.new_nx, St.set_nx, St.del_nx, St.bump_nx]; omega) | fail)) [ho1]
        · simp (implicitDefEqProofs := false) (maxSteps := 2000000) (disch := (first | omega | (simp only [St.new_nx, St.set_nx, St.del_nx, St.bump_nx]; done) | (simp only [St.new_nx, St.set_nx, St.del_nx, St.bump_nx]; omega) | fail)) [how1]
        · simp (implicitDefEqProofs := false) (maxSteps := 2000000) (disch := (first | omega | (simp only [St.new_nx, St.set_nx, St.del_nx, St.bump_nx]; done) | (simp only [St.new_nx, St.set_nx, St.del_nx, St.bump_nx]; omega) | fail))
          omega
        · simp (implicitDefEqProofs := false) (maxSteps := 2000000) (disch := (first | omega | (simp only [St.new_nx, St.set_nx, St.del_nx, St.bump_nx]; done) | (simp only [St.new_nx, St.set_nx, St.del_nx, St.bump_nx]; omega) | fail))
          omega
        simp only [St.new_nx, St.bump_nx, St.set_nx] at hm3
        simp (implicitDefEqProofs := false) (maxSteps := 2000000) (disch := (first | omega | (simp only [St.new_nx, St.set_nx, St.del_nx, St.bump_nx]; done) | (simp only [St.new_nx, St.set_nx, St.del_nx, St.bump_nx]; omega) | fail)) [a104r6, h15, w2]
        refine go_next (t.args.length - (i + 1)) (by omega) ⟨i + 1, _, by omega, rfl, hg, ?_, ?_, ?_, ?_, ?_, ?_, ?_, ?_, ?_, ?_, ?_⟩
        all_goals (try simp (implicitDefEqProofs := false) (maxSteps := 2000000) (disch := (first | omega | (simp only [St.new_nx, St.set_nx, St.del_nx, St.bump_nx]; done) | (simp only [St.new_nx, St.set_nx, St.del_nx, St.bump_nx]; omega) | fail)) [h13, h14, h15, h1, h3, h4, hT, ho1, how1, hk1])
        all_goals omega
      · have hlt' : ¬ (i : Int) < t.args.length := by omega
        have hie : i = t.args.length := by omega
        subst hie
        have hg' : x' = fin := by simpa [wlks] using hg
        subst hg'
        simp (implicitDefEqProofs := false) (maxSteps := 2000000) (disch := (first | omega | (simp only [St.new_nx, St.set_nx, St.del_nx, St.bump_nx]; done) | (simp only [St.new_nx, St.set_nx, St.del_nx, St.bump_nx]; omega) | fail)) [a104l7, a104r3, h13, h14, h15, hlt', hk1, ho1, oneOf]
    all_goals (try simp (implicitDefEqProofs := false) (maxSteps := 2000000) (disch := (first | omega | (simp only [St.new_nx, St.set_nx, St.del_nx, St.bump_nx]; done) | (simp only [St.new_nx, St.set_nx, St.del_nx, St.bump_nx]; omega) | fail)) [how])
    all_goals omega

theorem p61 (vf : AV) (o : Nat) (ob : σ → AObj) (vis : Ty → Int → σ → σ) (hv : Visits vf o ob vis) (t : Ty) (hf : Fit t 0) (x : σ) (s : St) (K : AV → St → Prop) (ho : s.m o = some (ob x)) (hon : o < s.nx)
    (hK : ∀ m, s.nx ≤ m → K (.tup []) ((s.set o (ob (wlk vis t 0 x))).bump m)) : ACalls Try.prog 61 [t.av, vf] s K := by
  have h104 := p104 vf o ob vis hv t 0 hf
  generalize hfin : wlk vis t 0 x = fin at hK
  refine ACalls.upd (r := .tup []) (ob := ob fin) hon (fun_sound mixed Try.func61 Try.call61 c61 rfl (awpFun_go _ _ _ _ ?_)) fun m hm => hK m hm
  obtain ⟨k, a, cap, rfl, hv⟩ := hv
  simp (implicitDefEqProofs := false) (maxSteps := 2000000) (disch := (first | omega | (simp only [St.new_nx, St.set_nx, St.del_nx, St.bump_nx]; done) | (simp only [St.new_nx, St.set_nx, St.del_nx, St.bump_nx]; omega) | fail)) [a61, a61b, a61r0, a61r1, a61r2, a61r3]
  refine go_calls (h104 x (s.nx + 1 + 1) _ _ ?_ ?_ ?_ ?_ (by omega) fun m3 hm3 => go_of ?_)
  · simp (implicitDefEqProofs := false) (maxSteps := 2000000) (disch := (first | omega | (simp only [St.new_nx, St.set_nx, St.del_nx, St.bump_nx]; done) | (simp only [St.new_nx, St.set_nx, St.del_nx, St.bump_nx]; omega) | fail)) [ho]
  · simp (implicitDefEqProofs := false) (maxSteps := 2000000) (disch := (first | omega | (simp only [St.new_nx, St.set_nx, St.del_nx, St.bump_nx]; done) | (simp only [St.new_nx, St.set_nx, St.del_nx, St.bump_nx]; omega) | fail))
  · simp (implicitDefEqProofs := false) (maxSteps := 2000000) (disch := (first | omega | (simp only [St.new_nx, St.set_nx, St.del_nx, St.bump_nx]; done) | (simp only [St.new_nx, St.set_nx, St.del_nx, St.bump_nx]; omega) | fail))
    omega
  · simp (implicitDefEqProofs := false) (maxSteps := 2000000) (disch := (first | omega | (simp only [St.new_nx, St.set_nx, St.del_nx, St.bump_nx]; done) | (simp only [St.new_nx, St.set_nx, St.del_nx, St.bump_nx]; omega) | fail))
  simp only [St.new_nx, St.bump_nx, St.set_nx, St.del_nx] at hm3
  simp (implicitDefEqProofs := false) (maxSteps := 2000000) (disch := (first | omega | (simp only [St.new_nx, St.set_nx, St.del_nx, St.bump_nx]; done) | (simp only [St.new_nx, St.set_nx, St.del_nx, St.bump_nx]; omega) | fail)) [hfin, oneOf]
end

/-- What Shift's walk looks for. -/
def vlost (by_ from_ : Int) (t : Ty) (b : Int) (x : Bool) : Bool := x || (decide (t.op = 1) && decide (from_ ≤ t.n - b) && decide (t.n - b + by_ < from_))
def obB (x : Bool) : AObj := .box [.bool x]
theorem v62 (o : Nat) (by_ from_ : Int) (h1 : -1000000 ≤ by_) (h2 : by_ ≤ 1000000) : Visits (.fn 62 [] [.ptr o 0, .cptr [.int .i64 from_], .cptr [.int .i64 by_]]) o obB (vlost by_ from_) := by
  refine ⟨62, [], _, rfl, fun t b x s K hf ho hon hK => ?_⟩
  generalize hfin : vlost by_ from_ t b x = fin at hK
  refine ACalls.upd (r := .bool true) (ob := obB fin) hon (fun_sound mixed Try.func62 Try.call62 c62 rfl (awpFun_go _ _ _ _ ?_)) fun m hm => hK m hm
  have hn := wide_n hf.1
  have hb := hf.2
  have w1 : IntKind.i64.wrap (t.n - b) = t.n - b := wrap64 (by omega) (by omega)
  have w2 : IntKind.i64.wrap (t.n - b + by_) = t.n - b + by_ := wrap64 (by omega) (by omega)
  simp only [obB] at ho ⊢
  simp (implicitDefEqProofs := false) (maxSteps := 2000000) (disch := (first | omega | (simp only [St.new_nx, St.set_nx, St.del_nx, St.bump_nx]; done) | (simp only [St.new_nx, St.set_nx, St.del_nx, St.bump_nx]; omega) | fail)) [a62, a62b, a62r0, a62r1, a62r2, a62r3, ho, w1, w2]
  rw [← hfin]
  refine ⟨fun hx => ⟨fun ho => ⟨fun h => ?_, fun h => ?_⟩, fun ho => ?_⟩, fun hx => ?_⟩
  · simp [vlost, hx, ho, h]
  · have : ¬ from_ ≤ t.n - b := by omega
    simp [vlost, hx, ho, this]
  · simp [vlost, hx, ho]
  · simp [vlost, hx]

/-- What Shift answers, of a proper type. -/
def lost (t : Ty) (by_ from_ : Int) : Bool := wlk (vlost by_ from_) t 0 false
theorem p19 (t : Ty) (by_ from_ : Int) : PureC Try.prog 19 [t.av, .int .i64 by_, .int .i64 from_]
    (if proper t = true ∧ -9999 ≤ by_ ∧ by_ ≤ 9999 ∧ 0 ≤ from_ ∧ from_ ≤ 9999 then (if lost t by_ from_ then .tup [nul.av, .int .i64 6] else fin (moved t by_ from_)) else .tup [nul.av, .int .i64 2]) := by
  refine PureC.intro fun s => fun_sound mixed Try.func19 Try.call19 c19 rfl (awpFun_go _ _ _ _ ?_)
  simp (implicitDefEqProofs := false) (maxSteps := 2000000) (disch := (first | omega | (simp only [St.new_nx, St.set_nx, St.del_nx, St.bump_nx]; done) | (simp only [St.new_nx, St.set_nx, St.del_nx, St.bump_nx]; omega) | fail)) [a19, a19b, a19r0, a19r1]
  refine go_pure (p53 t) fun m hm => ?_
  simp only [St.new_nx, St.bump_nx, St.set_nx, St.del_nx] at hm
  by_cases hc : proper t = true ∧ -9999 ≤ by_ ∧ by_ ≤ 9999 ∧ 0 ≤ from_ ∧ from_ ≤ 9999
  · obtain ⟨hp, h1, h2, h3, h4⟩ := hc
    rw [if_pos ⟨hp, h1, h2, h3, h4⟩]
    have g1 : ¬ by_ < -9999 := by omega
    have g2 : ¬ 9999 < by_ := by omega
    have g3 : ¬ from_ < 0 := by omega
    have g4 : ¬ 9999 < from_ := by omega
    simp (implicitDefEqProofs := false) (maxSteps := 2000000) (disch := (first | omega | (simp only [St.new_nx, St.set_nx, St.del_nx, St.bump_nx]; done) | (simp only [St.new_nx, St.set_nx, St.del_nx, St.bump_nx]; omega) | fail)) [hp, h1, h2, h3, h4, a19r2, a19r3, a19r4]
    refine ⟨⟨⟨⟨fun h => absurd h g4, ?_⟩, fun h => absurd h g3⟩, fun h => absurd h g2⟩, fun h => absurd h g1⟩
    refine go_calls (p61 _ m obB _ (v62 m by_ from_ (by omega) (by omega)) t (proper_fit hp) false _ _ ?_ ?_ fun m2 hm2 => go_of ?_)
    · simp (implicitDefEqProofs := false) (maxSteps := 2000000) (disch := (first | omega | (simp only [St.new_nx, St.set_nx, St.del_nx, St.bump_nx]; done) | (simp only [St.new_nx, St.set_nx, St.del_nx, St.bump_nx]; omega) | fail)) [obB]
    · simp (implicitDefEqProofs := false) (maxSteps := 2000000) (disch := (first | omega | (simp only [St.new_nx, St.set_nx, St.del_nx, St.bump_nx]; done) | (simp only [St.new_nx, St.set_nx, St.del_nx, St.bump_nx]; omega) | fail))
    simp only [St.new_nx, St.bump_nx, St.set_nx, St.del_nx] at hm2
    rw [← lost, obB]
    simp (implicitDefEqProofs := false) (maxSteps := 2000000) (disch := (first | omega | (simp only [St.new_nx, St.set_nx, St.del_nx, St.bump_nx]; done) | (simp only [St.new_nx, St.set_nx, St.del_nx, St.bump_nx]; omega) | fail)) [a19r5]
    by_cases hl : lost t by_ from_ = true
    · simp (implicitDefEqProofs := false) (maxSteps := 2000000) (disch := (first | omega | (simp only [St.new_nx, St.set_nx, St.del_nx, St.bump_nx]; done) | (simp only [St.new_nx, St.set_nx, St.del_nx, St.bump_nx]; omega) | fail)) [hl, a19r6, nul, av_mk]
    · simp (implicitDefEqProofs := false) (maxSteps := 2000000) (disch := (first | omega | (simp only [St.new_nx, St.set_nx, St.del_nx, St.bump_nx]; done) | (simp only [St.new_nx, St.set_nx, St.del_nx, St.bump_nx]; omega) | fail)) [hl, a19r7]
      refine go_pure (p63 t by_ from_ (by omega) (by omega) (by omega) (by omega) (proper_fit hp)) fun m3 hm3 => ?_
      simp only [St.new_nx, St.bump_nx, St.set_nx, St.del_nx] at hm3
      simp (implicitDefEqProofs := false) (maxSteps := 2000000) (disch := (first | omega | (simp only [St.new_nx, St.set_nx, St.del_nx, St.bump_nx]; done) | (simp only [St.new_nx, St.set_nx, St.del_nx, St.bump_nx]; omega) | fail))
      refine go_pure (p55 (moved t by_ from_)) fun m4 hm4 => ?_
      simp only [St.new_nx, St.bump_nx, St.set_nx, St.del_nx] at hm4
      by_cases hp2 : proper (moved t by_ from_) = true
      · rw [if_pos hp2, fin, if_pos hp2]
        simp (implicitDefEqProofs := false) (maxSteps := 2000000) (disch := (first | omega | (simp only [St.new_nx, St.set_nx, St.del_nx, St.bump_nx]; done) | (simp only [St.new_nx, St.set_nx, St.del_nx, St.bump_nx]; omega) | fail))
      · rw [if_neg hp2, fin, if_neg hp2]
        simp (implicitDefEqProofs := false) (maxSteps := 2000000) (disch := (first | omega | (simp only [St.new_nx, St.set_nx, St.del_nx, St.bump_nx]; done) | (simp only [St.new_nx, St.set_nx, St.del_nx, St.bump_nx]; omega) | fail)) [av_mk]
  · rw [if_neg hc]
    simp (implicitDefEqProofs := false) (maxSteps := 2000000) (disch := (first | omega | (simp only [St.new_nx, St.set_nx, St.del_nx, St.bump_nx]; done) | (simp only [St.new_nx, St.set_nx, St.del_nx, St.bump_nx]; omega) | fail)) [a19r2, nul, av_mk]
    exact fun k1 k2 k3 k4 k5 => absurd ⟨k1, k2, k3, k4, k5⟩ hc
end Go.AL.Ty
