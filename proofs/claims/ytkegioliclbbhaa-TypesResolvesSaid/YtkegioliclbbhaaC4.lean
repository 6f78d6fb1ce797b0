/- Walks over types. -/
import Derived.Test.YtkegioliclbbhaaG2
import Derived.Test.YtkegioliclbbhaaD1
import Derived.Test.YtkegioliclbbhaaProg
import Derived.KernelRfl
set_option linter.unusedVariables false
set_option linter.unusedSimpArgs false
namespace Go.AL.Ty
open Go Go.Proofs

section
variable {σ : Type}
mutual
/-- What a walk does to a state: at each node, the parts after it. -/
def wlk (vis : Ty → Int → σ → σ) : Ty → Int → σ → σ
  | mk op n s args, b, x => wlks vis op args 0 b (vis (mk op n s args) b x)
def wlks (vis : Ty → Int → σ → σ) (op : Int) : List Ty → Nat → Int → σ → σ
  | [], _, _, x => x
  | t :: ts, i, b, x => wlks vis op ts (i + 1) b (wlk vis t (b + belw op i) x)
end
theorem wlk_eq (vis : Ty → Int → σ → σ) (t : Ty) (b : Int) (x : σ) : wlk vis t b x = wlks vis t.op t.args 0 b (vis t b x) := by cases t; rw [wlk]; rfl

/-- A function that is called at each node, and turns an object. -/
def Visits (vf : AV) (o : Nat) (ob : σ → AObj) (vis : Ty → Int → σ → σ) : Prop :=
  ∃ k a cap, vf = .fn k a cap ∧ ∀ (t : Ty) (b : Int) (x : σ) (s : St) (K : AV → St → Prop), Fit t b → s.m o = some (ob x) → o < s.nx → (∀ m, s.nx ≤ m → K (.bool true) ((s.set o (ob (vis t b x))).bump m)) →
    ACalls Try.prog k (a ++ [t.av, .int .i64 b] ++ cap) s K

def C104 (vf : AV) (o : Nat) (ob : σ → AObj) (vis : Ty → Int → σ → σ) (t : Ty) (b : Int) : Prop :=
  ∀ (x : σ) (ow : Nat) (s : St) (K : AV → St → Prop), s.m o = some (ob x) → s.m ow = some (.box [.fn 104 [] [.cptr [vf], .ptr ow 0]]) → o < s.nx → ow < s.nx → (o < ow ∨ ow < o) →
    (∀ m, s.nx ≤ m → K (.tup []) ((s.set o (ob (wlk vis t b x))).bump m)) → ACalls Try.prog 104 [t.av, .int .i64 b, .cptr [vf], .ptr ow 0] s K

def I104 (vf : AV) (ob : σ → AObj) (vis : Ty → Int → σ → σ) (t : Ty) (b : Int) (fin : σ) (s : St) (o ow oT : Nat) (n : Nat) (g : Env) (s1 : St) : Prop :=
  ∃ (i : Nat) (x : σ), i ≤ t.args.length ∧ n = t.args.length - i ∧ wlks vis t.op (t.args.drop i) i b x = fin ∧
    g.get 13 = .list 4 .none (t.args.map av) ∧ g.get 14 = .int .i64 t.args.length ∧ g.get 15 = .int .i64 i ∧ g.get 1 = .int .i64 b ∧ g.get 3 = .ptr ow 0 ∧ g.get 4 = .ptr oT 0 ∧
    s1.m oT = some (.box [.int .i64 t.op, .int .i64 t.n, .str t.s, .list 4 .none (t.args.map av)]) ∧ s1.m o = some (ob x) ∧ s1.m ow = some (.box [.fn 104 [] [.cptr [vf], .ptr ow 0]]) ∧ KeptX s o s1 ∧ oT < s1.nx

theorem p104 (vf : AV) (o : Nat) (ob : σ → AObj) (vis : Ty → Int → σ → σ) (hv : Visits vf o ob vis) (t : Ty) : ∀ b, Fit t b → C104 vf o ob vis t b := by
  induction t using Ty.ind with
  | h t ih =>
    intro b hf x ow s K ho how hon hown hne hK
    generalize hfin : wlk vis t b x = fin at hK
    rw [wlk_eq] at hfin
    refine ACalls.upd (r := .tup []) (ob := ob fin) hon (fun_sound mixed Try.func104 Try.call104 c104 rfl (awpFun_go _ _ _ _ ?_)) fun m hm => hK m hm
    obtain ⟨k, a, cap, rfl, hv⟩ := hv
    have hk := hf.2
    have hlen := wide_len hf.1
    simp only [List.append_assoc, List.cons_append, List.nil_append] at hv
    simp (implicitDefEqProofs := false) (maxSteps := 2000000) (disch := (first | omega | (simp only [St.new_nx, St.set_nx, St.del_nx, St.bump_nx]; done) | (simp only [St.new_nx, St.set_nx, St.del_nx, St.bump_nx]; omega) | fail)) [a104, a104b, a104r0, a104r1]
    refine go_calls (hv t b x _ _ hf ?_ ?_ fun m hm => go_of ?_)
    · simp (implicitDefEqProofs := false) (maxSteps := 2000000) (disch := (first | omega | (simp only [St.new_nx, St.set_nx, St.del_nx, St.bump_nx]; done) | (simp only [St.new_nx, St.set_nx, St.del_nx, St.bump_nx]; omega) | fail)) [ho]
    · simp (implicitDefEqProofs := false) (maxSteps := 2000000) (disch := (first | omega | (simp only [St.new_nx, St.set_nx, St.del_nx, St.bump_nx]; done) | (simp only [St.new_nx, St.set_nx, St.del_nx, St.bump_nx]; omega) | fail))
      omega
    simp only [St.new_nx, St.bump_nx, St.set_nx] at hm
    simp (implicitDefEqProofs := false) (maxSteps := 2000000) (disch := (first | omega | (simp only [St.new_nx, St.set_nx, St.del_nx, St.bump_nx]; done) | (simp only [St.new_nx, St.set_nx, St.del_nx, St.bump_nx]; omega) | fail)) [a104r2]
    refine go_loop (I104 (.fn k a cap) ob vis t b fin s o ow s.nx) t.args.length ⟨0, _, by omega, by omega, by simpa using hfin, ?_, ?_, ?_, ?_, ?_, ?_, ?_, ?_, ?_, ?_, ?_⟩ ?_
    rotate_right
    · rintro n g s1 ⟨i, x', hi, rfl, hg, h13, h14, h15, h1, h3, h4, hT, ho1, how1, hk1, hn⟩
      by_cases hlt : i < t.args.length
      · have hx : t.args[i]? = some t.args[i] := by simp [hlt]
        have hlt' : (i : Int) < t.args.length := by omega
        have w2 : IntKind.i64.wrap ((i : Int) + 1) = ((i + 1 : Nat) : Int) := by rw [wrap64 (by omega) (by omega)]; omega
        have hbw := belw_bound t.op i
        have w1 : IntKind.i64.wrap (b + belw t.op i) = b + belw t.op i := wrap64 (by omega) (by omega)
        have hdrop : t.args.drop i = t.args[i] :: t.args.drop (i + 1) := List.drop_eq_getElem_cons hlt
        rw [hdrop, wlks] at hg
        simp (implicitDefEqProofs := false) (maxSteps := 2000000) (disch := (first | omega | (simp only [St.new_nx, St.set_nx, St.del_nx, St.bump_nx]; done) | (simp only [St.new_nx, St.set_nx, St.del_nx, St.bump_nx]; omega) | fail)) [a104l7, a104r3, a104r4, a104r5, a104s5, h13, h14, h15, h1, h3, h4, hT, hlt', hlt, hx, how1]
        refine pcV_intro (p105 t i) ?_
        simp (implicitDefEqProofs := false) (maxSteps := 2000000) (disch := (first | omega | (simp only [St.new_nx, St.set_nx, St.del_nx, St.bump_nx]; done) | (simp only [St.new_nx, St.set_nx, St.del_nx, St.bump_nx]; omega) | fail)) [w1]
        intro m2 hm2
        refine go_calls (ih _ (List.getElem_mem hlt) _ (hf.child i _ hx) x' ow _ _ ?_ ?_ ?_ ?_ hne fun m3 hm3 => go_of ?_)
        · simp (implicitDefEqProofs := false) (maxSteps := 2000000) (disch := (first | omega | (simp only [St.new_nx, St.set_nx, St.del_nx, St.bump_nx]; done) | (simp only [St.new_nx, St.set_nx, St.del_nx, St.bump_nx]; omega) | fail)) [ho1]
        · simp (implicitDefEqProofs := false) (maxSteps := 2000000) (disch := (first | omega | (simp only [St.new_nx, St.set_nx, St.del_nx, St.bump_nx]; done) | (simp only [St.new_nx, St.set_nx, St.del_nx, St.bump_nx]; omega) | fail)) [how1]
        · simp (implicitDefEqProofs := false) (maxSteps := 2000000) (disch := (first | omega | (simp only [St.new_nx, St.set_nx, St.del_nx, St.bump_nx]; done) | (simp only [St.new_nx, St.set_nx, St.del_nx, St.bump_nx]; omega) | fail))
          omega
        · simp (implicitDefEqProofs := false) (maxSteps := 2000000) (disch := (first | omega | (simp only [St.new_nx, St.set_nx, St.del_nx, St.bump_nx]; done) | (simp only [St.new_nx, St.set_nx, St.del_nx, St.bump_nx]; omega) | fail))
          omega
        simp only [St.new_nx, St.bump_nx, St.set_nx] at hm3
        simp (implicitDefEqProofs := false) (maxSteps := 2000000) (disch := (first | omega | (simp only [St.new_nx, St.set_nx, St.del_nx, St.bump_nx]; done) | (simp only [St.new_nx, St.set_nx, St.del_nx, St.bump_nx]; omega) | fail)) [a104r6, h15, w2]
        refine go_next (t.args.length - (i + 1)) (by omega) ⟨i + 1, _, by omega, rfl, hg, ?_, ?_, ?_, ?_, ?_, ?_, ?_, ?_, ?_, ?_, ?_⟩
        all_goals (try simp (implicitDefEqProofs := false) (maxSteps := 2000000) (disch := (first | omega | (simp only [St.new_nx, St.set_nx, St.del_nx, St.bump_nx]; done) | (simp only [St.new_nx, St.set_nx, St.del_nx, St.bump_nx]; omega) | fail)) [h13, h14, h15, h1, h3, h4, hT, ho1, how1, hk1])
        all_goals omega
      · have hlt' : ¬ (i : Int) < t.args.length := by omega
        have hie : i = t.args.length := by omega
        subst hie
        have hg' : x' = fin := by simpa [wlks] using hg
        subst hg'
        simp (implicitDefEqProofs := false) (maxSteps := 2000000) (disch := (first | omega | (simp only [St.new_nx, St.set_nx, St.del_nx, St.bump_nx]; done) | (simp only [St.new_nx, St.set_nx, St.del_nx, St.bump_nx]; omega) | fail)) [a104l7, a104r3, h13, h14, h15, hlt', hk1, ho1, oneOf]
    all_goals (try simp (implicitDefEqProofs := false) (maxSteps := 2000000) (disch := (first | omega | (simp only [St.new_nx, St.set_nx, St.del_nx, St.bump_nx]; done) | (simp only [St.new_nx, St.set_nx, St.del_nx, St.bump_nx]; omega) | fail)) [how])
    all_goals omega

theorem p61 (vf : AV) (o : Nat) (ob : σ → AObj) (vis : Ty → Int → σ → σ) (hv : Visits vf o ob vis) (t : Ty) (hf : Fit t 0) (x : σ) (s : St) (K : AV → St → Prop) (ho : s.m o = some (ob x)) (hon : o < s.nx)
    (hK : ∀ m, s.nx ≤ m → K (.tup []) ((s.set o (ob (wlk vis t 0 x))).bump m)) : ACalls Try.prog 61 [t.av, vf] s K := by
  have h104 := p104 vf o ob vis hv t 0 hf
  generalize hfin : wlk vis t 0 x = fin at hK
  refine ACalls.upd (r := .tup []) (ob := ob fin) hon (fun_sound mixed Try.func61 Try.call61 c61 rfl (awpFun_go _ _ _ _ ?_)) fun m hm => hK m hm
  obtain ⟨k, a, cap, rfl, hv⟩ := hv
  simp (implicitDefEqProofs := false) (maxSteps := 2000000) (disch := (first | omega | (simp only [St.new_nx, St.set_nx, St.del_nx, St.bump_nx]; done) | (simp only [St.new_nx, St.set_nx, St.del_nx, St.bump_nx]; omega) | fail)) [a61, a61b, a61r0, a61r1, a61r2, a61r3]
  refine go_calls (h104 x (s.nx + 1 + 1) _ _ ?_ ?_ ?_ ?_ (by omega) fun m3 hm3 => go_of ?_)
  · simp (implicitDefEqProofs := false) (maxSteps := 2000000) (disch := (first | omega | (simp only [St.new_nx, St.set_nx, St.del_nx, St.bump_nx]; done) | (simp only [St.new_nx, St.set_nx, St.del_nx, St.bump_nx]; omega) | fail)) [ho]
  · simp (implicitDefEqProofs := false) (maxSteps := 2000000) (disch := (first | omega | (simp only [St.new_nx, St.set_nx, St.del_nx, St.bump_nx]; done) | (simp only [St.new_nx, St.set_nx, St.del_nx, St.bump_nx]; omega) | fail))
  · simp (implicitDefEqProofs := false) (maxSteps := 2000000) (disch := (first | omega | (simp only [St.new_nx, St.set_nx, St.del_nx, St.bump_nx]; done) | (simp only [St.new_nx, St.set_nx, St.del_nx, St.bump_nx]; omega) | fail))
    omega
  · simp (implicitDefEqProofs := false) (maxSteps := 2000000) (disch := (first | omega | (simp only [St.new_nx, St.set_nx, St.del_nx, St.bump_nx]; done) | (simp only [St.new_nx, St.set_nx, St.del_nx, St.bump_nx]; omega) | fail))
  simp only [St.new_nx, St.bump_nx, St.set_nx, St.del_nx] at hm3
  simp (implicitDefEqProofs := false) (maxSteps := 2000000) (disch := (first | omega | (simp only [St.new_nx, St.set_nx, St.del_nx, St.bump_nx]; done) | (simp only [St.new_nx, St.set_nx, St.del_nx, St.bump_nx]; omega) | fail)) [hfin, oneOf]
end

/-- What Shift's walk looks for. -/
def vlost (by_ from_ : Int) (t : Ty) (b : Int) (x : Bool) : Bool := x || (decide (t.op = 1) && decide (from_ ≤ t.n - b) && decide (t.n - b + by_ < from_))
def obB (x : Bool) : AObj := .box [.bool x]
theorem v62 (o : Nat) (by_ from_ : Int) (h1 : -1000000 ≤ by_) (h2 : by_ ≤ 1000000) : Visits (.fn 62 [] [.ptr o 0, .cptr [.int .i64 from_], .cptr [.int .i64 by_]]) o obB (vlost by_ from_) := by
  refine ⟨62, [], _, rfl, fun t b x s K hf ho hon hK => ?_⟩
  generalize hfin : vlost by_ from_ t b x = fin at hK
  refine ACalls.upd (r := .bool true) (ob := obB fin) hon (fun_sound mixed Try.func62 Try.call62 c62 rfl (awpFun_go _ _ _ _ ?_)) fun m hm => hK m hm
  have hn := wide_n hf.1
  have hb := hf.2
  have w1 : IntKind.i64.wrap (t.n - b) = t.n - b := wrap64 (by omega) (by omega)
  have w2 : IntKind.i64.wrap (t.n - b + by_) = t.n - b + by_ := wrap64 (by omega) (by omega)
  simp only [obB] at ho ⊢
  simp (implicitDefEqProofs := false) (maxSteps := 2000000) (disch := (first | omega | (simp only [St.new_nx, St.set_nx, St.del_nx, St.bump_nx]; done) | (simp only [St.new_nx, St.set_nx, St.del_nx, St.bump_nx]; omega) | fail)) [a62, a62b, a62r0, a62r1, a62r2, a62r3, ho, w1, w2]
  rw [← hfin]
  refine ⟨fun hx => ⟨fun ho => ⟨fun h => ?_, fun h => ?_⟩, fun ho => ?_⟩, fun hx => ?_⟩
  · simp [vlost, hx, ho, h]
  · have : ¬ from_ ≤ t.n - b := by omega
    simp [vlost, hx, ho, this]
  · simp [vlost, hx, ho]
  · simp [vlost, hx]

/-- What Shift answers, of a proper type. -/
def lost (t : Ty) (by_ from_ : Int) : Bool := wlk (vlost by_ from_) t 0 false
theorem p19 (t : Ty) (by_ from_ : Int) : PureC Try.prog 19 [t.av, .int .i64 by_, .int .i64 from_]
    (if proper t = true ∧ -9999 ≤ by_ ∧ by_ ≤ 9999 ∧ 0 ≤ from_ ∧ from_ ≤ 9999 then (if lost t by_ from_ then .tup [nul.av, .int .i64 6] else fin (moved t by_ from_)) else .tup [nul.av, .int .i64 2]) := by
  refine PureC.intro fun s => fun_sound mixed Try.func19 Try.call19 c19 rfl (awpFun_go _ _ _ _ ?_)
  simp (implicitDefEqProofs := false) (maxSteps := 2000000) (disch := (first | omega | (simp only [St.new_nx, St.set_nx, St.del_nx, St.bump_nx]; done) | (simp only [St.new_nx, St.set_nx, St.del_nx, St.bump_nx]; omega) | fail)) [a19, a19b, a19r0, a19r1]
  refine go_pure (p53 t) fun m hm => ?_
  simp only [St.new_nx, St.bump_nx, St.set_nx, St.del_nx] at hm
  by_cases hc : proper t = true ∧ -9999 ≤ by_ ∧ by_ ≤ 9999 ∧ 0 ≤ from_ ∧ from_ ≤ 9999
  · obtain ⟨hp, h1, h2, h3, h4⟩ := hc
    rw [if_pos ⟨hp, h1, h2, h3, h4⟩]
    have g1 : ¬ by_ < -9999 := by omega
    have g2 : ¬ 9999 < by_ := by omega
    have g3 : ¬ from_ < 0 := by omega
    have g4 : ¬ 9999 < from_ := by omega
    simp (implicitDefEqProofs := false) (maxSteps := 2000000) (disch := (first | omega | (simp only [St.new_nx, St.set_nx, St.del_nx, St.bump_nx]; done) | (simp only [St.new_nx, St.set_nx, St.del_nx, St.bump_nx]; omega) | fail)) [hp, h1, h2, h3, h4, a19r2, a19r3, a19r4]
    refine ⟨⟨⟨⟨fun h => absurd h g4, ?_⟩, fun h => absurd h g3⟩, fun h => absurd h g2⟩, fun h => absurd h g1⟩
    refine go_calls (p61 _ m obB _ (v62 m by_ from_ (by omega) (by omega)) t (proper_fit hp) false _ _ ?_ ?_ fun m2 hm2 => go_of ?_)
    · simp (implicitDefEqProofs := false) (maxSteps := 2000000) (disch := (first | omega | (simp only [St.new_nx, St.set_nx, St.del_nx, St.bump_nx]; done) | (simp only [St.new_nx, St.set_nx, St.del_nx, St.bump_nx]; omega) | fail)) [obB]
    · simp (implicitDefEqProofs := false) (maxSteps := 2000000) (disch := (first | omega | (simp only [St.new_nx, St.set_nx, St.del_nx, St.bump_nx]; done) | (simp only [St.new_nx, St.set_nx, St.del_nx, St.bump_nx]; omega) | fail))
    simp only [St.new_nx, St.bump_nx, St.set_nx, St.del_nx] at hm2
    rw [← lost, obB]
    simp (implicitDefEqProofs := false) (maxSteps := 2000000) (disch := (first | omega | (simp only [St.new_nx, St.set_nx, St.del_nx, St.bump_nx]; done) | (simp only [St.new_nx, St.set_nx, St.del_nx, St.bump_nx]; omega) | fail)) [a19r5]
    by_cases hl : lost t by_ from_ = true
    · simp (implicitDefEqProofs := false) (maxSteps := 2000000) (disch := (first | omega | (simp only [St.new_nx, St.set_nx, St.del_nx, St.bump_nx]; done) | (simp only [St.new_nx, St.set_nx, St.del_nx, St.bump_nx]; omega) | fail)) [hl, a19r6, nul, av_mk]
    · simp (implicitDefEqProofs := false) (maxSteps := 2000000) (disch := (first | omega | (simp only [St.new_nx, St.set_nx, St.del_nx, St.bump_nx]; done) | (simp only [St.new_nx, St.set_nx, St.del_nx, St.bump_nx]; omega) | fail)) [hl, a19r7]
      refine go_pure (p63 t by_ from_ (by omega) (by omega) (by omega) (by omega) (proper_fit hp)) fun m3 hm3 => ?_
      simp only [St.new_nx, St.bump_nx, St.set_nx, St.del_nx] at hm3
      simp (implicitDefEqProofs := false) (maxSteps := 2000000) (disch := (first | omega | (simp only [St.new_nx, St.set_nx, St.del_nx, St.bump_nx]; done) | (simp only [St.new_nx, St.set_nx, St.del_nx, St.bump_nx]; omega) | fail))
      refine go_pure (p55 (moved t by_ from_)) fun m4 hm4 => ?_
      simp only [St.new_nx, St.bump_nx, St.set_nx, St.del_nx] at hm4
      by_cases hp2 : proper (moved t by_ from_) = true
      · rw [if_pos hp2, fin, if_pos hp2]
        simp (implicitDefEqProofs := false) (maxSteps := 2000000) (disch := (first | omega | (simp only [St.new_nx, St.set_nx, St.del_nx, St.bump_nx]; done) | (simp only [St.new_nx, St.set_nx, St.del_nx, St.bump_nx]; omega) | fail))
      · rw [if_neg hp2, fin, if_neg hp2]
        simp (implicitDefEqProofs := false) (maxSteps := 2000000) (disch := (first | omega | (simp only [St.new_nx, St.set_nx, St.del_nx, St.bump_nx]; done) | (simp only [St.new_nx, St.set_nx, St.del_nx, St.bump_nx]; omega) | fail)) [av_mk]
  · rw [if_neg hc]
    simp (implicitDefEqProofs := false) (maxSteps := 2000000) (disch := (first | omega | (simp only [St.new_nx, St.set_nx, St.del_nx, St.bump_nx]; done) | (simp only [St.new_nx, St.set_nx, St.del_nx, St.bump_nx]; omega) | fail)) [a19r2, nul, av_mk]
    exact fun k1 k2 k3 k4 k5 => absurd ⟨k1, k2, k3, k4, k5⟩ hc
end Go.AL.Ty
namespace Go.AL.Ty
open Go.Proofs

/- damask/damasklaw05.TypesShifts -/
def a4r0 : List AOper :=
  [⟨some (true, 3), .box (.g 0), none, []⟩,
   ⟨some (true, 6), .mv (.c (.bool false)), none, []⟩]
def a4r1 : List AOper :=
  [⟨some (false, 12), .load 4 true (.g 3), none, []⟩,
   ⟨some (false, 13), .mv (.g 1), none, []⟩,
   ⟨some (false, 14), .mv (.g 2), none, []⟩,
   ⟨some (false, 15), .call false (.c (.fn 19 [] [])) [(.l 12), (.l 13), (.l 14)], none, []⟩,
   ⟨some (false, 11), .mv (.l 15), none, []⟩,
   ⟨some (false, 16), .extract (.l 11) 0, none, []⟩,
   ⟨some (false, 17), .extract (.l 11) 1, none, []⟩,
   ⟨some (true, 7), .alloc [(.int .i64 0), (.int .i64 0), (.str ⟨#[]⟩), (.list 0 .full [])], none, []⟩,
   ⟨none, .store 4 (.g 7) (.l 16), none, []⟩,
   ⟨some (true, 8), .mv (.l 17), none, []⟩]
def a4r2 : List AOper :=
  [⟨some (false, 18), .load 4 true (.g 3), none, []⟩,
   ⟨some (false, 19), .call false (.c (.fn 13 [] [])) [(.l 18)], none, []⟩,
   ⟨some (false, 20), .un .not (.l 19), none, []⟩,
   ⟨some (false, 21), .mv (.l 20), none, []⟩,
   ⟨some (false, 22), .mv (.g 1), some (false, 21, false), []⟩,
   ⟨some (false, 23), .bin .lss (.l 22) (.c (.int .i64 (-9999))), some (false, 21, false), []⟩,
   ⟨some (false, 24), .pick (.l 21) (.c (.bool true)) (.l 23), none, []⟩,
   ⟨some (false, 25), .mv (.l 24), none, []⟩,
   ⟨some (false, 26), .mv (.g 1), some (false, 25, false), []⟩,
   ⟨some (false, 27), .bin .gtr (.l 26) (.c (.int .i64 9999)), some (false, 25, false), []⟩,
   ⟨some (false, 28), .pick (.l 25) (.c (.bool true)) (.l 27), none, []⟩,
   ⟨some (false, 29), .mv (.l 28), none, []⟩,
   ⟨some (false, 30), .mv (.g 2), some (false, 29, false), []⟩,
   ⟨some (false, 31), .call false (.c (.fn 20 [] [])) [(.l 30)], some (false, 29, false), []⟩,
   ⟨some (false, 32), .un .not (.l 31), some (false, 29, false), []⟩,
   ⟨some (true, 33), .pick (.l 29) (.c (.bool true)) (.l 32), none, []⟩]
def a4r3 : List AOper :=
  [⟨some (false, 34), .load 4 true (.g 7), none, []⟩,
   ⟨some (false, 35), .call false (.c (.fn 15 [] [])) [(.l 34)], none, []⟩,
   ⟨some (false, 36), .mv (.l 35), none, []⟩,
   ⟨some (false, 37), .mv (.g 8), some (false, 36, true), []⟩,
   ⟨some (false, 38), .bin .eql (.l 37) (.c (.int .i64 2)), some (false, 36, true), []⟩,
   ⟨some (false, 39), .pick (.l 36) (.l 38) (.c (.bool false)), none, []⟩,
   ⟨some (false, 40), .mv (.l 39), none, []⟩,
   ⟨some (false, 41), .call false (.c (.fn 16 [] [])) [], some (false, 40, true), []⟩,
   ⟨some (false, 42), .pick (.l 40) (.l 41) (.c (.bool false)), none, []⟩,
   ⟨some (true, 6), .mv (.l 42), none, []⟩]
def a4r4 : List AOper :=
  [⟨some (false, 44), .load 4 true (.g 3), none, []⟩,
   ⟨some (false, 45), .mv (.g 1), none, []⟩,
   ⟨some (false, 46), .mv (.g 2), none, []⟩,
   ⟨some (false, 47), .call false (.c (.fn 21 [] [])) [(.l 44), (.l 45), (.l 46)], none, []⟩,
   ⟨some (false, 43), .mv (.l 47), none, []⟩,
   ⟨some (false, 48), .extract (.l 43) 0, none, []⟩,
   ⟨some (false, 49), .extract (.l 43) 1, none, []⟩,
   ⟨some (true, 9), .alloc [(.int .i64 0), (.int .i64 0), (.str ⟨#[]⟩), (.list 0 .full [])], none, []⟩,
   ⟨none, .store 4 (.g 9) (.l 48), none, []⟩,
   ⟨some (true, 10), .mv (.l 49), none, []⟩]
def a4r5 : List AOper :=
  [⟨some (false, 50), .mv (.g 10), none, []⟩,
   ⟨some (true, 51), .un .not (.l 50), none, []⟩]
def a4r6 : List AOper :=
  [⟨some (false, 52), .load 4 true (.g 7), none, []⟩,
   ⟨some (false, 53), .call false (.c (.fn 15 [] [])) [(.l 52)], none, []⟩,
   ⟨some (false, 54), .mv (.l 53), none, []⟩,
   ⟨some (false, 55), .mv (.g 8), some (false, 54, true), []⟩,
   ⟨some (false, 56), .bin .eql (.l 55) (.c (.int .i64 6)), some (false, 54, true), []⟩,
   ⟨some (false, 57), .pick (.l 54) (.l 56) (.c (.bool false)), none, []⟩,
   ⟨some (false, 58), .mv (.l 57), none, []⟩,
   ⟨some (false, 59), .call false (.c (.fn 16 [] [])) [], some (false, 58, true), []⟩,
   ⟨some (false, 60), .pick (.l 58) (.l 59) (.c (.bool false)), none, []⟩,
   ⟨some (true, 6), .mv (.l 60), none, []⟩]
def a4r7 : List AOper :=
  [⟨some (false, 61), .load 4 true (.g 7), none, []⟩,
   ⟨some (false, 62), .mv (.g 8), none, []⟩,
   ⟨some (false, 63), .load 4 true (.g 9), none, []⟩,
   ⟨some (false, 64), .call false (.c (.fn 17 [] [])) [(.l 61), (.l 62), (.l 63)], none, []⟩,
   ⟨some (false, 65), .mv (.l 64), none, []⟩,
   ⟨some (false, 66), .call false (.c (.fn 16 [] [])) [], some (false, 65, true), []⟩,
   ⟨some (false, 67), .pick (.l 65) (.l 66) (.c (.bool false)), none, []⟩,
   ⟨some (true, 6), .mv (.l 67), none, []⟩]
def a4b : ACode :=
  (.seq (.reg false a4r0) (.seq (.reg false a4r1) (.seq (.seq (.reg false a4r2) (.cond (.g 33) (.seq (.reg false a4r3) .ret) .skip)) (.seq (.reg false a4r4) (.seq (.seq (.reg false a4r5) (.cond (.g 51) (.seq (.reg false a4r6) .ret) .skip)) (.seq (.reg false a4r7) .ret))))))
def a4 : AFun := ⟨3, 68, a4b, [.tmp (true, 6)]⟩
theorem c4 : compileFun Try.prog [0, 1, 2, 3, 6, 7, 8, 9, 10, 33, 51] Try.f4 = some a4 := by kernel_rfl

/- damask/damasklaw05.TypesBinds -/
def a5r0 : List AOper :=
  [⟨some (true, 3), .box (.g 0), none, []⟩,
   ⟨some (true, 6), .mv (.c (.bool false)), none, []⟩]
def a5r1 : List AOper :=
  [⟨some (false, 9), .mv (.g 2), none, []⟩,
   ⟨some (false, 10), .mv (.g 2), none, []⟩,
   ⟨some (false, 11), .len (.l 10), none, []⟩,
   ⟨some (false, 12), .min (.l 11) (.c (.int .i64 601)), none, []⟩,
   ⟨some (false, 13), .slice 1 (.l 9) none (some (.l 12)) none, none, []⟩,
   ⟨some (true, 2), .mv (.l 13), none, []⟩]
def a5r2 : List AOper :=
  [⟨some (false, 15), .load 4 true (.g 3), none, []⟩,
   ⟨some (false, 16), .mv (.g 1), none, []⟩,
   ⟨some (false, 17), .buildSlice 1 false [(.int .i64 0)] 0 [], none, []⟩,
   ⟨some (false, 18), .mv (.g 2), none, []⟩,
   ⟨some (false, 19), .append 1 8 (.l 17) (.l 18), none, [0]⟩,
   ⟨some (false, 20), .call true (.c (.fn 22 [] [])) [(.l 15), (.l 16), (.l 19)], none, []⟩,
   ⟨some (false, 14), .mv (.l 20), none, []⟩,
   ⟨some (false, 21), .extract (.l 14) 0, none, []⟩,
   ⟨some (false, 22), .extract (.l 14) 1, none, []⟩,
   ⟨some (true, 7), .alloc [(.int .i64 0), (.int .i64 0), (.str ⟨#[]⟩), (.list 0 .full [])], none, []⟩,
   ⟨none, .store 4 (.g 7) (.l 21), none, []⟩,
   ⟨some (true, 8), .mv (.l 22), none, []⟩]
def a5r3 : List AOper :=
  [⟨some (false, 23), .load 4 true (.g 3), none, []⟩,
   ⟨some (false, 24), .call false (.c (.fn 13 [] [])) [(.l 23)], none, []⟩,
   ⟨some (false, 25), .un .not (.l 24), none, []⟩,
   ⟨some (false, 26), .mv (.l 25), none, []⟩,
   ⟨some (false, 27), .mv (.g 1), some (false, 26, false), []⟩,
   ⟨some (false, 28), .bin .neq (.l 27) (.c (.int .i64 6)), some (false, 26, false), []⟩,
   ⟨some (false, 29), .mv (.l 28), some (false, 26, false), []⟩,
   ⟨some (false, 30), .mv (.g 1), some (false, 29, true), []⟩,
   ⟨some (false, 31), .bin .neq (.l 30) (.c (.int .i64 7)), some (false, 29, true), []⟩,
   ⟨some (false, 32), .pick (.l 29) (.l 31) (.c (.bool false)), some (false, 26, false), []⟩,
   ⟨some (false, 33), .pick (.l 26) (.c (.bool true)) (.l 32), none, []⟩,
   ⟨some (false, 34), .mv (.l 33), none, []⟩,
   ⟨some (false, 35), .mv (.g 2), some (false, 34, false), []⟩,
   ⟨some (false, 36), .call false (.c (.fn 23 [] [])) [(.l 35)], some (false, 34, false), []⟩,
   ⟨some (false, 37), .un .not (.l 36), some (false, 34, false), []⟩,
   ⟨some (true, 38), .pick (.l 34) (.c (.bool true)) (.l 37), none, []⟩]
def a5r4 : List AOper :=
  [⟨some (false, 39), .load 4 true (.g 7), none, []⟩,
   ⟨some (false, 40), .call false (.c (.fn 15 [] [])) [(.l 39)], none, []⟩,
   ⟨some (false, 41), .mv (.l 40), none, []⟩,
   ⟨some (false, 42), .mv (.g 8), some (false, 41, true), []⟩,
   ⟨some (false, 43), .bin .eql (.l 42) (.c (.int .i64 2)), some (false, 41, true), []⟩,
   ⟨some (false, 44), .pick (.l 41) (.l 43) (.c (.bool false)), none, []⟩,
   ⟨some (false, 45), .mv (.l 44), none, []⟩,
   ⟨some (false, 46), .call false (.c (.fn 16 [] [])) [], some (false, 45, true), []⟩,
   ⟨some (false, 47), .pick (.l 45) (.l 46) (.c (.bool false)), none, []⟩,
   ⟨some (true, 6), .mv (.l 47), none, []⟩]
def a5r5 : List AOper :=
  [⟨some (false, 48), .load 4 true (.g 7), none, []⟩,
   ⟨some (false, 49), .mv (.g 8), none, []⟩,
   ⟨some (false, 50), .load 4 true (.g 3), none, []⟩,
   ⟨some (false, 51), .mv (.g 1), none, []⟩,
   ⟨some (false, 52), .mv (.g 2), none, []⟩,
   ⟨some (false, 53), .call true (.c (.fn 24 [] [])) [(.l 50), (.l 51), (.l 52)], none, []⟩,
   ⟨some (false, 54), .call true (.c (.fn 17 [] [])) [(.l 48), (.l 49), (.l 53)], none, []⟩,
   ⟨some (false, 55), .mv (.l 54), none, []⟩,
   ⟨some (false, 56), .call true (.c (.fn 16 [] [])) [], some (false, 55, true), []⟩,
   ⟨some (false, 57), .pick (.l 55) (.l 56) (.c (.bool false)), none, []⟩,
   ⟨some (true, 6), .mv (.l 57), none, []⟩]
def a5b : ACode :=
  (.seq (.reg false a5r0) (.seq (.reg false a5r1) (.seq (.reg true a5r2) (.seq (.seq (.reg false a5r3) (.cond (.g 38) (.seq (.reg false a5r4) .ret) .skip)) (.seq (.reg true a5r5) .ret)))))
def a5 : AFun := ⟨3, 58, a5b, [.tmp (true, 6)]⟩
theorem c5 : compileFun Try.prog [0, 1, 2, 3, 6, 7, 8, 38] Try.f5 = some a5 := by kernel_rfl

/- damask/damasklaw05.TypesBack -/
def a7r0 : List AOper :=
  [⟨some (true, 3), .box (.g 0), none, []⟩,
   ⟨some (true, 6), .mv (.c (.bool false)), none, []⟩]
def a7r1 : List AOper :=
  [⟨some (false, 23), .mv (.g 1), none, []⟩,
   ⟨some (false, 24), .conv .u64 (.l 23), none, []⟩,
   ⟨some (false, 25), .bin .rem (.l 24) (.c (.int .u64 40)), none, []⟩,
   ⟨some (false, 26), .conv .i64 (.l 25), none, []⟩,
   ⟨some (true, 1), .mv (.l 26), none, []⟩]
def a7r2 : List AOper :=
  [⟨some (false, 27), .load 4 true (.g 3), none, []⟩,
   ⟨some (false, 28), .call false (.c (.fn 13 [] [])) [(.l 27)], none, []⟩,
   ⟨some (true, 29), .un .not (.l 28), none, []⟩]
def a7r3 : List AOper :=
  [⟨some (false, 30), .call false (.c (.fn 16 [] [])) [], none, []⟩,
   ⟨some (true, 6), .mv (.l 30), none, []⟩]
def a7r4 : List AOper :=
  [⟨some (false, 32), .load 4 true (.g 3), none, []⟩,
   ⟨some (false, 33), .mv (.g 1), none, []⟩,
   ⟨some (false, 34), .call false (.c (.fn 19 [] [])) [(.l 32), (.l 33), (.c (.int .i64 0))], none, []⟩,
   ⟨some (false, 31), .mv (.l 34), none, []⟩,
   ⟨some (false, 35), .extract (.l 31) 0, none, []⟩,
   ⟨some (false, 36), .extract (.l 31) 1, none, []⟩,
   ⟨some (true, 7), .alloc [(.int .i64 0), (.int .i64 0), (.str ⟨#[]⟩), (.list 0 .full [])], none, []⟩,
   ⟨none, .store 4 (.g 7) (.l 35), none, []⟩,
   ⟨some (true, 8), .mv (.l 36), none, []⟩]
def a7r5 : List AOper :=
  [⟨some (false, 37), .mv (.g 8), none, []⟩,
   ⟨some (true, 38), .bin .eql (.l 37) (.c (.int .i64 0)), none, []⟩]
def a7r6 : List AOper :=
  [⟨some (false, 40), .load 4 true (.g 7), none, []⟩,
   ⟨some (false, 41), .mv (.g 1), none, []⟩,
   ⟨some (false, 42), .un .neg (.l 41), none, []⟩,
   ⟨some (false, 43), .call false (.c (.fn 19 [] [])) [(.l 40), (.l 42), (.c (.int .i64 0))], none, []⟩,
   ⟨some (false, 39), .mv (.l 43), none, []⟩,
   ⟨some (false, 44), .extract (.l 39) 0, none, []⟩,
   ⟨some (false, 45), .extract (.l 39) 1, none, []⟩,
   ⟨some (true, 9), .alloc [(.int .i64 0), (.int .i64 0), (.str ⟨#[]⟩), (.list 0 .full [])], none, []⟩,
   ⟨none, .store 4 (.g 9) (.l 44), none, []⟩,
   ⟨some (true, 10), .mv (.l 45), none, []⟩]
def a7r7 : List AOper :=
  [⟨some (true, 11), .mv (.c (.list 0 .full [])), none, []⟩]
def a7r8 : List AOper :=
  [⟨some (true, 46), .mv (.g 1), none, []⟩,
   ⟨some (true, 47), .mv (.c (.int .i64 0)), none, []⟩]
def a7r9 : List AOper :=
  [⟨some (true, 48), .bin .lss (.g 47) (.g 46), none, []⟩]
def a7r10 : List AOper :=
  [⟨some (false, 49), .mv (.g 11), none, []⟩,
   ⟨some (false, 50), .call false (.c (.fn 35 [] [])) [(.c (.str ⟨#[73, 110, 116]⟩))], none, []⟩,
   ⟨some (false, 51), .buildSlice 4 true [(.int .i64 0), (.int .i64 0), (.str ⟨#[]⟩), (.list 0 .full [])] 1 [(0, (.l 50))], none, []⟩,
   ⟨some (false, 52), .append 4 56 (.l 49) (.l 51), none, []⟩,
   ⟨some (true, 11), .mv (.l 52), none, []⟩]
def a7r11 : List AOper :=
  [⟨some (false, 53), .bin .add (.g 47) (.c (.int .i64 1)), none, []⟩,
   ⟨some (true, 47), .mv (.l 53), none, []⟩]
def a7l12 : ACode :=
  (.seq (.reg false a7r9) (.seq (.cond (.g 48) .skip (.exit 0)) (.seq (.block 1 (.reg false a7r10)) (.reg false a7r11))))
def a7r13 : List AOper :=
  [⟨some (false, 55), .load 4 true (.g 7), none, []⟩,
   ⟨some (false, 56), .mv (.g 11), none, []⟩,
   ⟨some (false, 57), .call false (.c (.fn 12 [] [])) [(.l 55), (.l 56)], none, []⟩,
   ⟨some (false, 54), .mv (.l 57), none, []⟩,
   ⟨some (false, 58), .extract (.l 54) 0, none, []⟩,
   ⟨some (false, 59), .extract (.l 54) 1, none, []⟩,
   ⟨some (true, 12), .alloc [(.int .i64 0), (.int .i64 0), (.str ⟨#[]⟩), (.list 0 .full [])], none, []⟩,
   ⟨none, .store 4 (.g 12) (.l 58), none, []⟩,
   ⟨some (true, 13), .mv (.l 59), none, []⟩]
def a7r14 : List AOper :=
  [⟨some (false, 60), .mv (.g 10), none, []⟩,
   ⟨some (false, 61), .bin .neq (.l 60) (.c (.int .i64 0)), none, []⟩,
   ⟨some (false, 62), .mv (.l 61), none, []⟩,
   ⟨some (false, 63), .load 4 true (.g 9), some (false, 62, false), []⟩,
   ⟨some (false, 64), .load 4 true (.g 3), some (false, 62, false), []⟩,
   ⟨some (false, 65), .call false (.c (.fn 31 [] [])) [(.l 63), (.l 64)], some (false, 62, false), []⟩,
   ⟨some (false, 66), .un .not (.l 65), some (false, 62, false), []⟩,
   ⟨some (false, 67), .pick (.l 62) (.c (.bool true)) (.l 66), none, []⟩,
   ⟨some (false, 68), .mv (.l 67), none, []⟩,
   ⟨some (false, 69), .mv (.g 13), some (false, 68, false), []⟩,
   ⟨some (false, 70), .bin .neq (.l 69) (.c (.int .i64 0)), some (false, 68, false), []⟩,
   ⟨some (false, 71), .pick (.l 68) (.c (.bool true)) (.l 70), none, []⟩,
   ⟨some (false, 72), .mv (.l 71), none, []⟩,
   ⟨some (false, 73), .load 4 true (.g 12), some (false, 72, false), []⟩,
   ⟨some (false, 74), .load 4 true (.g 3), some (false, 72, false), []⟩,
   ⟨some (false, 75), .call false (.c (.fn 31 [] [])) [(.l 73), (.l 74)], some (false, 72, false), []⟩,
   ⟨some (false, 76), .un .not (.l 75), some (false, 72, false), []⟩,
   ⟨some (true, 77), .pick (.l 72) (.c (.bool true)) (.l 76), none, []⟩]
def a7r15 : List AOper :=
  [⟨some (true, 6), .mv (.c (.bool false)), none, []⟩]
def a7r16 : List AOper :=
  [⟨some (false, 78), .mv (.g 2), none, []⟩,
   ⟨some (false, 79), .mv (.g 2), none, []⟩,
   ⟨some (false, 80), .len (.l 79), none, []⟩,
   ⟨some (false, 81), .min (.l 80) (.c (.int .i64 20)), none, []⟩,
   ⟨some (false, 82), .slice 1 (.l 78) none (some (.l 81)) none, none, []⟩,
   ⟨some (true, 2), .mv (.l 82), none, []⟩]
def a7r17 : List AOper :=
  [⟨some (false, 83), .mv (.g 2), none, []⟩,
   ⟨some (false, 84), .call false (.c (.fn 23 [] [])) [(.l 83)], none, []⟩,
   ⟨some (true, 85), .un .not (.l 84), none, []⟩]
def a7r18 : List AOper :=
  [⟨some (false, 86), .call false (.c (.fn 16 [] [])) [], none, []⟩,
   ⟨some (true, 6), .mv (.l 86), none, []⟩]
def a7r19 : List AOper :=
  [⟨some (true, 87), .buildSlice 1 false [(.int .i64 0)] 2 [(0, (.c (.int .i64 6))), (1, (.c (.int .i64 7)))], none, []⟩,
   ⟨some (true, 88), .len (.g 87), none, []⟩,
   ⟨some (true, 89), .mv (.c (.int .i64 0)), none, []⟩]
def a7r20 : List AOper :=
  [⟨some (true, 90), .bin .lss (.g 89) (.g 88), none, []⟩]
def a7r21 : List AOper :=
  [⟨some (false, 91), .indexAddr 1 (.g 87) (.g 89), none, []⟩,
   ⟨some (false, 92), .load 1 false (.l 91), none, []⟩,
   ⟨some (true, 15), .mv (.l 92), none, []⟩]
def a7r22 : List AOper :=
  [⟨some (true, 16), .mv (.c (.list 0 .full [])), none, []⟩]
def a7r23 : List AOper :=
  [⟨some (true, 93), .mv (.g 2), none, []⟩,
   ⟨some (true, 94), .len (.g 93), none, []⟩,
   ⟨some (true, 95), .mv (.c (.int .i64 0)), none, []⟩]
def a7r24 : List AOper :=
  [⟨some (true, 96), .bin .lss (.g 95) (.g 94), none, []⟩]
def a7r25 : List AOper :=
  [⟨some (false, 97), .indexAddr 1 (.g 93) (.g 95), none, []⟩,
   ⟨some (false, 98), .load 1 false (.l 97), none, []⟩,
   ⟨some (true, 18), .mv (.l 98), none, []⟩]
def a7r26 : List AOper :=
  [⟨some (false, 99), .mv (.g 16), none, []⟩,
   ⟨some (false, 100), .mv (.g 15), none, []⟩,
   ⟨some (false, 101), .mv (.g 18), none, []⟩,
   ⟨some (false, 102), .build [(.int .i64 0), (.int .i64 0), (.str ⟨#[]⟩), (.list 0 .full [])] [(0, 1, (.l 100)), (1, 1, (.l 101))], none, []⟩,
   ⟨some (false, 103), .buildSlice 4 true [(.int .i64 0), (.int .i64 0), (.str ⟨#[]⟩), (.list 0 .full [])] 1 [(0, (.l 102))], none, []⟩,
   ⟨some (false, 104), .append 4 56 (.l 99) (.l 103), none, []⟩,
   ⟨some (true, 16), .mv (.l 104), none, []⟩]
def a7r27 : List AOper :=
  [⟨some (false, 105), .bin .add (.g 95) (.c (.int .i64 1)), none, []⟩,
   ⟨some (true, 95), .mv (.l 105), none, []⟩]
def a7l28 : ACode :=
  (.seq (.reg false a7r24) (.seq (.cond (.g 96) .skip (.exit 4)) (.seq (.block 5 (.seq (.reg false a7r25) (.reg false a7r26))) (.reg false a7r27))))
def a7r29 : List AOper :=
  [⟨some (false, 107), .load 4 true (.g 3), none, []⟩,
   ⟨some (false, 108), .mv (.g 15), none, []⟩,
   ⟨some (false, 109), .mv (.g 2), none, []⟩,
   ⟨some (false, 110), .call false (.c (.fn 22 [] [])) [(.l 107), (.l 108), (.l 109)], none, []⟩,
   ⟨some (false, 106), .mv (.l 110), none, []⟩,
   ⟨some (false, 111), .extract (.l 106) 0, none, []⟩,
   ⟨some (false, 112), .extract (.l 106) 1, none, []⟩,
   ⟨some (true, 19), .alloc [(.int .i64 0), (.int .i64 0), (.str ⟨#[]⟩), (.list 0 .full [])], none, []⟩,
   ⟨none, .store 4 (.g 19) (.l 111), none, []⟩,
   ⟨some (true, 20), .mv (.l 112), none, []⟩]
def a7r30 : List AOper :=
  [⟨some (false, 113), .mv (.g 20), none, []⟩,
   ⟨some (true, 114), .bin .neq (.l 113) (.c (.int .i64 0)), none, []⟩]
def a7r31 : List AOper :=
  [⟨some (false, 115), .mv (.g 20), none, []⟩,
   ⟨some (true, 116), .bin .neq (.l 115) (.c (.int .i64 5)), none, []⟩]
def a7r32 : List AOper :=
  [⟨some (true, 6), .mv (.c (.bool false)), none, []⟩]
def a7r33 : List AOper :=
  [⟨some (false, 118), .load 4 true (.g 19), none, []⟩,
   ⟨some (false, 119), .mv (.g 16), none, []⟩,
   ⟨some (false, 120), .call false (.c (.fn 12 [] [])) [(.l 118), (.l 119)], none, []⟩,
   ⟨some (false, 117), .mv (.l 120), none, []⟩,
   ⟨some (false, 121), .extract (.l 117) 0, none, []⟩,
   ⟨some (false, 122), .extract (.l 117) 1, none, []⟩,
   ⟨some (true, 21), .alloc [(.int .i64 0), (.int .i64 0), (.str ⟨#[]⟩), (.list 0 .full [])], none, []⟩,
   ⟨none, .store 4 (.g 21) (.l 121), none, []⟩,
   ⟨some (true, 22), .mv (.l 122), none, []⟩]
def a7r34 : List AOper :=
  [⟨some (false, 123), .mv (.g 22), none, []⟩,
   ⟨some (false, 124), .bin .neq (.l 123) (.c (.int .i64 0)), none, []⟩,
   ⟨some (false, 125), .mv (.l 124), none, []⟩,
   ⟨some (false, 126), .load 4 true (.g 21), some (false, 125, false), []⟩,
   ⟨some (false, 127), .load 4 true (.g 3), some (false, 125, false), []⟩,
   ⟨some (false, 128), .call false (.c (.fn 31 [] [])) [(.l 126), (.l 127)], some (false, 125, false), []⟩,
   ⟨some (false, 129), .un .not (.l 128), some (false, 125, false), []⟩,
   ⟨some (true, 130), .pick (.l 125) (.c (.bool true)) (.l 129), none, []⟩]
def a7r35 : List AOper :=
  [⟨some (true, 6), .mv (.c (.bool false)), none, []⟩]
def a7r36 : List AOper :=
  [⟨some (false, 131), .bin .add (.g 89) (.c (.int .i64 1)), none, []⟩,
   ⟨some (true, 89), .mv (.l 131), none, []⟩]
def a7l37 : ACode :=
  (.seq (.reg false a7r20) (.seq (.cond (.g 90) .skip (.exit 2)) (.seq (.block 3 (.seq (.reg false a7r21) (.seq (.reg false a7r22) (.seq (.seq (.reg false a7r23) (.block 4 (.loop a7l28))) (.seq (.reg false a7r29) (.seq (.seq (.reg false a7r30) (.cond (.g 114) (.seq (.seq (.reg false a7r31) (.cond (.g 116) (.seq (.reg false a7r32) .ret) .skip)) (.exit 3)) .skip)) (.seq (.reg false a7r33) (.seq (.reg false a7r34) (.cond (.g 130) (.seq (.reg false a7r35) .ret) .skip))))))))) (.reg false a7r36))))
def a7r38 : List AOper :=
  [⟨some (false, 132), .call false (.c (.fn 16 [] [])) [], none, []⟩,
   ⟨some (true, 6), .mv (.l 132), none, []⟩]
def a7b : ACode :=
  (.seq (.reg false a7r0) (.seq (.reg false a7r1) (.seq (.seq (.reg false a7r2) (.cond (.g 29) (.seq (.reg false a7r3) .ret) .skip)) (.seq (.seq (.reg false a7r4) (.seq (.reg false a7r5) (.cond (.g 38) (.seq (.reg false a7r6) (.seq (.reg false a7r7) (.seq (.seq (.reg false a7r8) (.block 0 (.loop a7l12))) (.seq (.reg false a7r13) (.seq (.reg false a7r14) (.cond (.g 77) (.seq (.reg false a7r15) .ret) .skip)))))) .skip))) (.seq (.reg false a7r16) (.seq (.seq (.reg false a7r17) (.cond (.g 85) (.seq (.reg false a7r18) .ret) .skip)) (.seq (.seq (.reg false a7r19) (.block 2 (.loop a7l37))) (.seq (.reg false a7r38) .ret))))))))
def a7 : AFun := ⟨3, 133, a7b, [.tmp (true, 6)]⟩
theorem c7 : compileFun Try.prog [0, 1, 2, 3, 6, 7, 8, 9, 10, 11, 12, 13, 15, 16, 18, 19, 20, 21, 22, 29, 38, 46, 47, 48, 77, 85, 87, 88, 89, 90, 93, 94, 95, 96, 114, 116, 130] Try.f7 = some a7 := by kernel_rfl

/- damask/damasklaw05.TypesTotal -/
def a8r0 : List AOper :=
  [⟨some (true, 3), .box (.g 0), none, []⟩,
   ⟨some (true, 4), .box (.g 1), none, []⟩,
   ⟨some (true, 5), .box (.g 2), none, []⟩,
   ⟨some (true, 6), .mv (.c (.bool false)), none, []⟩]
def a8r1 : List AOper :=
  [⟨some (false, 13), .load 4 true (.g 3), none, []⟩,
   ⟨some (false, 14), .call false (.c (.fn 13 [] [])) [(.l 13)], none, []⟩,
   ⟨some (false, 15), .un .not (.l 14), none, []⟩,
   ⟨some (false, 16), .mv (.l 15), none, []⟩,
   ⟨some (false, 17), .load 4 true (.g 4), some (false, 16, false), []⟩,
   ⟨some (false, 18), .call false (.c (.fn 13 [] [])) [(.l 17)], some (false, 16, false), []⟩,
   ⟨some (false, 19), .un .not (.l 18), some (false, 16, false), []⟩,
   ⟨some (false, 20), .pick (.l 16) (.c (.bool true)) (.l 19), none, []⟩,
   ⟨some (false, 21), .mv (.l 20), none, []⟩,
   ⟨some (false, 22), .load 4 true (.g 5), some (false, 21, false), []⟩,
   ⟨some (false, 23), .call false (.c (.fn 13 [] [])) [(.l 22)], some (false, 21, false), []⟩,
   ⟨some (false, 24), .un .not (.l 23), some (false, 21, false), []⟩,
   ⟨some (true, 25), .pick (.l 21) (.c (.bool true)) (.l 24), none, []⟩]
def a8r2 : List AOper :=
  [⟨some (false, 26), .call false (.c (.fn 16 [] [])) [], none, []⟩,
   ⟨some (true, 6), .mv (.l 26), none, []⟩]
def a8r3 : List AOper :=
  [⟨some (false, 28), .load 4 true (.g 3), none, []⟩,
   ⟨some (false, 29), .load 4 true (.g 4), none, []⟩,
   ⟨some (false, 30), .call false (.c (.fn 36 [] [])) [(.l 28), (.l 29)], none, []⟩,
   ⟨some (false, 27), .mv (.l 30), none, []⟩,
   ⟨some (false, 31), .extract (.l 27) 0, none, []⟩,
   ⟨some (false, 32), .extract (.l 27) 1, none, []⟩,
   ⟨some (true, 7), .mv (.l 31), none, []⟩,
   ⟨some (true, 8), .mv (.l 32), none, []⟩]
def a8r4 : List AOper :=
  [⟨some (false, 34), .load 4 true (.g 4), none, []⟩,
   ⟨some (false, 35), .load 4 true (.g 5), none, []⟩,
   ⟨some (false, 36), .call false (.c (.fn 36 [] [])) [(.l 34), (.l 35)], none, []⟩,
   ⟨some (false, 33), .mv (.l 36), none, []⟩,
   ⟨some (false, 37), .extract (.l 33) 0, none, []⟩,
   ⟨some (false, 38), .extract (.l 33) 1, none, []⟩,
   ⟨some (true, 9), .mv (.l 37), none, []⟩,
   ⟨some (true, 10), .mv (.l 38), none, []⟩]
def a8r5 : List AOper :=
  [⟨some (false, 40), .load 4 true (.g 3), none, []⟩,
   ⟨some (false, 41), .load 4 true (.g 5), none, []⟩,
   ⟨some (false, 42), .call false (.c (.fn 36 [] [])) [(.l 40), (.l 41)], none, []⟩,
   ⟨some (false, 39), .mv (.l 42), none, []⟩,
   ⟨some (false, 43), .extract (.l 39) 0, none, []⟩,
   ⟨some (false, 44), .extract (.l 39) 1, none, []⟩,
   ⟨some (true, 11), .mv (.l 43), none, []⟩,
   ⟨some (true, 12), .mv (.l 44), none, []⟩]
def a8r6 : List AOper :=
  [⟨some (false, 45), .mv (.g 8), none, []⟩,
   ⟨some (false, 46), .bin .neq (.l 45) (.c (.int .i64 0)), none, []⟩,
   ⟨some (false, 47), .mv (.l 46), none, []⟩,
   ⟨some (false, 48), .mv (.g 10), some (false, 47, false), []⟩,
   ⟨some (false, 49), .bin .neq (.l 48) (.c (.int .i64 0)), some (false, 47, false), []⟩,
   ⟨some (false, 50), .pick (.l 47) (.c (.bool true)) (.l 49), none, []⟩,
   ⟨some (false, 51), .mv (.l 50), none, []⟩,
   ⟨some (false, 52), .mv (.g 12), some (false, 51, false), []⟩,
   ⟨some (false, 53), .bin .neq (.l 52) (.c (.int .i64 0)), some (false, 51, false), []⟩,
   ⟨some (true, 54), .pick (.l 51) (.c (.bool true)) (.l 53), none, []⟩]
def a8r7 : List AOper :=
  [⟨some (true, 6), .mv (.c (.bool false)), none, []⟩]
def a8r8 : List AOper :=
  [⟨some (false, 55), .mv (.g 7), none, []⟩,
   ⟨some (false, 56), .bin .leq (.l 55) (.c (.int .i64 0)), none, []⟩,
   ⟨some (false, 57), .mv (.l 56), none, []⟩,
   ⟨some (false, 58), .mv (.g 9), some (false, 57, true), []⟩,
   ⟨some (false, 59), .bin .leq (.l 58) (.c (.int .i64 0)), some (false, 57, true), []⟩,
   ⟨some (false, 60), .pick (.l 57) (.l 59) (.c (.bool false)), none, []⟩,
   ⟨some (false, 61), .mv (.l 60), none, []⟩,
   ⟨some (false, 62), .mv (.g 11), some (false, 61, true), []⟩,
   ⟨some (false, 63), .bin .gtr (.l 62) (.c (.int .i64 0)), some (false, 61, true), []⟩,
   ⟨some (false, 64), .pick (.l 61) (.l 63) (.c (.bool false)), none, []⟩,
   ⟨some (false, 65), .mv (.l 64), none, []⟩,
   ⟨some (false, 66), .mv (.g 7), some (false, 65, false), []⟩,
   ⟨some (false, 67), .bin .geq (.l 66) (.c (.int .i64 0)), some (false, 65, false), []⟩,
   ⟨some (false, 68), .mv (.l 67), some (false, 65, false), []⟩,
   ⟨some (false, 69), .mv (.g 9), some (false, 68, true), []⟩,
   ⟨some (false, 70), .bin .geq (.l 69) (.c (.int .i64 0)), some (false, 68, true), []⟩,
   ⟨some (false, 71), .pick (.l 68) (.l 70) (.c (.bool false)), some (false, 65, false), []⟩,
   ⟨some (false, 72), .mv (.l 71), some (false, 65, false), []⟩,
   ⟨some (false, 73), .mv (.g 11), some (false, 72, true), []⟩,
   ⟨some (false, 74), .bin .lss (.l 73) (.c (.int .i64 0)), some (false, 72, true), []⟩,
   ⟨some (false, 75), .pick (.l 72) (.l 74) (.c (.bool false)), some (false, 65, false), []⟩,
   ⟨some (false, 76), .pick (.l 65) (.c (.bool true)) (.l 75), none, []⟩,
   ⟨some (false, 77), .mv (.l 76), none, []⟩,
   ⟨some (false, 78), .mv (.g 7), some (false, 77, false), []⟩,
   ⟨some (false, 79), .bin .eql (.l 78) (.c (.int .i64 0)), some (false, 77, false), []⟩,
   ⟨some (false, 80), .mv (.l 79), some (false, 77, false), []⟩,
   ⟨some (false, 81), .mv (.g 9), some (false, 80, true), []⟩,
   ⟨some (false, 82), .bin .eql (.l 81) (.c (.int .i64 0)), some (false, 80, true), []⟩,
   ⟨some (false, 83), .pick (.l 80) (.l 82) (.c (.bool false)), some (false, 77, false), []⟩,
   ⟨some (false, 84), .mv (.l 83), some (false, 77, false), []⟩,
   ⟨some (false, 85), .mv (.g 11), some (false, 84, true), []⟩,
   ⟨some (false, 86), .bin .neq (.l 85) (.c (.int .i64 0)), some (false, 84, true), []⟩,
   ⟨some (false, 87), .pick (.l 84) (.l 86) (.c (.bool false)), some (false, 77, false), []⟩,
   ⟨some (true, 88), .pick (.l 77) (.c (.bool true)) (.l 87), none, []⟩]
def a8r9 : List AOper :=
  [⟨some (true, 6), .mv (.c (.bool false)), none, []⟩]
def a8r10 : List AOper :=
  [⟨some (false, 89), .call false (.c (.fn 16 [] [])) [], none, []⟩,
   ⟨some (true, 6), .mv (.l 89), none, []⟩]
def a8b : ACode :=
  (.seq (.reg false a8r0) (.seq (.seq (.reg false a8r1) (.cond (.g 25) (.seq (.reg false a8r2) .ret) .skip)) (.seq (.reg false a8r3) (.seq (.reg false a8r4) (.seq (.reg false a8r5) (.seq (.seq (.reg false a8r6) (.cond (.g 54) (.seq (.reg false a8r7) .ret) .skip)) (.seq (.seq (.reg false a8r8) (.cond (.g 88) (.seq (.reg false a8r9) .ret) .skip)) (.seq (.reg false a8r10) .ret))))))))
def a8 : AFun := ⟨3, 90, a8b, [.tmp (true, 6)]⟩
theorem c8 : compileFun Try.prog [0, 1, 2, 3, 4, 5, 6, 7, 8, 9, 10, 11, 12, 25, 54, 88] Try.f8 = some a8 := by kernel_rfl

/- damask/types.Bind -/
def a22r0 : List AOper :=
  [⟨some (true, 3), .box (.g 0), none, []⟩,
   ⟨some (true, 6), .alloc [(.int .i64 0), (.int .i64 0), (.str ⟨#[]⟩), (.list 0 .full [])], none, []⟩,
   ⟨some (true, 7), .mv (.c (.int .i64 0)), none, []⟩]
def a22r1 : List AOper :=
  [⟨some (false, 10), .load 4 true (.g 3), none, []⟩,
   ⟨some (false, 11), .call false (.c (.fn 53 [] [])) [(.l 10)], none, []⟩,
   ⟨some (false, 12), .un .not (.l 11), none, []⟩,
   ⟨some (false, 13), .mv (.l 12), none, []⟩,
   ⟨some (false, 14), .mv (.g 2), some (false, 13, false), []⟩,
   ⟨some (false, 15), .len (.l 14), some (false, 13, false), []⟩,
   ⟨some (false, 16), .bin .gtr (.l 15) (.c (.int .i64 600)), some (false, 13, false), []⟩,
   ⟨some (false, 17), .pick (.l 13) (.c (.bool true)) (.l 16), none, []⟩,
   ⟨some (false, 18), .mv (.l 17), none, []⟩,
   ⟨some (false, 19), .mv (.g 1), some (false, 18, false), []⟩,
   ⟨some (false, 20), .bin .neq (.l 19) (.c (.int .i64 7)), some (false, 18, false), []⟩,
   ⟨some (false, 21), .mv (.l 20), some (false, 18, false), []⟩,
   ⟨some (false, 22), .mv (.g 1), some (false, 21, true), []⟩,
   ⟨some (false, 23), .bin .neq (.l 22) (.c (.int .i64 6)), some (false, 21, true), []⟩,
   ⟨some (false, 24), .pick (.l 21) (.l 23) (.c (.bool false)), some (false, 18, false), []⟩,
   ⟨some (true, 25), .pick (.l 18) (.c (.bool true)) (.l 24), none, []⟩]
def a22r2 : List AOper :=
  [⟨some (false, 26), .build [(.int .i64 0), (.int .i64 0), (.str ⟨#[]⟩), (.list 0 .full [])] [], none, []⟩,
   ⟨none, .store 4 (.g 6) (.l 26), none, []⟩,
   ⟨some (true, 7), .mv (.c (.int .i64 2)), none, []⟩]
def a22r3 : List AOper :=
  [⟨some (true, 27), .mv (.g 2), none, []⟩,
   ⟨some (true, 28), .len (.g 27), none, []⟩,
   ⟨some (true, 29), .mv (.c (.int .i64 0)), none, []⟩]
def a22r4 : List AOper :=
  [⟨some (true, 30), .bin .lss (.g 29) (.g 28), none, []⟩]
def a22r5 : List AOper :=
  [⟨some (false, 31), .mv (.g 29), none, []⟩,
   ⟨some (false, 32), .indexAddr 1 (.g 27) (.g 29), none, []⟩,
   ⟨some (false, 33), .load 1 false (.l 32), none, []⟩,
   ⟨some (true, 8), .mv (.l 31), none, []⟩,
   ⟨some (true, 9), .mv (.l 33), none, []⟩]
def a22r6 : List AOper :=
  [⟨some (false, 34), .mv (.g 9), none, []⟩,
   ⟨some (false, 35), .bin .lss (.l 34) (.c (.int .i64 0)), none, []⟩,
   ⟨some (false, 36), .mv (.l 35), none, []⟩,
   ⟨some (false, 37), .mv (.g 9), some (false, 36, false), []⟩,
   ⟨some (false, 38), .bin .gtr (.l 37) (.c (.int .i64 9999)), some (false, 36, false), []⟩,
   ⟨some (false, 39), .pick (.l 36) (.c (.bool true)) (.l 38), none, []⟩,
   ⟨some (false, 40), .mv (.l 39), none, []⟩,
   ⟨some (false, 41), .mv (.g 2), some (false, 40, false), []⟩,
   ⟨some (false, 42), .mv (.g 8), some (false, 40, false), []⟩,
   ⟨some (false, 43), .slice 1 (.l 41) none (some (.l 42)) none, some (false, 40, false), []⟩,
   ⟨some (false, 44), .mv (.g 9), some (false, 40, false), []⟩,
   ⟨some (false, 45), .call false (.c (.fn 65 [] [])) [(.l 43), (.l 44)], some (false, 40, false), []⟩,
   ⟨some (true, 46), .pick (.l 40) (.c (.bool true)) (.l 45), none, []⟩]
def a22r7 : List AOper :=
  [⟨some (false, 47), .build [(.int .i64 0), (.int .i64 0), (.str ⟨#[]⟩), (.list 0 .full [])] [], none, []⟩,
   ⟨none, .store 4 (.g 6) (.l 47), none, []⟩,
   ⟨some (true, 7), .mv (.c (.int .i64 2)), none, []⟩]
def a22r8 : List AOper :=
  [⟨some (false, 48), .bin .add (.g 29) (.c (.int .i64 1)), none, []⟩,
   ⟨some (true, 29), .mv (.l 48), none, []⟩]
def a22l9 : ACode :=
  (.seq (.reg false a22r4) (.seq (.cond (.g 30) .skip (.exit 0)) (.seq (.block 1 (.seq (.reg false a22r5) (.seq (.reg false a22r6) (.cond (.g 46) (.seq (.reg false a22r7) .ret) .skip)))) (.reg false a22r8))))
def a22r10 : List AOper :=
  [⟨some (false, 49), .load 4 true (.g 3), none, []⟩,
   ⟨some (false, 50), .mv (.g 1), none, []⟩,
   ⟨some (false, 51), .mv (.g 2), none, []⟩,
   ⟨some (false, 52), .call false (.c (.fn 66 [] [])) [(.l 49), (.l 50), (.l 51)], none, []⟩,
   ⟨some (false, 53), .call false (.c (.fn 55 [] [])) [(.l 52)], none, []⟩,
   ⟨some (false, 54), .extract (.l 53) 0, none, []⟩,
   ⟨some (false, 55), .extract (.l 53) 1, none, []⟩,
   ⟨none, .store 4 (.g 6) (.l 54), none, []⟩,
   ⟨some (true, 7), .mv (.l 55), none, []⟩]
def a22b : ACode :=
  (.seq (.reg false a22r0) (.seq (.seq (.reg false a22r1) (.cond (.g 25) (.seq (.reg false a22r2) .ret) .skip)) (.seq (.seq (.reg false a22r3) (.block 0 (.loop a22l9))) (.seq (.reg false a22r10) .ret))))
def a22 : AFun := ⟨3, 56, a22b, [.cell (true, 6) 4 true, .tmp (true, 7)]⟩
theorem c22 : compileFun Try.prog [0, 1, 2, 3, 6, 7, 8, 9, 25, 27, 28, 29, 30, 46] Try.f22 = some a22 := by kernel_rfl

/- damask/damasklaw05.distinct -/
def a23r0 : List AOper :=
  [⟨some (true, 2), .mv (.c (.bool false)), none, []⟩]
def a23r1 : List AOper :=
  [⟨some (false, 5), .mv (.g 0), none, []⟩,
   ⟨some (true, 6), .len (.l 5), none, []⟩,
   ⟨some (true, 7), .mv (.c (.int .i64 0)), none, []⟩]
def a23r2 : List AOper :=
  [⟨some (true, 8), .bin .lss (.g 7) (.g 6), none, []⟩]
def a23r3 : List AOper :=
  [⟨some (false, 9), .mv (.g 7), none, []⟩,
   ⟨some (true, 3), .mv (.l 9), none, []⟩]
def a23r4 : List AOper :=
  [⟨some (false, 10), .mv (.g 0), none, []⟩,
   ⟨some (false, 11), .mv (.g 3), none, []⟩,
   ⟨some (false, 12), .indexAddr 1 (.l 10) (.l 11), none, []⟩,
   ⟨some (false, 13), .load 1 false (.l 12), none, []⟩,
   ⟨some (false, 14), .call false (.c (.fn 20 [] [])) [(.l 13)], none, []⟩,
   ⟨some (false, 15), .un .not (.l 14), none, []⟩,
   ⟨some (false, 16), .mv (.l 15), none, []⟩,
   ⟨some (false, 17), .mv (.g 0), some (false, 16, false), []⟩,
   ⟨some (false, 18), .len (.l 17), some (false, 16, false), []⟩,
   ⟨some (false, 19), .bin .gtr (.l 18) (.c (.int .i64 600)), some (false, 16, false), []⟩,
   ⟨some (true, 20), .pick (.l 16) (.c (.bool true)) (.l 19), none, []⟩]
def a23r5 : List AOper :=
  [⟨some (true, 2), .mv (.c (.bool false)), none, []⟩]
def a23r6 : List AOper :=
  [⟨some (true, 21), .mv (.g 3), none, []⟩,
   ⟨some (true, 22), .mv (.c (.int .i64 0)), none, []⟩]
def a23r7 : List AOper :=
  [⟨some (true, 23), .bin .lss (.g 22) (.g 21), none, []⟩]
def a23r8 : List AOper :=
  [⟨some (false, 24), .mv (.g 22), none, []⟩,
   ⟨some (true, 4), .mv (.l 24), none, []⟩]
def a23r9 : List AOper :=
  [⟨some (false, 25), .mv (.g 0), none, []⟩,
   ⟨some (false, 26), .mv (.g 3), none, []⟩,
   ⟨some (false, 27), .indexAddr 1 (.l 25) (.l 26), none, []⟩,
   ⟨some (false, 28), .load 1 false (.l 27), none, []⟩,
   ⟨some (false, 29), .mv (.g 0), none, []⟩,
   ⟨some (false, 30), .mv (.g 4), none, []⟩,
   ⟨some (false, 31), .indexAddr 1 (.l 29) (.l 30), none, []⟩,
   ⟨some (false, 32), .load 1 false (.l 31), none, []⟩,
   ⟨some (true, 33), .bin .eql (.l 28) (.l 32), none, []⟩]
def a23r10 : List AOper :=
  [⟨some (true, 2), .mv (.c (.bool false)), none, []⟩]
def a23r11 : List AOper :=
  [⟨some (false, 34), .bin .add (.g 22) (.c (.int .i64 1)), none, []⟩,
   ⟨some (true, 22), .mv (.l 34), none, []⟩]
def a23l12 : ACode :=
  (.seq (.reg false a23r7) (.seq (.cond (.g 23) .skip (.exit 2)) (.seq (.block 3 (.seq (.reg false a23r8) (.seq (.reg true a23r9) (.cond (.g 33) (.seq (.reg false a23r10) .ret) .skip)))) (.reg false a23r11))))
def a23r13 : List AOper :=
  [⟨some (false, 35), .bin .add (.g 7) (.c (.int .i64 1)), none, []⟩,
   ⟨some (true, 7), .mv (.l 35), none, []⟩]
def a23l14 : ACode :=
  (.seq (.reg false a23r2) (.seq (.cond (.g 8) .skip (.exit 0)) (.seq (.block 1 (.seq (.reg false a23r3) (.seq (.seq (.reg false a23r4) (.cond (.g 20) (.seq (.reg false a23r5) .ret) .skip)) (.seq (.reg false a23r6) (.block 2 (.loop a23l12)))))) (.reg false a23r13))))
def a23r15 : List AOper :=
  [⟨some (true, 2), .mv (.c (.bool true)), none, []⟩]
def a23b : ACode :=
  (.seq (.reg false a23r0) (.seq (.seq (.reg false a23r1) (.block 0 (.loop a23l14))) (.seq (.reg false a23r15) .ret)))
def a23 : AFun := ⟨1, 36, a23b, [.tmp (true, 2)]⟩
theorem c23 : compileFun Try.prog [0, 2, 3, 4, 6, 7, 8, 20, 21, 22, 23, 33] Try.f23 = some a23 := by kernel_rfl

/- damask/damaskref05.Bind -/
def a24r0 : List AOper :=
  [⟨some (true, 3), .box (.g 0), none, []⟩,
   ⟨some (true, 6), .alloc [(.int .i64 0), (.int .i64 0), (.str ⟨#[]⟩), (.list 0 .full [])], none, []⟩]
def a24r1 : List AOper :=
  [⟨some (false, 7), .load 4 true (.g 3), none, []⟩,
   ⟨some (false, 8), .mv (.g 1), none, []⟩,
   ⟨some (false, 9), .mv (.g 2), none, []⟩,
   ⟨some (false, 10), .call false (.c (.fn 67 [] [])) [(.l 7), (.l 8), (.l 9), (.c (.int .i64 0))], none, []⟩,
   ⟨none, .store 4 (.g 6) (.l 10), none, []⟩]
def a24b : ACode :=
  (.seq (.reg false a24r0) (.seq (.reg false a24r1) .ret))
def a24 : AFun := ⟨3, 11, a24b, [.cell (true, 6) 4 true]⟩
theorem c24 : compileFun Try.prog [0, 1, 2, 3, 6] Try.f24 = some a24 := by kernel_rfl

/- slices.Contains[[]int,int] -/
def a65r0 : List AOper :=
  [⟨some (true, 4), .mv (.c (.bool false)), none, []⟩]
def a65r1 : List AOper :=
  [⟨some (false, 5), .mv (.g 0), none, []⟩,
   ⟨some (false, 6), .mv (.g 1), none, []⟩,
   ⟨some (false, 7), .call false (.c (.fn 107 [] [])) [(.l 5), (.l 6)], none, []⟩,
   ⟨some (false, 8), .bin .geq (.l 7) (.c (.int .i64 0)), none, []⟩,
   ⟨some (true, 4), .mv (.l 8), none, []⟩]
def a65b : ACode :=
  (.seq (.reg false a65r0) (.seq (.reg false a65r1) .ret))
def a65 : AFun := ⟨2, 9, a65b, [.tmp (true, 4)]⟩
theorem c65 : compileFun Try.prog [0, 1, 4] Try.f65 = some a65 := by kernel_rfl

/- slices.Index[[]int,int] -/
def a107r0 : List AOper :=
  [⟨some (true, 4), .mv (.c (.int .i64 0)), none, []⟩]
def a107r1 : List AOper :=
  [⟨some (false, 6), .mv (.g 0), none, []⟩,
   ⟨some (true, 7), .len (.l 6), none, []⟩,
   ⟨some (true, 8), .mv (.c (.int .i64 0)), none, []⟩]
def a107r2 : List AOper :=
  [⟨some (true, 9), .bin .lss (.g 8) (.g 7), none, []⟩]
def a107r3 : List AOper :=
  [⟨some (false, 10), .mv (.g 8), none, []⟩,
   ⟨some (true, 5), .mv (.l 10), none, []⟩]
def a107r4 : List AOper :=
  [⟨some (false, 11), .mv (.g 1), none, []⟩,
   ⟨some (false, 12), .mv (.g 0), none, []⟩,
   ⟨some (false, 13), .mv (.g 5), none, []⟩,
   ⟨some (false, 14), .indexAddr 1 (.l 12) (.l 13), none, []⟩,
   ⟨some (false, 15), .load 1 false (.l 14), none, []⟩,
   ⟨some (true, 16), .bin .eql (.l 11) (.l 15), none, []⟩]
def a107r5 : List AOper :=
  [⟨some (false, 17), .mv (.g 5), none, []⟩,
   ⟨some (true, 4), .mv (.l 17), none, []⟩]
def a107r6 : List AOper :=
  [⟨some (false, 18), .bin .add (.g 8) (.c (.int .i64 1)), none, []⟩,
   ⟨some (true, 8), .mv (.l 18), none, []⟩]
def a107l7 : ACode :=
  (.seq (.reg false a107r2) (.seq (.cond (.g 9) .skip (.exit 0)) (.seq (.block 1 (.seq (.reg false a107r3) (.seq (.reg false a107r4) (.cond (.g 16) (.seq (.reg false a107r5) .ret) .skip)))) (.reg false a107r6))))
def a107r8 : List AOper :=
  [⟨some (true, 4), .mv (.c (.int .i64 (-1))), none, []⟩]
def a107b : ACode :=
  (.seq (.reg false a107r0) (.seq (.seq (.reg false a107r1) (.block 0 (.loop a107l7))) (.seq (.reg false a107r8) .ret)))
def a107 : AFun := ⟨2, 19, a107b, [.tmp (true, 4)]⟩
theorem c107 : compileFun Try.prog [0, 1, 4, 5, 7, 8, 9, 16] Try.f107 = some a107 := by kernel_rfl

/- damask/types.Bound -/
def a66r0 : List AOper :=
  [⟨some (true, 3), .box (.g 0), none, []⟩,
   ⟨some (true, 4), .box (.g 1), none, []⟩,
   ⟨some (true, 5), .box (.g 2), none, []⟩,
   ⟨some (true, 6), .alloc [(.int .i64 0), (.int .i64 0), (.str ⟨#[]⟩), (.list 0 .full [])], none, []⟩]
def a66r1 : List AOper :=
  [⟨some (false, 7), .load 4 true (.g 3), none, []⟩,
   ⟨some (false, 8), .mkfn 108 [] [(.g 4), (.g 5)], none, []⟩,
   ⟨some (false, 9), .call false (.c (.fn 98 [] [])) [(.l 7), (.c (.int .i64 0)), (.l 8)], none, []⟩,
   ⟨none, .store 4 (.g 6) (.l 9), none, []⟩]
def a66b : ACode :=
  (.seq (.seq (.seq (.reg false a66r0) (.frz 4)) (.frz 5)) (.seq (.reg false a66r1) .ret))
def a66 : AFun := ⟨3, 10, a66b, [.cell (true, 6) 4 true]⟩
theorem c66 : compileFun Try.prog [0, 1, 2, 3, 4, 5, 6, 1000000000004, 1000000000005] Try.f66 = some a66 := by kernel_rfl

/- damask/types.Bound$1 -/
def a108r0 : List AOper :=
  [⟨some (true, 4), .box (.g 0), none, []⟩,
   ⟨some (true, 6), .alloc [(.int .i64 0), (.int .i64 0), (.str ⟨#[]⟩), (.list 0 .full [])], none, []⟩,
   ⟨some (true, 7), .mv (.c (.bool false)), none, []⟩]
def a108r1 : List AOper :=
  [⟨some (false, 9), .fieldAddr 0 (.g 4), none, []⟩,
   ⟨some (false, 10), .load 1 false (.l 9), none, []⟩,
   ⟨some (false, 11), .load 1 false (.g 2), none, []⟩,
   ⟨some (false, 12), .bin .eql (.l 10) (.l 11), none, []⟩,
   ⟨some (false, 13), .mv (.l 12), none, []⟩,
   ⟨some (false, 14), .load 1 false (.g 3), some (false, 13, true), []⟩,
   ⟨some (false, 15), .fieldAddr 1 (.g 4), some (false, 13, true), []⟩,
   ⟨some (false, 16), .load 1 false (.l 15), some (false, 13, true), []⟩,
   ⟨some (false, 17), .call false (.c (.fn 65 [] [])) [(.l 14), (.l 16)], some (false, 13, true), []⟩,
   ⟨some (false, 18), .pick (.l 13) (.l 17) (.c (.bool false)), none, []⟩,
   ⟨some (true, 8), .mv (.l 18), none, []⟩]
def a108r2 : List AOper :=
  [⟨some (false, 19), .load 1 false (.g 3), none, []⟩,
   ⟨some (false, 20), .len (.l 19), none, []⟩,
   ⟨some (false, 21), .bin .sub (.l 20) (.c (.int .i64 1)), none, []⟩,
   ⟨some (false, 22), .load 1 false (.g 3), none, []⟩,
   ⟨some (false, 23), .fieldAddr 1 (.g 4), none, []⟩,
   ⟨some (false, 24), .load 1 false (.l 23), none, []⟩,
   ⟨some (false, 25), .call true (.c (.fn 107 [] [])) [(.l 22), (.l 24)], none, []⟩,
   ⟨some (false, 26), .bin .sub (.l 21) (.l 25), none, []⟩,
   ⟨some (false, 27), .mv (.g 1), none, []⟩,
   ⟨some (false, 28), .bin .add (.l 26) (.l 27), none, []⟩,
   ⟨some (false, 29), .call true (.c (.fn 109 [] [])) [(.l 28)], none, []⟩,
   ⟨none, .store 4 (.g 6) (.l 29), none, []⟩,
   ⟨some (true, 7), .mv (.c (.bool true)), none, []⟩]
def a108r3 : List AOper :=
  [⟨some (false, 31), .fieldAddr 0 (.g 4), none, []⟩,
   ⟨some (false, 32), .load 1 false (.l 31), none, []⟩,
   ⟨some (false, 33), .bin .eql (.l 32) (.c (.int .i64 1)), none, []⟩,
   ⟨some (false, 34), .mv (.l 33), none, []⟩,
   ⟨some (false, 35), .fieldAddr 1 (.g 4), some (false, 34, true), []⟩,
   ⟨some (false, 36), .load 1 false (.l 35), some (false, 34, true), []⟩,
   ⟨some (false, 37), .mv (.g 1), some (false, 34, true), []⟩,
   ⟨some (false, 38), .bin .geq (.l 36) (.l 37), some (false, 34, true), []⟩,
   ⟨some (false, 39), .pick (.l 34) (.l 38) (.c (.bool false)), none, []⟩,
   ⟨some (true, 30), .mv (.l 39), none, []⟩]
def a108r4 : List AOper :=
  [⟨some (false, 40), .fieldAddr 1 (.g 4), none, []⟩,
   ⟨some (false, 41), .load 1 false (.l 40), none, []⟩,
   ⟨some (false, 42), .load 1 false (.g 3), none, []⟩,
   ⟨some (false, 43), .len (.l 42), none, []⟩,
   ⟨some (false, 44), .bin .add (.l 41) (.l 43), none, []⟩,
   ⟨some (false, 45), .call false (.c (.fn 109 [] [])) [(.l 44)], none, []⟩,
   ⟨none, .store 4 (.g 6) (.l 45), none, []⟩,
   ⟨some (true, 7), .mv (.c (.bool true)), none, []⟩]
def a108r5 : List AOper :=
  [⟨some (false, 46), .load 4 true (.g 4), none, []⟩,
   ⟨some (false, 47), .fieldAddr 0 (.g 4), none, []⟩,
   ⟨some (false, 48), .load 1 false (.l 47), none, []⟩,
   ⟨some (false, 49), .bin .eql (.l 48) (.c (.int .i64 1)), none, []⟩,
   ⟨none, .store 4 (.g 6) (.l 46), none, [2]⟩,
   ⟨some (true, 7), .mv (.l 49), none, []⟩]
def a108b : ACode :=
  (.seq (.reg false a108r0) (.seq (.block 0 (.seq (.reg false a108r1) (.cond (.g 8) (.seq (.reg true a108r2) .ret) (.seq (.reg false a108r3) (.cond (.g 30) (.seq (.reg false a108r4) .ret) .skip))))) (.seq (.reg true a108r5) .ret)))
def a108 : AFun := ⟨4, 50, a108b, [.cell (true, 6) 4 true, .tmp (true, 7)]⟩
theorem c108 : compileFun Try.prog [0, 1, 2, 3, 4, 6, 7, 8, 30] Try.f108 = some a108 := by kernel_rfl

/- damask/types.Var -/
def a109r0 : List AOper :=
  [⟨some (true, 2), .alloc [(.int .i64 0), (.int .i64 0), (.str ⟨#[]⟩), (.list 0 .full [])], none, []⟩]
def a109r1 : List AOper :=
  [⟨some (false, 3), .mv (.g 0), none, []⟩,
   ⟨some (false, 4), .build [(.int .i64 0), (.int .i64 0), (.str ⟨#[]⟩), (.list 0 .full [])] [(0, 1, (.c (.int .i64 1))), (1, 1, (.l 3))], none, []⟩,
   ⟨none, .store 4 (.g 2) (.l 4), none, []⟩]
def a109b : ACode :=
  (.seq (.reg false a109r0) (.seq (.reg false a109r1) .ret))
def a109 : AFun := ⟨1, 5, a109b, [.cell (true, 2) 4 true]⟩
theorem c109 : compileFun Try.prog [0, 2] Try.f109 = some a109 := by kernel_rfl

/- damask/damaskref05.bind -/
def a67r0 : List AOper :=
  [⟨some (true, 4), .box (.g 0), none, []⟩,
   ⟨some (true, 8), .alloc [(.int .i64 0), (.int .i64 0), (.str ⟨#[]⟩), (.list 0 .full [])], none, []⟩]
def a67r1 : List AOper :=
  [⟨some (false, 14), .fieldAddr 0 (.g 4), none, []⟩,
   ⟨some (false, 15), .load 1 false (.l 14), none, []⟩,
   ⟨some (false, 16), .fieldAddr 1 (.g 4), none, []⟩,
   ⟨some (false, 17), .load 1 false (.l 16), none, []⟩,
   ⟨some (false, 18), .fieldAddr 2 (.g 4), none, []⟩,
   ⟨some (false, 19), .load 1 false (.l 18), none, []⟩,
   ⟨some (false, 20), .build [(.int .i64 0), (.int .i64 0), (.str ⟨#[]⟩), (.list 0 .full [])] [(0, 1, (.l 15)), (1, 1, (.l 17)), (2, 1, (.l 19))], none, []⟩,
   ⟨some (true, 9), .alloc [(.int .i64 0), (.int .i64 0), (.str ⟨#[]⟩), (.list 0 .full [])], none, []⟩,
   ⟨none, .store 4 (.g 9) (.l 20), none, []⟩]
def a67r2 : List AOper :=
  [⟨some (false, 21), .fieldAddr 0 (.g 4), none, []⟩,
   ⟨some (false, 22), .load 1 false (.l 21), none, []⟩,
   ⟨some (false, 23), .bin .eql (.l 22) (.c (.int .i64 1)), none, []⟩,
   ⟨some (false, 24), .mv (.l 23), none, []⟩,
   ⟨some (false, 25), .fieldAddr 1 (.g 4), some (false, 24, true), []⟩,
   ⟨some (false, 26), .load 1 false (.l 25), some (false, 24, true), []⟩,
   ⟨some (false, 27), .mv (.g 3), some (false, 24, true), []⟩,
   ⟨some (false, 28), .bin .geq (.l 26) (.l 27), some (false, 24, true), []⟩,
   ⟨some (true, 29), .pick (.l 24) (.l 28) (.c (.bool false)), none, []⟩]
def a67r3 : List AOper :=
  [⟨some (false, 30), .fieldAddr 1 (.g 4), none, []⟩,
   ⟨some (false, 31), .load 1 false (.l 30), none, []⟩,
   ⟨some (false, 32), .mv (.g 2), none, []⟩,
   ⟨some (false, 33), .len (.l 32), none, []⟩,
   ⟨some (false, 34), .bin .add (.l 31) (.l 33), none, []⟩,
   ⟨some (false, 35), .fieldAddr 1 (.g 9), none, []⟩,
   ⟨none, .store 1 (.l 35) (.l 34), none, []⟩]
def a67r4 : List AOper :=
  [⟨some (false, 36), .fieldAddr 0 (.g 4), none, []⟩,
   ⟨some (false, 37), .load 1 false (.l 36), none, []⟩,
   ⟨some (false, 38), .mv (.g 1), none, []⟩,
   ⟨some (true, 39), .bin .eql (.l 37) (.l 38), none, []⟩]
def a67r5 : List AOper :=
  [⟨some (true, 40), .mv (.g 2), none, []⟩,
   ⟨some (true, 41), .len (.g 40), none, []⟩,
   ⟨some (true, 42), .mv (.c (.int .i64 0)), none, []⟩]
def a67r6 : List AOper :=
  [⟨some (true, 43), .bin .lss (.g 42) (.g 41), none, []⟩]
def a67r7 : List AOper :=
  [⟨some (false, 44), .mv (.g 42), none, []⟩,
   ⟨some (false, 45), .indexAddr 1 (.g 40) (.g 42), none, []⟩,
   ⟨some (false, 46), .load 1 false (.l 45), none, []⟩,
   ⟨some (true, 10), .mv (.l 44), none, []⟩,
   ⟨some (true, 11), .mv (.l 46), none, []⟩]
def a67r8 : List AOper :=
  [⟨some (false, 47), .mv (.g 11), none, []⟩,
   ⟨some (false, 48), .fieldAddr 1 (.g 4), none, []⟩,
   ⟨some (false, 49), .load 1 false (.l 48), none, []⟩,
   ⟨some (true, 50), .bin .eql (.l 47) (.l 49), none, []⟩]
def a67r9 : List AOper :=
  [⟨some (false, 51), .mv (.g 2), none, []⟩,
   ⟨some (false, 52), .len (.l 51), none, []⟩,
   ⟨some (false, 53), .bin .sub (.l 52) (.c (.int .i64 1)), none, []⟩,
   ⟨some (false, 54), .mv (.g 10), none, []⟩,
   ⟨some (false, 55), .bin .sub (.l 53) (.l 54), none, []⟩,
   ⟨some (false, 56), .mv (.g 3), none, []⟩,
   ⟨some (false, 57), .bin .add (.l 55) (.l 56), none, []⟩,
   ⟨some (false, 58), .call false (.c (.fn 59 [] [])) [(.l 57)], none, []⟩,
   ⟨none, .store 4 (.g 8) (.l 58), none, []⟩]
def a67r10 : List AOper :=
  [⟨some (false, 59), .bin .add (.g 42) (.c (.int .i64 1)), none, []⟩,
   ⟨some (true, 42), .mv (.l 59), none, []⟩]
def a67l11 : ACode :=
  (.seq (.reg false a67r6) (.seq (.cond (.g 43) .skip (.exit 0)) (.seq (.block 1 (.seq (.reg false a67r7) (.seq (.reg false a67r8) (.cond (.g 50) (.seq (.reg false a67r9) .ret) .skip)))) (.reg false a67r10))))
def a67r12 : List AOper :=
  [⟨some (false, 60), .fieldAddr 3 (.g 4), none, []⟩,
   ⟨some (true, 61), .load 1 false (.l 60), none, []⟩,
   ⟨some (true, 62), .len (.g 61), none, []⟩,
   ⟨some (true, 63), .mv (.c (.int .i64 0)), none, []⟩]
def a67r13 : List AOper :=
  [⟨some (true, 64), .bin .lss (.g 63) (.g 62), none, []⟩]
def a67r14 : List AOper :=
  [⟨some (false, 65), .mv (.g 63), none, []⟩,
   ⟨some (false, 66), .indexAddr 4 (.g 61) (.g 63), none, []⟩,
   ⟨some (false, 67), .load 4 true (.l 66), none, []⟩,
   ⟨some (true, 13), .alloc [(.int .i64 0), (.int .i64 0), (.str ⟨#[]⟩), (.list 0 .full [])], none, []⟩,
   ⟨some (true, 12), .mv (.l 65), none, []⟩,
   ⟨none, .store 4 (.g 13) (.l 67), none, []⟩]
def a67r15 : List AOper :=
  [⟨some (false, 68), .fieldAddr 3 (.g 9), none, []⟩,
   ⟨some (false, 69), .load 1 false (.l 68), none, []⟩,
   ⟨some (false, 70), .load 4 true (.g 13), none, []⟩,
   ⟨some (false, 71), .mv (.g 1), none, []⟩,
   ⟨some (false, 72), .mv (.g 2), none, []⟩,
   ⟨some (false, 73), .mv (.g 3), none, []⟩,
   ⟨some (false, 74), .load 4 true (.g 4), none, []⟩,
   ⟨some (false, 75), .mv (.g 12), none, []⟩,
   ⟨some (false, 76), .call true (.c (.fn 103 [] [])) [(.l 74), (.l 75)], none, []⟩,
   ⟨some (false, 77), .bin .add (.l 73) (.l 76), none, []⟩,
   ⟨some (false, 78), .call true (.c (.fn 67 [] [])) [(.l 70), (.l 71), (.l 72), (.l 77)], none, []⟩,
   ⟨some (false, 79), .buildSlice 4 true [(.int .i64 0), (.int .i64 0), (.str ⟨#[]⟩), (.list 0 .full [])] 1 [(0, (.l 78))], none, []⟩,
   ⟨some (false, 80), .append 4 56 (.l 69) (.l 79), none, []⟩,
   ⟨some (false, 81), .fieldAddr 3 (.g 9), none, []⟩,
   ⟨none, .store 1 (.l 81) (.l 80), none, []⟩]
def a67r16 : List AOper :=
  [⟨some (false, 82), .bin .add (.g 63) (.c (.int .i64 1)), none, []⟩,
   ⟨some (true, 63), .mv (.l 82), none, []⟩]
def a67l17 : ACode :=
  (.seq (.reg false a67r13) (.seq (.cond (.g 64) .skip (.exit 2)) (.seq (.block 3 (.seq (.reg false a67r14) (.reg true a67r15))) (.reg false a67r16))))
def a67r18 : List AOper :=
  [⟨some (false, 83), .load 4 true (.g 9), none, []⟩,
   ⟨none, .store 4 (.g 8) (.l 83), none, []⟩]
def a67b : ACode :=
  (.seq (.reg false a67r0) (.seq (.reg false a67r1) (.seq (.seq (.reg false a67r2) (.cond (.g 29) (.reg false a67r3) .skip)) (.seq (.seq (.reg false a67r4) (.cond (.g 39) (.seq (.reg false a67r5) (.block 0 (.loop a67l11))) .skip)) (.seq (.seq (.reg false a67r12) (.block 2 (.loop a67l17))) (.seq (.reg false a67r18) .ret))))))
def a67 : AFun := ⟨4, 84, a67b, [.cell (true, 8) 4 true]⟩
theorem c67 : compileFun Try.prog [0, 1, 2, 3, 4, 8, 9, 10, 11, 12, 13, 29, 39, 40, 41, 42, 43, 50, 61, 62, 63, 64] Try.f67 = some a67 := by kernel_rfl

end Go.AL.Ty
