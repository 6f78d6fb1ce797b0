/- The reference: functions, applications. -/
import Derived.Test.YtkegioliclbbhaaE6
set_option linter.unusedVariables false
set_option linter.unusedSimpArgs false
namespace Go.AL.Ty
open Go Go.Proofs

def con (x : ByteArray) : Ty := mk 2 0 x []
def var (n : Int) : Ty := mk 1 n ⟨#[]⟩ []
def app (f a : Ty) : Ty := mk 3 0 ⟨#[]⟩ [f, a]
def arrow (a b : Ty) : Ty := app (app (con ⟨#[45, 62]⟩) a) b
theorem p100 (a b : Ty) : PureC Try.prog 100 [a.av, b.av] (arrow a b).av := by
  refine PureC.intro fun s => fun_sound mixed Try.func100 Try.call100 c100 rfl (awpFun_go _ _ _ _ ?_)
  simp (implicitDefEqProofs := false) (maxSteps := 2000000) (disch := (first | omega | (simp only [St.new_nx, St.set_nx, St.del_nx, St.bump_nx]; done) | (simp only [St.new_nx, St.set_nx, St.del_nx, St.bump_nx]; omega) | fail)) [a100, a100b, a100r0, a100r1]
  refine pcV_intro (p78 _) ?_
  simp (implicitDefEqProofs := false) (maxSteps := 2000000) (disch := (first | omega | (simp only [St.new_nx, St.set_nx, St.del_nx, St.bump_nx]; done) | (simp only [St.new_nx, St.set_nx, St.del_nx, St.bump_nx]; omega) | fail))
  refine pcV_intro (p116 (con ⟨#[45, 62]⟩) a) ?_
  simp (implicitDefEqProofs := false) (maxSteps := 2000000) (disch := (first | omega | (simp only [St.new_nx, St.set_nx, St.del_nx, St.bump_nx]; done) | (simp only [St.new_nx, St.set_nx, St.del_nx, St.bump_nx]; omega) | fail))
  refine pcV_intro (p116 (app (con ⟨#[45, 62]⟩) a) b) ?_
  simp (implicitDefEqProofs := false) (maxSteps := 2000000) (disch := (first | omega | (simp only [St.new_nx, St.set_nx, St.del_nx, St.bump_nx]; done) | (simp only [St.new_nx, St.set_nx, St.del_nx, St.bump_nx]; omega) | fail)) [arrow, app, con, av_mk]
theorem p58 (a b : Ty) : PureC Try.prog 58 [a.av, b.av] (arrow a b).av := by
  refine PureC.intro fun s => fun_sound mixed Try.func58 Try.call58 c58 rfl (awpFun_go _ _ _ _ ?_)
  simp (implicitDefEqProofs := false) (maxSteps := 2000000) (disch := (first | omega | (simp only [St.new_nx, St.set_nx, St.del_nx, St.bump_nx]; done) | (simp only [St.new_nx, St.set_nx, St.del_nx, St.bump_nx]; omega) | fail)) [a58, a58b, a58r0, a58r1]
  refine go_pure (p100 a b) fun m hm => ?_
  simp (implicitDefEqProofs := false) (maxSteps := 2000000) (disch := (first | omega | (simp only [St.new_nx, St.set_nx, St.del_nx, St.bump_nx]; done) | (simp only [St.new_nx, St.set_nx, St.del_nx, St.bump_nx]; omega) | fail))

def apply (f : Ty) (l : List Ty) : Ty := l.foldl app f
theorem p33 (f : Ty) (l : List Ty) (hl : l.length ≤ 4611686018427387904) : PureC Try.prog 33 [f.av, .list 4 .none (l.map av)] (apply f l).av := by
  refine PureC.intro fun s => fun_sound mixed Try.func33 Try.call33 c33 rfl (awpFun_go _ _ _ _ ?_)
  simp (implicitDefEqProofs := false) (maxSteps := 2000000) (disch := (first | omega | (simp only [St.new_nx, St.set_nx, St.del_nx, St.bump_nx]; done) | (simp only [St.new_nx, St.set_nx, St.del_nx, St.bump_nx]; omega) | fail)) [a33, a33b, a33r0, a33r1]
  refine go_loop (fun n g s1 => ∃ (i : Nat) (x : Ty), i ≤ l.length ∧ n = l.length - i ∧ apply x (l.drop i) = apply f l ∧
    g.get 7 = .list 4 .none (l.map av) ∧ g.get 8 = .int .i64 l.length ∧ g.get 9 = .int .i64 i ∧ g.get 2 = .ptr s.nx 0 ∧ g.get 4 = .ptr (s.nx + 1) 0 ∧
    s1.m s.nx = some (.box [.int .i64 x.op, .int .i64 x.n, .str x.s, .list 4 .none (x.args.map av)]) ∧ s1.m (s.nx + 1) = some (.box [.int .i64 0, .int .i64 0, .str ⟨#[]⟩, .list 0 .full []]) ∧ Kept s s1 ∧ s.nx + 1 < s1.nx) l.length
    ⟨0, f, Nat.zero_le _, by simp, by simp, by simp, by simp, by simp, by simp, by simp, by simp (implicitDefEqProofs := false) (maxSteps := 2000000) (disch := (first | omega | (simp only [St.new_nx, St.set_nx, St.del_nx, St.bump_nx]; done) | (simp only [St.new_nx, St.set_nx, St.del_nx, St.bump_nx]; omega) | fail)), by simp (implicitDefEqProofs := false) (maxSteps := 2000000) (disch := (first | omega | (simp only [St.new_nx, St.set_nx, St.del_nx, St.bump_nx]; done) | (simp only [St.new_nx, St.set_nx, St.del_nx, St.bump_nx]; omega) | fail)), by simp (implicitDefEqProofs := false) (maxSteps := 2000000) (disch := (first | omega | (simp only [St.new_nx, St.set_nx, St.del_nx, St.bump_nx]; done) | (simp only [St.new_nx, St.set_nx, St.del_nx, St.bump_nx]; omega) | fail)), by simp⟩ ?_
  rintro n g s1 ⟨i, x, hi, rfl, hg, h7, h8, h9, h2, h4, hX, hR, hk, hn⟩
  by_cases hlt : i < l.length
  · have hx : l[i]? = some l[i] := by simp [hlt]
    have hlt' : (i : Int) < l.length := by omega
    have w2 : IntKind.i64.wrap ((i : Int) + 1) = ((i + 1 : Nat) : Int) := by rw [wrap64 (by omega) (by omega)]; omega
    have hdrop : l.drop i = l[i] :: l.drop (i + 1) := List.drop_eq_getElem_cons hlt
    simp (implicitDefEqProofs := false) (maxSteps := 2000000) (disch := (first | omega | (simp only [St.new_nx, St.set_nx, St.del_nx, St.bump_nx]; done) | (simp only [St.new_nx, St.set_nx, St.del_nx, St.bump_nx]; omega) | fail)) [a33l6, a33r2, a33r3, a33r4, h7, h8, h9, h2, hX, hlt', hlt, hx]
    refine go_pure (p76 x l[i]) fun m hm => ?_
    simp only [St.new_nx, St.set_nx, St.bump_nx] at hm
    rw [hdrop] at hg
    simp (implicitDefEqProofs := false) (maxSteps := 2000000) (disch := (first | omega | (simp only [St.new_nx, St.set_nx, St.del_nx, St.bump_nx]; done) | (simp only [St.new_nx, St.set_nx, St.del_nx, St.bump_nx]; omega) | fail)) [a33r5, h9, w2, hX, h2]
    refine go_next (l.length - (i + 1)) (by omega) ⟨i + 1, by omega, rfl, app x l[i], hg, ?_, ?_, ?_, ?_, ?_, ?_, ?_, ?_, ?_⟩ <;> (try simp (implicitDefEqProofs := false) (maxSteps := 2000000) (disch := (first | omega | (simp only [St.new_nx, St.set_nx, St.del_nx, St.bump_nx]; done) | (simp only [St.new_nx, St.set_nx, St.del_nx, St.bump_nx]; omega) | fail)) [h7, h8, h9, h2, h4, hX, hR, hk, app])
    all_goals omega
  · have hlt' : ¬ (i : Int) < l.length := by omega
    have hd : l.drop i = [] := List.drop_eq_nil_of_le (by omega)
    rw [hd] at hg
    have hg' : x = apply f l := hg
    simp (implicitDefEqProofs := false) (maxSteps := 2000000) (disch := (first | omega | (simp only [St.new_nx, St.set_nx, St.del_nx, St.bump_nx]; done) | (simp only [St.new_nx, St.set_nx, St.del_nx, St.bump_nx]; omega) | fail)) [a33l6, a33r2, h7, h8, h9, h2, h4, hlt', a33r7, hX, hR, hk, hg']
end Go.AL.Ty
