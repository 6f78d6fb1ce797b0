/- Small functions of types. -/
import Derived.Test.YtkegioliclbbhaaD1
import Derived.Test.YtkegioliclbbhaaC2
set_option linter.unusedVariables false
set_option linter.unusedSimpArgs false
namespace Go.AL.Ty
open Go Go.Proofs
theorem mixed : Try.prog.follows .mixedOrders = true := by kernel_rfl

def kids (op : Int) : Int := if op = 3 ∨ op = 4 ∨ op = 5 then 2 else 0
theorem p124 (op : Int) : PureC Try.prog 124 [.int .i64 op] (.int .i64 (kids op)) := by
  refine PureC.intro fun s => fun_sound mixed Try.func124 Try.call124 c124 rfl (awpFun_go _ _ _ _ ?_)
  simp (disch := (first | omega | (simp only [St.new_nx, St.set_nx, St.del_nx, St.bump_nx]; done) | (simp only [St.new_nx, St.set_nx, St.del_nx, St.bump_nx]; omega) | fail)) [a124, a124b, a124r0, a124r1, a124r2, a124r3, kids]
  grind

def isNum (op : Int) : Bool := (decide (op = 1) || decide (op = 6) || decide (op = 7))
theorem p125 (op : Int) : PureC Try.prog 125 [.int .i64 op] (.bool (isNum op)) := by
  refine PureC.intro fun s => fun_sound mixed Try.func125 Try.call125 c125 rfl (awpFun_go _ _ _ _ ?_)
  simp (disch := (first | omega | (simp only [St.new_nx, St.set_nx, St.del_nx, St.bump_nx]; done) | (simp only [St.new_nx, St.set_nx, St.del_nx, St.bump_nx]; omega) | fail)) [a125, a125b, a125r0, a125r1, isNum]

  grind

def belw (op i : Int) : Int := if op = 4 ∧ i = 1 then 1 else 0
theorem p105 (t : Ty) (i : Int) : PureC Try.prog 105 [t.av, .int .i64 i] (.int .i64 (belw t.op i)) := by
  refine PureC.intro fun s => fun_sound mixed Try.func105 Try.call105 c105 rfl (awpFun_go _ _ _ _ ?_)
  simp (disch := (first | omega | (simp only [St.new_nx, St.set_nx, St.del_nx, St.bump_nx]; done) | (simp only [St.new_nx, St.set_nx, St.del_nx, St.bump_nx]; omega) | fail)) [a105, a105b, a105r0, a105r1, a105r2, a105r3, belw]

  grind
end Go.AL.Ty
