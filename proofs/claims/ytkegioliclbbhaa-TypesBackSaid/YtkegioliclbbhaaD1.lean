/- Types as data, and what walks over them need. -/
import Derived.Test.YtkegioliclbbhaaA16
set_option linter.unusedVariables false
set_option linter.unusedSimpArgs false
namespace Go.AL

inductive Ty where
  | mk (op n : Int) (s : ByteArray) (args : List Ty)
namespace Ty
def op : Ty → Int | mk o _ _ _ => o
def n : Ty → Int | mk _ o _ _ => o
def s : Ty → ByteArray | mk _ _ s _ => s
def args : Ty → List Ty | mk _ _ _ a => a
@[simp] theorem op_mk (o n : Int) (s : ByteArray) (a : List Ty) : (mk o n s a).op = o := rfl
@[simp] theorem n_mk (o n : Int) (s : ByteArray) (a : List Ty) : (mk o n s a).n = n := rfl
@[simp] theorem s_mk (o n : Int) (s : ByteArray) (a : List Ty) : (mk o n s a).s = s := rfl
@[simp] theorem args_mk (o n : Int) (s : ByteArray) (a : List Ty) : (mk o n s a).args = a := rfl
theorem eta (t : Ty) : mk t.op t.n t.s t.args = t := by cases t; rfl

mutual
def av : Ty → AV
  | mk op n s args => .agg [.int .i64 op, .int .i64 n, .str s, .list 4 .none (avs args)]
def avs : List Ty → List AV
  | [] => []
  | t :: ts => av t :: avs ts
end
theorem avs_eq : ∀ ts, avs ts = ts.map av
  | [] => rfl
  | t :: ts => by simp [avs, avs_eq ts]
theorem av_mk (op n : Int) (s : ByteArray) (a : List Ty) : av (mk op n s a) = .agg [.int .i64 op, .int .i64 n, .str s, .list 4 .none (a.map av)] := by simp [av, avs_eq]
@[simp] theorem av_cells (t : Ty) : t.av.cells = [.int .i64 t.op, .int .i64 t.n, .str t.s, .list 4 .none (t.args.map av)] := by cases t; simp [av_mk]
@[simp] theorem av_isVal (t : Ty) : t.av.isVal = true := by cases t; rfl
@[simp] theorem av_fold (t : Ty) : AV.agg [.int .i64 t.op, .int .i64 t.n, .str t.s, .list 4 .none (t.args.map av)] = t.av := by cases t; simp [av_mk]

theorem wk_av (t : Ty) (x : AV) : wk x t.av ↔ wk x (.agg [.int .i64 t.op, .int .i64 t.n, .str t.s, .list 4 .none (t.args.map av)]) := by rw [av_fold]

/-- Into the arguments. -/
theorem ind {C : Ty → Prop} (h : ∀ t, (∀ x ∈ t.args, C x) → C t) (t : Ty) : C t := by
  refine Ty.rec (motive_1 := C) (motive_2 := fun l => ∀ x ∈ l, C x) ?_ ?_ ?_ t
  · intro o n s a ih
    exact h _ ih
  · intro x hx; cases hx
  · intro a l ha hl x hx
    simp only [List.mem_cons] at hx
    rcases hx with rfl | hx
    · exact ha
    · exact hl x hx
end Ty

theorem wrap64 {x : Int} (h1 : -9223372036854775808 ≤ x) (h2 : x ≤ 9223372036854775807) : IntKind.i64.wrap x = x := by
  unfold IntKind.wrap
  simp [IntKind.bits, IntKind.signed]
  omega
end Go.AL
