/- Proper types, lists of them. -/
import Derived.Test.YtkegioliclbbhaaE2
set_option linter.unusedVariables false
set_option linter.unusedSimpArgs false
namespace Go.AL.Ty
open Go Go.Proofs

def proper (t : Ty) : Bool := (gd t 1 600).1
theorem p53 (t : Ty) : PureC Try.prog 53 [t.av] (.bool (proper t)) := by
  refine PureC.intro fun s => fun_sound mixed Try.func53 Try.call53 c53 rfl (awpFun_go _ _ _ _ ?_)
  simp (implicitDefEqProofs := false) (maxSteps := 2000000) (disch := (first | omega | (simp only [St.new_nx, St.set_nx, St.del_nx, St.bump_nx]; done) | (simp only [St.new_nx, St.set_nx, St.del_nx, St.bump_nx]; omega) | fail)) [a53, a53b, a53r0, a53r1, a53r2]
  refine go_calls (p95 t 1 600 _ _ _ (by omega) (by omega) (by omega) (by omega) ?_ ?_ fun m hm => go_of ?_)
  · simp (implicitDefEqProofs := false) (maxSteps := 2000000) (disch := (first | omega | (simp only [St.new_nx, St.set_nx, St.del_nx, St.bump_nx]; done) | (simp only [St.new_nx, St.set_nx, St.del_nx, St.bump_nx]; omega) | fail))
  · simp (implicitDefEqProofs := false) (maxSteps := 2000000) (disch := (first | omega | (simp only [St.new_nx, St.set_nx, St.del_nx, St.bump_nx]; done) | (simp only [St.new_nx, St.set_nx, St.del_nx, St.bump_nx]; omega) | fail))
  · simp (implicitDefEqProofs := false) (maxSteps := 2000000) (disch := (first | omega | (simp only [St.new_nx, St.set_nx, St.del_nx, St.bump_nx]; done) | (simp only [St.new_nx, St.set_nx, St.del_nx, St.bump_nx]; omega) | fail)) [proper]

theorem p97 (t : Ty) : PureC Try.prog 97 [t.av] (.bool (!proper t)) := by
  refine PureC.intro fun s => fun_sound mixed Try.func97 Try.call97 c97 rfl (awpFun_go _ _ _ _ ?_)
  simp (implicitDefEqProofs := false) (maxSteps := 2000000) (disch := (first | omega | (simp only [St.new_nx, St.set_nx, St.del_nx, St.bump_nx]; done) | (simp only [St.new_nx, St.set_nx, St.del_nx, St.bump_nx]; omega) | fail)) [a97, a97b, a97r0, a97r1]
  refine go_pure (p53 t) fun m hm => ?_
  simp (implicitDefEqProofs := false) (maxSteps := 2000000) (disch := (first | omega | (simp only [St.new_nx, St.set_nx, St.del_nx, St.bump_nx]; done) | (simp only [St.new_nx, St.set_nx, St.del_nx, St.bump_nx]; omega) | fail))

/-- Where the first one is, for which a function says so. -/
def firstAt {α : Type} (p : α → Bool) : List α → Nat → Int
  | [], _ => -1
  | x :: xs, i => if p x then (i : Int) else firstAt p xs (i + 1)
theorem firstAt_neg {α : Type} (p : α → Bool) : ∀ (l : List α) (i : Nat), (0 ≤ firstAt p l i) = (l.any p = true)
  | [], i => by simp [firstAt]
  | x :: xs, i => by
    simp only [firstAt]
    split
    · rename_i h; simp [h]
    · rename_i h; simp [h, firstAt_neg p xs (i + 1)]

/-- A function value that decides. -/
def Decides (f : AV) (p : Ty → Bool) : Prop := ∃ k a b, f = .fn k a b ∧ ∀ t : Ty, PureC Try.prog k (a ++ [t.av] ++ b) (.bool (p t))

theorem p126 (ts : List Ty) (f : AV) (p : Ty → Bool) (hf : Decides f p) (hlen : ts.length ≤ 1000000) : PureC Try.prog 126 [.list 4 .none (ts.map av), f] (.int .i64 (firstAt p ts 0)) := by
  obtain ⟨k, a, b, rfl, hp⟩ := hf
  refine PureC.intro fun s => fun_sound mixed Try.func126 Try.call126 c126 rfl (awpFun_go _ _ _ _ ?_)
  simp (implicitDefEqProofs := false) (maxSteps := 2000000) (disch := (first | omega | (simp only [St.new_nx, St.set_nx, St.del_nx, St.bump_nx]; done) | (simp only [St.new_nx, St.set_nx, St.del_nx, St.bump_nx]; omega) | fail)) [a126, a126b, a126r0, a126r1]
  refine go_loop (fun n g s1 => ∃ (i : Nat), i ≤ ts.length ∧ n = ts.length - i ∧ firstAt p (ts.drop i) i = firstAt p ts 0 ∧
    g.get 0 = .list 4 .none (ts.map av) ∧ g.get 7 = .int .i64 ts.length ∧ g.get 8 = .int .i64 i ∧ g.get 1 = .fn k a b ∧ Kept s s1 ∧ s.nx ≤ s1.nx) ts.length ⟨0, Nat.zero_le _, by simp, by simp, by simp, by simp, by simp, by simp, by simp, by simp⟩ ?_
  rintro n g s1 ⟨i, hi, rfl, hg, h0, h7, h8, h1, hk, hn⟩
  by_cases hlt : i < ts.length
  · have hx : ts[i]? = some ts[i] := by simp [hlt]
    have hlt' : (i : Int) < ts.length := by omega
    have w2 : IntKind.i64.wrap ((i : Int) + 1) = ((i + 1 : Nat) : Int) := by rw [wrap64 (by omega) (by omega)]; omega
    have hdrop : ts.drop i = ts[i] :: ts.drop (i + 1) := List.drop_eq_getElem_cons hlt
    simp (implicitDefEqProofs := false) (maxSteps := 2000000) (disch := (first | omega | (simp only [St.new_nx, St.set_nx, St.del_nx, St.bump_nx]; done) | (simp only [St.new_nx, St.set_nx, St.del_nx, St.bump_nx]; omega) | fail)) [a126l7, a126r2, a126r3, a126r4, h0, h7, h8, h1, hlt', hlt, hx]
    have hp' := hp ts[i]
    simp only [List.append_assoc, List.singleton_append] at hp'
    refine go_pure hp' fun m hm => ?_
    rw [hdrop, firstAt] at hg
    simp (implicitDefEqProofs := false) (maxSteps := 2000000) (disch := (first | omega | (simp only [St.new_nx, St.set_nx, St.del_nx, St.bump_nx]; done) | (simp only [St.new_nx, St.set_nx, St.del_nx, St.bump_nx]; omega) | fail)) [a126r5, a126r6]
    refine ⟨fun hb => ?_, fun hb => ?_⟩
    · rw [if_pos hb] at hg
      exact ⟨hg, hk⟩
    · rw [if_neg (by simp [hb])] at hg
      simp (implicitDefEqProofs := false) (maxSteps := 2000000) (disch := (first | omega | (simp only [St.new_nx, St.set_nx, St.del_nx, St.bump_nx]; done) | (simp only [St.new_nx, St.set_nx, St.del_nx, St.bump_nx]; omega) | fail)) [h8, w2]
      refine go_next (ts.length - (i + 1)) (by omega) ⟨i + 1, by omega, rfl, hg, ?_, ?_, ?_, ?_, ?_, ?_⟩ <;> simp (implicitDefEqProofs := false) (maxSteps := 2000000) (disch := (first | omega | (simp only [St.new_nx, St.set_nx, St.del_nx, St.bump_nx]; done) | (simp only [St.new_nx, St.set_nx, St.del_nx, St.bump_nx]; omega) | fail)) [h0, h7, h8, h1, hk]
      omega
  · have hlt' : ¬ (i : Int) < ts.length := by omega
    have hdrop : ts.drop i = [] := List.drop_eq_nil_of_le (by omega)
    rw [hdrop, firstAt] at hg
    simp (implicitDefEqProofs := false) (maxSteps := 2000000) (disch := (first | omega | (simp only [St.new_nx, St.set_nx, St.del_nx, St.bump_nx]; done) | (simp only [St.new_nx, St.set_nx, St.del_nx, St.bump_nx]; omega) | fail)) [a126l7, a126r2, h0, h7, h8, h1, hlt', a126r8, ← hg, hk]

theorem p96 (ts : List Ty) (f : AV) (p : Ty → Bool) (hf : Decides f p) (hlen : ts.length ≤ 1000000) : PureC Try.prog 96 [.list 4 .none (ts.map av), f] (.bool (ts.any p)) := by
  refine PureC.intro fun s => fun_sound mixed Try.func96 Try.call96 c96 rfl (awpFun_go _ _ _ _ ?_)
  simp (implicitDefEqProofs := false) (maxSteps := 2000000) (disch := (first | omega | (simp only [St.new_nx, St.set_nx, St.del_nx, St.bump_nx]; done) | (simp only [St.new_nx, St.set_nx, St.del_nx, St.bump_nx]; omega) | fail)) [a96, a96b, a96r0, a96r1]
  refine go_pure (p126 ts f p hf hlen) fun m hm => ?_
  simp (implicitDefEqProofs := false) (maxSteps := 2000000) (disch := (first | omega | (simp only [St.new_nx, St.set_nx, St.del_nx, St.bump_nx]; done) | (simp only [St.new_nx, St.set_nx, St.del_nx, St.bump_nx]; omega) | fail)) [firstAt_neg, -List.any_eq_true]

def propers (ts : List Ty) : Bool := decide (ts.length ≤ 600) && ts.all proper
theorem p54 (ts : List Ty) : PureC Try.prog 54 [.list 4 .none (ts.map av)] (.bool (propers ts)) := by
  refine PureC.intro fun s => fun_sound mixed Try.func54 Try.call54 c54 rfl (awpFun_go _ _ _ _ ?_)
  simp (implicitDefEqProofs := false) (maxSteps := 2000000) (disch := (first | omega | (simp only [St.new_nx, St.set_nx, St.del_nx, St.bump_nx]; done) | (simp only [St.new_nx, St.set_nx, St.del_nx, St.bump_nx]; omega) | fail)) [a54, a54b, a54r0, a54r1]
  refine ⟨fun h => ?_, fun h => ?_⟩
  · refine go_pure (p96 ts _ (fun t => !proper t) ⟨97, [], [], rfl, fun t => p97 t⟩ (by omega)) fun m hm => ?_
    have h6 : ts.length ≤ 600 := by omega
    have hall : (ts.any fun t => !proper t) = !ts.all proper := by
      rw [List.all_eq_not_any_not]; simp
    simp (implicitDefEqProofs := false) (maxSteps := 2000000) (disch := (first | omega | (simp only [St.new_nx, St.set_nx, St.del_nx, St.bump_nx]; done) | (simp only [St.new_nx, St.set_nx, St.del_nx, St.bump_nx]; omega) | fail)) [propers, -List.any_eq_true, hall, h6]
  · have h6 : ¬ ts.length ≤ 600 := by omega
    simp (implicitDefEqProofs := false) (maxSteps := 2000000) (disch := (first | omega | (simp only [St.new_nx, St.set_nx, St.del_nx, St.bump_nx]; done) | (simp only [St.new_nx, St.set_nx, St.del_nx, St.bump_nx]; omega) | fail)) [propers, h6]

theorem p55 (t : Ty) : PureC Try.prog 55 [t.av] (if proper t then .tup [t.av, .int .i64 0] else .tup [(mk 0 0 ⟨#[]⟩ []).av, .int .i64 5]) := by
  refine PureC.intro fun s => fun_sound mixed Try.func55 Try.call55 c55 rfl (awpFun_go _ _ _ _ ?_)
  simp (implicitDefEqProofs := false) (maxSteps := 2000000) (disch := (first | omega | (simp only [St.new_nx, St.set_nx, St.del_nx, St.bump_nx]; done) | (simp only [St.new_nx, St.set_nx, St.del_nx, St.bump_nx]; omega) | fail)) [a55, a55b, a55r0, a55r1]
  refine go_pure (p53 t) fun m hm => ?_
  simp (implicitDefEqProofs := false) (maxSteps := 2000000) (disch := (first | omega | (simp only [St.new_nx, St.set_nx, St.del_nx, St.bump_nx]; done) | (simp only [St.new_nx, St.set_nx, St.del_nx, St.bump_nx]; omega) | fail)) [a55r2, a55r3]
  refine ⟨fun h => ?_, fun h => ?_⟩ <;> simp (implicitDefEqProofs := false) (maxSteps := 2000000) (disch := (first | omega | (simp only [St.new_nx, St.set_nx, St.del_nx, St.bump_nx]; done) | (simp only [St.new_nx, St.set_nx, St.del_nx, St.bump_nx]; omega) | fail)) [h, av_mk]
end Go.AL.Ty
