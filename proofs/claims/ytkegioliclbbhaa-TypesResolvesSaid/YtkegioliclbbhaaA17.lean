/- Orders: numbers, strings, sizes. -/
import Derived.Test.YtkegioliclbbhaaC5
import Derived.Test.YtkegioliclbbhaaD1
import Derived.Test.YtkegioliclbbhaaProg
import Derived.KernelRfl
import Derived.Shelf.Sort.Plain
import Derived.Shelf.Slices.In.SortNone
import Derived.RangeFuncNested
import Derived.RangeFuncLeaves
set_option linter.unusedVariables false
set_option linter.unusedSimpArgs false
namespace Go.AL.Ty
open Go Go.Proofs

def cmpI (a b : Int) : Int := if a < b then -1 else if b < a then 1 else 0
def cmpS (a b : ByteArray) : Int := if Op.bytesLess a.toList b.toList then -1 else if a = b then 0 else 1
def orI : List Int → Int
  | [] => 0
  | x :: r => if x = 0 then orI r else x

theorem p130 (n : Int) : PureC Try.prog 130 [.int .i64 n] (.bool false) := by
  refine PureC.intro fun s => fun_sound mixed Try.func130 Try.call130 c130 rfl (awpFun_go _ _ _ _ ?_)
  simp (implicitDefEqProofs := false) (maxSteps := 2000000) (disch := (first | omega | (simp only [St.new_nx, St.set_nx, St.del_nx, St.bump_nx]; done) | (simp only [St.new_nx, St.set_nx, St.del_nx, St.bump_nx]; omega) | fail)) [a130, a130b, a130r0, a130r1]
theorem p137 (n : ByteArray) : PureC Try.prog 137 [.str n] (.bool false) := by
  refine PureC.intro fun s => fun_sound mixed Try.func137 Try.call137 c137 rfl (awpFun_go _ _ _ _ ?_)
  simp (implicitDefEqProofs := false) (maxSteps := 2000000) (disch := (first | omega | (simp only [St.new_nx, St.set_nx, St.del_nx, St.bump_nx]; done) | (simp only [St.new_nx, St.set_nx, St.del_nx, St.bump_nx]; omega) | fail)) [a137, a137b, a137r0, a137r1]
theorem p117 (a b : Int) : PureC Try.prog 117 [.int .i64 a, .int .i64 b] (.int .i64 (cmpI a b)) := by
  refine PureC.intro fun s => fun_sound mixed Try.func117 Try.call117 c117 rfl (awpFun_go _ _ _ _ ?_)
  simp (implicitDefEqProofs := false) (maxSteps := 2000000) (disch := (first | omega | (simp only [St.new_nx, St.set_nx, St.del_nx, St.bump_nx]; done) | (simp only [St.new_nx, St.set_nx, St.del_nx, St.bump_nx]; omega) | fail)) [a117, a117b, a117r0, a117r1]
  refine go_pure (p130 a) fun mm1 hm1 => ?_
  try simp only [St.new_nx, St.bump_nx, St.set_nx, St.del_nx] at hm1
  simp (implicitDefEqProofs := false) (maxSteps := 2000000) (disch := (first | omega | (simp only [St.new_nx, St.set_nx, St.del_nx, St.bump_nx]; done) | (simp only [St.new_nx, St.set_nx, St.del_nx, St.bump_nx]; omega) | fail)) [a117r2]
  refine go_pure (p130 b) fun mm2 hm2 => ?_
  try simp only [St.new_nx, St.bump_nx, St.set_nx, St.del_nx] at hm2
  simp (implicitDefEqProofs := false) (maxSteps := 2000000) (disch := (first | omega | (simp only [St.new_nx, St.set_nx, St.del_nx, St.bump_nx]; done) | (simp only [St.new_nx, St.set_nx, St.del_nx, St.bump_nx]; omega) | fail)) [a117r3, a117r7, a117r9, a117r10, a117r11, a117r12, a117r13]
  exact ⟨fun h => by simp [cmpI, h], fun h => ⟨fun h2 => by rw [cmpI, if_neg (by omega), if_pos h2], fun h2 => by rw [cmpI, if_neg (by omega), if_neg (by omega)]⟩⟩
theorem p132 (a b : ByteArray) : PureC Try.prog 132 [.str a, .str b] (.int .i64 (cmpS a b)) := by
  refine PureC.intro fun s => fun_sound mixed Try.func132 Try.call132 c132 rfl (awpFun_go _ _ _ _ ?_)
  simp (implicitDefEqProofs := false) (maxSteps := 2000000) (disch := (first | omega | (simp only [St.new_nx, St.set_nx, St.del_nx, St.bump_nx]; done) | (simp only [St.new_nx, St.set_nx, St.del_nx, St.bump_nx]; omega) | fail)) [a132, a132b, a132r0, a132r1]
  refine go_pure (p137 a) fun mm3 hm3 => ?_
  try simp only [St.new_nx, St.bump_nx, St.set_nx, St.del_nx] at hm3
  simp (implicitDefEqProofs := false) (maxSteps := 2000000) (disch := (first | omega | (simp only [St.new_nx, St.set_nx, St.del_nx, St.bump_nx]; done) | (simp only [St.new_nx, St.set_nx, St.del_nx, St.bump_nx]; omega) | fail)) [a132r2]
  refine go_pure (p137 b) fun mm4 hm4 => ?_
  try simp only [St.new_nx, St.bump_nx, St.set_nx, St.del_nx] at hm4
  simp (implicitDefEqProofs := false) (maxSteps := 2000000) (disch := (first | omega | (simp only [St.new_nx, St.set_nx, St.del_nx, St.bump_nx]; done) | (simp only [St.new_nx, St.set_nx, St.del_nx, St.bump_nx]; omega) | fail)) [a132r3, a132r7, a132r9, a132r10, a132r11, a132r12, a132r13]
  exact ⟨fun h => by simp [cmpS, h], fun h => ⟨fun _ h2 => by simp [cmpS, h, h2], fun h2 => by rw [cmpS, if_neg (by simp [h]), if_pos (h2 h)]⟩⟩
theorem p81 (a b : Int) : PureC Try.prog 81 [.int .i64 a, .int .i64 b] (.int .i64 (cmpI a b)) := by
  refine PureC.intro fun s => fun_sound mixed Try.func81 Try.call81 c81 rfl (awpFun_go _ _ _ _ ?_)
  simp (implicitDefEqProofs := false) (maxSteps := 2000000) (disch := (first | omega | (simp only [St.new_nx, St.set_nx, St.del_nx, St.bump_nx]; done) | (simp only [St.new_nx, St.set_nx, St.del_nx, St.bump_nx]; omega) | fail)) [a81, a81b, a81r0, a81r1, a81r2, a81r3, a81r4, a81r5]
  exact ⟨fun h => by simp [cmpI, h], fun h => ⟨fun h2 => by rw [cmpI, if_neg (by omega), if_pos h2], fun h2 => by rw [cmpI, if_neg (by omega), if_neg (by omega)]⟩⟩
theorem p82 (a b : ByteArray) : PureC Try.prog 82 [.str a, .str b] (.int .i64 (cmpS a b)) := by
  refine PureC.intro fun s => fun_sound mixed Try.func82 Try.call82 c82 rfl (awpFun_go _ _ _ _ ?_)
  simp (implicitDefEqProofs := false) (maxSteps := 2000000) (disch := (first | omega | (simp only [St.new_nx, St.set_nx, St.del_nx, St.bump_nx]; done) | (simp only [St.new_nx, St.set_nx, St.del_nx, St.bump_nx]; omega) | fail)) [a82, a82b, a82r0, a82r1, a82r2, a82r3, a82r4, a82r5]
  exact ⟨fun h => by simp [cmpS, h], fun h => ⟨fun _ h2 => by simp [cmpS, h, h2], fun h2 => by rw [cmpS, if_neg (by simp [h]), if_pos (h2 h)]⟩⟩
theorem p131 (l : List Int) (hlen : l.length ≤ 9223372036854775807) : PureC Try.prog 131 [.list 1 .none (il l)] (.int .i64 (orI l)) := by
  refine PureC.intro fun s => fun_sound mixed Try.func131 Try.call131 c131 rfl (awpFun_go _ _ _ _ ?_)
  simp (implicitDefEqProofs := false) (maxSteps := 2000000) (disch := (first | omega | (simp only [St.new_nx, St.set_nx, St.del_nx, St.bump_nx]; done) | (simp only [St.new_nx, St.set_nx, St.del_nx, St.bump_nx]; omega) | fail)) [a131, a131b, a131r0, a131r1, a131r2]
  refine go_loop (fun k g s1 => ∃ (i : Nat), i ≤ l.length ∧ k = l.length - i ∧ orI (l.drop i) = orI l ∧
    g.get 6 = .list 1 .none (il l) ∧ g.get 7 = .int .i64 l.length ∧ g.get 8 = .int .i64 i ∧ g.get 3 = .int .i64 0 ∧ Kept s s1 ∧ s.nx ≤ s1.nx) l.length ⟨0, Nat.zero_le _, by simp, by simp, by simp, by simp, by simp, by simp, by simp, by simp⟩ ?_
  rintro k g s1 ⟨i, hi, rfl, hg, h6, h7, h8, h3, hk, hn⟩
  by_cases hlt : i < l.length
  · have hx : l[i]? = some l[i] := by simp [hlt]
    have hx' := il_get hx
    have hlt' : (i : Int) < l.length := by omega
    have w2 : IntKind.i64.wrap ((i : Int) + 1) = ((i + 1 : Nat) : Int) := by rw [wrap64 (by omega) (by omega)]; omega
    have hdrop : l.drop i = l[i] :: l.drop (i + 1) := List.drop_eq_getElem_cons hlt
    rw [hdrop, orI] at hg
    generalize hR : orI l = R at *
    simp (implicitDefEqProofs := false) (maxSteps := 2000000) (disch := (first | omega | (simp only [St.new_nx, St.set_nx, St.del_nx, St.bump_nx]; done) | (simp only [St.new_nx, St.set_nx, St.del_nx, St.bump_nx]; omega) | fail)) [a131l8, a131r3, a131r4, a131r5, a131r6, a131r7, h6, h7, h8, h3, hlt', hlt, hx']
    refine ⟨fun hb => ?_, fun hb => ?_⟩
    · rw [if_neg hb] at hg
      exact ⟨hg, hk⟩
    · rw [if_pos hb] at hg
      rw [w2]
      refine go_next (l.length - (i + 1)) (by omega) ⟨i + 1, by omega, rfl, hg, ?_, ?_, ?_, ?_, ?_, ?_⟩ <;> (try simp (implicitDefEqProofs := false) (maxSteps := 2000000) (disch := (first | omega | (simp only [St.new_nx, St.set_nx, St.del_nx, St.bump_nx]; done) | (simp only [St.new_nx, St.set_nx, St.del_nx, St.bump_nx]; omega) | fail)) [h6, h7, h8, h3, hk])
      exact hn
  · have hlt' : ¬ (i : Int) < l.length := by omega
    have hdrop : l.drop i = [] := List.drop_eq_nil_of_le (by omega)
    rw [hdrop, orI] at hg
    simp (implicitDefEqProofs := false) (maxSteps := 2000000) (disch := (first | omega | (simp only [St.new_nx, St.set_nx, St.del_nx, St.bump_nx]; done) | (simp only [St.new_nx, St.set_nx, St.del_nx, St.bump_nx]; omega) | fail)) [a131l8, a131r3, h6, h7, h8, h3, hlt', a131r9, ← hg, hk]

mutual
def sz : Ty → Int
  | mk _ _ _ args => 1 + szs args
def szs : List Ty → Int
  | [] => 0
  | t :: ts => sz t + szs ts
end
theorem sz_eq (t : Ty) : sz t = 1 + szs t.args := by cases t; rw [sz]; rfl
theorem szs_ge : ∀ (l : List Ty), (∀ x ∈ l, 1 ≤ sz x) → (l.length : Int) ≤ szs l
  | [], _ => by simp [szs]
  | t :: ts, h => by
    have := h t (by simp)
    have := szs_ge ts fun x hx => h x (by simp [hx])
    simp only [szs, List.length_cons]; omega
theorem sz_pos (t : Ty) : 1 ≤ sz t := by
  induction t using Ty.ind with
  | h t ih =>
    have := szs_ge _ ih
    rw [sz_eq]; omega
theorem szs_pos (l : List Ty) : 0 ≤ szs l := by
  have := szs_ge l fun x _ => sz_pos x
  omega
theorem sz_args (t : Ty) : (t.args.length : Int) + 1 ≤ sz t := by
  have := szs_ge t.args fun x _ => sz_pos x
  rw [sz_eq]; omega

theorem p84 (t : Ty) : sz t ≤ 1000000 → t.args.length ≤ 1000000 → PureC Try.prog 84 [t.av] (.int .i64 (sz t)) := by
  induction t using Ty.ind with
  | h t ih =>
    intro hz hlen
    refine PureC.intro fun s => fun_sound mixed Try.func84 Try.call84 c84 rfl (awpFun_go _ _ _ _ ?_)
    have hsz := sz_eq t
    generalize hR : sz t = R at *
    simp (implicitDefEqProofs := false) (maxSteps := 2000000) (disch := (first | omega | (simp only [St.new_nx, St.set_nx, St.del_nx, St.bump_nx]; done) | (simp only [St.new_nx, St.set_nx, St.del_nx, St.bump_nx]; omega) | fail)) [a84, a84b, a84r0, a84r1, a84r2]
    refine go_loop (fun k g s1 => ∃ (i : Nat) (c : Int), i ≤ t.args.length ∧ k = t.args.length - i ∧ c + szs (t.args.drop i) = R ∧ 1 ≤ c ∧
      g.get 7 = .list 4 .none (t.args.map av) ∧ g.get 8 = .int .i64 t.args.length ∧ g.get 9 = .int .i64 i ∧ g.get 3 = .int .i64 c ∧ Kept s s1 ∧ s.nx ≤ s1.nx) t.args.length ⟨0, 1, Nat.zero_le _, by omega, by simpa using hsz.symm, by omega, by simp, by simp, by simp, by simp, by simp, by simp⟩ ?_
    rintro k g s1 ⟨i, c, hi, rfl, hg, hc, h7, h8, h9, h3, hk, hn⟩
    by_cases hlt : i < t.args.length
    · have hx : t.args[i]? = some t.args[i] := by simp [hlt]
      have hlt' : (i : Int) < t.args.length := by omega
      have w2 : IntKind.i64.wrap ((i : Int) + 1) = ((i + 1 : Nat) : Int) := by rw [wrap64 (by omega) (by omega)]; omega
      have hdrop : t.args.drop i = t.args[i] :: t.args.drop (i + 1) := List.drop_eq_getElem_cons hlt
      rw [hdrop, szs] at hg
      have hp := sz_pos t.args[i]
      have hps := szs_pos (t.args.drop (i + 1))
      have hal := sz_args t.args[i]
      have w1 : IntKind.i64.wrap (c + sz t.args[i]) = c + sz t.args[i] := wrap64 (by omega) (by omega)
      simp (implicitDefEqProofs := false) (maxSteps := 2000000) (disch := (first | omega | (simp only [St.new_nx, St.set_nx, St.del_nx, St.bump_nx]; done) | (simp only [St.new_nx, St.set_nx, St.del_nx, St.bump_nx]; omega) | fail)) [a84l7, a84r3, a84r4, a84r5, a84r6, h7, h8, h9, h3, hlt', hlt, hx]
      refine go_pure (ih _ (List.getElem_mem hlt) (by omega) (by omega)) fun mm5 hm5 => ?_
      try simp only [St.new_nx, St.bump_nx, St.set_nx, St.del_nx] at hm5
      simp (implicitDefEqProofs := false) (maxSteps := 2000000) (disch := (first | omega | (simp only [St.new_nx, St.set_nx, St.del_nx, St.bump_nx]; done) | (simp only [St.new_nx, St.set_nx, St.del_nx, St.bump_nx]; omega) | fail)) [h9, w1, w2]
      refine go_next (t.args.length - (i + 1)) (by omega) ⟨i + 1, by omega, rfl, c + sz t.args[i], by omega, by omega, ?_, ?_, ?_, ?_, ?_, ?_⟩ <;> (try simp (implicitDefEqProofs := false) (maxSteps := 2000000) (disch := (first | omega | (simp only [St.new_nx, St.set_nx, St.del_nx, St.bump_nx]; done) | (simp only [St.new_nx, St.set_nx, St.del_nx, St.bump_nx]; omega) | fail)) [h7, h8, h9, h3, hk])
      all_goals omega
    · have hlt' : ¬ (i : Int) < t.args.length := by omega
      have hdrop : t.args.drop i = [] := List.drop_eq_nil_of_le (by omega)
      rw [hdrop, szs] at hg
      have hg' : c = R := by omega
      simp (implicitDefEqProofs := false) (maxSteps := 2000000) (disch := (first | omega | (simp only [St.new_nx, St.set_nx, St.del_nx, St.bump_nx]; done) | (simp only [St.new_nx, St.set_nx, St.del_nx, St.bump_nx]; omega) | fail)) [a84l7, a84r3, h7, h8, h9, h3, hlt', a84r8, hg', hk]

theorem p48 (t : Ty) : sz t ≤ 1000000 → t.args.length ≤ 1000000 → PureC Try.prog 48 [t.av] (.int .i64 (sz t)) := by
  induction t using Ty.ind with
  | h t ih =>
    intro hz hlen
    refine PureC.intro fun s => fun_sound mixed Try.func48 Try.call48 c48 rfl (awpFun_go _ _ _ _ ?_)
    have hsz := sz_eq t
    generalize hR : sz t = R at *
    simp (implicitDefEqProofs := false) (maxSteps := 2000000) (disch := (first | omega | (simp only [St.new_nx, St.set_nx, St.del_nx, St.bump_nx]; done) | (simp only [St.new_nx, St.set_nx, St.del_nx, St.bump_nx]; omega) | fail)) [a48, a48b, a48r0, a48r1, a48r2]
    refine go_loop (fun k g s1 => ∃ (i : Nat) (c : Int), i ≤ t.args.length ∧ k = t.args.length - i ∧ c + szs (t.args.drop i) = R ∧ 1 ≤ c ∧
      g.get 7 = .list 4 .none (t.args.map av) ∧ g.get 8 = .int .i64 t.args.length ∧ g.get 9 = .int .i64 i ∧ g.get 3 = .int .i64 c ∧ Kept s s1 ∧ s.nx ≤ s1.nx) t.args.length ⟨0, 1, Nat.zero_le _, by omega, by simpa using hsz.symm, by omega, by simp, by simp, by simp, by simp, by simp, by simp⟩ ?_
    rintro k g s1 ⟨i, c, hi, rfl, hg, hc, h7, h8, h9, h3, hk, hn⟩
    by_cases hlt : i < t.args.length
    · have hx : t.args[i]? = some t.args[i] := by simp [hlt]
      have hlt' : (i : Int) < t.args.length := by omega
      have w2 : IntKind.i64.wrap ((i : Int) + 1) = ((i + 1 : Nat) : Int) := by rw [wrap64 (by omega) (by omega)]; omega
      have hdrop : t.args.drop i = t.args[i] :: t.args.drop (i + 1) := List.drop_eq_getElem_cons hlt
      rw [hdrop, szs] at hg
      have hp := sz_pos t.args[i]
      have hps := szs_pos (t.args.drop (i + 1))
      have hal := sz_args t.args[i]
      have w1 : IntKind.i64.wrap (c + sz t.args[i]) = c + sz t.args[i] := wrap64 (by omega) (by omega)
      simp (implicitDefEqProofs := false) (maxSteps := 2000000) (disch := (first | omega | (simp only [St.new_nx, St.set_nx, St.del_nx, St.bump_nx]; done) | (simp only [St.new_nx, St.set_nx, St.del_nx, St.bump_nx]; omega) | fail)) [a48l7, a48r3, a48r4, a48r5, a48r6, h7, h8, h9, h3, hlt', hlt, hx]
      refine go_pure (ih _ (List.getElem_mem hlt) (by omega) (by omega)) fun mm6 hm6 => ?_
      try simp only [St.new_nx, St.bump_nx, St.set_nx, St.del_nx] at hm6
      simp (implicitDefEqProofs := false) (maxSteps := 2000000) (disch := (first | omega | (simp only [St.new_nx, St.set_nx, St.del_nx, St.bump_nx]; done) | (simp only [St.new_nx, St.set_nx, St.del_nx, St.bump_nx]; omega) | fail)) [h9, w1, w2]
      refine go_next (t.args.length - (i + 1)) (by omega) ⟨i + 1, by omega, rfl, c + sz t.args[i], by omega, by omega, ?_, ?_, ?_, ?_, ?_, ?_⟩ <;> (try simp (implicitDefEqProofs := false) (maxSteps := 2000000) (disch := (first | omega | (simp only [St.new_nx, St.set_nx, St.del_nx, St.bump_nx]; done) | (simp only [St.new_nx, St.set_nx, St.del_nx, St.bump_nx]; omega) | fail)) [h7, h8, h9, h3, hk])
      all_goals omega
    · have hlt' : ¬ (i : Int) < t.args.length := by omega
      have hdrop : t.args.drop i = [] := List.drop_eq_nil_of_le (by omega)
      rw [hdrop, szs] at hg
      have hg' : c = R := by omega
      simp (implicitDefEqProofs := false) (maxSteps := 2000000) (disch := (first | omega | (simp only [St.new_nx, St.set_nx, St.del_nx, St.bump_nx]; done) | (simp only [St.new_nx, St.set_nx, St.del_nx, St.bump_nx]; omega) | fail)) [a48l7, a48r3, h7, h8, h9, h3, hlt', a48r8, hg', hk]
end Go.AL.Ty
namespace Go.AL.Ty
open Go.Proofs

/- damask/damasklaw05.TypesChecks -/
def a10r0 : List AOper :=
  [⟨some (true, 1), .box (.g 0), none, []⟩,
   ⟨some (true, 2), .mv (.c (.bool false)), none, []⟩]
def a10r1 : List AOper :=
  [⟨some (false, 13), .load 4 true (.g 1), none, []⟩,
   ⟨some (false, 14), .call false (.c (.fn 39 [] [])) [(.l 13)], none, []⟩,
   ⟨some (false, 12), .mv (.l 14), none, []⟩,
   ⟨some (false, 15), .extract (.l 12) 0, none, []⟩,
   ⟨some (false, 16), .extract (.l 12) 1, none, []⟩,
   ⟨some (true, 3), .mv (.l 15), none, []⟩,
   ⟨some (true, 4), .mv (.l 16), none, []⟩]
def a10r2 : List AOper :=
  [⟨some (false, 18), .load 4 true (.g 1), none, []⟩,
   ⟨some (false, 19), .call false (.c (.fn 40 [] [])) [(.l 18)], none, []⟩,
   ⟨some (false, 17), .mv (.l 19), none, []⟩,
   ⟨some (false, 20), .extract (.l 17) 0, none, []⟩,
   ⟨some (false, 21), .extract (.l 17) 1, none, []⟩,
   ⟨some (true, 5), .mv (.l 20), none, []⟩,
   ⟨some (true, 6), .mv (.l 21), none, []⟩]
def a10r3 : List AOper :=
  [⟨some (false, 23), .load 4 true (.g 1), none, []⟩,
   ⟨some (false, 24), .call false (.c (.fn 41 [] [])) [(.l 23)], none, []⟩,
   ⟨some (false, 22), .mv (.l 24), none, []⟩,
   ⟨some (false, 25), .extract (.l 22) 0, none, []⟩,
   ⟨some (false, 26), .extract (.l 22) 1, none, []⟩,
   ⟨some (true, 7), .mv (.l 25), none, []⟩,
   ⟨some (true, 8), .mv (.l 26), none, []⟩]
def a10r4 : List AOper :=
  [⟨some (false, 28), .load 4 true (.g 1), none, []⟩,
   ⟨some (false, 29), .call false (.c (.fn 42 [] [])) [(.l 28)], none, []⟩,
   ⟨some (false, 27), .mv (.l 29), none, []⟩,
   ⟨some (false, 30), .extract (.l 27) 0, none, []⟩,
   ⟨some (false, 31), .extract (.l 27) 1, none, []⟩,
   ⟨some (true, 9), .mv (.l 30), none, []⟩,
   ⟨some (true, 10), .mv (.l 31), none, []⟩]
def a10r5 : List AOper :=
  [⟨some (false, 32), .load 4 true (.g 1), none, []⟩,
   ⟨some (false, 33), .call false (.c (.fn 43 [] [])) [(.l 32)], none, []⟩,
   ⟨some (true, 11), .mv (.l 33), none, []⟩]
def a10r6 : List AOper :=
  [⟨some (false, 34), .load 4 true (.g 1), none, []⟩,
   ⟨some (false, 35), .call false (.c (.fn 13 [] [])) [(.l 34)], none, []⟩,
   ⟨some (true, 36), .un .not (.l 35), none, []⟩]
def a10r7 : List AOper :=
  [⟨some (false, 37), .mv (.g 11), none, []⟩,
   ⟨some (false, 38), .bin .eql (.l 37) (.c (.int .i64 2)), none, []⟩,
   ⟨some (false, 39), .mv (.l 38), none, []⟩,
   ⟨some (false, 40), .mv (.g 4), some (false, 39, true), []⟩,
   ⟨some (false, 41), .bin .eql (.l 40) (.c (.int .i64 2)), some (false, 39, true), []⟩,
   ⟨some (false, 42), .pick (.l 39) (.l 41) (.c (.bool false)), none, []⟩,
   ⟨some (false, 43), .mv (.l 42), none, []⟩,
   ⟨some (false, 44), .mv (.g 6), some (false, 43, true), []⟩,
   ⟨some (false, 45), .bin .eql (.l 44) (.c (.int .i64 2)), some (false, 43, true), []⟩,
   ⟨some (false, 46), .pick (.l 43) (.l 45) (.c (.bool false)), none, []⟩,
   ⟨some (false, 47), .mv (.l 46), none, []⟩,
   ⟨some (false, 48), .mv (.g 8), some (false, 47, true), []⟩,
   ⟨some (false, 49), .bin .eql (.l 48) (.c (.int .i64 2)), some (false, 47, true), []⟩,
   ⟨some (false, 50), .pick (.l 47) (.l 49) (.c (.bool false)), none, []⟩,
   ⟨some (false, 51), .mv (.l 50), none, []⟩,
   ⟨some (false, 52), .mv (.g 10), some (false, 51, true), []⟩,
   ⟨some (false, 53), .bin .eql (.l 52) (.c (.int .i64 2)), some (false, 51, true), []⟩,
   ⟨some (false, 54), .pick (.l 51) (.l 53) (.c (.bool false)), none, []⟩,
   ⟨some (false, 55), .mv (.l 54), none, []⟩,
   ⟨some (false, 56), .mv (.g 3), some (false, 55, true), []⟩,
   ⟨some (false, 57), .len (.l 56), some (false, 55, true), []⟩,
   ⟨some (false, 58), .mv (.g 5), some (false, 55, true), []⟩,
   ⟨some (false, 59), .len (.l 58), some (false, 55, true), []⟩,
   ⟨some (false, 60), .bin .add (.l 57) (.l 59), some (false, 55, true), []⟩,
   ⟨some (false, 61), .mv (.g 7), some (false, 55, true), []⟩,
   ⟨some (false, 62), .len (.l 61), some (false, 55, true), []⟩,
   ⟨some (false, 63), .bin .add (.l 60) (.l 62), some (false, 55, true), []⟩,
   ⟨some (false, 64), .bin .eql (.l 63) (.c (.int .i64 0)), some (false, 55, true), []⟩,
   ⟨some (false, 65), .pick (.l 55) (.l 64) (.c (.bool false)), none, []⟩,
   ⟨some (false, 66), .mv (.l 65), none, []⟩,
   ⟨some (false, 67), .mv (.g 9), some (false, 66, true), []⟩,
   ⟨some (false, 68), .bin .eql (.l 67) (.c (.int .i64 0)), some (false, 66, true), []⟩,
   ⟨some (false, 69), .pick (.l 66) (.l 68) (.c (.bool false)), none, []⟩,
   ⟨some (false, 70), .mv (.l 69), none, []⟩,
   ⟨some (false, 71), .call false (.c (.fn 16 [] [])) [], some (false, 70, true), []⟩,
   ⟨some (false, 72), .pick (.l 70) (.l 71) (.c (.bool false)), none, []⟩,
   ⟨some (true, 2), .mv (.l 72), none, []⟩]
def a10r8 : List AOper :=
  [⟨some (false, 73), .mv (.g 11), none, []⟩,
   ⟨some (false, 74), .bin .eql (.l 73) (.c (.int .i64 0)), none, []⟩,
   ⟨some (false, 75), .mv (.l 74), none, []⟩,
   ⟨some (false, 76), .mv (.g 4), some (false, 75, true), []⟩,
   ⟨some (false, 77), .bin .eql (.l 76) (.c (.int .i64 0)), some (false, 75, true), []⟩,
   ⟨some (false, 78), .pick (.l 75) (.l 77) (.c (.bool false)), none, []⟩,
   ⟨some (false, 79), .mv (.l 78), none, []⟩,
   ⟨some (false, 80), .mv (.g 6), some (false, 79, true), []⟩,
   ⟨some (false, 81), .bin .eql (.l 80) (.c (.int .i64 0)), some (false, 79, true), []⟩,
   ⟨some (false, 82), .pick (.l 79) (.l 81) (.c (.bool false)), none, []⟩,
   ⟨some (false, 83), .mv (.l 82), none, []⟩,
   ⟨some (false, 84), .mv (.g 8), some (false, 83, true), []⟩,
   ⟨some (false, 85), .bin .eql (.l 84) (.c (.int .i64 0)), some (false, 83, true), []⟩,
   ⟨some (false, 86), .pick (.l 83) (.l 85) (.c (.bool false)), none, []⟩,
   ⟨some (false, 87), .mv (.l 86), none, []⟩,
   ⟨some (false, 88), .mv (.g 10), some (false, 87, true), []⟩,
   ⟨some (false, 89), .bin .eql (.l 88) (.c (.int .i64 0)), some (false, 87, true), []⟩,
   ⟨some (false, 90), .pick (.l 87) (.l 89) (.c (.bool false)), none, []⟩,
   ⟨some (false, 91), .mv (.l 90), none, []⟩,
   ⟨some (false, 92), .mv (.g 3), some (false, 91, true), []⟩,
   ⟨some (false, 93), .load 4 true (.g 1), some (false, 91, true), []⟩,
   ⟨some (false, 94), .call false (.c (.fn 45 [] [])) [(.l 93)], some (false, 91, true), []⟩,
   ⟨some (false, 95), .call false (.c (.fn 44 [] [])) [(.l 92), (.l 94)], some (false, 91, true), []⟩,
   ⟨some (false, 96), .pick (.l 91) (.l 95) (.c (.bool false)), none, []⟩,
   ⟨some (false, 97), .mv (.l 96), none, []⟩,
   ⟨some (false, 98), .mv (.g 5), some (false, 97, true), []⟩,
   ⟨some (false, 99), .load 4 true (.g 1), some (false, 97, true), []⟩,
   ⟨some (false, 100), .call false (.c (.fn 46 [] [])) [(.l 99)], some (false, 97, true), []⟩,
   ⟨some (false, 101), .call false (.c (.fn 44 [] [])) [(.l 98), (.l 100)], some (false, 97, true), []⟩,
   ⟨some (false, 102), .pick (.l 97) (.l 101) (.c (.bool false)), none, []⟩,
   ⟨some (false, 103), .mv (.l 102), none, []⟩,
   ⟨some (false, 104), .mv (.g 7), some (false, 103, true), []⟩,
   ⟨some (false, 105), .load 4 true (.g 1), some (false, 103, true), []⟩,
   ⟨some (false, 106), .call false (.c (.fn 47 [] [])) [(.l 105)], some (false, 103, true), []⟩,
   ⟨some (false, 107), .call false (.c (.fn 44 [] [])) [(.l 104), (.l 106)], some (false, 103, true), []⟩,
   ⟨some (false, 108), .pick (.l 103) (.l 107) (.c (.bool false)), none, []⟩,
   ⟨some (false, 109), .mv (.l 108), none, []⟩,
   ⟨some (false, 110), .mv (.g 9), some (false, 109, true), []⟩,
   ⟨some (false, 111), .load 4 true (.g 1), some (false, 109, true), []⟩,
   ⟨some (false, 112), .call false (.c (.fn 48 [] [])) [(.l 111)], some (false, 109, true), []⟩,
   ⟨some (false, 113), .bin .eql (.l 110) (.l 112), some (false, 109, true), []⟩,
   ⟨some (false, 114), .pick (.l 109) (.l 113) (.c (.bool false)), none, []⟩,
   ⟨some (false, 115), .mv (.l 114), none, []⟩,
   ⟨some (false, 116), .call false (.c (.fn 16 [] [])) [], some (false, 115, true), []⟩,
   ⟨some (false, 117), .pick (.l 115) (.l 116) (.c (.bool false)), none, []⟩,
   ⟨some (true, 2), .mv (.l 117), none, []⟩]
def a10b : ACode :=
  (.seq (.reg false a10r0) (.seq (.reg false a10r1) (.seq (.reg false a10r2) (.seq (.reg false a10r3) (.seq (.reg false a10r4) (.seq (.reg false a10r5) (.seq (.seq (.reg false a10r6) (.cond (.g 36) (.seq (.reg false a10r7) .ret) .skip)) (.seq (.reg false a10r8) .ret))))))))
def a10 : AFun := ⟨1, 118, a10b, [.tmp (true, 2)]⟩
theorem c10 : compileFun Try.prog [0, 1, 2, 3, 4, 5, 6, 7, 8, 9, 10, 11, 36] Try.f10 = some a10 := by kernel_rfl

/- damask/types.Free -/
def a39r0 : List AOper :=
  [⟨some (true, 1), .box (.g 0), none, []⟩,
   ⟨some (true, 2), .mv (.c (.list 0 .full [])), none, []⟩,
   ⟨some (true, 3), .mv (.c (.int .i64 0)), none, []⟩]
def a39r1 : List AOper :=
  [⟨some (false, 4), .load 4 true (.g 1), none, []⟩,
   ⟨some (false, 5), .call false (.c (.fn 83 [] [])) [(.l 4), (.c (.int .i64 1))], none, []⟩,
   ⟨some (false, 6), .extract (.l 5) 0, none, []⟩,
   ⟨some (false, 7), .extract (.l 5) 1, none, []⟩,
   ⟨some (true, 2), .mv (.l 6), none, []⟩,
   ⟨some (true, 3), .mv (.l 7), none, []⟩]
def a39b : ACode :=
  (.seq (.reg false a39r0) (.seq (.reg false a39r1) .ret))
def a39 : AFun := ⟨1, 8, a39b, [.tmp (true, 2), .tmp (true, 3)]⟩
theorem c39 : compileFun Try.prog [0, 1, 2, 3] Try.f39 = some a39 := by kernel_rfl

/- damask/types.Metas -/
def a40r0 : List AOper :=
  [⟨some (true, 1), .box (.g 0), none, []⟩,
   ⟨some (true, 2), .mv (.c (.list 0 .full [])), none, []⟩,
   ⟨some (true, 3), .mv (.c (.int .i64 0)), none, []⟩]
def a40r1 : List AOper :=
  [⟨some (false, 4), .load 4 true (.g 1), none, []⟩,
   ⟨some (false, 5), .call false (.c (.fn 83 [] [])) [(.l 4), (.c (.int .i64 6))], none, []⟩,
   ⟨some (false, 6), .extract (.l 5) 0, none, []⟩,
   ⟨some (false, 7), .extract (.l 5) 1, none, []⟩,
   ⟨some (true, 2), .mv (.l 6), none, []⟩,
   ⟨some (true, 3), .mv (.l 7), none, []⟩]
def a40b : ACode :=
  (.seq (.reg false a40r0) (.seq (.reg false a40r1) .ret))
def a40 : AFun := ⟨1, 8, a40b, [.tmp (true, 2), .tmp (true, 3)]⟩
theorem c40 : compileFun Try.prog [0, 1, 2, 3] Try.f40 = some a40 := by kernel_rfl

/- damask/types.Rigids -/
def a41r0 : List AOper :=
  [⟨some (true, 1), .box (.g 0), none, []⟩,
   ⟨some (true, 2), .mv (.c (.list 0 .full [])), none, []⟩,
   ⟨some (true, 3), .mv (.c (.int .i64 0)), none, []⟩]
def a41r1 : List AOper :=
  [⟨some (false, 4), .load 4 true (.g 1), none, []⟩,
   ⟨some (false, 5), .call false (.c (.fn 83 [] [])) [(.l 4), (.c (.int .i64 7))], none, []⟩,
   ⟨some (false, 6), .extract (.l 5) 0, none, []⟩,
   ⟨some (false, 7), .extract (.l 5) 1, none, []⟩,
   ⟨some (true, 2), .mv (.l 6), none, []⟩,
   ⟨some (true, 3), .mv (.l 7), none, []⟩]
def a41b : ACode :=
  (.seq (.reg false a41r0) (.seq (.reg false a41r1) .ret))
def a41 : AFun := ⟨1, 8, a41b, [.tmp (true, 2), .tmp (true, 3)]⟩
theorem c41 : compileFun Try.prog [0, 1, 2, 3] Try.f41 = some a41 := by kernel_rfl

/- damask/types.Size -/
def a42r0 : List AOper :=
  [⟨some (true, 1), .box (.g 0), none, []⟩,
   ⟨some (true, 2), .mv (.c (.int .i64 0)), none, []⟩,
   ⟨some (true, 3), .mv (.c (.int .i64 0)), none, []⟩]
def a42r1 : List AOper :=
  [⟨some (false, 4), .load 4 true (.g 1), none, []⟩,
   ⟨some (false, 5), .call false (.c (.fn 53 [] [])) [(.l 4)], none, []⟩,
   ⟨some (true, 6), .un .not (.l 5), none, []⟩]
def a42r2 : List AOper :=
  [⟨some (true, 2), .mv (.c (.int .i64 0)), none, []⟩,
   ⟨some (true, 3), .mv (.c (.int .i64 2)), none, []⟩]
def a42r3 : List AOper :=
  [⟨some (false, 7), .load 4 true (.g 1), none, []⟩,
   ⟨some (false, 8), .call false (.c (.fn 84 [] [])) [(.l 7)], none, []⟩,
   ⟨some (true, 2), .mv (.l 8), none, []⟩,
   ⟨some (true, 3), .mv (.c (.int .i64 0)), none, []⟩]
def a42b : ACode :=
  (.seq (.reg false a42r0) (.seq (.seq (.reg false a42r1) (.cond (.g 6) (.seq (.reg false a42r2) .ret) .skip)) (.seq (.reg false a42r3) .ret)))
def a42 : AFun := ⟨1, 9, a42b, [.tmp (true, 2), .tmp (true, 3)]⟩
theorem c42 : compileFun Try.prog [0, 1, 2, 3, 6] Try.f42 = some a42 := by kernel_rfl

/- damask/types.Check -/
def a43r0 : List AOper :=
  [⟨some (true, 1), .box (.g 0), none, []⟩,
   ⟨some (true, 2), .mv (.c (.int .i64 0)), none, []⟩]
def a43r1 : List AOper :=
  [⟨some (false, 3), .load 4 true (.g 1), none, []⟩,
   ⟨some (false, 4), .call false (.c (.fn 53 [] [])) [(.l 3)], none, []⟩,
   ⟨some (true, 5), .un .not (.l 4), none, []⟩]
def a43r2 : List AOper :=
  [⟨some (true, 2), .mv (.c (.int .i64 2)), none, []⟩]
def a43r3 : List AOper :=
  [⟨some (true, 2), .mv (.c (.int .i64 0)), none, []⟩]
def a43b : ACode :=
  (.seq (.reg false a43r0) (.seq (.seq (.reg false a43r1) (.cond (.g 5) (.seq (.reg false a43r2) .ret) .skip)) (.seq (.reg false a43r3) .ret)))
def a43 : AFun := ⟨1, 6, a43b, [.tmp (true, 2)]⟩
theorem c43 : compileFun Try.prog [0, 1, 2, 5] Try.f43 = some a43 := by kernel_rfl

/- damask/damaskref05.SameInts -/
def a44r0 : List AOper :=
  [⟨some (true, 4), .mv (.c (.bool false)), none, []⟩]
def a44r1 : List AOper :=
  [⟨some (false, 5), .mv (.g 0), none, []⟩,
   ⟨some (false, 6), .mv (.g 1), none, []⟩,
   ⟨some (false, 7), .call false (.c (.fn 85 [] [])) [(.l 5), (.l 6)], none, []⟩,
   ⟨some (true, 4), .mv (.l 7), none, []⟩]
def a44b : ACode :=
  (.seq (.reg false a44r0) (.seq (.reg false a44r1) .ret))
def a44 : AFun := ⟨2, 8, a44b, [.tmp (true, 4)]⟩
theorem c44 : compileFun Try.prog [0, 1, 4] Try.f44 = some a44 := by kernel_rfl

/- damask/damaskref05.Free -/
def a45r0 : List AOper :=
  [⟨some (true, 1), .box (.g 0), none, []⟩,
   ⟨some (true, 2), .mv (.c (.list 0 .full [])), none, []⟩]
def a45r1 : List AOper :=
  [⟨some (false, 3), .load 4 true (.g 1), none, []⟩,
   ⟨some (false, 4), .call false (.c (.fn 86 [] [])) [(.l 3), (.c (.int .i64 1)), (.c (.int .i64 0)), (.c (.list 0 .full []))], none, []⟩,
   ⟨some (true, 2), .mv (.l 4), none, []⟩]
def a45b : ACode :=
  (.seq (.reg false a45r0) (.seq (.reg false a45r1) .ret))
def a45 : AFun := ⟨1, 5, a45b, [.tmp (true, 2)]⟩
theorem c45 : compileFun Try.prog [0, 1, 2] Try.f45 = some a45 := by kernel_rfl

/- damask/damaskref05.Metas -/
def a46r0 : List AOper :=
  [⟨some (true, 1), .box (.g 0), none, []⟩,
   ⟨some (true, 2), .mv (.c (.list 0 .full [])), none, []⟩]
def a46r1 : List AOper :=
  [⟨some (false, 3), .load 4 true (.g 1), none, []⟩,
   ⟨some (false, 4), .call false (.c (.fn 86 [] [])) [(.l 3), (.c (.int .i64 6)), (.c (.int .i64 0)), (.c (.list 0 .full []))], none, []⟩,
   ⟨some (true, 2), .mv (.l 4), none, []⟩]
def a46b : ACode :=
  (.seq (.reg false a46r0) (.seq (.reg false a46r1) .ret))
def a46 : AFun := ⟨1, 5, a46b, [.tmp (true, 2)]⟩
theorem c46 : compileFun Try.prog [0, 1, 2] Try.f46 = some a46 := by kernel_rfl

/- damask/damaskref05.Rigids -/
def a47r0 : List AOper :=
  [⟨some (true, 1), .box (.g 0), none, []⟩,
   ⟨some (true, 2), .mv (.c (.list 0 .full [])), none, []⟩]
def a47r1 : List AOper :=
  [⟨some (false, 3), .load 4 true (.g 1), none, []⟩,
   ⟨some (false, 4), .call false (.c (.fn 86 [] [])) [(.l 3), (.c (.int .i64 7)), (.c (.int .i64 0)), (.c (.list 0 .full []))], none, []⟩,
   ⟨some (true, 2), .mv (.l 4), none, []⟩]
def a47b : ACode :=
  (.seq (.reg false a47r0) (.seq (.reg false a47r1) .ret))
def a47 : AFun := ⟨1, 5, a47b, [.tmp (true, 2)]⟩
theorem c47 : compileFun Try.prog [0, 1, 2] Try.f47 = some a47 := by kernel_rfl

/- damask/types.asked -/
def a83r0 : List AOper :=
  [⟨some (true, 2), .box (.g 0), none, []⟩,
   ⟨some (true, 4), .mv (.c (.list 0 .full [])), none, []⟩,
   ⟨some (true, 5), .mv (.c (.int .i64 0)), none, []⟩]
def a83r1 : List AOper :=
  [⟨some (false, 6), .load 4 true (.g 2), none, []⟩,
   ⟨some (false, 7), .call false (.c (.fn 53 [] [])) [(.l 6)], none, []⟩,
   ⟨some (true, 8), .un .not (.l 7), none, []⟩]
def a83r2 : List AOper :=
  [⟨some (true, 4), .mv (.c (.list 0 .full [])), none, []⟩,
   ⟨some (true, 5), .mv (.c (.int .i64 2)), none, []⟩]
def a83r3 : List AOper :=
  [⟨some (false, 9), .load 4 true (.g 2), none, []⟩,
   ⟨some (false, 10), .mv (.g 1), none, []⟩,
   ⟨some (false, 11), .call false (.c (.fn 119 [] [])) [(.l 9), (.l 10)], none, []⟩,
   ⟨some (true, 4), .mv (.l 11), none, []⟩,
   ⟨some (true, 5), .mv (.c (.int .i64 0)), none, []⟩]
def a83b : ACode :=
  (.seq (.reg false a83r0) (.seq (.seq (.reg false a83r1) (.cond (.g 8) (.seq (.reg false a83r2) .ret) .skip)) (.seq (.reg false a83r3) .ret)))
def a83 : AFun := ⟨2, 12, a83b, [.tmp (true, 4), .tmp (true, 5)]⟩
theorem c83 : compileFun Try.prog [0, 1, 2, 4, 5, 8] Try.f83 = some a83 := by kernel_rfl

/- damask/damaskkit.SameInts -/
def a85r0 : List AOper :=
  [⟨some (true, 4), .mv (.c (.bool false)), none, []⟩]
def a85r1 : List AOper :=
  [⟨some (false, 6), .mv (.g 0), none, []⟩,
   ⟨some (false, 7), .len (.l 6), none, []⟩,
   ⟨some (false, 8), .mv (.g 1), none, []⟩,
   ⟨some (false, 9), .len (.l 8), none, []⟩,
   ⟨some (true, 10), .bin .neq (.l 7) (.l 9), none, []⟩]
def a85r2 : List AOper :=
  [⟨some (true, 4), .mv (.c (.bool false)), none, []⟩]
def a85r3 : List AOper :=
  [⟨some (false, 11), .mv (.g 0), none, []⟩,
   ⟨some (true, 12), .len (.l 11), none, []⟩,
   ⟨some (true, 13), .mv (.c (.int .i64 0)), none, []⟩]
def a85r4 : List AOper :=
  [⟨some (true, 14), .bin .lss (.g 13) (.g 12), none, []⟩]
def a85r5 : List AOper :=
  [⟨some (false, 15), .mv (.g 13), none, []⟩,
   ⟨some (true, 5), .mv (.l 15), none, []⟩]
def a85r6 : List AOper :=
  [⟨some (false, 16), .mv (.g 0), none, []⟩,
   ⟨some (false, 17), .mv (.g 5), none, []⟩,
   ⟨some (false, 18), .indexAddr 1 (.l 16) (.l 17), none, []⟩,
   ⟨some (false, 19), .load 1 false (.l 18), none, []⟩,
   ⟨some (false, 20), .mv (.g 1), none, []⟩,
   ⟨some (false, 21), .mv (.g 5), none, []⟩,
   ⟨some (false, 22), .indexAddr 1 (.l 20) (.l 21), none, []⟩,
   ⟨some (false, 23), .load 1 false (.l 22), none, []⟩,
   ⟨some (true, 24), .bin .neq (.l 19) (.l 23), none, []⟩]
def a85r7 : List AOper :=
  [⟨some (true, 4), .mv (.c (.bool false)), none, []⟩]
def a85r8 : List AOper :=
  [⟨some (false, 25), .bin .add (.g 13) (.c (.int .i64 1)), none, []⟩,
   ⟨some (true, 13), .mv (.l 25), none, []⟩]
def a85l9 : ACode :=
  (.seq (.reg false a85r4) (.seq (.cond (.g 14) .skip (.exit 0)) (.seq (.block 1 (.seq (.reg false a85r5) (.seq (.reg true a85r6) (.cond (.g 24) (.seq (.reg false a85r7) .ret) .skip)))) (.reg false a85r8))))
def a85r10 : List AOper :=
  [⟨some (true, 4), .mv (.c (.bool true)), none, []⟩]
def a85b : ACode :=
  (.seq (.reg false a85r0) (.seq (.seq (.reg false a85r1) (.cond (.g 10) (.seq (.reg false a85r2) .ret) .skip)) (.seq (.seq (.reg false a85r3) (.block 0 (.loop a85l9))) (.seq (.reg false a85r10) .ret))))
def a85 : AFun := ⟨2, 26, a85b, [.tmp (true, 4)]⟩
theorem c85 : compileFun Try.prog [0, 1, 4, 5, 10, 12, 13, 14, 24] Try.f85 = some a85 := by kernel_rfl

/- damask/damaskref05.collect -/
def a86r0 : List AOper :=
  [⟨some (true, 4), .box (.g 0), none, []⟩,
   ⟨some (true, 8), .mv (.c (.list 0 .full [])), none, []⟩]
def a86r1 : List AOper :=
  [⟨some (false, 12), .fieldAddr 0 (.g 4), none, []⟩,
   ⟨some (false, 13), .load 1 false (.l 12), none, []⟩,
   ⟨some (false, 14), .mv (.g 1), none, []⟩,
   ⟨some (false, 15), .bin .eql (.l 13) (.l 14), none, []⟩,
   ⟨some (false, 16), .mv (.l 15), none, []⟩,
   ⟨some (false, 17), .mv (.g 1), some (false, 16, true), []⟩,
   ⟨some (false, 18), .bin .neq (.l 17) (.c (.int .i64 1)), some (false, 16, true), []⟩,
   ⟨some (false, 19), .mv (.l 18), some (false, 16, true), []⟩,
   ⟨some (false, 20), .fieldAddr 1 (.g 4), some (false, 19, false), []⟩,
   ⟨some (false, 21), .load 1 false (.l 20), some (false, 19, false), []⟩,
   ⟨some (false, 22), .mv (.g 2), some (false, 19, false), []⟩,
   ⟨some (false, 23), .bin .geq (.l 21) (.l 22), some (false, 19, false), []⟩,
   ⟨some (false, 24), .pick (.l 19) (.c (.bool true)) (.l 23), some (false, 16, true), []⟩,
   ⟨some (true, 25), .pick (.l 16) (.l 24) (.c (.bool false)), none, []⟩]
def a86r2 : List AOper :=
  [⟨some (false, 26), .fieldAddr 1 (.g 4), none, []⟩,
   ⟨some (false, 27), .load 1 false (.l 26), none, []⟩,
   ⟨some (true, 9), .mv (.l 27), none, []⟩]
def a86r3 : List AOper :=
  [⟨some (false, 28), .mv (.g 1), none, []⟩,
   ⟨some (true, 29), .bin .eql (.l 28) (.c (.int .i64 1)), none, []⟩]
def a86r4 : List AOper :=
  [⟨some (false, 30), .fieldAddr 1 (.g 4), none, []⟩,
   ⟨some (false, 31), .load 1 false (.l 30), none, []⟩,
   ⟨some (false, 32), .mv (.g 2), none, []⟩,
   ⟨some (false, 33), .bin .sub (.l 31) (.l 32), none, []⟩,
   ⟨some (true, 9), .mv (.l 33), none, []⟩]
def a86r5 : List AOper :=
  [⟨some (false, 34), .mv (.g 3), none, []⟩,
   ⟨some (false, 35), .mv (.g 9), none, []⟩,
   ⟨some (false, 36), .call false (.c (.fn 120 [] [])) [(.l 34), (.l 35)], none, []⟩,
   ⟨some (true, 8), .mv (.l 36), none, []⟩]
def a86r6 : List AOper :=
  [⟨some (false, 37), .fieldAddr 3 (.g 4), none, []⟩,
   ⟨some (true, 38), .load 1 false (.l 37), none, []⟩,
   ⟨some (true, 39), .len (.g 38), none, []⟩,
   ⟨some (true, 40), .mv (.c (.int .i64 0)), none, []⟩]
def a86r7 : List AOper :=
  [⟨some (true, 41), .bin .lss (.g 40) (.g 39), none, []⟩]
def a86r8 : List AOper :=
  [⟨some (false, 42), .mv (.g 40), none, []⟩,
   ⟨some (false, 43), .indexAddr 4 (.g 38) (.g 40), none, []⟩,
   ⟨some (false, 44), .load 4 true (.l 43), none, []⟩,
   ⟨some (true, 11), .alloc [(.int .i64 0), (.int .i64 0), (.str ⟨#[]⟩), (.list 0 .full [])], none, []⟩,
   ⟨some (true, 10), .mv (.l 42), none, []⟩,
   ⟨none, .store 4 (.g 11) (.l 44), none, []⟩]
def a86r9 : List AOper :=
  [⟨some (false, 45), .load 4 true (.g 11), none, []⟩,
   ⟨some (false, 46), .mv (.g 1), none, []⟩,
   ⟨some (false, 47), .mv (.g 2), none, []⟩,
   ⟨some (false, 48), .load 4 true (.g 4), none, []⟩,
   ⟨some (false, 49), .mv (.g 10), none, []⟩,
   ⟨some (false, 50), .call true (.c (.fn 103 [] [])) [(.l 48), (.l 49)], none, []⟩,
   ⟨some (false, 51), .bin .add (.l 47) (.l 50), none, []⟩,
   ⟨some (false, 52), .mv (.g 3), none, []⟩,
   ⟨some (false, 53), .call true (.c (.fn 86 [] [])) [(.l 45), (.l 46), (.l 51), (.l 52)], none, []⟩,
   ⟨some (true, 3), .mv (.l 53), none, []⟩]
def a86r10 : List AOper :=
  [⟨some (false, 54), .bin .add (.g 40) (.c (.int .i64 1)), none, []⟩,
   ⟨some (true, 40), .mv (.l 54), none, []⟩]
def a86l11 : ACode :=
  (.seq (.reg false a86r7) (.seq (.cond (.g 41) .skip (.exit 0)) (.seq (.block 1 (.seq (.reg false a86r8) (.reg true a86r9))) (.reg false a86r10))))
def a86r12 : List AOper :=
  [⟨some (false, 55), .mv (.g 3), none, []⟩,
   ⟨some (true, 8), .mv (.l 55), none, []⟩]
def a86b : ACode :=
  (.seq (.reg false a86r0) (.seq (.seq (.reg false a86r1) (.cond (.g 25) (.seq (.reg false a86r2) (.seq (.seq (.reg false a86r3) (.cond (.g 29) (.reg false a86r4) .skip)) (.seq (.reg false a86r5) .ret))) .skip)) (.seq (.seq (.reg false a86r6) (.block 0 (.loop a86l11))) (.seq (.reg false a86r12) .ret))))
def a86 : AFun := ⟨4, 56, a86b, [.tmp (true, 8)]⟩
theorem c86 : compileFun Try.prog [0, 1, 2, 3, 4, 8, 9, 10, 11, 25, 29, 38, 39, 40, 41] Try.f86 = some a86 := by kernel_rfl

/- damask/types.numbers -/
def a119r0 : List AOper :=
  [⟨some (true, 2), .box (.g 0), none, []⟩,
   ⟨some (true, 3), .box (.g 1), none, []⟩,
   ⟨some (true, 4), .mv (.c (.list 0 .full [])), none, []⟩]
def a119r1 : List AOper :=
  [⟨some (false, 6), .mkmap, none, []⟩,
   ⟨some (true, 5), .alloc [.nilmap], none, []⟩,
   ⟨none, .store 1 (.g 5) (.l 6), none, []⟩]
def a119r2 : List AOper :=
  [⟨some (false, 7), .load 4 true (.g 2), none, []⟩,
   ⟨some (false, 8), .mkfn 134 [] [(.g 3), (.g 5)], none, []⟩,
   ⟨some (false, 9), .call false (.c (.fn 61 [] [])) [(.l 7), (.l 8)], none, []⟩]
def a119r3 : List AOper :=
  [⟨some (false, 10), .load 1 false (.g 5), none, []⟩,
   ⟨some (false, 11), .call false (.c (.fn 135 [] [])) [(.l 10)], none, []⟩,
   ⟨some (true, 4), .mv (.l 11), none, []⟩]
def a119b : ACode :=
  (.seq (.seq (.reg false a119r0) (.frz 3)) (.seq (.seq (.reg false a119r1) (.frz 5)) (.seq (.reg false a119r2) (.seq (.reg false a119r3) .ret))))
def a119 : AFun := ⟨2, 12, a119b, [.tmp (true, 4)]⟩
theorem c119 : compileFun Try.prog [0, 1, 2, 3, 4, 5, 1000000000003, 2000000000005] Try.f119 = some a119 := by kernel_rfl

/- damask/damaskref05.add -/
def a120r0 : List AOper :=
  [⟨some (true, 4), .mv (.c (.list 0 .full [])), none, []⟩]
def a120r1 : List AOper :=
  [⟨some (true, 5), .mv (.c (.int .i64 0)), none, []⟩]
def a120r2 : List AOper :=
  [⟨some (false, 7), .mv (.g 5), none, []⟩,
   ⟨some (false, 8), .mv (.g 0), none, []⟩,
   ⟨some (false, 9), .len (.l 8), none, []⟩,
   ⟨some (false, 10), .bin .lss (.l 7) (.l 9), none, []⟩,
   ⟨some (false, 11), .mv (.l 10), none, []⟩,
   ⟨some (false, 12), .mv (.g 0), some (false, 11, true), []⟩,
   ⟨some (false, 13), .mv (.g 5), some (false, 11, true), []⟩,
   ⟨some (false, 14), .indexAddr 1 (.l 12) (.l 13), some (false, 11, true), []⟩,
   ⟨some (false, 15), .load 1 false (.l 14), some (false, 11, true), []⟩,
   ⟨some (false, 16), .mv (.g 1), some (false, 11, true), []⟩,
   ⟨some (false, 17), .bin .lss (.l 15) (.l 16), some (false, 11, true), []⟩,
   ⟨some (true, 18), .pick (.l 11) (.l 17) (.c (.bool false)), none, []⟩]
def a120r3 : List AOper :=
  [⟨some (false, 19), .mv (.g 5), none, []⟩,
   ⟨some (false, 20), .bin .add (.l 19) (.c (.int .i64 1)), none, []⟩,
   ⟨some (true, 5), .mv (.l 20), none, []⟩]
def a120l4 : ACode :=
  (.seq (.seq (.reg false a120r2) (.cond (.g 18) .skip (.exit 0))) (.block 1 (.reg false a120r3)))
def a120r5 : List AOper :=
  [⟨some (false, 21), .mv (.g 5), none, []⟩,
   ⟨some (false, 22), .mv (.g 0), none, []⟩,
   ⟨some (false, 23), .len (.l 22), none, []⟩,
   ⟨some (false, 24), .bin .lss (.l 21) (.l 23), none, []⟩,
   ⟨some (false, 25), .mv (.l 24), none, []⟩,
   ⟨some (false, 26), .mv (.g 0), some (false, 25, true), []⟩,
   ⟨some (false, 27), .mv (.g 5), some (false, 25, true), []⟩,
   ⟨some (false, 28), .indexAddr 1 (.l 26) (.l 27), some (false, 25, true), []⟩,
   ⟨some (false, 29), .load 1 false (.l 28), some (false, 25, true), []⟩,
   ⟨some (false, 30), .mv (.g 1), some (false, 25, true), []⟩,
   ⟨some (false, 31), .bin .eql (.l 29) (.l 30), some (false, 25, true), []⟩,
   ⟨some (true, 32), .pick (.l 25) (.l 31) (.c (.bool false)), none, []⟩]
def a120r6 : List AOper :=
  [⟨some (false, 33), .mv (.g 0), none, []⟩,
   ⟨some (true, 4), .mv (.l 33), none, []⟩]
def a120r7 : List AOper :=
  [⟨some (true, 6), .mv (.c (.list 0 .full [])), none, []⟩]
def a120r8 : List AOper :=
  [⟨some (false, 34), .mv (.g 6), none, []⟩,
   ⟨some (false, 35), .mv (.g 0), none, []⟩,
   ⟨some (false, 36), .mv (.g 5), none, []⟩,
   ⟨some (false, 37), .slice 1 (.l 35) none (some (.l 36)) none, none, []⟩,
   ⟨some (false, 38), .append 1 8 (.l 34) (.l 37), none, []⟩,
   ⟨some (true, 6), .mv (.l 38), none, []⟩]
def a120r9 : List AOper :=
  [⟨some (false, 39), .mv (.g 6), none, []⟩,
   ⟨some (false, 40), .mv (.g 1), none, []⟩,
   ⟨some (false, 41), .buildSlice 1 false [(.int .i64 0)] 1 [(0, (.l 40))], none, []⟩,
   ⟨some (false, 42), .append 1 8 (.l 39) (.l 41), none, []⟩,
   ⟨some (true, 6), .mv (.l 42), none, []⟩]
def a120r10 : List AOper :=
  [⟨some (false, 43), .mv (.g 6), none, []⟩,
   ⟨some (false, 44), .mv (.g 0), none, []⟩,
   ⟨some (false, 45), .mv (.g 5), none, []⟩,
   ⟨some (false, 46), .slice 1 (.l 44) (some (.l 45)) none none, none, []⟩,
   ⟨some (false, 47), .append 1 8 (.l 43) (.l 46), none, []⟩,
   ⟨some (true, 6), .mv (.l 47), none, []⟩]
def a120r11 : List AOper :=
  [⟨some (false, 48), .mv (.g 6), none, []⟩,
   ⟨some (true, 4), .mv (.l 48), none, []⟩]
def a120b : ACode :=
  (.seq (.reg false a120r0) (.seq (.reg false a120r1) (.seq (.block 0 (.loop a120l4)) (.seq (.seq (.reg false a120r5) (.cond (.g 32) (.seq (.reg false a120r6) .ret) .skip)) (.seq (.reg false a120r7) (.seq (.reg false a120r8) (.seq (.reg false a120r9) (.seq (.reg false a120r10) (.seq (.reg false a120r11) .ret)))))))))
def a120 : AFun := ⟨2, 49, a120b, [.tmp (true, 4)]⟩
theorem c120 : compileFun Try.prog [0, 1, 4, 5, 6, 18, 32] Try.f120 = some a120 := by kernel_rfl

/- damask/types.numbers$1 -/
def a134r0 : List AOper :=
  [⟨some (true, 4), .box (.g 0), none, []⟩,
   ⟨some (true, 6), .mv (.c (.bool false)), none, []⟩]
def a134r1 : List AOper :=
  [⟨some (false, 8), .fieldAddr 0 (.g 4), none, []⟩,
   ⟨some (false, 9), .load 1 false (.l 8), none, []⟩,
   ⟨some (false, 10), .load 1 false (.g 2), none, []⟩,
   ⟨some (false, 11), .bin .neq (.l 9) (.l 10), none, []⟩,
   ⟨some (true, 7), .mv (.l 11), none, []⟩]
def a134r2 : List AOper :=
  [⟨some (false, 13), .load 1 false (.g 2), none, []⟩,
   ⟨some (false, 14), .bin .neq (.l 13) (.c (.int .i64 1)), none, []⟩,
   ⟨some (true, 12), .mv (.l 14), none, []⟩]
def a134r3 : List AOper :=
  [⟨some (false, 15), .load 1 false (.g 3), none, []⟩,
   ⟨some (false, 16), .fieldAddr 1 (.g 4), none, []⟩,
   ⟨some (false, 17), .load 1 false (.l 16), none, []⟩,
   ⟨none, .mapUpdate false (.l 15) (.l 17) (.c (.bool true)), none, []⟩]
def a134r4 : List AOper :=
  [⟨some (false, 19), .fieldAddr 1 (.g 4), none, []⟩,
   ⟨some (false, 20), .load 1 false (.l 19), none, []⟩,
   ⟨some (false, 21), .mv (.g 1), none, []⟩,
   ⟨some (false, 22), .bin .geq (.l 20) (.l 21), none, []⟩,
   ⟨some (true, 18), .mv (.l 22), none, []⟩]
def a134r5 : List AOper :=
  [⟨some (false, 23), .load 1 false (.g 3), none, []⟩,
   ⟨some (false, 24), .fieldAddr 1 (.g 4), none, []⟩,
   ⟨some (false, 25), .load 1 false (.l 24), none, []⟩,
   ⟨some (false, 26), .mv (.g 1), none, []⟩,
   ⟨some (false, 27), .bin .sub (.l 25) (.l 26), none, []⟩,
   ⟨none, .mapUpdate false (.l 23) (.l 27) (.c (.bool true)), none, []⟩]
def a134r6 : List AOper :=
  [⟨some (true, 6), .mv (.c (.bool true)), none, []⟩]
def a134b : ACode :=
  (.seq (.reg false a134r0) (.seq (.block 0 (.seq (.reg false a134r1) (.cond (.g 7) .skip (.seq (.reg false a134r2) (.cond (.g 12) (.reg false a134r3) (.seq (.reg false a134r4) (.cond (.g 18) (.reg false a134r5) .skip))))))) (.seq (.reg false a134r6) .ret)))
def a134 : AFun := ⟨4, 28, a134b, [.tmp (true, 6)]⟩
theorem c134 : compileFun Try.prog [0, 1, 2, 3, 4, 6, 7, 12, 18] Try.f134 = some a134 := by kernel_rfl

/- damask/types.keys -/
def a135r0 : List AOper :=
  [⟨some (true, 2), .mkslice 1 0 [] true (.c .any) (.c .any), none, []⟩]
def a135r1 : List AOper :=
  [⟨some (true, 3), .mkslice 1 0 [] true (.c .any) (.c .any), none, []⟩]
def a135r2 : List AOper :=
  [⟨some (false, 5), .mv (.g 0), none, []⟩,
   ⟨some (true, 6), .range (.l 5), none, []⟩]
def a135r3 : List AOper :=
  [⟨some (false, 7), .next (.g 6), none, []⟩,
   ⟨some (true, 8), .extract (.l 7) 0, none, []⟩]
def a135r4 : List AOper :=
  [⟨some (false, 9), .entry (.g 6), none, []⟩,
   ⟨some (false, 10), .extract (.l 9) 0, none, []⟩,
   ⟨some (true, 4), .mv (.l 10), none, []⟩]
def a135r5 : List AOper :=
  [⟨some (false, 11), .mv (.g 3), none, []⟩,
   ⟨some (false, 12), .mv (.g 4), none, []⟩,
   ⟨some (false, 13), .buildSlice 1 false [(.int .i64 0)] 1 [(0, (.l 12))], none, []⟩,
   ⟨some (false, 14), .append 1 8 (.l 11) (.l 13), none, []⟩,
   ⟨some (true, 3), .mv (.l 14), none, []⟩]
def a135l6 : ACode :=
  (.seq (.reg false a135r3) (.seq (.cond (.g 8) .skip (.exit 0)) (.block 1 (.seq (.reg false a135r4) (.reg false a135r5)))))
def a135r7 : List AOper :=
  [⟨some (false, 15), .mv (.g 3), none, []⟩,
   ⟨some (false, 16), .call false (.c (.fn 138 [] [])) [(.l 15)], none, []⟩]
def a135r8 : List AOper :=
  [⟨some (false, 17), .mv (.g 3), none, []⟩,
   ⟨some (true, 2), .mv (.l 17), none, []⟩]
def a135b : ACode :=
  (.seq (.reg false a135r0) (.seq (.reg false a135r1) (.seq (.seq (.reg false a135r2) (.block 0 (.loop a135l6))) (.seq (.reg false a135r7) (.seq (.reg false a135r8) .ret)))))
def a135 : AFun := ⟨1, 18, a135b, [.tmp (true, 2)]⟩
theorem c135 : compileFun Try.prog [0, 2, 3, 4, 6, 8, 4000001, 3000001] Try.f135 = some a135 := by kernel_rfl

end Go.AL.Ty
/- The sort, laid at this program. -/
namespace Go.Proofs
open Go.Shelf
def Try.l189_ren : Go.Shelf.Ren := ⟨fun | 189 => 138 | 125 => 140 | 257 => 139 | 128 => 150 | 129 => 151 | 294 => 141 | 295 => 142 | 296 => 143 | 297 => 144 | 298 => 145 | 299 => 146 | 216 => 147 | 300 => 148 | 301 => 149 | 328 => 152 | 329 => 153 | 330 => 154 | 331 => 155 | 332 => 156 | 215 => 130 | 343 => 157 | n => n, fun | 28 => 39 | 3 => 3 | 46 => 56 | 0 => 0 | 51 => 141 | 53 => 143 | 4 => 4 | 183 => 133 | 182 => 132 | 131 => 138 | 5 => 5 | 9 => 9 | 218 => 144 | 222 => 77 | 228 => 149 | 229 => 150 | n => n, fun  | n => n⟩
theorem Try.l189 : Lays.n189 Try.prog Try.l189_ren := {
  mixed := by kernel_rfl,
  f125 := Try.func140.trans (congrArg some (by kernel_rfl)),
  f128 := Try.func150.trans (congrArg some (by kernel_rfl)),
  f129 := Try.func151.trans (congrArg some (by kernel_rfl)),
  f189 := Try.func138.trans (congrArg some (by kernel_rfl)),
  f215 := Try.func130.trans (congrArg some (by kernel_rfl)),
  f216 := Try.func147.trans (congrArg some (by kernel_rfl)),
  f257 := Try.func139.trans (congrArg some (by kernel_rfl)),
  f294 := Try.func141.trans (congrArg some (by kernel_rfl)),
  f295 := Try.func142.trans (congrArg some (by kernel_rfl)),
  f296 := Try.func143.trans (congrArg some (by kernel_rfl)),
  f297 := Try.func144.trans (congrArg some (by kernel_rfl)),
  f298 := Try.func145.trans (congrArg some (by kernel_rfl)),
  f299 := Try.func146.trans (congrArg some (by kernel_rfl)),
  f300 := Try.func148.trans (congrArg some (by kernel_rfl)),
  f301 := Try.func149.trans (congrArg some (by kernel_rfl)),
  f328 := Try.func152.trans (congrArg some (by kernel_rfl)),
  f329 := Try.func153.trans (congrArg some (by kernel_rfl)),
  f330 := Try.func154.trans (congrArg some (by kernel_rfl)),
  f331 := Try.func155.trans (congrArg some (by kernel_rfl)),
  f332 := Try.func156.trans (congrArg some (by kernel_rfl)),
  f343 := Try.func157.trans (congrArg some (by kernel_rfl)),
  t0 := Try.underlying0,
  a0 := Try.isAgg0,
  z0 := Try.sizeOf0,
  v0 := Try.zeroValue0,
  t3 := Try.underlying3,
  a3 := Try.isAgg3,
  z3 := Try.sizeOf3,
  v3 := Try.zeroValue3,
  t4 := Try.underlying4,
  a4 := Try.isAgg4,
  z4 := Try.sizeOf4,
  v4 := Try.zeroValue4,
  t5 := Try.underlying5,
  a5 := Try.isAgg5,
  z5 := Try.sizeOf5,
  v5 := Try.zeroValue5,
  t9 := Try.underlying9,
  a9 := Try.isAgg9,
  z9 := Try.sizeOf9,
  v9 := Try.zeroValue9,
  t28 := Try.underlying39,
  a28 := Try.isAgg39,
  z28 := Try.sizeOf39,
  v28 := Try.zeroValue39,
  t46 := Try.underlying56,
  a46 := Try.isAgg56,
  z46 := Try.sizeOf56,
  v46 := Try.zeroValue56,
  t51 := Try.underlying141,
  a51 := Try.isAgg141,
  z51 := Try.sizeOf141,
  v51 := Try.zeroValue141,
  t53 := Try.underlying143,
  a53 := Try.isAgg143,
  z53 := Try.sizeOf143,
  v53 := Try.zeroValue143,
  t131 := Try.underlying138,
  a131 := Try.isAgg138,
  z131 := Try.sizeOf138,
  v131 := Try.zeroValue138,
  t182 := Try.underlying132,
  a182 := Try.isAgg132,
  z182 := Try.sizeOf132,
  v182 := Try.zeroValue132,
  t183 := Try.underlying133,
  a183 := Try.isAgg133,
  z183 := Try.sizeOf133,
  v183 := Try.zeroValue133,
  t218 := Try.underlying144,
  a218 := Try.isAgg144,
  z218 := Try.sizeOf144,
  v218 := Try.zeroValue144,
  t222 := Try.underlying77,
  a222 := Try.isAgg77,
  z222 := Try.sizeOf77,
  v222 := Try.zeroValue77,
  t228 := Try.underlying149,
  a228 := Try.isAgg149,
  z228 := Try.sizeOf149,
  v228 := Try.zeroValue149,
  t229 := Try.underlying150,
  a229 := Try.isAgg150,
  z229 := Try.sizeOf150,
  v229 := Try.zeroValue150 }
end Go.Proofs
/- The abstract layer: regions within a fence, and in the rounds of a range over a function. -/
set_option linter.unusedVariables false
set_option linter.unusedSimpArgs false
namespace Go.AL
variable {P : Program} {gs : List Nat} {N : Nat} {ι ι' : Nat → Option Nat} {g l : Env} {s s' : St} {a : Act} {w w' : World}

def inR (ro : Option Nat) : Fence := { Fence.wide with round := ro }

theorem calls_inR {ro : Option Nat} {n : Nat} {f : FuncId} {args : Array Value} {R : Ending → World → Prop} (h : Calls P f args w R) : CallsIn (inR ro) n P f args w R :=
  (callsIn_wide (n := n)).2 h

theorem rows_inR {ro : Option Nat} {n : Nat} {row : String} {args : Array Value} {R : Value → World → Prop} (h : Rows P row args w R) : RowsIn (inR ro) n P row args w R :=
  fun c cs _ => let ⟨v, w', r, s⟩ := h c cs; ⟨v, w', r, stepsIn_wide.2 s⟩

def withD (d : List Deferred) (a : Act) : Act := { a with defers := d }
theorem withD_put (d : List Deferred) (a : Act) (t : Option Tmp) (v : Value) : (withD d a).put t v = withD d (a.put t v) := by cases t <;> rfl
theorem withD_eval (d : List Deferred) (a : Act) : (withD d a).eval = a.eval := rfl

theorem no_defer {ops : Array Oper} {Q : Exit → Act → World → Prop} (hpan : ∀ ch a w, ¬ Q (.panic ch) a w) (hout : ¬ LetsOut Q) (hQ : ∀ a w, Q .normal a w → a.defers = []) :
    ∀ (l : List Nat) (a : Act) (w : World), a.defers ≠ [] → wpOps P ops Q l a w → False := by
  intro l
  induction l with
  | nil => intro a w ha h; exact ha (hQ a w h)
  | cons i l ih =>
    intro a w ha h
    have hput : ∀ (t : Option Tmp) v, (a.put t v).defers ≠ [] := by
      intro t v
      cases t <;> exact ha
    simp only [wpOps] at h
    cases ho : ops[i]? with
    | none => simp only [ho] at h; exact ih a w ha h
    | some o =>
      simp only [ho] at h
      split at h
      · rcases h with h | ⟨_, h⟩
        · unfold Oper.wp at h
          generalize (execOp a.eval o).run P w = r at h
          cases r with
          | ok x w1 =>
            cases x with
            | value v => exact ih _ _ (hput _ _) h
            | skip => exact ih _ _ (hput _ _) h
            | enter f args =>
              obtain ⟨e, w2, fr, he, _⟩ := h []
              cases e with
              | returned v => exact ih _ _ (hput _ _) he
              | panicked ch => exact hpan _ _ _ he
              | outgrown => exact hout he
            | row row args =>
              obtain ⟨v, w2, he, _⟩ := h default []
              exact ih _ _ (hput _ _) he
            | defer c =>
              refine ih _ _ ?_ h
              cases o.dst <;> simp [Act.put]
            | _ => exact h
          | halt x w1 =>
            cases x with
            | panic v => exact hpan _ _ _ h
            | _ => exact h
        · exact hout h
      · exact ih _ _ (hput _ _) h

/-- Operations that are no defer statements: what they come to in the plain world they come to in a fence, whatever is deferred; slots that none of them writes stay. -/
theorem wpOps_inR {ops : Array Oper} {ro : Option Nat} {n : Nat} {d : List Deferred} {T : Nat → Prop} {Q Q' : Exit → Act → World → Prop} {rest : List Nat}
    (hnd : ∀ (i : Nat) (o : Oper), ops[i]? = some o → ∀ c, o.op ≠ .defer c) (hdf : ∀ a w, Q .normal a w → a.defers = []) (hpan : ∀ ch a w, ¬ Q (.panic ch) a w) (hout : ¬ LetsOut Q)
    (a0 : Act) (hQ : ∀ a' w', Q .normal a' w' → (∀ t, T t → a'.tmps.getD t undef = a0.tmps.getD t undef) → wpOpsIn (inR ro) n P ops Q' rest (withD d a') w') :
    ∀ (l : List Nat), (∀ i ∈ l, ∀ o, ops[i]? = some o → ∀ t, o.dst = some t → ¬ T t) → ∀ (a : Act) (w : World), (∀ t, T t → a.tmps.getD t undef = a0.tmps.getD t undef) → wpOps P ops Q l a w → wpOpsIn (inR ro) n P ops Q' (l ++ rest) (withD d a) w := by
  intro l
  induction l with
  | nil =>
    intro _ a w hT h
    exact hQ a w h hT
  | cons i l ih =>
    intro hd a w hT h
    have ih' := ih (fun j hj => hd j (List.mem_cons_of_mem _ hj))
    simp only [List.cons_append, wpOps, wpOpsIn] at h ⊢
    cases ho : ops[i]? with
    | none =>
      simp only [ho] at h ⊢
      exact ih' a w hT h
    | some o =>
      simp only [ho] at h ⊢
      have hput : ∀ v t, T t → (a.put o.dst v).tmps.getD t undef = a0.tmps.getD t undef := by
        intro v t ht
        rw [← hT t ht]
        cases hdst : o.dst with
        | none => rfl
        | some u =>
          have hne : u ≠ t := fun e => hd i (List.mem_cons_self ..) o ho u hdst (e ▸ ht)
          simp [Act.put, Array.getElem?_setIfInBounds_ne hne]
      have hy : yielded ops (withD d a).tmps = yielded ops a.tmps := rfl
      rw [hy]
      split
      · rename_i hw
        rw [if_pos hw] at h
        rcases h with h | ⟨_, h⟩
        · refine ⟨fun _ _ => trivial, ?_⟩
          rw [Oper.semAt_eq _ _ _ (hnd i o ho), withD_eval]
          unfold Oper.wp at h
          generalize (execOp a.eval o).run P w = r at h ⊢
          cases r with
          | ok x w1 =>
            cases x with
            | value v => simp only [Oper.upon, Oper.uponIn] at h ⊢; rw [withD_put]; exact ih' _ _ (hput v) h
            | skip => simp only [Oper.upon, Oper.uponIn] at h ⊢; rw [withD_put]; exact ih' _ _ (hput _) h
            | enter f args =>
              simp only [Oper.upon, Oper.uponIn] at h ⊢
              refine ⟨by simp [inR, Fence.wide], CallsIn.mono (calls_inR h) fun e w2 he => ?_⟩
              cases e with
              | returned v => simp only at he ⊢; rw [withD_put]; exact ih' _ _ (hput v) he
              | panicked ch => exact (hpan _ _ _ he).elim
              | outgrown => exact (hout he).elim
            | row row args =>
              simp only [Oper.upon, Oper.uponIn] at h ⊢
              refine ⟨by simp [inR, Fence.wide], RowsIn.mono (rows_inR h) fun v w2 he => ?_⟩
              rw [withD_put]; exact ih' _ _ (hput v) he
            | defer c => 
              exfalso
              refine no_defer hpan hout hdf l _ _ ?_ h
              cases o.dst <;> simp [Act.put]
            | _ => simp only [Oper.upon] at h
          | halt x w1 =>
            cases x with
            | panic v => exact (hpan _ _ _ h).elim
            | _ => exact h.elim
        · exact (hout h).elim
      · rename_i hw
        rw [if_neg hw] at h
        refine ⟨fun _ _ => trivial, ?_⟩
        rw [withD_put]; exact ih' _ _ (hput _) h

theorem seq_part {ops : Array Oper} {ι0 : Nat → Option Nat} {s0 : St} {w0 : World} {K : Env → Env → St → Prop} {Q : Exit → Act → World → Prop} {r' : List Oper}
    (hQ : ∀ ι' g' l' s' a' w', Rel gs N ι' g' l' s' a' w' → Step ι0 s0.m w0 ι' s'.m w' → Inc ι0 ι' s0.nx s'.nx → K g' l' s' → Q .normal a' w') :
    ∀ (r : List Oper) (k : Nat) (os : List AOper), ops.toList.drop k = r ++ r' → compileSeq P gs N ops r = some os → ∀ (ι : Nat → Option Nat) (g l : Env) (s : St) (a : Act) (w : World),
      aops P os K g l s → Rel gs N ι g l s a w → Step ι0 s0.m w0 ι s.m w → Inc ι0 ι s0.nx s.nx → wpOps P ops Q (List.range' k r.length) a w := by
  intro r
  induction r with
  | nil =>
    intro k os hk hc ι g l s a w h hrel hst hn
    simp [compileSeq] at hc
    subst hc
    exact hQ ι g l s a w hrel hst hn h
  | cons o r ih =>
    intro k os hk hc ι g l s a w h hrel hst hn
    simp only [compileSeq] at hc
    split at hc
    · rename_i ao os' h1 h2
      cases hc
      have hi : ops[k]? = some o := by
        have : (ops.toList.drop k)[0]? = some o := by rw [hk]; rfl
        simpa using this
      have hk' : ops.toList.drop (k + 1) = r ++ r' := by
        rw [← List.drop_drop, hk]; rfl
      simp only [List.length_cons, List.range'_succ]
      refine oper_seq rfl hi h1 hrel (run := fun g l => ao.op.step P g l s fun v s' => setDst ao.dst v g l fun g' l' => aops P os' K g' l' s') (fun _ _ h => h) ?_ (fun ι' g' l' s' a' w' k1 k2 k3 k4 => ih (k + 1) os' hk' h2 ι' g' l' s' a' w' k4 k1 (hst.trans k2) (hn.trans k3))
      simpa only [aops] using h
    · cases hc

def tame (ops : Array Oper) : Bool := ops.toList.all fun o => match o.op with | .defer _ => false | _ => true

/-- The first operations of a region. -/
theorem part_inR {ops : Array Oper} {ro : Option Nat} {n : Nat} {d : List Deferred} {Q' : Exit → Act → World → Prop} {r r' : List Oper} {os : List AOper} {ι0 : Nat → Option Nat} {s0 : St} {w0 : World} {K : Env → Env → St → Prop}
    (htame : tame ops = true) (hr : ops.toList = r ++ r') (hc : compileSeq P gs N ops r = some os)
    (h : aops P os K g l s) (hrel : Rel gs N ι g l s a w) (hst : Step ι0 s0.m w0 ι s.m w) (hn : Inc ι0 ι s0.nx s.nx)
    (hQ : ∀ ι' g' l' s' a' w', Rel gs N ι' g' l' s' a' w' → Step ι0 s0.m w0 ι' s'.m w' → Inc ι0 ι' s0.nx s'.nx → K g' l' s' →
      (∀ t, (∀ o ∈ r, o.dst ≠ some t) → a'.tmps.getD t undef = a.tmps.getD t undef) → wpOpsIn (inR ro) n P ops Q' (List.range' r.length r'.length) (withD d a') w') :
    wpOpsIn (inR ro) n P ops Q' (List.range ops.size) (withD d a) w := by
  have hsize : ops.size = r.length + r'.length := by rw [← Array.length_toList, hr, List.length_append]
  have hl : List.range ops.size = List.range' 0 r.length ++ List.range' r.length r'.length := by
    rw [hsize, List.range_eq_range']
    simpa using (List.range'_append (s := 0) (step := 1) (m := r.length) (n := r'.length)).symm
  rw [hl]
  refine wpOps_inR (T := fun t => ∀ o ∈ r, o.dst ≠ some t) (Q := fun e a' w' => match e with | .normal => ∃ ι' g' l' s', Rel gs N ι' g' l' s' a' w' ∧ Step ι0 s0.m w0 ι' s'.m w' ∧ Inc ι0 ι' s0.nx s'.nx ∧ K g' l' s' | _ => False)
    ?_ ?_ (fun _ _ _ h => h) (by rintro ⟨_, _, h⟩; exact h) a (fun a' w' ⟨ι', g', l', s', h1, h2, h3, h4⟩ ht => hQ ι' g' l' s' a' w' h1 h2 h3 h4 ht) _ ?_ a w (fun _ _ => rfl) ?_
  · intro i o ho c hop
    have : o ∈ ops.toList := by
      have := Array.mem_of_getElem? ho
      simpa using this
    have := (List.all_eq_true.1 htame) o this
    rw [hop] at this
    cases this
  · rintro a w ⟨_, _, _, _, h, _⟩
    exact h.defers
  · intro i hi o ho t ht hT
    have hi' : i < r.length := by simpa using hi
    have : ops.toList[i]? = some o := by simpa using ho
    rw [hr, List.getElem?_append_left hi'] at this
    exact hT o (List.mem_of_getElem? this) ht
  · exact seq_part (r' := r') (fun ι' g' l' s' a' w' h1 h2 h3 h4 => ⟨ι', g', l', s', h1, h2, h3, h4⟩) r 0 os (by simpa using hr) hc ι g l s a w h hrel hst hn

/-- A region that draws nothing. -/
theorem region_inR {id : Nat} {ops : Array Oper} {ro : Option Nat} {n : Nat} {d : List Deferred} {Q' : Exit → Act → World → Prop} {os : List AOper} {ι0 : Nat → Option Nat} {s0 : St} {w0 : World} {K : Env → Env → St → Prop}
    (htame : tame ops = true) (hc : compileSeq P gs N ops ops.toList = some os)
    (h : aops P os K g l s) (hrel : Rel gs N ι g l s a w) (hst : Step ι0 s0.m w0 ι s.m w) (hn : Inc ι0 ι s0.nx s.nx)
    (hQ : ∀ ι' g' l' s' a' w', Rel gs N ι' g' l' s' a' w' → Step ι0 s0.m w0 ι' s'.m w' → Inc ι0 ι' s0.nx s'.nx → K g' l' s' →
      (∀ t, (∀ o ∈ ops.toList, o.dst ≠ some t) → a'.tmps.getD t undef = a.tmps.getD t undef) → Q' .normal (withD d a') w') :
    (Code.region id ops false).wpIn (inR ro) n P Q' (withD d a) w :=
  wpIn_region (part_inR (r := ops.toList) (r' := []) htame (by simp) hc h hrel hst hn fun ι' g' l' s' a' w' h1 h2 h3 h4 h5 => by simpa [wpOpsIn] using hQ ι' g' l' s' a' w' h1 h2 h3 h4 h5)

/-! ## Blocks that are no objects -/

theorem rep_keepc {ι ι' : Nat → Option Nat} {F F' : Nat → Nat → Prop} {w w' : World}
    (hext : ∀ o b, ι o = some b → ι' o = some b)
    (hcell : ∀ b off v, w.cell? ⟨b, off, none⟩ = some v → ¬ F b off → w'.cell? ⟨b, off, none⟩ = some v)
    (hfoot : ∀ b off, b < w.heap.size → F' b off → F b off)
    (hshape : ∀ b n, BlockOf w b n → BlockOf w' b n) {v : Value} {x : AV} (h : Rep ι F w v x) : Rep ι' F' w' v x := by
  induction h with
  | any v => exact .any v
  | bool b => exact .bool b
  | int k n => exact .int k n
  | str s => exact .str s
  | @list a len cap sz t xs cs hlen hcap hsz ht hnone hc hr ih =>
    refine .list cs hlen hcap hsz ?_ hnone (fun j hj => ?_) ih
    · cases t with
      | none => trivial
      | full => exact ht
      | own o =>
        rcases ht with ht | ⟨b, h1, h2, h3⟩
        · exact .inl ht
        · exact .inr ⟨b, hext _ _ h1, h2, hshape _ _ h3⟩
    · obtain ⟨ad, h1, h2, h3, h4, h5⟩ := hc j hj
      have hb := lt_of_cell h3
      exact ⟨ad, h1, h2, hcell _ _ _ h3 h4, fun hf => h4 (hfoot _ _ hb hf), h5⟩
  | agg hl hc hr ih => exact .agg hl hc ih
  | tup hl hr ih => exact .tup hl ih
  | ptr off h => exact .ptr off (hext _ _ h)
  | cptr cs ha hc hr ih =>
    refine .cptr cs ha (fun j hj => ?_) ih
    obtain ⟨h3, h4, h5⟩ := hc j hj
    have hb := lt_of_cell h3
    exact ⟨hcell _ _ _ h3 h4, fun hf => h4 (hfoot _ _ hb hf), h5⟩
  | nilptr => exact .nilptr
  | fn f hl hl' hf hr ih1 ih2 => exact .fn f hl hl' ih1 ih2
  | nilfn => exact .nilfn
  | map h => exact .map (hext _ _ h)
  | nilmap => exact .nilmap
  | mref h hcap hb => exact .mref (hext _ _ h) hcap (hshape _ _ hb)
  | mnil => exact .mnil
  | aptr h => exact .aptr (hext _ _ h)

section
variable {S : Store} {row : Option Nat}
/-- A block that is no cells and no object turns, and new blocks come. -/
structure Grown (S : Store) (ι : Nat → Option Nat) (w w' : World) (row : Option Nat) : Prop where
  by' : w.grownBy w' row
  row : ∀ r, row = some r → (∃ o, w.heap[r]? = some o ∧ o.isCells = false) ∧ ¬ Blk ι S r

theorem Grown.cell (h : Grown S ι w w' row) {b off : Nat} {v : Value} (hc : w.cell? ⟨b, off, none⟩ = some v) : w'.cell? ⟨b, off, none⟩ = some v := by
  refine (World.cell?_of_block (h.by'.block b (lt_of_cell hc) fun e => ?_)).trans hc
  obtain ⟨⟨o, ho, hn⟩, _⟩ := h.row b e.symm
  cases o <;> simp [World.cell?, ho, Obj.isCells] at hc hn

theorem Grown.shape (h : Grown S ι w w' row) {b n : Nat} (hb : BlockOf w b n) : BlockOf w' b n := by
  obtain ⟨c, e, hc, hn⟩ := hb
  refine ⟨c, e, (h.by'.block b (Array.getElem?_eq_some_iff.1 hc).1 fun e' => ?_).trans hc, hn⟩
  obtain ⟨⟨o, ho, hno⟩, _⟩ := h.row b e'.symm
  rw [hc] at ho; cases ho; cases hno

theorem Grown.rep (h : Grown S ι w w' row) {F : Nat → Nat → Prop} {v : Value} {x : AV} (hr : Rep ι F w v x) : Rep ι F w' v x :=
  rep_keepc (fun _ _ h => h) (fun _ _ _ hc _ => h.cell hc) (fun _ _ _ h => h) (fun _ _ h' => h.shape h') hr

theorem Grown.wf (h : Grown S ι w w' row) (hw : WF ι S w) : WF ι S w' :=
  ⟨fun o b ho => Nat.lt_of_lt_of_le (hw.blt o b ho) h.by'.size, hw.inj, fun o obj b ho hb =>
    (hw.rep o obj b ho hb).keep (fun v x hr => h.rep hr) (h.by'.block b (hw.blt o b hb) fun e => (h.row b e.symm).2 ⟨o, obj, ho, hb⟩)⟩

theorem Grown.step (h : Grown S ι w w' row) {ι0 : Nat → Option Nat} {S0 : Store} {w0 : World} (hs : Step ι0 S0 w0 ι S w) (hr : ∀ r, row = some r → w0.heap.size ≤ r) : Step ι0 S0 w0 ι S w' where
  os := h.by'.os.trans hs.os
  tape := h.by'.tape.trans hs.tape
  output := h.by'.output.trans hs.output
  size := Nat.le_trans hs.size h.by'.size
  blk b hb hn := (h.by'.block b (Nat.lt_of_lt_of_le hb hs.size) fun e => by have := hr b e.symm; omega).trans (hs.blk b hb hn)
  cell b off hb hn := (World.cell?_of_block (h.by'.block b (Nat.lt_of_lt_of_le hb hs.size) fun e => by have := hr b e.symm; omega)).trans (hs.cell b off hb hn)
  shape b n hb := h.shape (hs.shape b n hb)
  ext := hs.ext
  foot := hs.foot
  nblk := hs.nblk
end

/-- The activation at a function's start. -/
theorem rel_enter {vs : Array Value} {args : List AV} (hwf : WF ι s.m w) (hbnd : Bnd ι s.m s.nx) (hvs : RepL ι (Foot ι s.m) w vs args) (hsz : args.length ≤ N) :
    Rel gs N ι (argEnv 0 args) [] s { tmps := vs ++ Array.replicate (N - vs.size) undef, defers := [] } w := by
  have hs := hvs.1
  refine ⟨hwf, hbnd, by simp; omega, rfl, fun t ht => ?_, fun t ht => .any _⟩
  rw [argEnv_get]
  simp only [Nat.zero_le, if_true, Nat.sub_zero]
  by_cases hlt : t < vs.size
  · have hlt' : t < args.length := by rw [← hvs.1]; exact hlt
    have e1 : (vs ++ Array.replicate (N - vs.size) undef).getD t undef = vs[t] := by
      simp [Array.getElem?_append_left hlt, hlt]
    have e2 : args.getD t .any = args[t] := by simp [hlt']
    rw [e1, e2]
    exact hvs.2 t _ _ (by simp [hlt]) (by simp [hlt'])
  · have : args.getD t .any = .any := by
      have : args.length ≤ t := by rw [← hvs.1]; omega
      simp [List.getElem?_eq_none this]
    rw [this]
    exact .any _
end Go.AL
