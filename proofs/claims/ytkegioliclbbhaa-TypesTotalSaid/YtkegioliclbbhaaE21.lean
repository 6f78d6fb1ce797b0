/- Orders: numbers, strings, sizes. -/
import Derived.Test.YtkegioliclbbhaaE17
import Derived.Test.YtkegioliclbbhaaC5
set_option linter.unusedVariables false
set_option linter.unusedSimpArgs false
namespace Go.AL.Ty
open Go Go.Proofs

def cmpI (a b : Int) : Int := if a < b then -1 else if b < a then 1 else 0
def cmpS (a b : ByteArray) : Int := if Op.bytesLess a.toList b.toList then -1 else if a = b then 0 else 1
def orI : List Int → Int
  | [] => 0
  | x :: r => if x = 0 then orI r else x

theorem p130 (n : Int) : PureC Try.prog 130 [.int .i64 n] (.bool false) := by
  refine PureC.intro fun s => fun_sound mixed Try.func130 Try.call130 c130 rfl (awpFun_go _ _ _ _ ?_)
  simp (implicitDefEqProofs := false) (maxSteps := 2000000) (disch := (first | omega | (simp only [St.new_nx, St.set_nx, St.del_nx, St.bump_nx]; done) | (simp only [St.new_nx, St.set_nx, St.del_nx, St.bump_nx]; omega) | fail)) [a130, a130b, a130r0, a130r1]
theorem p137 (n : ByteArray) : PureC Try.prog 137 [.str n] (.bool false) := by
  refine PureC.intro fun s => fun_sound mixed Try.func137 Try.call137 c137 rfl (awpFun_go _ _ _ _ ?_)
  simp (implicitDefEqProofs := false) (maxSteps := 2000000) (disch := (first | omega | (simp only [St.new_nx, St.set_nx, St.del_nx, St.bump_nx]; done) | (simp only [St.new_nx, St.set_nx, St.del_nx, St.bump_nx]; omega) | fail)) [a137, a137b, a137r0, a137r1]
theorem p117 (a b : Int) : PureC Try.prog 117 [.int .i64 a, .int .i64 b] (.int .i64 (cmpI a b)) := by
  refine PureC.intro fun s => fun_sound mixed Try.func117 Try.call117 c117 rfl (awpFun_go _ _ _ _ ?_)
  simp (implicitDefEqProofs := false) (maxSteps := 2000000) (disch := (first | omega | (simp only [St.new_nx, St.set_nx, St.del_nx, St.bump_nx]; done) | (simp only [St.new_nx, St.set_nx, St.del_nx, St.bump_nx]; omega) | fail)) [a117, a117b, a117r0, a117r1]
  refine go_pure (p130 a) fun mm1 hm1 => ?_
  try simp only [St.new_nx, St.bump_nx, St.set_nx, St.del_nx] at hm1
  simp (implicitDefEqProofs := false) (maxSteps := 2000000) (disch := (first | omega | (simp only [St.new_nx, St.set_nx, St.del_nx, St.bump_nx]; done) | (simp only [St.new_nx, St.set_nx, St.del_nx, St.bump_nx]; omega) | fail)) [a117r2]
  refine go_pure (p130 b) fun mm2 hm2 => ?_
  try simp only [St.new_nx, St.bump_nx, St.set_nx, St.del_nx] at hm2
  simp (implicitDefEqProofs := false) (maxSteps := 2000000) (disch := (first | omega | (simp only [St.new_nx, St.set_nx, St.del_nx, St.bump_nx]; done) | (simp only [St.new_nx, St.set_nx, St.del_nx, St.bump_nx]; omega) | fail)) [a117r3, a117r7, a117r9, a117r10, a117r11, a117r12, a117r13]
  exact ⟨fun h => by simp [cmpI, h], fun h => ⟨fun h2 => by rw [cmpI, if_neg (by omega), if_pos h2], fun h2 => by rw [cmpI, if_neg (by omega), if_neg (by omega)]⟩⟩
theorem p132 (a b : ByteArray) : PureC Try.prog 132 [.str a, .str b] (.int .i64 (cmpS a b)) := by
  refine PureC.intro fun s => fun_sound mixed Try.func132 Try.call132 c132 rfl (awpFun_go _ _ _ _ ?_)
  simp (implicitDefEqProofs := false) (maxSteps := 2000000) (disch := (first | omega | (simp only [St.new_nx, St.set_nx, St.del_nx, St.bump_nx]; done) | (simp only [St.new_nx, St.set_nx, St.del_nx, St.bump_nx]; omega) | fail)) [a132, a132b, a132r0, a132r1]
  refine go_pure (p137 a) fun mm3 hm3 => ?_
  try simp only [St.new_nx, St.bump_nx, St.set_nx, St.del_nx] at hm3
  simp (implicitDefEqProofs := false) (maxSteps := 2000000) (disch := (first | omega | (simp only [St.new_nx, St.set_nx, St.del_nx, St.bump_nx]; done) | (simp only [St.new_nx, St.set_nx, St.del_nx, St.bump_nx]; omega) | fail)) [a132r2]
  refine go_pure (p137 b) fun mm4 hm4 => ?_
  try simp only [St.new_nx, St.bump_nx, St.set_nx, St.del_nx] at hm4
  simp (implicitDefEqProofs := false) (maxSteps := 2000000) (disch := (first | omega | (simp only [St.new_nx, St.set_nx, St.del_nx, St.bump_nx]; done) | (simp only [St.new_nx, St.set_nx, St.del_nx, St.bump_nx]; omega) | fail)) [a132r3, a132r7, a132r9, a132r10, a132r11, a132r12, a132r13]
  exact ⟨fun h => by simp [cmpS, h], fun h => ⟨fun _ h2 => by simp [cmpS, h, h2], fun h2 => by rw [cmpS, if_neg (by simp [h]), if_pos (h2 h)]⟩⟩
theorem p81 (a b : Int) : PureC Try.prog 81 [.int .i64 a, .int .i64 b] (.int .i64 (cmpI a b)) := by
  refine PureC.intro fun s => fun_sound mixed Try.func81 Try.call81 c81 rfl (awpFun_go _ _ _ _ ?_)
  simp (implicitDefEqProofs := false) (maxSteps := 2000000) (disch := (first | omega | (simp only [St.new_nx, St.set_nx, St.del_nx, St.bump_nx]; done) | (simp only [St.new_nx, St.set_nx, St.del_nx, St.bump_nx]; omega) | fail)) [a81, a81b, a81r0, a81r1, a81r2, a81r3, a81r4, a81r5]
  exact ⟨fun h => by simp [cmpI, h], fun h => ⟨fun h2 => by rw [cmpI, if_neg (by omega), if_pos h2], fun h2 => by rw [cmpI, if_neg (by omega), if_neg (by omega)]⟩⟩
theorem p82 (a b : ByteArray) : PureC Try.prog 82 [.str a, .str b] (.int .i64 (cmpS a b)) := by
  refine PureC.intro fun s => fun_sound mixed Try.func82 Try.call82 c82 rfl (awpFun_go _ _ _ _ ?_)
  simp (implicitDefEqProofs := false) (maxSteps := 2000000) (disch := (first | omega | (simp only [St.new_nx, St.set_nx, St.del_nx, St.bump_nx]; done) | (simp only [St.new_nx, St.set_nx, St.del_nx, St.bump_nx]; omega) | fail)) [a82, a82b, a82r0, a82r1, a82r2, a82r3, a82r4, a82r5]
  exact ⟨fun h => by simp [cmpS, h], fun h => ⟨fun _ h2 => by simp [cmpS, h, h2], fun h2 => by rw [cmpS, if_neg (by simp [h]), if_pos (h2 h)]⟩⟩
theorem p131 (l : List Int) (hlen : l.length ≤ 9223372036854775807) : PureC Try.prog 131 [.list 1 .none (il l)] (.int .i64 (orI l)) := by
  refine PureC.intro fun s => fun_sound mixed Try.func131 Try.call131 c131 rfl (awpFun_go _ _ _ _ ?_)
  simp (implicitDefEqProofs := false) (maxSteps := 2000000) (disch := (first | omega | (simp only [St.new_nx, St.set_nx, St.del_nx, St.bump_nx]; done) | (simp only [St.new_nx, St.set_nx, St.del_nx, St.bump_nx]; omega) | fail)) [a131, a131b, a131r0, a131r1, a131r2]
  refine go_loop (fun k g s1 => ∃ (i : Nat), i ≤ l.length ∧ k = l.length - i ∧ orI (l.drop i) = orI l ∧
    g.get 6 = .list 1 .none (il l) ∧ g.get 7 = .int .i64 l.length ∧ g.get 8 = .int .i64 i ∧ g.get 3 = .int .i64 0 ∧ Kept s s1 ∧ s.nx ≤ s1.nx) l.length ⟨0, Nat.zero_le _, by simp, by simp, by simp, by simp, by simp, by simp, by simp, by simp⟩ ?_
  rintro k g s1 ⟨i, hi, rfl, hg, h6, h7, h8, h3, hk, hn⟩
  by_cases hlt : i < l.length
  · have hx : l[i]? = some l[i] := by simp [hlt]
    have hx' := il_get hx
    have hlt' : (i : Int) < l.length := by omega
    have w2 : IntKind.i64.wrap ((i : Int) + 1) = ((i + 1 : Nat) : Int) := by rw [wrap64 (by omega) (by omega)]; omega
    have hdrop : l.drop i = l[i] :: l.drop (i + 1) := List.drop_eq_getElem_cons hlt
    rw [hdrop, orI] at hg
    generalize hR : orI l = R at *
    simp (implicitDefEqProofs := false) (maxSteps := 2000000) (disch := (first | omega | (simp only [St.new_nx, St.set_nx, St.del_nx, St.bump_nx]; done) | (simp only [St.new_nx, St.set_nx, St.del_nx, St.bump_nx]; omega) | fail)) [a131l8, a131r3, a131r4, a131r5, a131r6, a131r7, h6, h7, h8, h3, hlt', hlt, hx']
    refine ⟨fun hb => ?_, fun hb => ?_⟩
    · rw [if_neg hb] at hg
      exact ⟨hg, hk⟩
    · rw [if_pos hb] at hg
      rw [w2]
      refine go_next (l.length - (i + 1)) (by omega) ⟨i + 1, by omega, rfl, hg, ?_, ?_, ?_, ?_, ?_, ?_⟩ <;> (try simp (implicitDefEqProofs := false) (maxSteps := 2000000) (disch := (first | omega | (simp only [St.new_nx, St.set_nx, St.del_nx, St.bump_nx]; done) | (simp only [St.new_nx, St.set_nx, St.del_nx, St.bump_nx]; omega) | fail)) [h6, h7, h8, h3, hk])
      exact hn
  · have hlt' : ¬ (i : Int) < l.length := by omega
    have hdrop : l.drop i = [] := List.drop_eq_nil_of_le (by omega)
    rw [hdrop, orI] at hg
    simp (implicitDefEqProofs := false) (maxSteps := 2000000) (disch := (first | omega | (simp only [St.new_nx, St.set_nx, St.del_nx, St.bump_nx]; done) | (simp only [St.new_nx, St.set_nx, St.del_nx, St.bump_nx]; omega) | fail)) [a131l8, a131r3, h6, h7, h8, h3, hlt', a131r9, ← hg, hk]

mutual
def sz : Ty → Int
  | mk _ _ _ args => 1 + szs args
def szs : List Ty → Int
  | [] => 0
  | t :: ts => sz t + szs ts
end
theorem sz_eq (t : Ty) : sz t = 1 + szs t.args := by cases t; rw [sz]; rfl
theorem szs_ge : ∀ (l : List Ty), (∀ x ∈ l, 1 ≤ sz x) → (l.length : Int) ≤ szs l
  | [], _ => by simp [szs]
  | t :: ts, h => by
    have := h t (by simp)
    have := szs_ge ts fun x hx => h x (by simp [hx])
    simp only [szs, List.length_cons]; omega
theorem sz_pos (t : Ty) : 1 ≤ sz t := by
  induction t using Ty.ind with
  | h t ih =>
    have := szs_ge _ ih
    rw [sz_eq]; omega
theorem szs_pos (l : List Ty) : 0 ≤ szs l := by
  have := szs_ge l fun x _ => sz_pos x
  omega
theorem sz_args (t : Ty) : (t.args.length : Int) + 1 ≤ sz t := by
  have := szs_ge t.args fun x _ => sz_pos x
  rw [sz_eq]; omega

theorem p84 (t : Ty) : sz t ≤ 1000000 → t.args.length ≤ 1000000 → PureC Try.prog 84 [t.av] (.int .i64 (sz t)) := by
  induction t using Ty.ind with
  | h t ih =>
    intro hz hlen
    refine PureC.intro fun s => fun_sound mixed Try.func84 Try.call84 c84 rfl (awpFun_go _ _ _ _ ?_)
    have hsz := sz_eq t
    generalize hR : sz t = R at *
    simp (implicitDefEqProofs := false) (maxSteps := 2000000) (disch := (first | omega | (simp only [St.new_nx, St.set_nx, St.del_nx, St.bump_nx]; done) | (simp only [St.new_nx, St.set_nx, St.del_nx, St.bump_nx]; omega) | fail)) [a84, a84b, a84r0, a84r1, a84r2]
    refine go_loop (fun k g s1 => ∃ (i : Nat) (c : Int), i ≤ t.args.length ∧ k = t.args.length - i ∧ c + szs (t.args.drop i) = R ∧ 1 ≤ c ∧
      g.get 7 = .list 4 .none (t.args.map av) ∧ g.get 8 = .int .i64 t.args.length ∧ g.get 9 = .int .i64 i ∧ g.get 3 = .int .i64 c ∧ Kept s s1 ∧ s.nx ≤ s1.nx) t.args.length ⟨0, 1, Nat.zero_le _, by omega, by simpa using hsz.symm, by omega, by simp, by simp, by simp, by simp, by simp, by simp⟩ ?_
    rintro k g s1 ⟨i, c, hi, rfl, hg, hc, h7, h8, h9, h3, hk, hn⟩
    by_cases hlt : i < t.args.length
    · have hx : t.args[i]? = some t.args[i] := by simp [hlt]
      have hlt' : (i : Int) < t.args.length := by omega
      have w2 : IntKind.i64.wrap ((i : Int) + 1) = ((i + 1 : Nat) : Int) := by rw [wrap64 (by omega) (by omega)]; omega
      have hdrop : t.args.drop i = t.args[i] :: t.args.drop (i + 1) := List.drop_eq_getElem_cons hlt
      rw [hdrop, szs] at hg
      have hp := sz_pos t.args[i]
      have hps := szs_pos (t.args.drop (i + 1))
      have hal := sz_args t.args[i]
      have w1 : IntKind.i64.wrap (c + sz t.args[i]) = c + sz t.args[i] := wrap64 (by omega) (by omega)
      simp (implicitDefEqProofs := false) (maxSteps := 2000000) (disch := (first | omega | (simp only [St.new_nx, St.set_nx, St.del_nx, St.bump_nx]; done) | (simp only [St.new_nx, St.set_nx, St.del_nx, St.bump_nx]; omega) | fail)) [a84l7, a84r3, a84r4, a84r5, a84r6, h7, h8, h9, h3, hlt', hlt, hx]
      refine go_pure (ih _ (List.getElem_mem hlt) (by omega) (by omega)) fun mm5 hm5 => ?_
      try simp only [St.new_nx, St.bump_nx, St.set_nx, St.del_nx] at hm5
      simp (implicitDefEqProofs := false) (maxSteps := 2000000) (disch := (first | omega | (simp only [St.new_nx, St.set_nx, St.del_nx, St.bump_nx]; done) | (simp only [St.new_nx, St.set_nx, St.del_nx, St.bump_nx]; omega) | fail)) [h9, w1, w2]
      refine go_next (t.args.length - (i + 1)) (by omega) ⟨i + 1, by omega, rfl, c + sz t.args[i], by omega, by omega, ?_, ?_, ?_, ?_, ?_, ?_⟩ <;> (try simp (implicitDefEqProofs := false) (maxSteps := 2000000) (disch := (first | omega | (simp only [St.new_nx, St.set_nx, St.del_nx, St.bump_nx]; done) | (simp only [St.new_nx, St.set_nx, St.del_nx, St.bump_nx]; omega) | fail)) [h7, h8, h9, h3, hk])
      all_goals omega
    · have hlt' : ¬ (i : Int) < t.args.length := by omega
      have hdrop : t.args.drop i = [] := List.drop_eq_nil_of_le (by omega)
      rw [hdrop, szs] at hg
      have hg' : c = R := by omega
      simp (implicitDefEqProofs := false) (maxSteps := 2000000) (disch := (first | omega | (simp only [St.new_nx, St.set_nx, St.del_nx, St.bump_nx]; done) | (simp only [St.new_nx, St.set_nx, St.del_nx, St.bump_nx]; omega) | fail)) [a84l7, a84r3, h7, h8, h9, h3, hlt', a84r8, hg', hk]

theorem p48 (t : Ty) : sz t ≤ 1000000 → t.args.length ≤ 1000000 → PureC Try.prog 48 [t.av] (.int .i64 (sz t)) := by
  induction t using Ty.ind with
  | h t ih =>
    intro hz hlen
    refine PureC.intro fun s => fun_sound mixed Try.func48 Try.call48 c48 rfl (awpFun_go _ _ _ _ ?_)
    have hsz := sz_eq t
    generalize hR : sz t = R at *
    simp (implicitDefEqProofs := false) (maxSteps := 2000000) (disch := (first | omega | (simp only [St.new_nx, St.set_nx, St.del_nx, St.bump_nx]; done) | (simp only [St.new_nx, St.set_nx, St.del_nx, St.bump_nx]; omega) | fail)) [a48, a48b, a48r0, a48r1, a48r2]
    refine go_loop (fun k g s1 => ∃ (i : Nat) (c : Int), i ≤ t.args.length ∧ k = t.args.length - i ∧ c + szs (t.args.drop i) = R ∧ 1 ≤ c ∧
      g.get 7 = .list 4 .none (t.args.map av) ∧ g.get 8 = .int .i64 t.args.length ∧ g.get 9 = .int .i64 i ∧ g.get 3 = .int .i64 c ∧ Kept s s1 ∧ s.nx ≤ s1.nx) t.args.length ⟨0, 1, Nat.zero_le _, by omega, by simpa using hsz.symm, by omega, by simp, by simp, by simp, by simp, by simp, by simp⟩ ?_
    rintro k g s1 ⟨i, c, hi, rfl, hg, hc, h7, h8, h9, h3, hk, hn⟩
    by_cases hlt : i < t.args.length
    · have hx : t.args[i]? = some t.args[i] := by simp [hlt]
      have hlt' : (i : Int) < t.args.length := by omega
      have w2 : IntKind.i64.wrap ((i : Int) + 1) = ((i + 1 : Nat) : Int) := by rw [wrap64 (by omega) (by omega)]; omega
      have hdrop : t.args.drop i = t.args[i] :: t.args.drop (i + 1) := List.drop_eq_getElem_cons hlt
      rw [hdrop, szs] at hg
      have hp := sz_pos t.args[i]
      have hps := szs_pos (t.args.drop (i + 1))
      have hal := sz_args t.args[i]
      have w1 : IntKind.i64.wrap (c + sz t.args[i]) = c + sz t.args[i] := wrap64 (by omega) (by omega)
      simp (implicitDefEqProofs := false) (maxSteps := 2000000) (disch := (first | omega | (simp only [St.new_nx, St.set_nx, St.del_nx, St.bump_nx]; done) | (simp only [St.new_nx, St.set_nx, St.del_nx, St.bump_nx]; omega) | fail)) [a48l7, a48r3, a48r4, a48r5, a48r6, h7, h8, h9, h3, hlt', hlt, hx]
      refine go_pure (ih _ (List.getElem_mem hlt) (by omega) (by omega)) fun mm6 hm6 => ?_
      try simp only [St.new_nx, St.bump_nx, St.set_nx, St.del_nx] at hm6
      simp (implicitDefEqProofs := false) (maxSteps := 2000000) (disch := (first | omega | (simp only [St.new_nx, St.set_nx, St.del_nx, St.bump_nx]; done) | (simp only [St.new_nx, St.set_nx, St.del_nx, St.bump_nx]; omega) | fail)) [h9, w1, w2]
      refine go_next (t.args.length - (i + 1)) (by omega) ⟨i + 1, by omega, rfl, c + sz t.args[i], by omega, by omega, ?_, ?_, ?_, ?_, ?_, ?_⟩ <;> (try simp (implicitDefEqProofs := false) (maxSteps := 2000000) (disch := (first | omega | (simp only [St.new_nx, St.set_nx, St.del_nx, St.bump_nx]; done) | (simp only [St.new_nx, St.set_nx, St.del_nx, St.bump_nx]; omega) | fail)) [h7, h8, h9, h3, hk])
      all_goals omega
    · have hlt' : ¬ (i : Int) < t.args.length := by omega
      have hdrop : t.args.drop i = [] := List.drop_eq_nil_of_le (by omega)
      rw [hdrop, szs] at hg
      have hg' : c = R := by omega
      simp (implicitDefEqProofs := false) (maxSteps := 2000000) (disch := (first | omega | (simp only [St.new_nx, St.set_nx, St.del_nx, St.bump_nx]; done) | (simp only [St.new_nx, St.set_nx, St.del_nx, St.bump_nx]; omega) | fail)) [a48l7, a48r3, h7, h8, h9, h3, hlt', a48r8, hg', hk]
end Go.AL.Ty
