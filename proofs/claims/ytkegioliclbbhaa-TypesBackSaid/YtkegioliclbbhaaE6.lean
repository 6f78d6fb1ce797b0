/- The reference: what is proper. -/
import Derived.Test.YtkegioliclbbhaaE5
import Derived.Test.YtkegioliclbbhaaC3
set_option linter.unusedVariables false
set_option linter.unusedSimpArgs false
namespace Go.AL.Ty
open Go Go.Proofs

theorem p20 (n : Int) : PureC Try.prog 20 [.int .i64 n] (.bool (decide (0 ≤ n) && decide (n ≤ 9999))) := by
  refine PureC.intro fun s => fun_sound mixed Try.func20 Try.call20 c20 rfl (awpFun_go _ _ _ _ ?_)
  simp (implicitDefEqProofs := false) (maxSteps := 2000000) (disch := (first | omega | (simp only [St.new_nx, St.set_nx, St.del_nx, St.bump_nx]; done) | (simp only [St.new_nx, St.set_nx, St.del_nx, St.bump_nx]; omega) | fail)) [a20, a20b, a20r0, a20r1]
  grind
theorem p78 (x : ByteArray) : PureC Try.prog 78 [.str x] (mk 2 0 x []).av := by
  refine PureC.intro fun s => fun_sound mixed Try.func78 Try.call78 c78 rfl (awpFun_go _ _ _ _ ?_)
  simp (implicitDefEqProofs := false) (maxSteps := 2000000) (disch := (first | omega | (simp only [St.new_nx, St.set_nx, St.del_nx, St.bump_nx]; done) | (simp only [St.new_nx, St.set_nx, St.del_nx, St.bump_nx]; omega) | fail)) [a78, a78b, a78r0, a78r1, av_mk]
theorem p35 (x : ByteArray) : PureC Try.prog 35 [.str x] (mk 2 0 x []).av := by
  refine PureC.intro fun s => fun_sound mixed Try.func35 Try.call35 c35 rfl (awpFun_go _ _ _ _ ?_)
  simp (implicitDefEqProofs := false) (maxSteps := 2000000) (disch := (first | omega | (simp only [St.new_nx, St.set_nx, St.del_nx, St.bump_nx]; done) | (simp only [St.new_nx, St.set_nx, St.del_nx, St.bump_nx]; omega) | fail)) [a35, a35b, a35r0, a35r1]
  refine go_pure (p78 x) fun m hm => ?_
  simp (implicitDefEqProofs := false) (maxSteps := 2000000) (disch := (first | omega | (simp only [St.new_nx, St.set_nx, St.del_nx, St.bump_nx]; done) | (simp only [St.new_nx, St.set_nx, St.del_nx, St.bump_nx]; omega) | fail)) [av_mk]
theorem p101 (n : Int) : PureC Try.prog 101 [.int .i64 n] (mk 1 n ⟨#[]⟩ []).av := by
  refine PureC.intro fun s => fun_sound mixed Try.func101 Try.call101 c101 rfl (awpFun_go _ _ _ _ ?_)
  simp (implicitDefEqProofs := false) (maxSteps := 2000000) (disch := (first | omega | (simp only [St.new_nx, St.set_nx, St.del_nx, St.bump_nx]; done) | (simp only [St.new_nx, St.set_nx, St.del_nx, St.bump_nx]; omega) | fail)) [a101, a101b, a101r0, a101r1, av_mk]
theorem p59 (n : Int) : PureC Try.prog 59 [.int .i64 n] (mk 1 n ⟨#[]⟩ []).av := by
  refine PureC.intro fun s => fun_sound mixed Try.func59 Try.call59 c59 rfl (awpFun_go _ _ _ _ ?_)
  simp (implicitDefEqProofs := false) (maxSteps := 2000000) (disch := (first | omega | (simp only [St.new_nx, St.set_nx, St.del_nx, St.bump_nx]; done) | (simp only [St.new_nx, St.set_nx, St.del_nx, St.bump_nx]; omega) | fail)) [a59, a59b, a59r0, a59r1]
  refine go_pure (p101 n) fun m hm => ?_
  simp (implicitDefEqProofs := false) (maxSteps := 2000000) (disch := (first | omega | (simp only [St.new_nx, St.set_nx, St.del_nx, St.bump_nx]; done) | (simp only [St.new_nx, St.set_nx, St.del_nx, St.bump_nx]; omega) | fail)) [av_mk]
theorem p116 (f a : Ty) : PureC Try.prog 116 [f.av, a.av] (mk 3 0 ⟨#[]⟩ [f, a]).av := by
  refine PureC.intro fun s => fun_sound mixed Try.func116 Try.call116 c116 rfl (awpFun_go _ _ _ _ ?_)
  simp (implicitDefEqProofs := false) (maxSteps := 2000000) (disch := (first | omega | (simp only [St.new_nx, St.set_nx, St.del_nx, St.bump_nx]; done) | (simp only [St.new_nx, St.set_nx, St.del_nx, St.bump_nx]; omega) | fail)) [a116, a116b, a116r0, a116r1, av_mk]
theorem p76 (f a : Ty) : PureC Try.prog 76 [f.av, a.av] (mk 3 0 ⟨#[]⟩ [f, a]).av := by
  refine PureC.intro fun s => fun_sound mixed Try.func76 Try.call76 c76 rfl (awpFun_go _ _ _ _ ?_)
  simp (implicitDefEqProofs := false) (maxSteps := 2000000) (disch := (first | omega | (simp only [St.new_nx, St.set_nx, St.del_nx, St.bump_nx]; done) | (simp only [St.new_nx, St.set_nx, St.del_nx, St.bump_nx]; omega) | fail)) [a76, a76b, a76r0, a76r1]
  refine go_pure (p116 f a) fun m hm => ?_
  simp (implicitDefEqProofs := false) (maxSteps := 2000000) (disch := (first | omega | (simp only [St.new_nx, St.set_nx, St.del_nx, St.bump_nx]; done) | (simp only [St.new_nx, St.set_nx, St.del_nx, St.bump_nx]; omega) | fail)) [av_mk]

mutual
def same : Ty → Ty → Bool
  | mk o n s a, u => decide (o = u.op) && (decide (n = u.n) && (decide (s = u.s) && sames a u.args))
def sames : List Ty → List Ty → Bool
  | [], us => us.isEmpty
  | t :: ts, us => match us with
    | [] => false
    | u :: us => same t u && sames ts us
end
mutual
def lim : Ty → Prop
  | mk _ _ _ a => a.length ≤ 9223372036854775807 ∧ lims a
def lims : List Ty → Prop
  | [] => True
  | t :: ts => lim t ∧ lims ts
end
theorem lims_mem : ∀ (l : List Ty) x, lims l → x ∈ l → lim x
  | t :: ts, x, hw, h => by
    simp only [List.mem_cons] at h
    simp only [lims] at hw
    rcases h with rfl | h
    · exact hw.1
    · exact lims_mem ts x hw.2 h
theorem sames_len : ∀ (ts us : List Ty), sames ts us = true → ts.length = us.length
  | [], us, h => by simp [sames] at h; simp [h]
  | t :: ts, [], h => by simp [sames] at h
  | t :: ts, u :: us, h => by simp [sames] at h; simp [sames_len ts us h.2]

def C74 (t : Ty) : Prop := ∀ u : Ty, PureC Try.prog 74 [t.av, u.av] (.bool (same t u))

theorem p75 (ts : List Ty) (ih : ∀ x ∈ ts, C74 x) (hl : ts.length ≤ 9223372036854775807) (us : List Ty) : PureC Try.prog 75 [.list 4 .none (ts.map av), .list 4 .none (us.map av)] (.bool (sames ts us)) := by
  refine PureC.intro fun s => fun_sound mixed Try.func75 Try.call75 c75 rfl (awpFun_go _ _ _ _ ?_)
  by_cases hlen : ts.length = us.length
  · simp (implicitDefEqProofs := false) (maxSteps := 2000000) (disch := (first | omega | (simp only [St.new_nx, St.set_nx, St.del_nx, St.bump_nx]; done) | (simp only [St.new_nx, St.set_nx, St.del_nx, St.bump_nx]; omega) | fail)) [a75, a75b, a75r0, a75r1, a75r2, a75r3, hlen]
    refine go_loop (fun n g s1 => ∃ (i : Nat), i ≤ ts.length ∧ n = ts.length - i ∧ sames (ts.drop i) (us.drop i) = sames ts us ∧
      g.get 0 = .list 4 .none (ts.map av) ∧ g.get 1 = .list 4 .none (us.map av) ∧ g.get 12 = .int .i64 us.length ∧ g.get 13 = .int .i64 i ∧ Kept s s1 ∧ s.nx ≤ s1.nx) ts.length ⟨0, Nat.zero_le _, by simp, by simp, by simp, by simp, by simp, by simp, by simp, by simp⟩ ?_
    rintro n g s1 ⟨i, hi, rfl, hg, h0, h1, h12, h13, hk, hn⟩
    by_cases hlt : i < ts.length
    · have hlu : i < us.length := by omega
      have hx : ts[i]? = some ts[i] := by simp [hlt]
      have hy : us[i]? = some us[i] := by simp [hlu]
      have hlt' : (i : Int) < us.length := by omega
      have w2 : IntKind.i64.wrap ((i : Int) + 1) = ((i + 1 : Nat) : Int) := by rw [wrap64 (by omega) (by omega)]; omega
      have hdrop : ts.drop i = ts[i] :: ts.drop (i + 1) := List.drop_eq_getElem_cons hlt
      have hdropu : us.drop i = us[i] :: us.drop (i + 1) := List.drop_eq_getElem_cons hlu
      simp (implicitDefEqProofs := false) (maxSteps := 2000000) (disch := (first | omega | (simp only [St.new_nx, St.set_nx, St.del_nx, St.bump_nx]; done) | (simp only [St.new_nx, St.set_nx, St.del_nx, St.bump_nx]; omega) | fail)) [a75l9, a75r4, a75r5, a75r6, h0, h1, h12, h13, hlt', hlt, hlu, hx, hy]
      refine pcV_intro (ih ts[i] (List.getElem_mem hlt) us[i]) ?_
      rw [hdrop, hdropu, sames] at hg
      simp (implicitDefEqProofs := false) (maxSteps := 2000000) (disch := (first | omega | (simp only [St.new_nx, St.set_nx, St.del_nx, St.bump_nx]; done) | (simp only [St.new_nx, St.set_nx, St.del_nx, St.bump_nx]; omega) | fail)) [a75r7, a75r8, h13, w2]
      intro m hm
      refine ⟨fun hb => ?_, fun hb => ?_⟩
      · rw [hb] at hg
        exact ⟨by rw [← hg]; rfl, hk⟩
      · rw [hb, Bool.true_and] at hg
        refine go_next (ts.length - (i + 1)) (by omega) ⟨i + 1, by omega, rfl, hg, ?_, ?_, ?_, ?_, ?_, ?_⟩ <;> (try simp (implicitDefEqProofs := false) (maxSteps := 2000000) (disch := (first | omega | (simp only [St.new_nx, St.set_nx, St.del_nx, St.bump_nx]; done) | (simp only [St.new_nx, St.set_nx, St.del_nx, St.bump_nx]; omega) | fail)) [h0, h1, h12, h13, hk])
        omega
    · have hlt' : ¬ (i : Int) < us.length := by omega
      have hd : ts.drop i = [] := List.drop_eq_nil_of_le (by omega)
      have hdu : us.drop i = [] := List.drop_eq_nil_of_le (by omega)
      rw [hd, hdu] at hg
      simp only [sames, List.isEmpty_nil] at hg
      simp (implicitDefEqProofs := false) (maxSteps := 2000000) (disch := (first | omega | (simp only [St.new_nx, St.set_nx, St.del_nx, St.bump_nx]; done) | (simp only [St.new_nx, St.set_nx, St.del_nx, St.bump_nx]; omega) | fail)) [a75l9, a75r4, h0, h1, h12, h13, hlt', a75r10, ← hg, hk]
  · have : sames ts us = false := by
      cases h : sames ts us with
      | false => rfl
      | true => exact (hlen (sames_len _ _ h)).elim
    have hlen' : ¬ (ts.length : Int) = us.length := by omega
    simp (implicitDefEqProofs := false) (maxSteps := 2000000) (disch := (first | omega | (simp only [St.new_nx, St.set_nx, St.del_nx, St.bump_nx]; done) | (simp only [St.new_nx, St.set_nx, St.del_nx, St.bump_nx]; omega) | fail)) [a75, a75b, a75r0, a75r1, a75r2, hlen', this]

theorem p74 (t : Ty) (hl : lim t) : C74 t := by
  induction t using Ty.ind with
  | h t ih =>
    intro u
    have hla : t.args.length ≤ 9223372036854775807 ∧ lims t.args := by cases t; simpa only [lim, args_mk] using hl
    have h75 := p75 t.args (fun x hx => ih x hx (lims_mem _ _ hla.2 hx)) hla.1 u.args
    have he : same t u = (decide (t.op = u.op) && (decide (t.n = u.n) && (decide (t.s = u.s) && sames t.args u.args))) := by cases t; rw [same]; rfl
    refine PureC.intro fun s => fun_sound mixed Try.func74 Try.call74 c74 rfl (awpFun_go _ _ _ _ ?_)
    rw [he]
    simp (implicitDefEqProofs := false) (maxSteps := 2000000) (disch := (first | omega | (simp only [St.new_nx, St.set_nx, St.del_nx, St.bump_nx]; done) | (simp only [St.new_nx, St.set_nx, St.del_nx, St.bump_nx]; omega) | fail)) [a74, a74b, a74r0, a74r1]
    refine ⟨fun h1 => ⟨fun h2 => ⟨fun h3 => go_pure h75 fun m hm => ?_, fun h3 => ?_⟩, fun h2 => ?_⟩, fun h1 => ?_⟩
    · simp (implicitDefEqProofs := false) (maxSteps := 2000000) (disch := (first | omega | (simp only [St.new_nx, St.set_nx, St.del_nx, St.bump_nx]; done) | (simp only [St.new_nx, St.set_nx, St.del_nx, St.bump_nx]; omega) | fail)) [h1, h2, h3]
    · simp (implicitDefEqProofs := false) (maxSteps := 2000000) (disch := (first | omega | (simp only [St.new_nx, St.set_nx, St.del_nx, St.bump_nx]; done) | (simp only [St.new_nx, St.set_nx, St.del_nx, St.bump_nx]; omega) | fail)) [h1, h2, h3]
    · simp (implicitDefEqProofs := false) (maxSteps := 2000000) (disch := (first | omega | (simp only [St.new_nx, St.set_nx, St.del_nx, St.bump_nx]; done) | (simp only [St.new_nx, St.set_nx, St.del_nx, St.bump_nx]; omega) | fail)) [h1, h2]
    · simp (implicitDefEqProofs := false) (maxSteps := 2000000) (disch := (first | omega | (simp only [St.new_nx, St.set_nx, St.del_nx, St.bump_nx]; done) | (simp only [St.new_nx, St.set_nx, St.del_nx, St.bump_nx]; omega) | fail)) [h1]

theorem p31 (t : Ty) (hl : lim t) (u : Ty) : PureC Try.prog 31 [t.av, u.av] (.bool (same t u)) := by
  refine PureC.intro fun s => fun_sound mixed Try.func31 Try.call31 c31 rfl (awpFun_go _ _ _ _ ?_)
  simp (implicitDefEqProofs := false) (maxSteps := 2000000) (disch := (first | omega | (simp only [St.new_nx, St.set_nx, St.del_nx, St.bump_nx]; done) | (simp only [St.new_nx, St.set_nx, St.del_nx, St.bump_nx]; omega) | fail)) [a31, a31b, a31r0, a31r1]
  refine go_pure (p74 t hl u) fun m hm => ?_
  simp (implicitDefEqProofs := false) (maxSteps := 2000000) (disch := (first | omega | (simp only [St.new_nx, St.set_nx, St.del_nx, St.bump_nx]; done) | (simp only [St.new_nx, St.set_nx, St.del_nx, St.bump_nx]; omega) | fail))
end Go.AL.Ty
