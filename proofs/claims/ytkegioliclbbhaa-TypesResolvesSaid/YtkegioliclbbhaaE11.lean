/- The reference: functions, applications. -/
import Derived.Test.YtkegioliclbbhaaE6
set_option linter.unusedVariables false
set_option linter.unusedSimpArgs false
namespace Go.AL.Ty
open Go Go.Proofs

def con (x : ByteArray) : Ty := mk 2 0 x []
def var (n : Int) : Ty := mk 1 n ⟨#[]⟩ []
def app (f a : Ty) : Ty := mk 3 0 ⟨#[]⟩ [f, a]
def arrow (a b : Ty) : Ty := app (app (con ⟨#[45, 62]⟩) a) b
theorem p100 (a b : Ty) : PureC Try.prog 100 [a.av, b.av] (arrow a b).av := by
  refine PureC.intro fun s => fun_sound mixed Try.func100 Try.call100 c100 rfl (awpFun_go _ _ _ _ ?_)
  simp (implicitDefEqProofs := false) (maxSteps := 2000000) (disch := (first | omega | (simp only [St.new_nx, St.set_nx, St.del_nx, St.bump_nx]; done) | (simp only [St.new_nx, St.set_nx, St.del_nx, St.bump_nx]; omega) | fail)) [a100, a100b, a100r0, a100r1]
  refine pcV_intro (p78 _) ?_
  simp (implicitDefEqProofs := false) (maxSteps := 2000000) (disch := (first | omega | (simp only [St.new_nx, St.set_nx, St.del_nx, St.bump_nx]; done) | (simp only [St.new_nx, St.set_nx, St.del_nx, St.bump_nx]; omega) | fail))
  refine pcV_intro (p116 (con ⟨#[45, 62]⟩) a) ?_
  simp (implicitDefEqProofs := false) (maxSteps := 2000000) (disch := (first | omega | (simp only [St.new_nx, St.set_nx, St.del_nx, St.bump_nx]; done) | (simp only [St.new_nx, St.set_nx, St.del_nx, St.bump_nx]; omega) | fail))
  refine pcV_intro (p116 (app (con ⟨#[45, 62]⟩) a) b) ?_
  simp (implicitDefEqProofs := false) (maxSteps := 2000000) (disch := (first | omega | (simp only [St.new_nx, St.set_nx, St.del_nx, St.bump_nx]; done) | (simp only [St.new_nx, St.set_nx, St.del_nx, St.bump_nx]; omega) | fail)) [arrow, app, con, av_mk]
theorem p58 (a b : Ty) : PureC Try.prog 58 [a.av, b.av] (arrow a b).av := by
  refine PureC.intro fun s => fun_sound mixed Try.func58 Try.call58 c58 rfl (awpFun_go _ _ _ _ ?_)
  simp (implicitDefEqProofs := false) (maxSteps := 2000000) (disch := (first | omega | (simp only [St.new_nx, St.set_nx, St.del_nx, St.bump_nx]; done) | (simp only [St.new_nx, St.set_nx, St.del_nx, St.bump_nx]; omega) | fail)) [a58, a58b, a58r0, a58r1]
  refine go_pure (p100 a b) fun m hm => ?_
  simp (implicitDefEqProofs := false) (maxSteps := 2000000) (disch := (first | omega | (simp only [St.new_nx, St.set_nx, St.del_nx, St.bump_nx]; done) | (simp only [St.new_nx, St.set_nx, St.del_nx, St.bump_nx]; omega) | fail))

def apply (f : Ty) (l : List Ty) : Ty := l.foldl app f
theorem p33 (f : Ty) (l : List Ty) (hl : l.length ≤ 4611686018427387904) : PureC Try.prog 33 [f.av, .list 4 .none (l.map av)] (apply f l).av := by
  refine PureC.intro fun s => fun_sound mixed Try.func33 Try.call33 c33 rfl (awpFun_go _ _ _ _ ?_)
  simp (implicitDefEqProofs := false) (maxSteps := 2000000) (disch := (first | omega | (simp only [St.new_nx, St.set_nx, St.del_nx, St.bump_nx]; done) | (simp only [St.new_nx, St.set_nx, St.del_nx, St.bump_nx]; omega) | fail)) [a33, a33b, a33r0, a33r1]
  refine go_loop (fun n g s1 => ∃ (i : Nat) (x : Ty), i ≤ l.length ∧ n = l.length - i ∧ apply x (l.drop i) = apply f l ∧
    g.get 7 = .list 4 .none (l.map av) ∧ g.get 8 = .int .i64 l.length ∧ g.get 9 = .int .i64 i ∧ g.get 2 = .ptr s.nx 0 ∧ g.get 4 = .ptr (s.nx + 1) 0 ∧
    s1.m s.nx = some (.box [.int .i64 x.op, .int .i64 x.n, .str x.s, .list 4 .none (x.args.map av)]) ∧ s1.m (s.nx + 1) = some (.box [.int .i64 0, .int .i64 0, .str ⟨#[]⟩, .list 0 .full []]) ∧ Kept s s1 ∧ s.nx + 1 < s1.nx) l.length
    ⟨0, f, Nat.zero_le _, by simp, by simp, by simp, by simp, by simp, by simp, by simp, by simp (implicitDefEqProofs := false) (maxSteps := 2000000) (disch := (first | omega | (simp only [St.new_nx, St.set_nx, St.del_nx, St.bump_nx]; done) | (simp only [St.new_nx, St.set_nx, St.del_nx, St.bump_nx]; omega) | fail)), by simp (implicitDefEqProofs := false) (maxSteps := 2000000) (disch := (first | omega | (simp only [St.new_nx, St.set_nx, St.del_nx, St.bump_nx]; done) | (simp only [St.new_nx, St.set_nx, St.del_nx, St.bump_nx]; omega) | fail)), by simp (implicitDefEqProofs := false) (maxSteps := 2000000) (disch := (first | omega | (simp only [St.new_nx, St.set_nx, St.del_nx, St.bump_nx]; done) | (simp only [St.new_nx, St.set_nx, St.del_nx, St.bump_nx]; omega) | fail)), by simp⟩ ?_
  rintro n g s1 ⟨i, x, hi, rfl, hg, h7, h8, h9, h2, h4, hX, hR, hk, hn⟩
  by_cases hlt : i < l.length
  · have hx : l[i]? = some l[i] := by simp [hlt]
    have hlt' : (i : Int) < l.length := by omega
    have w2 : IntKind.i64.wrap ((i : Int) + 1) = ((i + 1 : Nat) : Int) := by rw [wrap64 (by omega) (by omega)]; omega
    have hdrop : l.drop i = l[i] :: l.drop (i + 1) := List.drop_eq_getElem_cons hlt
    simp (implicitDefEqProofs := false) (maxSteps := 2000000) (disch := (first | omega | (simp only [St.new_nx, St.set_nx, St.del_nx, St.bump_nx]; done) | (simp only [St.new_nx, St.set_nx, St.del_nx, St.bump_nx]; omega) | fail)) [a33l6, a33r2, a33r3, a33r4, h7, h8, h9, h2, hX, hlt', hlt, hx]
    refine go_pure (p76 x l[i]) fun m hm => ?_
    simp only [St.new_nx, St.set_nx, St.bump_nx] at hm
    rw [hdrop] at hg
    simp (implicitDefEqProofs := false) (maxSteps := 2000000) (disch := (first | omega | (simp only [St.new_nx, St.set_nx, St.del_nx, St.bump_nx]; done) | (simp only [St.new_nx, St.set_nx, St.del_nx, St.bump_nx]; omega) | fail)) [a33r5, h9, w2, hX, h2]
    refine go_next (l.length - (i + 1)) (by omega) ⟨i + 1, by omega, rfl, app x l[i], hg, ?_, ?_, ?_, ?_, ?_, ?_, ?_, ?_, ?_⟩ <;> (try simp (implicitDefEqProofs := false) (maxSteps := 2000000) (disch := (first | omega | (simp only [St.new_nx, St.set_nx, St.del_nx, St.bump_nx]; done) | (simp only [St.new_nx, St.set_nx, St.del_nx, St.bump_nx]; omega) | fail)) [h7, h8, h9, h2, h4, hX, hR, hk, app])
    all_goals omega
  · have hlt' : ¬ (i : Int) < l.length := by omega
    have hd : l.drop i = [] := List.drop_eq_nil_of_le (by omega)
    rw [hd] at hg
    have hg' : x = apply f l := hg
    simp (implicitDefEqProofs := false) (maxSteps := 2000000) (disch := (first | omega | (simp only [St.new_nx, St.set_nx, St.del_nx, St.bump_nx]; done) | (simp only [St.new_nx, St.set_nx, St.del_nx, St.bump_nx]; omega) | fail)) [a33l6, a33r2, h7, h8, h9, h2, h4, hlt', a33r7, hX, hR, hk, hg']
end Go.AL.Ty
/- The reference: what is proper. -/
set_option linter.unusedVariables false
set_option linter.unusedSimpArgs false
namespace Go.AL.Ty
open Go Go.Proofs

/-- The reference counts upwards. -/
def C57 (t : Ty) : Prop := ∀ (d c : Int) (o : Nat) (s : St) (K : AV → St → Prop), 0 ≤ d → d ≤ 100 → 0 ≤ c → c ≤ 600 → s.m o = some (.box [.int .i64 c]) → o < s.nx →
    (∀ m, s.nx ≤ m → K (.bool (gd t d (600 - c)).1) ((s.set o (.box [.int .i64 (600 - (gd t d (600 - c)).2)])).bump m)) → ACalls Try.prog 57 [t.av, .int .i64 d, .ptr o 0] s K


theorem loop57 (ts : List Ty) (ih : ∀ x ∈ ts, C57 x) (d c : Int) (o : Nat) (s : St) (K : AV → St → Prop) (G : Env) (S : St) (hd0 : 0 ≤ d) (hd : d ≤ 50) (hl0 : 0 ≤ c) (hl : c ≤ 600) (hlen : ts.length ≤ 2)
    (h72 : G.get 72 = .list 4 .none (ts.map av)) (h73 : G.get 73 = .int .i64 ts.length) (h74 : G.get 74 = .int .i64 0) (h1 : G.get 1 = .int .i64 d) (h2 : G.get 2 = .ptr o 0)
    (hm : S.m o = some (.box [.int .i64 c])) (hk : KeptX s o S) (hn : s.nx ≤ S.nx) (ho : o < s.nx)
    (hK : ∀ s', s'.m o = some (.box [.int .i64 (600 - (gds ts (d + 1) (600 - c)).2)]) → KeptX s o s' → K (.bool (gds ts (d + 1) (600 - c)).1) s') :
    go (awp Try.prog (.loop a57l29) (blockQ 1 (seqQ Try.prog ((ACode.reg false a57r30).seq .ret) (finQ [.tmp (true, 6)] K))) G S) := by
  refine go_loop (fun n g s1 => ∃ (i : Nat) (l1 : Int), i ≤ ts.length ∧ n = ts.length - i ∧ gds (ts.drop i) (d + 1) (600 - l1) = gds ts (d + 1) (600 - c) ∧ 0 ≤ l1 ∧ l1 ≤ 600 ∧
    g.get 72 = .list 4 .none (ts.map av) ∧ g.get 73 = .int .i64 ts.length ∧ g.get 74 = .int .i64 i ∧ g.get 1 = .int .i64 d ∧ g.get 2 = .ptr o 0 ∧
    s1.m o = some (.box [.int .i64 l1]) ∧ KeptX s o s1 ∧ s.nx ≤ s1.nx) ts.length ⟨0, c, Nat.zero_le _, by simp, by simp, hl0, hl, h72, h73, h74, h1, h2, hm, hk, hn⟩ ?_
  clear h72 h73 h74 h1 h2 hm hk hn
  rintro n g s1 ⟨i, l1, hi, rfl, hg, hl10, hl1, h72, h73, h74, h1, h2, hm, hk, hn⟩
  by_cases hlt : i < ts.length
  · have hx : ts[i]? = some ts[i] := by simp [hlt]
    have hlt' : (i : Int) < ts.length := by omega
    have w1 : IntKind.i64.wrap (d + 1) = d + 1 := wrap64 (by omega) (by omega)
    have w2 : IntKind.i64.wrap ((i : Int) + 1) = ((i + 1 : Nat) : Int) := by rw [wrap64 (by omega) (by omega)]; omega
    have hon : o ≠ s1.nx := by omega
    have hdrop : ts.drop i = ts[i] :: ts.drop (i + 1) := List.drop_eq_getElem_cons hlt
    simp (implicitDefEqProofs := false) (maxSteps := 2000000) (disch := (first | omega | (simp only [St.new_nx, St.set_nx, St.del_nx, St.bump_nx]; done) | (simp only [St.new_nx, St.set_nx, St.del_nx, St.bump_nx]; omega) | fail)) [a57l29, a57r24, a57r25, a57r26, h72, h73, h74, h1, h2, hlt', hlt, hx, w1]
    refine go_calls (ih ts[i] (List.getElem_mem hlt) (d + 1) l1 o _ _ (by omega) (by omega) hl10 hl1 (by simp (implicitDefEqProofs := false) (maxSteps := 2000000) (disch := (first | omega | (simp only [St.new_nx, St.set_nx, St.del_nx, St.bump_nx]; done) | (simp only [St.new_nx, St.set_nx, St.del_nx, St.bump_nx]; omega) | fail)) [hm]) (by simp; omega) fun m hm1 => go_of ?_)
    simp (implicitDefEqProofs := false) (maxSteps := 2000000) (disch := (first | omega | (simp only [St.new_nx, St.set_nx, St.del_nx, St.bump_nx]; done) | (simp only [St.new_nx, St.set_nx, St.del_nx, St.bump_nx]; omega) | fail)) [a57r27, a57r28]
    simp at hm1
    refine ⟨fun hb => ?_, fun hb => ?_⟩
    · rw [hdrop, gds, if_neg (by simp [hb])] at hg
      rw [← hg] at hK
      exact hK _ (by simp (implicitDefEqProofs := false) (maxSteps := 2000000) (disch := (first | omega | (simp only [St.new_nx, St.set_nx, St.del_nx, St.bump_nx]; done) | (simp only [St.new_nx, St.set_nx, St.del_nx, St.bump_nx]; omega) | fail))) (by simp (implicitDefEqProofs := false) (maxSteps := 2000000) (disch := (first | omega | (simp only [St.new_nx, St.set_nx, St.del_nx, St.bump_nx]; done) | (simp only [St.new_nx, St.set_nx, St.del_nx, St.bump_nx]; omega) | fail)) [hk])
    · rw [hdrop, gds, if_pos hb] at hg
      have hbd := gd_bound ts[i] (d + 1) (600 - l1) (by omega)
      have := hbd.2 hb
      simp (implicitDefEqProofs := false) (maxSteps := 2000000) (disch := (first | omega | (simp only [St.new_nx, St.set_nx, St.del_nx, St.bump_nx]; done) | (simp only [St.new_nx, St.set_nx, St.del_nx, St.bump_nx]; omega) | fail)) [h74, w2]
      refine go_next (ts.length - (i + 1)) (by omega) ⟨i + 1, by omega, rfl, 600 - (gd ts[i] (d + 1) (600 - l1)).2, by rw [show (600 : Int) - (600 - (gd ts[i] (d + 1) (600 - l1)).2) = (gd ts[i] (d + 1) (600 - l1)).2 by omega]; exact hg, by omega, by omega, ?_, ?_, ?_, ?_, ?_, ?_, ?_, ?_⟩ <;> (try simp (implicitDefEqProofs := false) (maxSteps := 2000000) (disch := (first | omega | (simp only [St.new_nx, St.set_nx, St.del_nx, St.bump_nx]; done) | (simp only [St.new_nx, St.set_nx, St.del_nx, St.bump_nx]; omega) | fail)) [h72, h73, h74, h1, h2, hk])
      all_goals omega
  · have hlt' : ¬ (i : Int) < ts.length := by omega
    have hdrop : ts.drop i = [] := List.drop_eq_nil_of_le (by omega)
    simp (implicitDefEqProofs := false) (maxSteps := 2000000) (disch := (first | omega | (simp only [St.new_nx, St.set_nx, St.del_nx, St.bump_nx]; done) | (simp only [St.new_nx, St.set_nx, St.del_nx, St.bump_nx]; omega) | fail)) [a57l29, a57r24, h72, h73, h74, h1, h2, hlt', a57r30]
    rw [hdrop, gds] at hg
    rw [← hg] at hK
    simp only at hK
    rw [show (600 : Int) - (600 - l1) = l1 by omega] at hK
    exact hK _ hm hk

theorem tail57 (t : Ty) (ih : ∀ x ∈ t.args, C57 x) (d c : Int) (o oT : Nat) (s : St) (K : AV → St → Prop) (G : Env) (S : St) (hd0 : 0 ≤ d) (hd : d ≤ 40) (hl0 : 0 ≤ c) (hl : c ≤ 600)
    (h7 : G.get 7 = .int .i64 (kids t.op)) (h3 : G.get 3 = .ptr oT 0) (h1 : G.get 1 = .int .i64 d) (h2 : G.get 2 = .ptr o 0) (h6 : G.get 6 = .bool false)
    (hT : S.m oT = some (.box [.int .i64 t.op, .int .i64 t.n, .str t.s, .list 4 .none (t.args.map av)]))
    (hm : S.m o = some (.box [.int .i64 c])) (hk : KeptX s o S) (hn : s.nx ≤ S.nx) (ho : o < s.nx)
    (hK1 : (t.args.length : Int) ≠ kids t.op → ∀ s', s'.m o = some (.box [.int .i64 c]) → KeptX s o s' → K (.bool false) s')
    (hK2 : (t.args.length : Int) = kids t.op → ∀ s', s'.m o = some (.box [.int .i64 (600 - (gds t.args (d + 1) (600 - c)).2)]) → KeptX s o s' → K (.bool (gds t.args (d + 1) (600 - c)).1) s') :
    go (aops Try.prog a57r21 (regQ (seqQ Try.prog (.cond (.g 70) (.seq (.reg false a57r22) .ret) .skip) (seqQ Try.prog (.seq (.seq (.reg false a57r23) (.block 1 (.loop a57l29))) (.seq (.reg false a57r30) .ret)) (finQ [.tmp (true, 6)] K)))) G [] S) := by
  have hk2 : kids t.op ≤ 2 := by unfold kids; split <;> omega
  simp (implicitDefEqProofs := false) (maxSteps := 2000000) (disch := (first | omega | (simp only [St.new_nx, St.set_nx, St.del_nx, St.bump_nx]; done) | (simp only [St.new_nx, St.set_nx, St.del_nx, St.bump_nx]; omega) | fail)) [a57r21, a57r22, a57r23, h3, hT, h7]
  refine ⟨fun hne => hK1 (by omega) _ hm hk, fun he => ?_⟩
  refine loop57 t.args ih d c o s K _ _ hd0 (by omega) hl0 hl (by omega) ?_ ?_ ?_ ?_ ?_ hm hk hn ho (hK2 he) <;> simp (implicitDefEqProofs := false) (maxSteps := 2000000) (disch := (first | omega | (simp only [St.new_nx, St.set_nx, St.del_nx, St.bump_nx]; done) | (simp only [St.new_nx, St.set_nx, St.del_nx, St.bump_nx]; omega) | fail)) [h1, h2]

theorem p57 (t : Ty) : C57 t := by
  induction t using Ty.ind with
  | h t ih =>
    intro d c o s K hd0 hd hc0 hc hm ho hK
    refine ACalls.upd ho ?_ hK
    clear hK K
    refine fun_sound mixed Try.func57 Try.call57 c57 rfl (awpFun_go _ _ _ _ ?_)
    have hon : o ≠ s.nx := by omega
    have w1 : IntKind.i64.wrap (c + 1) = c + 1 := wrap64 (by omega) (by omega)
    simp (implicitDefEqProofs := false) (maxSteps := 2000000) (disch := (first | omega | (simp only [St.new_nx, St.set_nx, St.del_nx, St.bump_nx]; done) | (simp only [St.new_nx, St.set_nx, St.del_nx, St.bump_nx]; omega) | fail)) [a57, a57b, a57r0, a57r1, a57r2, a57r3, a57r4, a57r5, hm, w1]
    refine ⟨fun hc1 => ⟨fun hd1 => ?_, fun hd1 => ?_⟩, fun hc1 => ?_⟩
    · rw [gd_eq, if_pos (by omega)]; exact ⟨rfl, by simp only; omega⟩
    rotate_left
    · rw [gd_eq, if_pos (by omega)]; exact ⟨rfl, by simp only; omega⟩
    by_cases h167 : t.op = 1 ∨ t.op = 6 ∨ t.op = 7
    · rcases h167 with hop | hop | hop
      · have hkid : kids t.op = 0 := by rw [hop]; rfl
        have hnum : isNum t.op = true := by rw [hop]; rfl
        simp (implicitDefEqProofs := false) (maxSteps := 2000000) (disch := (first | omega | (simp only [St.new_nx, St.set_nx, St.del_nx, St.bump_nx]; done) | (simp only [St.new_nx, St.set_nx, St.del_nx, St.bump_nx]; omega) | fail)) [hop, a57r6, a57r7, a57r8, a57r9, a57r10]
        refine go_pure (p20 _) fun m hm => ?_
        simp only [St.new_nx, St.set_nx, St.bump_nx] at hm
        simp (implicitDefEqProofs := false) (maxSteps := 2000000) (disch := (first | omega | (simp only [St.new_nx, St.set_nx, St.del_nx, St.bump_nx]; done) | (simp only [St.new_nx, St.set_nx, St.del_nx, St.bump_nx]; omega) | fail))
        refine ⟨fun h0 h9 => ⟨fun hs => ?_, fun hs => ?_⟩, fun hn => ?_⟩
        · rw [gd_eq, if_neg (by omega)]
          by_cases hl : t.op < 1 ∨ 7 < t.op ∨ (t.args.length : Int) ≠ kids t.op
          · rw [if_pos hl]; exact ⟨rfl, by simp only; omega⟩
          · rw [if_neg hl, if_neg (by rw [hnum]; simp; omega), if_pos (by left; simp [hop, hs])]; exact ⟨rfl, by simp only; omega⟩
        · refine tail57 t ih d (c + 1) o s.nx s _ _ _ hd0 hd1 (by omega) (by omega) ?_ ?_ ?_ ?_ ?_ ?_ ?_ ?_ ?_ ho ?_ ?_
          rotate_right 2
          · intro hne s' k1 k2
            rw [gd_eq, if_neg (by omega), if_pos (by right; right; exact hne)]
            exact ⟨by simp, by rw [k1]; simp; omega, k2⟩
          · intro he s' k1 k2
            rw [gd_eq, if_neg (by omega), if_neg (by omega), if_neg (by rw [hnum]; simp; omega), if_neg (by simp [hop, hs]; decide), show (600 - c - 1 : Int) = 600 - (c + 1) by omega]
            exact ⟨by simp, k1, k2⟩
          all_goals (try simp (implicitDefEqProofs := false) (maxSteps := 2000000) (disch := (first | omega | (simp only [St.new_nx, St.set_nx, St.del_nx, St.bump_nx]; done) | (simp only [St.new_nx, St.set_nx, St.del_nx, St.bump_nx]; omega) | fail)) [hkid, hop])
          all_goals (have hkk : kids 1 = 0 ∧ kids 6 = 0 ∧ kids 7 = 0 := ⟨rfl, rfl, rfl⟩)
          all_goals omega
        · rw [gd_eq, if_neg (by omega)]
          by_cases hl : t.op < 1 ∨ 7 < t.op ∨ (t.args.length : Int) ≠ kids t.op
          · rw [if_pos hl]; exact ⟨rfl, by simp only; omega⟩
          · rw [if_neg hl, if_pos (by omega)]; exact ⟨rfl, by simp only; omega⟩
      · have hkid : kids t.op = 0 := by rw [hop]; rfl
        have hnum : isNum t.op = true := by rw [hop]; rfl
        simp (implicitDefEqProofs := false) (maxSteps := 2000000) (disch := (first | omega | (simp only [St.new_nx, St.set_nx, St.del_nx, St.bump_nx]; done) | (simp only [St.new_nx, St.set_nx, St.del_nx, St.bump_nx]; omega) | fail)) [hop, a57r6, a57r7, a57r8, a57r9, a57r10]
        refine go_pure (p20 _) fun m hm => ?_
        simp only [St.new_nx, St.set_nx, St.bump_nx] at hm
        simp (implicitDefEqProofs := false) (maxSteps := 2000000) (disch := (first | omega | (simp only [St.new_nx, St.set_nx, St.del_nx, St.bump_nx]; done) | (simp only [St.new_nx, St.set_nx, St.del_nx, St.bump_nx]; omega) | fail))
        refine ⟨fun h0 h9 => ⟨fun hs => ?_, fun hs => ?_⟩, fun hn => ?_⟩
        · rw [gd_eq, if_neg (by omega)]
          by_cases hl : t.op < 1 ∨ 7 < t.op ∨ (t.args.length : Int) ≠ kids t.op
          · rw [if_pos hl]; exact ⟨rfl, by simp only; omega⟩
          · rw [if_neg hl, if_neg (by rw [hnum]; simp; omega), if_pos (by left; simp [hop, hs])]; exact ⟨rfl, by simp only; omega⟩
        · refine tail57 t ih d (c + 1) o s.nx s _ _ _ hd0 hd1 (by omega) (by omega) ?_ ?_ ?_ ?_ ?_ ?_ ?_ ?_ ?_ ho ?_ ?_
          rotate_right 2
          · intro hne s' k1 k2
            rw [gd_eq, if_neg (by omega), if_pos (by right; right; exact hne)]
            exact ⟨by simp, by rw [k1]; simp; omega, k2⟩
          · intro he s' k1 k2
            rw [gd_eq, if_neg (by omega), if_neg (by omega), if_neg (by rw [hnum]; simp; omega), if_neg (by simp [hop, hs]; decide), show (600 - c - 1 : Int) = 600 - (c + 1) by omega]
            exact ⟨by simp, k1, k2⟩
          all_goals (try simp (implicitDefEqProofs := false) (maxSteps := 2000000) (disch := (first | omega | (simp only [St.new_nx, St.set_nx, St.del_nx, St.bump_nx]; done) | (simp only [St.new_nx, St.set_nx, St.del_nx, St.bump_nx]; omega) | fail)) [hkid, hop])
          all_goals (have hkk : kids 1 = 0 ∧ kids 6 = 0 ∧ kids 7 = 0 := ⟨rfl, rfl, rfl⟩)
          all_goals omega
        · rw [gd_eq, if_neg (by omega)]
          by_cases hl : t.op < 1 ∨ 7 < t.op ∨ (t.args.length : Int) ≠ kids t.op
          · rw [if_pos hl]; exact ⟨rfl, by simp only; omega⟩
          · rw [if_neg hl, if_pos (by omega)]; exact ⟨rfl, by simp only; omega⟩
      · have hkid : kids t.op = 0 := by rw [hop]; rfl
        have hnum : isNum t.op = true := by rw [hop]; rfl
        simp (implicitDefEqProofs := false) (maxSteps := 2000000) (disch := (first | omega | (simp only [St.new_nx, St.set_nx, St.del_nx, St.bump_nx]; done) | (simp only [St.new_nx, St.set_nx, St.del_nx, St.bump_nx]; omega) | fail)) [hop, a57r6, a57r7, a57r8, a57r9, a57r10]
        refine go_pure (p20 _) fun m hm => ?_
        simp only [St.new_nx, St.set_nx, St.bump_nx] at hm
        simp (implicitDefEqProofs := false) (maxSteps := 2000000) (disch := (first | omega | (simp only [St.new_nx, St.set_nx, St.del_nx, St.bump_nx]; done) | (simp only [St.new_nx, St.set_nx, St.del_nx, St.bump_nx]; omega) | fail))
        refine ⟨fun h0 h9 => ⟨fun hs => ?_, fun hs => ?_⟩, fun hn => ?_⟩
        · rw [gd_eq, if_neg (by omega)]
          by_cases hl : t.op < 1 ∨ 7 < t.op ∨ (t.args.length : Int) ≠ kids t.op
          · rw [if_pos hl]; exact ⟨rfl, by simp only; omega⟩
          · rw [if_neg hl, if_neg (by rw [hnum]; simp; omega), if_pos (by left; simp [hop, hs])]; exact ⟨rfl, by simp only; omega⟩
        · refine tail57 t ih d (c + 1) o s.nx s _ _ _ hd0 hd1 (by omega) (by omega) ?_ ?_ ?_ ?_ ?_ ?_ ?_ ?_ ?_ ho ?_ ?_
          rotate_right 2
          · intro hne s' k1 k2
            rw [gd_eq, if_neg (by omega), if_pos (by right; right; exact hne)]
            exact ⟨by simp, by rw [k1]; simp; omega, k2⟩
          · intro he s' k1 k2
            rw [gd_eq, if_neg (by omega), if_neg (by omega), if_neg (by rw [hnum]; simp; omega), if_neg (by simp [hop, hs]; decide), show (600 - c - 1 : Int) = 600 - (c + 1) by omega]
            exact ⟨by simp, k1, k2⟩
          all_goals (try simp (implicitDefEqProofs := false) (maxSteps := 2000000) (disch := (first | omega | (simp only [St.new_nx, St.set_nx, St.del_nx, St.bump_nx]; done) | (simp only [St.new_nx, St.set_nx, St.del_nx, St.bump_nx]; omega) | fail)) [hkid, hop])
          all_goals (have hkk : kids 1 = 0 ∧ kids 6 = 0 ∧ kids 7 = 0 := ⟨rfl, rfl, rfl⟩)
          all_goals omega
        · rw [gd_eq, if_neg (by omega)]
          by_cases hl : t.op < 1 ∨ 7 < t.op ∨ (t.args.length : Int) ≠ kids t.op
          · rw [if_pos hl]; exact ⟨rfl, by simp only; omega⟩
          · rw [if_neg hl, if_pos (by omega)]; exact ⟨rfl, by simp only; omega⟩
    · have n1 : ¬ t.op = 1 := fun h => h167 (.inl h)
      have n6 : ¬ t.op = 6 := fun h => h167 (.inr (.inl h))
      have n7 : ¬ t.op = 7 := fun h => h167 (.inr (.inr h))
      have hnum : isNum t.op = false := by simp [isNum, n1, n6, n7]
      by_cases hop : t.op = 2
      · have hkid : kids t.op = 0 := by rw [hop]; rfl
        simp (implicitDefEqProofs := false) (maxSteps := 2000000) (disch := (first | omega | (simp only [St.new_nx, St.set_nx, St.del_nx, St.bump_nx]; done) | (simp only [St.new_nx, St.set_nx, St.del_nx, St.bump_nx]; omega) | fail)) [hop, a57r6, a57r7, a57r8, a57r11, a57r12, a57r13, a57r14, a57r15, a57r16, a57r17, a57r18, a57r19, a57r20]
        refine ⟨fun h0 => ⟨fun hs => ⟨fun hz => ?_, fun hz => ?_⟩, fun hs => ?_⟩, fun h0 => ?_⟩
        · rw [gd_eq, if_neg (by omega)]
          by_cases hl : t.op < 1 ∨ 7 < t.op ∨ (t.args.length : Int) ≠ kids t.op
          · rw [if_pos hl]; exact ⟨rfl, by simp only; omega⟩
          · rw [if_neg hl, if_neg (by omega), if_pos (by right; omega)]; exact ⟨rfl, by simp only; omega⟩
        · refine tail57 t ih d (c + 1) o s.nx s _ _ _ hd0 hd1 (by omega) (by omega) ?_ ?_ ?_ ?_ ?_ ?_ ?_ ?_ ?_ ho ?_ ?_
          rotate_right 2
          · intro hne s' k1 k2
            rw [gd_eq, if_neg (by omega), if_pos (by right; right; exact hne)]
            exact ⟨by simp, by rw [k1]; simp; omega, k2⟩
          · intro he s' k1 k2
            rw [gd_eq, if_neg (by omega), if_neg (by omega), if_neg (by omega), if_neg (by simp [hop, hs]; omega), show (600 - c - 1 : Int) = 600 - (c + 1) by omega]
            exact ⟨by simp, k1, k2⟩
          all_goals (try simp (implicitDefEqProofs := false) (maxSteps := 2000000) (disch := (first | omega | (simp only [St.new_nx, St.set_nx, St.del_nx, St.bump_nx]; done) | (simp only [St.new_nx, St.set_nx, St.del_nx, St.bump_nx]; omega) | fail)) [hkid, hop])
          all_goals (have hkk : kids 2 = 0 ∧ kids 3 = 2 ∧ kids 4 = 2 ∧ kids 5 = 2 := ⟨rfl, rfl, rfl, rfl⟩)
          all_goals omega
        · rw [gd_eq, if_neg (by omega)]
          by_cases hl : t.op < 1 ∨ 7 < t.op ∨ (t.args.length : Int) ≠ kids t.op
          · rw [if_pos hl]; exact ⟨rfl, by simp only; omega⟩
          · rw [if_neg hl, if_neg (by omega), if_pos (by left; simp [hop, hs])]; exact ⟨rfl, by simp only; omega⟩
        · rw [gd_eq, if_neg (by omega)]
          by_cases hl : t.op < 1 ∨ 7 < t.op ∨ (t.args.length : Int) ≠ kids t.op
          · rw [if_pos hl]; exact ⟨rfl, by simp only; omega⟩
          · rw [if_neg hl, if_pos (by right; right; exact ⟨h0, hnum⟩)]; exact ⟨rfl, by simp only; omega⟩
      by_cases h345 : t.op = 3 ∨ t.op = 4 ∨ t.op = 5
      · rcases h345 with hop | hop | hop
        · have hkid : kids t.op = 2 := by rw [hop]; rfl
          simp (implicitDefEqProofs := false) (maxSteps := 2000000) (disch := (first | omega | (simp only [St.new_nx, St.set_nx, St.del_nx, St.bump_nx]; done) | (simp only [St.new_nx, St.set_nx, St.del_nx, St.bump_nx]; omega) | fail)) [hop, a57r6, a57r7, a57r8, a57r11, a57r12, a57r13, a57r14, a57r15, a57r16, a57r17, a57r18, a57r19, a57r20]
          refine ⟨fun h0 => ⟨fun hs => ?_, fun hs => ?_⟩, fun h0 => ?_⟩
          · rw [gd_eq, if_neg (by omega)]
            by_cases hl : t.op < 1 ∨ 7 < t.op ∨ (t.args.length : Int) ≠ kids t.op
            · rw [if_pos hl]; exact ⟨rfl, by simp only; omega⟩
            · rw [if_neg hl, if_neg (by omega), if_pos (by left; simp [hop, hs])]; exact ⟨rfl, by simp only; omega⟩
          · refine tail57 t ih d (c + 1) o s.nx s _ _ _ hd0 hd1 (by omega) (by omega) ?_ ?_ ?_ ?_ ?_ ?_ ?_ ?_ ?_ ho ?_ ?_
            rotate_right 2
            · intro hne s' k1 k2
              rw [gd_eq, if_neg (by omega), if_pos (by right; right; exact hne)]
              exact ⟨by simp, by rw [k1]; simp; omega, k2⟩
            · intro he s' k1 k2
              rw [gd_eq, if_neg (by omega), if_neg (by omega), if_neg (by omega), if_neg (by simp [hop, hs]; decide), show (600 - c - 1 : Int) = 600 - (c + 1) by omega]
              exact ⟨by simp, k1, k2⟩
            all_goals (try simp (implicitDefEqProofs := false) (maxSteps := 2000000) (disch := (first | omega | (simp only [St.new_nx, St.set_nx, St.del_nx, St.bump_nx]; done) | (simp only [St.new_nx, St.set_nx, St.del_nx, St.bump_nx]; omega) | fail)) [hkid, hop])
            all_goals (have hkk : kids 2 = 0 ∧ kids 3 = 2 ∧ kids 4 = 2 ∧ kids 5 = 2 := ⟨rfl, rfl, rfl, rfl⟩)
            all_goals omega
          · rw [gd_eq, if_neg (by omega)]
            by_cases hl : t.op < 1 ∨ 7 < t.op ∨ (t.args.length : Int) ≠ kids t.op
            · rw [if_pos hl]; exact ⟨rfl, by simp only; omega⟩
            · rw [if_neg hl, if_pos (by right; right; exact ⟨h0, hnum⟩)]; exact ⟨rfl, by simp only; omega⟩
        · have hkid : kids t.op = 2 := by rw [hop]; rfl
          simp (implicitDefEqProofs := false) (maxSteps := 2000000) (disch := (first | omega | (simp only [St.new_nx, St.set_nx, St.del_nx, St.bump_nx]; done) | (simp only [St.new_nx, St.set_nx, St.del_nx, St.bump_nx]; omega) | fail)) [hop, a57r6, a57r7, a57r8, a57r11, a57r12, a57r13, a57r14, a57r15, a57r16, a57r17, a57r18, a57r19, a57r20]
          refine ⟨fun h0 => ⟨fun hs => ?_, fun hs => ?_⟩, fun h0 => ?_⟩
          · rw [gd_eq, if_neg (by omega)]
            by_cases hl : t.op < 1 ∨ 7 < t.op ∨ (t.args.length : Int) ≠ kids t.op
            · rw [if_pos hl]; exact ⟨rfl, by simp only; omega⟩
            · rw [if_neg hl, if_neg (by omega), if_pos (by left; simp [hop, hs])]; exact ⟨rfl, by simp only; omega⟩
          · refine tail57 t ih d (c + 1) o s.nx s _ _ _ hd0 hd1 (by omega) (by omega) ?_ ?_ ?_ ?_ ?_ ?_ ?_ ?_ ?_ ho ?_ ?_
            rotate_right 2
            · intro hne s' k1 k2
              rw [gd_eq, if_neg (by omega), if_pos (by right; right; exact hne)]
              exact ⟨by simp, by rw [k1]; simp; omega, k2⟩
            · intro he s' k1 k2
              rw [gd_eq, if_neg (by omega), if_neg (by omega), if_neg (by omega), if_neg (by simp [hop, hs]; decide), show (600 - c - 1 : Int) = 600 - (c + 1) by omega]
              exact ⟨by simp, k1, k2⟩
            all_goals (try simp (implicitDefEqProofs := false) (maxSteps := 2000000) (disch := (first | omega | (simp only [St.new_nx, St.set_nx, St.del_nx, St.bump_nx]; done) | (simp only [St.new_nx, St.set_nx, St.del_nx, St.bump_nx]; omega) | fail)) [hkid, hop])
            all_goals (have hkk : kids 2 = 0 ∧ kids 3 = 2 ∧ kids 4 = 2 ∧ kids 5 = 2 := ⟨rfl, rfl, rfl, rfl⟩)
            all_goals omega
          · rw [gd_eq, if_neg (by omega)]
            by_cases hl : t.op < 1 ∨ 7 < t.op ∨ (t.args.length : Int) ≠ kids t.op
            · rw [if_pos hl]; exact ⟨rfl, by simp only; omega⟩
            · rw [if_neg hl, if_pos (by right; right; exact ⟨h0, hnum⟩)]; exact ⟨rfl, by simp only; omega⟩
        · have hkid : kids t.op = 2 := by rw [hop]; rfl
          simp (implicitDefEqProofs := false) (maxSteps := 2000000) (disch := (first | omega | (simp only [St.new_nx, St.set_nx, St.del_nx, St.bump_nx]; done) | (simp only [St.new_nx, St.set_nx, St.del_nx, St.bump_nx]; omega) | fail)) [hop, a57r6, a57r7, a57r8, a57r11, a57r12, a57r13, a57r14, a57r15, a57r16, a57r17, a57r18, a57r19, a57r20]
          refine ⟨fun h0 => ⟨fun hs => ?_, fun hs => ?_⟩, fun h0 => ?_⟩
          · rw [gd_eq, if_neg (by omega)]
            by_cases hl : t.op < 1 ∨ 7 < t.op ∨ (t.args.length : Int) ≠ kids t.op
            · rw [if_pos hl]; exact ⟨rfl, by simp only; omega⟩
            · rw [if_neg hl, if_neg (by omega), if_pos (by left; simp [hop, hs])]; exact ⟨rfl, by simp only; omega⟩
          · refine tail57 t ih d (c + 1) o s.nx s _ _ _ hd0 hd1 (by omega) (by omega) ?_ ?_ ?_ ?_ ?_ ?_ ?_ ?_ ?_ ho ?_ ?_
            rotate_right 2
            · intro hne s' k1 k2
              rw [gd_eq, if_neg (by omega), if_pos (by right; right; exact hne)]
              exact ⟨by simp, by rw [k1]; simp; omega, k2⟩
            · intro he s' k1 k2
              rw [gd_eq, if_neg (by omega), if_neg (by omega), if_neg (by omega), if_neg (by simp [hop, hs]; decide), show (600 - c - 1 : Int) = 600 - (c + 1) by omega]
              exact ⟨by simp, k1, k2⟩
            all_goals (try simp (implicitDefEqProofs := false) (maxSteps := 2000000) (disch := (first | omega | (simp only [St.new_nx, St.set_nx, St.del_nx, St.bump_nx]; done) | (simp only [St.new_nx, St.set_nx, St.del_nx, St.bump_nx]; omega) | fail)) [hkid, hop])
            all_goals (have hkk : kids 2 = 0 ∧ kids 3 = 2 ∧ kids 4 = 2 ∧ kids 5 = 2 := ⟨rfl, rfl, rfl, rfl⟩)
            all_goals omega
          · rw [gd_eq, if_neg (by omega)]
            by_cases hl : t.op < 1 ∨ 7 < t.op ∨ (t.args.length : Int) ≠ kids t.op
            · rw [if_pos hl]; exact ⟨rfl, by simp only; omega⟩
            · rw [if_neg hl, if_pos (by right; right; exact ⟨h0, hnum⟩)]; exact ⟨rfl, by simp only; omega⟩
      · have n3 : ¬ t.op = 3 := fun h => h345 (.inl h)
        have n4 : ¬ t.op = 4 := fun h => h345 (.inr (.inl h))
        have n5 : ¬ t.op = 5 := fun h => h345 (.inr (.inr h))
        simp (implicitDefEqProofs := false) (maxSteps := 2000000) (disch := (first | omega | (simp only [St.new_nx, St.set_nx, St.del_nx, St.bump_nx]; done) | (simp only [St.new_nx, St.set_nx, St.del_nx, St.bump_nx]; omega) | fail)) [a57r6, a57r7, a57r8, a57r11, a57r12, a57r13, a57r14, a57r15, a57r16, a57r17, a57r18, a57r19, a57r20, n1, n6, n7, hop, n3, n4, n5]
        rw [gd_eq, if_neg (by omega), if_pos (by omega)]
        exact ⟨rfl, by simp only; omega⟩
end Go.AL.Ty
/- The reference: Proper, Propers, zero, whole. -/
set_option linter.unusedVariables false
set_option linter.unusedSimpArgs false
namespace Go.AL.Ty
open Go Go.Proofs
theorem p13 (t : Ty) : PureC Try.prog 13 [t.av] (.bool (proper t)) := by
  refine PureC.intro fun s => fun_sound mixed Try.func13 Try.call13 c13 rfl (awpFun_go _ _ _ _ ?_)
  simp (implicitDefEqProofs := false) (maxSteps := 2000000) (disch := (first | omega | (simp only [St.new_nx, St.set_nx, St.del_nx, St.bump_nx]; done) | (simp only [St.new_nx, St.set_nx, St.del_nx, St.bump_nx]; omega) | fail)) [a13, a13b, a13r0, a13r1, a13r2]
  refine go_calls (p57 t 1 0 _ _ _ (by omega) (by omega) (by omega) (by omega) ?_ ?_ fun m hm => go_of ?_)
  · simp (implicitDefEqProofs := false) (maxSteps := 2000000) (disch := (first | omega | (simp only [St.new_nx, St.set_nx, St.del_nx, St.bump_nx]; done) | (simp only [St.new_nx, St.set_nx, St.del_nx, St.bump_nx]; omega) | fail))
  · simp (implicitDefEqProofs := false) (maxSteps := 2000000) (disch := (first | omega | (simp only [St.new_nx, St.set_nx, St.del_nx, St.bump_nx]; done) | (simp only [St.new_nx, St.set_nx, St.del_nx, St.bump_nx]; omega) | fail))
  · simp (implicitDefEqProofs := false) (maxSteps := 2000000) (disch := (first | omega | (simp only [St.new_nx, St.set_nx, St.del_nx, St.bump_nx]; done) | (simp only [St.new_nx, St.set_nx, St.del_nx, St.bump_nx]; omega) | fail)) [proper]
theorem p14 (ts : List Ty) : PureC Try.prog 14 [.list 4 .none (ts.map av)] (.bool (propers ts)) := by
  refine PureC.intro fun s => fun_sound mixed Try.func14 Try.call14 c14 rfl (awpFun_go _ _ _ _ ?_)
  by_cases h6 : ts.length ≤ 600
  · have h6' : ¬ (600 : Int) < ts.length := by omega
    have hp : propers ts = ts.all proper := by simp [propers, h6]
    rw [hp]
    simp (implicitDefEqProofs := false) (maxSteps := 2000000) (disch := (first | omega | (simp only [St.new_nx, St.set_nx, St.del_nx, St.bump_nx]; done) | (simp only [St.new_nx, St.set_nx, St.del_nx, St.bump_nx]; omega) | fail)) [a14, a14b, a14r0, a14r1, a14r2, a14r3, h6']
    refine go_loop (fun n g s1 => ∃ (i : Nat), i ≤ ts.length ∧ n = ts.length - i ∧ (ts.drop i).all proper = ts.all proper ∧
      g.get 8 = .list 4 .none (ts.map av) ∧ g.get 9 = .int .i64 ts.length ∧ g.get 10 = .int .i64 i ∧ Kept s s1 ∧ s.nx ≤ s1.nx) ts.length ⟨0, Nat.zero_le _, by simp, by simp, by simp, by simp, by simp, by simp, by simp⟩ ?_
    rintro n g s1 ⟨i, hi, rfl, hg, h8, h9, h10, hk, hn⟩
    by_cases hlt : i < ts.length
    · have hx : ts[i]? = some ts[i] := by simp [hlt]
      have hlt' : (i : Int) < ts.length := by omega
      have w2 : IntKind.i64.wrap ((i : Int) + 1) = ((i + 1 : Nat) : Int) := by rw [wrap64 (by omega) (by omega)]; omega
      have hdrop : ts.drop i = ts[i] :: ts.drop (i + 1) := List.drop_eq_getElem_cons hlt
      simp (implicitDefEqProofs := false) (maxSteps := 2000000) (disch := (first | omega | (simp only [St.new_nx, St.set_nx, St.del_nx, St.bump_nx]; done) | (simp only [St.new_nx, St.set_nx, St.del_nx, St.bump_nx]; omega) | fail)) [a14l9, a14r4, a14r5, a14r6, h8, h9, h10, hlt', hlt, hx]
      refine go_pure (p13 ts[i]) fun m hm => ?_
      simp only [St.new_nx, St.set_nx, St.bump_nx] at hm
      rw [hdrop, List.all_cons] at hg
      simp (implicitDefEqProofs := false) (maxSteps := 2000000) (disch := (first | omega | (simp only [St.new_nx, St.set_nx, St.del_nx, St.bump_nx]; done) | (simp only [St.new_nx, St.set_nx, St.del_nx, St.bump_nx]; omega) | fail)) [a14r7, a14r8, h10, w2]
      refine ⟨fun hb => ?_, fun hb => ?_⟩
      · rw [hb, Bool.false_and] at hg
        exact ⟨⟨ts[i], List.getElem_mem hlt, hb⟩, by simp (implicitDefEqProofs := false) (maxSteps := 2000000) (disch := (first | omega | (simp only [St.new_nx, St.set_nx, St.del_nx, St.bump_nx]; done) | (simp only [St.new_nx, St.set_nx, St.del_nx, St.bump_nx]; omega) | fail)) [hk]⟩
      · rw [hb, Bool.true_and] at hg
        refine go_next (ts.length - (i + 1)) (by omega) ⟨i + 1, by omega, rfl, hg, ?_, ?_, ?_, ?_, ?_⟩ <;> (try simp (implicitDefEqProofs := false) (maxSteps := 2000000) (disch := (first | omega | (simp only [St.new_nx, St.set_nx, St.del_nx, St.bump_nx]; done) | (simp only [St.new_nx, St.set_nx, St.del_nx, St.bump_nx]; omega) | fail)) [h8, h9, h10, hk])
        omega
    · have hlt' : ¬ (i : Int) < ts.length := by omega
      have hd : ts.drop i = [] := List.drop_eq_nil_of_le (by omega)
      rw [hd, List.all_nil] at hg
      simp (implicitDefEqProofs := false) (maxSteps := 2000000) (disch := (first | omega | (simp only [St.new_nx, St.set_nx, St.del_nx, St.bump_nx]; done) | (simp only [St.new_nx, St.set_nx, St.del_nx, St.bump_nx]; omega) | fail)) [a14l9, a14r4, h8, h9, h10, hlt', a14r10, ← hg, hk]
  · have h6' : (600 : Int) < ts.length := by omega
    have hp : propers ts = false := by simp [propers, h6]
    simp (implicitDefEqProofs := false) (maxSteps := 2000000) (disch := (first | omega | (simp only [St.new_nx, St.set_nx, St.del_nx, St.bump_nx]; done) | (simp only [St.new_nx, St.set_nx, St.del_nx, St.bump_nx]; omega) | fail)) [a14, a14b, a14r0, a14r1, a14r2, h6', hp]
end Go.AL.Ty
/- The reference: shifting. -/
set_option linter.unusedVariables false
set_option linter.unusedSimpArgs false
namespace Go.AL.Ty
open Go Go.Proofs

theorem p103 (t : Ty) (i : Int) : PureC Try.prog 103 [t.av, .int .i64 i] (.int .i64 (belw t.op i)) := by
  refine PureC.intro fun s => fun_sound mixed Try.func103 Try.call103 c103 rfl (awpFun_go _ _ _ _ ?_)
  simp (implicitDefEqProofs := false) (maxSteps := 2000000) (disch := (first | omega | (simp only [St.new_nx, St.set_nx, St.del_nx, St.bump_nx]; done) | (simp only [St.new_nx, St.set_nx, St.del_nx, St.bump_nx]; omega) | fail)) [a103, a103b, a103r0, a103r1, a103r2, a103r3, belw]
  grind

mutual
def shf (by_ from_ : Int) : Ty → Int → Ty × Bool
  | mk op n s args, k => if op = 1 ∧ from_ ≤ n - k then (mk op (n + by_) s [], decide (from_ ≤ n + by_ - k)) else (mk op n s (shfs by_ from_ op args 0 k).1, (shfs by_ from_ op args 0 k).2)
def shfs (by_ from_ op : Int) : List Ty → Nat → Int → List Ty × Bool
  | [], _, _ => ([], true)
  | t :: ts, i, k => ((shf by_ from_ t (k + belw op i)).1 :: (shfs by_ from_ op ts (i + 1) k).1, (shf by_ from_ t (k + belw op i)).2 && (shfs by_ from_ op ts (i + 1) k).2)
end
theorem shf_eq (by_ from_ : Int) (t : Ty) (k : Int) : shf by_ from_ t k = if t.op = 1 ∧ from_ ≤ t.n - k then (mk t.op (t.n + by_) t.s [], decide (from_ ≤ t.n + by_ - k)) else (mk t.op t.n t.s (shfs by_ from_ t.op t.args 0 k).1, (shfs by_ from_ t.op t.args 0 k).2) := by
  cases t; rw [shf]; rfl
theorem shfs_length (by_ from_ op : Int) : ∀ (l : List Ty) (i : Nat) (k : Int), (shfs by_ from_ op l i k).1.length = l.length
  | [], _, _ => by simp [shfs]
  | t :: ts, i, k => by simp [shfs, shfs_length by_ from_ op ts (i + 1) k]
theorem shfs_get (by_ from_ op : Int) : ∀ (l : List Ty) (i j : Nat) (k : Int) (x : Ty), l[j]? = some x → (shfs by_ from_ op l i k).1[j]? = some (shf by_ from_ x (k + belw op ((i + j : Nat) : Int))).1
  | t :: ts, i, 0, k, x, h => by simp at h; subst h; simp [shfs]
  | t :: ts, i, j + 1, k, x, h => by
    simp at h
    have := shfs_get by_ from_ op ts (i + 1) j k x h
    simp only [shfs, List.getElem?_cons_succ, this]
    rw [show i + 1 + j = i + (j + 1) by omega]

def C64 (by_ from_ : Int) (t : Ty) (k : Int) : Prop := PureC Try.prog 64 [t.av, .int .i64 by_, .int .i64 from_, .int .i64 k] (.tup [(shf by_ from_ t k).1.av, .bool (shf by_ from_ t k).2])

def I64 (by_ from_ : Int) (t : Ty) (k : Int) (s : St) (oT oO oR : Nat) (res : List Ty) (rok : Bool) (n : Nat) (g : Env) (s1 : St) : Prop :=
  ∃ (i sz : Nat) (tok : Tok) (gd_ : Bool), i ≤ t.args.length ∧ n = t.args.length - i ∧ (gd_ && (shfs by_ from_ t.op (t.args.drop i) i k).2) = rok ∧
    g.get 47 = .list 4 .none (t.args.map av) ∧ g.get 48 = .int .i64 t.args.length ∧ g.get 49 = .int .i64 i ∧ g.get 11 = .bool gd_ ∧ g.get 1 = .int .i64 by_ ∧ g.get 2 = .int .i64 from_ ∧ g.get 3 = .int .i64 k ∧ g.get 4 = .ptr oT 0 ∧ g.get 10 = .ptr oO 0 ∧ g.get 8 = .ptr oR 0 ∧
    s1.m oT = some (.box [.int .i64 t.op, .int .i64 t.n, .str t.s, .list 4 .none (t.args.map av)]) ∧ s1.m oO = some (.box [.int .i64 t.op, .int .i64 t.n, .str t.s, .list sz tok ((res.take i).map av)]) ∧
    s1.m oR = some (.box [.int .i64 0, .int .i64 0, .str ⟨#[]⟩, .list 0 .full []]) ∧ Kept s s1 ∧ oO < s1.nx ∧
    ((i = 0 ∧ sz = 0 ∧ tok = .full) ∨ (sz = 4 ∧ ∃ q, tok = .own q ∧ s1.m q = some (.spare (i * 4)) ∧ oO < q ∧ q < s1.nx))

theorem loop64 (by_ from_ : Int) (t : Ty) (k : Int) (s : St) (oT oO oR : Nat) (G : Env) (S : St)
    (ih : ∀ (i : Nat) x, t.args[i]? = some x → C64 by_ from_ x (k + belw t.op i)) (hlen : t.args.length ≤ 1000000) (hb : -1000000 ≤ k) (hb2 : k ≤ 1000000)
    (h47 : G.get 47 = .list 4 .none (t.args.map av)) (h48 : G.get 48 = .int .i64 t.args.length) (h49 : G.get 49 = .int .i64 0) (h11 : G.get 11 = .bool true) (h1 : G.get 1 = .int .i64 by_) (h2 : G.get 2 = .int .i64 from_) (h3 : G.get 3 = .int .i64 k)
    (h4 : G.get 4 = .ptr oT 0) (h10 : G.get 10 = .ptr oO 0) (h8 : G.get 8 = .ptr oR 0)
    (hT : S.m oT = some (.box [.int .i64 t.op, .int .i64 t.n, .str t.s, .list 4 .none (t.args.map av)])) (hO : S.m oO = some (.box [.int .i64 t.op, .int .i64 t.n, .str t.s, .list 0 .full []]))
    (hR : S.m oR = some (.box [.int .i64 0, .int .i64 0, .str ⟨#[]⟩, .list 0 .full []])) (hk : Kept s S) (n1 : s.nx ≤ oT) (n2 : oT < oR) (n3 : oR < oO) (n4 : oO < S.nx) :
    go (awp Try.prog (.loop a64l13) (blockQ 0 (seqQ Try.prog ((ACode.reg false a64r14).seq .ret) (finQ [.cell (true, 8) 4 true, .tmp (true, 9)] fun r' s' =>
      wk r' (.tup [(mk t.op t.n t.s (shfs by_ from_ t.op t.args 0 k).1).av, .bool (shfs by_ from_ t.op t.args 0 k).2]) ∧ Kept s s'))) G S) := by
  have hml := shfs_length by_ from_ t.op t.args 0 k
  have hgt := shfs_get by_ from_ t.op t.args 0
  generalize hres : (shfs by_ from_ t.op t.args 0 k).1 = res at hml ⊢
  generalize hok : (shfs by_ from_ t.op t.args 0 k).2 = rok
  refine go_loop (I64 by_ from_ t k s oT oO oR res rok) t.args.length
    ⟨0, 0, .full, true, Nat.zero_le _, by simp, by simpa using hok, h47, h48, h49, h11, h1, h2, h3, h4, h10, h8, hT, by simpa using hO, hR, hk, n4, .inl ⟨rfl, rfl, rfl⟩⟩ ?_
  clear h47 h48 h49 h11 h1 h2 h3 h4 h10 h8 hT hO hR hk n4
  rintro n g s1 ⟨i, sz, tok, gd_, hi, rfl, hgd, h47, h48, h49, h11, h1, h2, h3, h4, h10, h8, hT, hO, hR, hk, n4, htok⟩
  by_cases hlt : i < t.args.length
  · have hx : t.args[i]? = some t.args[i] := by simp [hlt]
    have hlt' : (i : Int) < t.args.length := by omega
    have w2 : IntKind.i64.wrap ((i : Int) + 1) = ((i + 1 : Nat) : Int) := by rw [wrap64 (by omega) (by omega)]; omega
    have hbw := belw_bound t.op i
    have w1 : IntKind.i64.wrap (k + belw t.op i) = k + belw t.op i := wrap64 (by omega) (by omega)
    have hri : res[i]? = some (shf by_ from_ t.args[i] (k + belw t.op i)).1 := by
      have := hgt i k _ hx
      rw [hres] at this
      simpa using this
    have htake : (res.take (i + 1)).map av = (res.take i).map av ++ [(shf by_ from_ t.args[i] (k + belw t.op i)).1.av] := by
      rw [List.take_add_one, hri]; simp
    have hdrop : t.args.drop i = t.args[i] :: t.args.drop (i + 1) := List.drop_eq_getElem_cons hlt
    rw [hdrop, shfs] at hgd
    simp (implicitDefEqProofs := false) (maxSteps := 2000000) (disch := (first | omega | (simp only [St.new_nx, St.set_nx, St.del_nx, St.bump_nx]; done) | (simp only [St.new_nx, St.set_nx, St.del_nx, St.bump_nx]; omega) | fail)) [a64l13, a64r7, a64r8, a64r9, h47, h48, h49, h1, h2, h3, h4, hT, hlt', hlt, hx]
    refine pcV_intro (p103 t i) ?_
    simp (implicitDefEqProofs := false) (maxSteps := 2000000) (disch := (first | omega | (simp only [St.new_nx, St.set_nx, St.del_nx, St.bump_nx]; done) | (simp only [St.new_nx, St.set_nx, St.del_nx, St.bump_nx]; omega) | fail)) [w1, h1, h2, h3]
    refine pcV_intro (ih i _ hx) ?_
    simp (implicitDefEqProofs := false) (maxSteps := 2000000) (disch := (first | omega | (simp only [St.new_nx, St.set_nx, St.del_nx, St.bump_nx]; done) | (simp only [St.new_nx, St.set_nx, St.del_nx, St.bump_nx]; omega) | fail)) [a64r10, a64r11, a64r12, h11, h10, h49]
    intro m hm
    rcases htok with ⟨rfl, rfl, rfl⟩ | ⟨rfl, q, rfl, hq, q1, q2⟩ <;> cases gd_
    · simp (implicitDefEqProofs := false) (maxSteps := 2000000) (disch := (first | omega | (simp only [St.new_nx, St.set_nx, St.del_nx, St.bump_nx]; done) | (simp only [St.new_nx, St.set_nx, St.del_nx, St.bump_nx]; omega) | fail)) [hO, h10, h49, show IntKind.i64.wrap 1 = 1 from rfl]
      simp only [Nat.zero_add, List.take_zero, List.map_nil, List.nil_append] at htake
      refine go_next (t.args.length - 1) (by omega) ?_
      refine ⟨1, 4, .own m, false, by omega, rfl, by simpa using hgd, ?_, ?_, ?_, ?_, ?_, ?_, ?_, ?_, ?_, ?_, ?_, ?_, ?_, ?_, ?_, .inr ⟨rfl, _, rfl, ?_, ?_, ?_⟩⟩ <;> (try simp (implicitDefEqProofs := false) (maxSteps := 2000000) (disch := (first | omega | (simp only [St.new_nx, St.set_nx, St.del_nx, St.bump_nx]; done) | (simp only [St.new_nx, St.set_nx, St.del_nx, St.bump_nx]; omega) | fail)) [h47, h48, h49, h11, h1, h2, h3, h4, h10, h8, hT, hO, hR, hk, ← List.map_take, htake])
      all_goals omega
    · simp (implicitDefEqProofs := false) (maxSteps := 2000000) (disch := (first | omega | (simp only [St.new_nx, St.set_nx, St.del_nx, St.bump_nx]; done) | (simp only [St.new_nx, St.set_nx, St.del_nx, St.bump_nx]; omega) | fail)) [hO, h10, h49, show IntKind.i64.wrap 1 = 1 from rfl]
      simp only [Nat.zero_add, List.take_zero, List.map_nil, List.nil_append] at htake
      refine go_next (t.args.length - 1) (by omega) ?_
      refine ⟨1, 4, .own m, _, by omega, rfl, by simpa using hgd, ?_, ?_, ?_, ?_, ?_, ?_, ?_, ?_, ?_, ?_, ?_, ?_, ?_, ?_, ?_, .inr ⟨rfl, _, rfl, ?_, ?_, ?_⟩⟩ <;> (try simp (implicitDefEqProofs := false) (maxSteps := 2000000) (disch := (first | omega | (simp only [St.new_nx, St.set_nx, St.del_nx, St.bump_nx]; done) | (simp only [St.new_nx, St.set_nx, St.del_nx, St.bump_nx]; omega) | fail)) [h47, h48, h49, h11, h1, h2, h3, h4, h10, h8, hT, hO, hR, hk, ← List.map_take, htake])
      all_goals omega
    · simp (implicitDefEqProofs := false) (maxSteps := 2000000) (disch := (first | omega | (simp only [St.new_nx, St.set_nx, St.del_nx, St.bump_nx]; done) | (simp only [St.new_nx, St.set_nx, St.del_nx, St.bump_nx]; omega) | fail)) [hO, hq, h10, h49, w2]
      refine go_next (t.args.length - (i + 1)) (by omega) ?_
      refine ⟨i + 1, 4, .own m, false, by omega, rfl, by simpa using hgd, ?_, ?_, ?_, ?_, ?_, ?_, ?_, ?_, ?_, ?_, ?_, ?_, ?_, ?_, ?_, .inr ⟨rfl, _, rfl, ?_, ?_, ?_⟩⟩ <;> (try simp (implicitDefEqProofs := false) (maxSteps := 2000000) (disch := (first | omega | (simp only [St.new_nx, St.set_nx, St.del_nx, St.bump_nx]; done) | (simp only [St.new_nx, St.set_nx, St.del_nx, St.bump_nx]; omega) | fail)) [h47, h48, h49, h11, h1, h2, h3, h4, h10, h8, hT, hO, hR, hk, ← List.map_take, htake])
      all_goals omega
    · simp (implicitDefEqProofs := false) (maxSteps := 2000000) (disch := (first | omega | (simp only [St.new_nx, St.set_nx, St.del_nx, St.bump_nx]; done) | (simp only [St.new_nx, St.set_nx, St.del_nx, St.bump_nx]; omega) | fail)) [hO, hq, h10, h49, w2]
      refine go_next (t.args.length - (i + 1)) (by omega) ?_
      refine ⟨i + 1, 4, .own m, _, by omega, rfl, by simpa using hgd, ?_, ?_, ?_, ?_, ?_, ?_, ?_, ?_, ?_, ?_, ?_, ?_, ?_, ?_, ?_, .inr ⟨rfl, _, rfl, ?_, ?_, ?_⟩⟩ <;> (try simp (implicitDefEqProofs := false) (maxSteps := 2000000) (disch := (first | omega | (simp only [St.new_nx, St.set_nx, St.del_nx, St.bump_nx]; done) | (simp only [St.new_nx, St.set_nx, St.del_nx, St.bump_nx]; omega) | fail)) [h47, h48, h49, h11, h1, h2, h3, h4, h10, h8, hT, hO, hR, hk, ← List.map_take, htake])
      all_goals omega
  · have hlt' : ¬ (i : Int) < t.args.length := by omega
    have hie : i = t.args.length := by omega
    subst hie
    have htk : res.take t.args.length = res := by rw [← hml]; simp
    rw [htk] at hO
    have hgd' : gd_ = rok := by simpa [shfs] using hgd
    simp (implicitDefEqProofs := false) (maxSteps := 2000000) (disch := (first | omega | (simp only [St.new_nx, St.set_nx, St.del_nx, St.bump_nx]; done) | (simp only [St.new_nx, St.set_nx, St.del_nx, St.bump_nx]; omega) | fail)) [a64l13, a64r7, h47, h48, h49, h10, h8, h11, hlt', a64r14, hO, hR, hk, hgd']
    rw [av_mk]
    rcases htok with ⟨h0, rfl, rfl⟩ | ⟨rfl, q, rfl, _⟩
    · have : res = [] := List.length_eq_zero_iff.1 (by omega)
      simp [this]
    · simp

theorem p64 (by_ from_ : Int) (h1 : -1000000 ≤ by_) (h2 : by_ ≤ 1000000) (t : Ty) : ∀ k, Fit t k → C64 by_ from_ t k := by
  induction t using Ty.ind with
  | h t ih =>
    intro k hf
    refine PureC.intro fun s => fun_sound mixed Try.func64 Try.call64 c64 rfl (awpFun_go _ _ _ _ ?_)
    have hn := wide_n hf.1
    have hk := hf.2
    have w1 : IntKind.i64.wrap (t.n - k) = t.n - k := wrap64 (by omega) (by omega)
    have w2 : IntKind.i64.wrap (t.n + by_) = t.n + by_ := wrap64 (by omega) (by omega)
    have w3 : IntKind.i64.wrap (t.n + by_ - k) = t.n + by_ - k := wrap64 (by omega) (by omega)
    simp (implicitDefEqProofs := false) (maxSteps := 2000000) (disch := (first | omega | (simp only [St.new_nx, St.set_nx, St.del_nx, St.bump_nx]; done) | (simp only [St.new_nx, St.set_nx, St.del_nx, St.bump_nx]; omega) | fail)) [a64, a64b, a64r0, a64r1, a64r2, a64r3, a64r4, a64r5, a64r6, w1, w2, w3]
    have fin : ∀ (b : Bool) (G : Env) (S : St), ¬ (t.op = 1 ∧ from_ ≤ t.n - k) →
        (G = [(49, AV.int IntKind.i64 0), (48, AV.int IntKind.i64 ↑t.args.length), (47, AV.list 4 Tok.none (List.map av t.args)), (11, AV.bool true), (33, AV.bool b), (10, AV.ptr (s.nx + 1 + 1) 0), (9, AV.bool false), (8, AV.ptr (s.nx + 1) 0), (4, AV.ptr s.nx 0), (0, t.av), (1, AV.int IntKind.i64 by_), (2, AV.int IntKind.i64 from_), (3, AV.int IntKind.i64 k)]) →
        (S = (((s.new (AObj.box [AV.int IntKind.i64 t.op, AV.int IntKind.i64 t.n, AV.str t.s, AV.list 4 Tok.none (List.map av t.args)])).new (AObj.box [AV.int IntKind.i64 0, AV.int IntKind.i64 0, AV.str { data := #[] }, AV.list 0 Tok.full []])).new (AObj.box [AV.int IntKind.i64 0, AV.int IntKind.i64 0, AV.str { data := #[] }, AV.list 0 Tok.full []])).set (s.nx + 1 + 1) (AObj.box [AV.int IntKind.i64 t.op, AV.int IntKind.i64 t.n, AV.str t.s, AV.list 0 Tok.full []])) →
        go (awp Try.prog (.loop a64l13) (blockQ 0 (seqQ Try.prog ((ACode.reg false a64r14).seq .ret) (finQ [.cell (true, 8) 4 true, .tmp (true, 9)] fun r' s' => wk r' (.tup [(shf by_ from_ t k).1.av, .bool (shf by_ from_ t k).2]) ∧ Kept s s'))) G S) := by
      rintro b G S hne rfl rfl
      rw [shf_eq, if_neg hne]
      refine loop64 by_ from_ t k s s.nx (s.nx + 1 + 1) (s.nx + 1) _ _ (fun i x hx => ih x (List.mem_of_getElem? hx) _ (Fit.child hf i x hx)) (wide_len hf.1) (by omega) (by omega) ?_ ?_ ?_ ?_ ?_ ?_ ?_ ?_ ?_ ?_ ?_ ?_ ?_ ?_ ?_ ?_ ?_ ?_ <;> (try simp (implicitDefEqProofs := false) (maxSteps := 2000000) (disch := (first | omega | (simp only [St.new_nx, St.set_nx, St.del_nx, St.bump_nx]; done) | (simp only [St.new_nx, St.set_nx, St.del_nx, St.bump_nx]; omega) | fail)))
      all_goals omega
    refine ⟨fun ho => ⟨fun hd m hm => ?_, fun hd => ?_⟩, fun ho => ?_⟩
    · rw [shf_eq, if_pos ⟨ho, hd⟩]
      simp (implicitDefEqProofs := false) (maxSteps := 2000000) (disch := (first | omega | (simp only [St.new_nx, St.set_nx, St.del_nx, St.bump_nx]; done) | (simp only [St.new_nx, St.set_nx, St.del_nx, St.bump_nx]; omega) | fail)) [av_mk]
    · exact fin _ _ _ (by omega) rfl rfl
    · exact fin _ _ _ (by omega) rfl rfl
end Go.AL.Ty
/- The reference: put. -/
set_option linter.unusedVariables false
set_option linter.unusedSimpArgs false
namespace Go.AL.Ty
open Go Go.Proofs

theorem p21 (t : Ty) (by_ from_ : Int) (h1 : -1000000 ≤ by_) (h2 : by_ ≤ 1000000) (hf : Fit t 0) : PureC Try.prog 21 [t.av, .int .i64 by_, .int .i64 from_] (.tup [(shf by_ from_ t 0).1.av, .bool (shf by_ from_ t 0).2]) := by
  refine PureC.intro fun s => fun_sound mixed Try.func21 Try.call21 c21 rfl (awpFun_go _ _ _ _ ?_)
  simp (implicitDefEqProofs := false) (maxSteps := 2000000) (disch := (first | omega | (simp only [St.new_nx, St.set_nx, St.del_nx, St.bump_nx]; done) | (simp only [St.new_nx, St.set_nx, St.del_nx, St.bump_nx]; omega) | fail)) [a21, a21b, a21r0, a21r1]
  refine go_pure (p64 by_ from_ h1 h2 t 0 hf) fun m hm => ?_
  simp (implicitDefEqProofs := false) (maxSteps := 2000000) (disch := (first | omega | (simp only [St.new_nx, St.set_nx, St.del_nx, St.bump_nx]; done) | (simp only [St.new_nx, St.set_nx, St.del_nx, St.bump_nx]; omega) | fail))
theorem p102 (t : Ty) (by_ : Int) (h1 : -1000000 ≤ by_) (h2 : by_ ≤ 1000000) (hf : Fit t 0) : PureC Try.prog 102 [t.av, .int .i64 by_] (shf by_ 0 t 0).1.av := by
  refine PureC.intro fun s => fun_sound mixed Try.func102 Try.call102 c102 rfl (awpFun_go _ _ _ _ ?_)
  simp (implicitDefEqProofs := false) (maxSteps := 2000000) (disch := (first | omega | (simp only [St.new_nx, St.set_nx, St.del_nx, St.bump_nx]; done) | (simp only [St.new_nx, St.set_nx, St.del_nx, St.bump_nx]; omega) | fail)) [a102, a102b, a102r0, a102r1, a102r2]
  refine go_pure (p21 t by_ 0 h1 h2 hf) fun m hm => ?_
  simp only [St.new_nx, St.bump_nx, St.set_nx] at hm
  simp (implicitDefEqProofs := false) (maxSteps := 2000000) (disch := (first | omega | (simp only [St.new_nx, St.set_nx, St.del_nx, St.bump_nx]; done) | (simp only [St.new_nx, St.set_nx, St.del_nx, St.bump_nx]; omega) | fail))

/-- What the reference's put does at a node. -/
def pr (l : List Ty) (t : Ty) (b : Int) : Option Ty :=
  if t.op ≠ 1 then none else if t.n < b then some t
  else if t.n - b < l.length then (l[l.length - 1 - (t.n - b).toNat]?).map fun x => (shf b 0 x 0).1
  else some (var (t.n - l.length))

def C60 (l : List Ty) (t : Ty) (k : Int) : Prop := PureC Try.prog 60 [t.av, .list 4 .none (l.map av), .int .i64 k] (map (pr l) t k).av

theorem loop60 (l : List Ty) (t : Ty) (b : Int) (f : Ty → Int → Option Ty) (hf : f = pr l) (s : St) (oT oO oR : Nat) (G : Env) (S : St)
    (ih : ∀ (i : Nat) x, t.args[i]? = some x → C60 l x (b + belw t.op i)) (hlen : t.args.length ≤ 1000000) (hb : -1000000 ≤ b) (hb2 : b ≤ 1000000)
    (h29 : G.get 54 = .list 4 .none (t.args.map av)) (h30 : G.get 55 = .int .i64 t.args.length) (h31 : G.get 56 = .int .i64 0) (h1 : G.get 1 = .list 4 .none (l.map av)) (h2 : G.get 2 = .int .i64 b)
    (h3 : G.get 3 = .ptr oT 0) (h9 : G.get 8 = .ptr oO 0) (h6 : G.get 6 = .ptr oR 0)
    (hT : S.m oT = some (.box [.int .i64 t.op, .int .i64 t.n, .str t.s, .list 4 .none (t.args.map av)])) (hO : S.m oO = some (.box [.int .i64 t.op, .int .i64 t.n, .str t.s, .list 0 .full []]))
    (hR : S.m oR = some (.box [.int .i64 0, .int .i64 0, .str ⟨#[]⟩, .list 0 .full []])) (hk : Kept s S) (n1 : s.nx ≤ oT) (n2 : oT < oR) (n3 : oR < oO) (n4 : oO < S.nx) :
    go (awp Try.prog (.loop a60l14) (blockQ 1 (seqQ Try.prog ((ACode.reg false a60r15).seq .ret) (finQ [.cell (true, 6) 4 true] fun r' s' => wk r' (mk t.op t.n t.s (maps f t.op t.args 0 b)).av ∧ Kept s s'))) G S) := by
  have hml := maps_length f t.op t.args 0 b
  generalize hres : maps f t.op t.args 0 b = res at hml ⊢
  refine go_loop (fun n g s1 => ∃ (i sz : Nat) (tok : Tok), i ≤ t.args.length ∧ n = t.args.length - i ∧
    g.get 54 = .list 4 .none (t.args.map av) ∧ g.get 55 = .int .i64 t.args.length ∧ g.get 56 = .int .i64 i ∧ g.get 1 = .list 4 .none (l.map av) ∧ g.get 2 = .int .i64 b ∧ g.get 3 = .ptr oT 0 ∧ g.get 8 = .ptr oO 0 ∧ g.get 6 = .ptr oR 0 ∧
    s1.m oT = some (.box [.int .i64 t.op, .int .i64 t.n, .str t.s, .list 4 .none (t.args.map av)]) ∧ s1.m oO = some (.box [.int .i64 t.op, .int .i64 t.n, .str t.s, .list sz tok ((res.take i).map av)]) ∧
    s1.m oR = some (.box [.int .i64 0, .int .i64 0, .str ⟨#[]⟩, .list 0 .full []]) ∧ Kept s s1 ∧ oO < s1.nx ∧
    ((i = 0 ∧ sz = 0 ∧ tok = .full) ∨ (sz = 4 ∧ ∃ q, tok = .own q ∧ s1.m q = some (.spare (i * 4)) ∧ oO < q ∧ q < s1.nx))) t.args.length
    ⟨0, 0, .full, Nat.zero_le _, by simp, h29, h30, h31, h1, h2, h3, h9, h6, hT, by simpa using hO, hR, hk, n4, .inl ⟨rfl, rfl, rfl⟩⟩ ?_
  clear h29 h30 h31 h1 h2 h3 h9 h6 hT hO hR hk n4
  rintro n g s1 ⟨i, sz, tok, hi, rfl, h29, h30, h31, h1, h2, h3, h9, h6, hT, hO, hR, hk, n4, htok⟩
  by_cases hlt : i < t.args.length
  · have hx : t.args[i]? = some t.args[i] := by simp [hlt]
    have hlt' : (i : Int) < t.args.length := by omega
    have w2 : IntKind.i64.wrap ((i : Int) + 1) = ((i + 1 : Nat) : Int) := by rw [wrap64 (by omega) (by omega)]; omega
    have hbw : 0 ≤ belw t.op i ∧ belw t.op i ≤ 1 := by unfold belw; split <;> omega
    have w1 : IntKind.i64.wrap (b + belw t.op i) = b + belw t.op i := wrap64 (by omega) (by omega)
    have hri : res[i]? = some (map f t.args[i] (b + belw t.op i)) := by
      have := maps_get f t.op t.args 0 i b _ hx
      rw [hres] at this
      simpa using this
    have htake : (res.take (i + 1)).map av = (res.take i).map av ++ [(map f t.args[i] (b + belw t.op i)).av] := by
      rw [List.take_add_one, hri]; simp
    have hih := ih i _ hx
    rw [C60, ← hf] at hih
    simp (implicitDefEqProofs := false) (maxSteps := 2000000) (disch := (first | omega | (simp only [St.new_nx, St.set_nx, St.del_nx, St.bump_nx]; done) | (simp only [St.new_nx, St.set_nx, St.del_nx, St.bump_nx]; omega) | fail)) [a60l14, a60r10, a60r11, a60r12, h29, h30, h31, h1, h2, h3, h9, h6, hT, hO, hlt', hlt, hx]
    refine pcV_intro (p103 t i) ?_
    simp (implicitDefEqProofs := false) (maxSteps := 2000000) (disch := (first | omega | (simp only [St.new_nx, St.set_nx, St.del_nx, St.bump_nx]; done) | (simp only [St.new_nx, St.set_nx, St.del_nx, St.bump_nx]; omega) | fail)) [w1, h1, h2]
    refine pcV_intro hih ?_
    rcases htok with ⟨rfl, rfl, rfl⟩ | ⟨rfl, q, rfl, hq, q1, q2⟩
    · simp (implicitDefEqProofs := false) (maxSteps := 2000000) (disch := (first | omega | (simp only [St.new_nx, St.set_nx, St.del_nx, St.bump_nx]; done) | (simp only [St.new_nx, St.set_nx, St.del_nx, St.bump_nx]; omega) | fail)) [hO, h9, h31, show IntKind.i64.wrap 1 = 1 from rfl, a60r13]
      intro m hm
      simp only [Nat.zero_add, List.take_zero, List.map_nil, List.nil_append] at htake
      refine go_next (t.args.length - 1) (by omega) ⟨1, by omega, rfl, ?_, ?_, ?_, ?_, ?_, ?_, ?_, ?_, ?_, 4, .own (s1.nx + 1), ?_, ?_, ?_, ?_, .inr ⟨rfl, _, rfl, ?_, ?_, ?_⟩⟩ <;> (try simp (implicitDefEqProofs := false) (maxSteps := 2000000) (disch := (first | omega | (simp only [St.new_nx, St.set_nx, St.del_nx, St.bump_nx]; done) | (simp only [St.new_nx, St.set_nx, St.del_nx, St.bump_nx]; omega) | fail)) [h29, h30, h31, h1, h2, h3, h9, h6, hT, hO, hR, hk, ← List.map_take, htake])
      all_goals omega
    · simp (implicitDefEqProofs := false) (maxSteps := 2000000) (disch := (first | omega | (simp only [St.new_nx, St.set_nx, St.del_nx, St.bump_nx]; done) | (simp only [St.new_nx, St.set_nx, St.del_nx, St.bump_nx]; omega) | fail)) [hO, hq, h9, h31, w2, a60r13]
      intro m hm
      refine go_next (t.args.length - (i + 1)) (by omega) ⟨i + 1, by omega, rfl, ?_, ?_, ?_, ?_, ?_, ?_, ?_, ?_, ?_, 4, .own (s1.nx + 1), ?_, ?_, ?_, ?_, .inr ⟨rfl, _, rfl, ?_, ?_, ?_⟩⟩ <;> (try simp (implicitDefEqProofs := false) (maxSteps := 2000000) (disch := (first | omega | (simp only [St.new_nx, St.set_nx, St.del_nx, St.bump_nx]; done) | (simp only [St.new_nx, St.set_nx, St.del_nx, St.bump_nx]; omega) | fail)) [h29, h30, h31, h1, h2, h3, h9, h6, hT, hO, hR, hk, ← List.map_take, htake])
      all_goals omega
  · have hlt' : ¬ (i : Int) < t.args.length := by omega
    have hie : i = t.args.length := by omega
    subst hie
    have htk : res.take t.args.length = res := by rw [← hml]; simp
    rw [htk] at hO
    simp (implicitDefEqProofs := false) (maxSteps := 2000000) (disch := (first | omega | (simp only [St.new_nx, St.set_nx, St.del_nx, St.bump_nx]; done) | (simp only [St.new_nx, St.set_nx, St.del_nx, St.bump_nx]; omega) | fail)) [a60l14, a60r10, h29, h30, h31, h9, h6, hlt', a60r15, hO, hR, hk]
    rw [av_mk]
    rcases htok with ⟨h0, rfl, rfl⟩ | ⟨rfl, q, rfl, _⟩
    · have : res = [] := List.length_eq_zero_iff.1 (by omega)
      simp [this]
    · simp

theorem p60 (l : List Ty) (hl : l.length ≤ 1000000) (hx : ∀ x ∈ l, Fit x 0) (t : Ty) : ∀ k, Fit t k → C60 l t k := by
  induction t using Ty.ind with
  | h t ih =>
    intro k hf
    refine PureC.intro fun s => fun_sound mixed Try.func60 Try.call60 c60 rfl (awpFun_go _ _ _ _ ?_)
    have h7 := wide_n hf.1
    have hk := hf.2
    have w1 : IntKind.i64.wrap (t.n - k) = t.n - k := wrap64 (by omega) (by omega)
    have w2 : IntKind.i64.wrap (t.n - l.length) = t.n - l.length := wrap64 (by omega) (by omega)
    have w3 : IntKind.i64.wrap ((l.length : Int) - 1) = (l.length : Int) - 1 := wrap64 (by omega) (by omega)
    have w4 : IntKind.i64.wrap ((l.length : Int) - 1 - (t.n - k)) = (l.length : Int) - 1 - (t.n - k) := wrap64 (by omega) (by omega)
    simp (implicitDefEqProofs := false) (maxSteps := 2000000) (disch := (first | omega | (simp only [St.new_nx, St.set_nx, St.del_nx, St.bump_nx]; done) | (simp only [St.new_nx, St.set_nx, St.del_nx, St.bump_nx]; omega) | fail)) [a60, a60b, a60r0, a60r1, a60r2, a60r3, a60r4, a60r5, a60r6, a60r7, a60r8, a60r9, w1, w2, w3, w4]
    refine ⟨fun ho => ⟨fun hb => ?_, fun hb => ⟨fun hn => ?_, fun hn => ?_⟩⟩, fun ho => ?_⟩
    · have e : pr l t k = some t := by simp [pr, ho, hb]
      rw [map_eq, e]; simp
    · have hb' : ¬ t.n < k := by omega
      have hi : l.length - 1 - (t.n - k).toNat < l.length := by omega
      have hti : ((l.length : Int) - 1 - (t.n - k)).toNat = l.length - 1 - (t.n - k).toNat := by omega
      have hx1 : l[l.length - 1 - (t.n - k).toNat]? = some l[l.length - 1 - (t.n - k).toNat] := by simp [hi]
      have e : pr l t k = some (shf k 0 l[l.length - 1 - (t.n - k).toNat] 0).1 := by
        simp only [pr, ho, hb', hn, hx1, ne_eq, not_true, if_false, if_true, Option.map_some]
      refine ok_intro (by omega) ?_
      rw [hti, hx1, map_eq, e]
      simp (implicitDefEqProofs := false) (maxSteps := 2000000) (disch := (first | omega | (simp only [St.new_nx, St.set_nx, St.del_nx, St.bump_nx]; done) | (simp only [St.new_nx, St.set_nx, St.del_nx, St.bump_nx]; omega) | fail))
      refine go_pure (p102 _ k (by omega) (by omega) (hx _ (List.getElem_mem hi))) fun m hm => ?_
      simp only [St.new_nx, St.bump_nx, St.set_nx] at hm
      simp (implicitDefEqProofs := false) (maxSteps := 2000000) (disch := (first | omega | (simp only [St.new_nx, St.set_nx, St.del_nx, St.bump_nx]; done) | (simp only [St.new_nx, St.set_nx, St.del_nx, St.bump_nx]; omega) | fail))
    · have hb' : ¬ t.n < k := by omega
      have hn' : ¬ t.n - k < l.length := by omega
      have e : pr l t k = some (var (t.n - l.length)) := by simp [pr, ho, hb', hn']
      refine go_pure (p59 _) fun m hm => ?_
      simp only [St.new_nx, St.bump_nx, St.set_nx] at hm
      rw [map_eq, e]
      simp (implicitDefEqProofs := false) (maxSteps := 2000000) (disch := (first | omega | (simp only [St.new_nx, St.set_nx, St.del_nx, St.bump_nx]; done) | (simp only [St.new_nx, St.set_nx, St.del_nx, St.bump_nx]; omega) | fail)) [var, av_mk]
    · have e : pr l t k = none := by simp [pr, ho]
      rw [map_eq, e]
      refine loop60 l t k _ rfl s s.nx (s.nx + 1 + 1) (s.nx + 1) _ _ (fun i x hx' => ih x (List.mem_of_getElem? hx') _ (Fit.child hf i x hx')) (wide_len hf.1) (by omega) (by omega) ?_ ?_ ?_ ?_ ?_ ?_ ?_ ?_ ?_ ?_ ?_ ?_ ?_ ?_ ?_ ?_ <;> (try simp (implicitDefEqProofs := false) (maxSteps := 2000000) (disch := (first | omega | (simp only [St.new_nx, St.set_nx, St.del_nx, St.bump_nx]; done) | (simp only [St.new_nx, St.set_nx, St.del_nx, St.bump_nx]; omega) | fail)))
      all_goals omega

def put (t : Ty) (l : List Ty) : Ty := map (pr l) t 0
theorem p18 (t : Ty) (l : List Ty) (hl : l.length ≤ 1000000) (hx : ∀ x ∈ l, Fit x 0) (ht : Fit t 0) : PureC Try.prog 18 [t.av, .list 4 .none (l.map av)] (put t l).av := by
  refine PureC.intro fun s => fun_sound mixed Try.func18 Try.call18 c18 rfl (awpFun_go _ _ _ _ ?_)
  simp (implicitDefEqProofs := false) (maxSteps := 2000000) (disch := (first | omega | (simp only [St.new_nx, St.set_nx, St.del_nx, St.bump_nx]; done) | (simp only [St.new_nx, St.set_nx, St.del_nx, St.bump_nx]; omega) | fail)) [a18, a18b, a18r0, a18r1]
  refine go_pure (p60 l hl hx t 0 ht) fun m hm => ?_
  simp (implicitDefEqProofs := false) (maxSteps := 2000000) (disch := (first | omega | (simp only [St.new_nx, St.set_nx, St.del_nx, St.bump_nx]; done) | (simp only [St.new_nx, St.set_nx, St.del_nx, St.bump_nx]; omega) | fail)) [put]

theorem p15 (t : Ty) (hl : lim t) : PureC Try.prog 15 [t.av] (.bool (same t nul)) := by
  refine PureC.intro fun s => fun_sound mixed Try.func15 Try.call15 c15 rfl (awpFun_go _ _ _ _ ?_)
  simp (implicitDefEqProofs := false) (maxSteps := 2000000) (disch := (first | omega | (simp only [St.new_nx, St.set_nx, St.del_nx, St.bump_nx]; done) | (simp only [St.new_nx, St.set_nx, St.del_nx, St.bump_nx]; omega) | fail)) [a15, a15b, a15r0, a15r1]
  have h := p31 t hl nul
  simp only [nul, av_mk, List.map_nil] at h
  refine go_pure (PureC.argw h (by simp)) fun m hm => ?_
  simp (implicitDefEqProofs := false) (maxSteps := 2000000) (disch := (first | omega | (simp only [St.new_nx, St.set_nx, St.del_nx, St.bump_nx]; done) | (simp only [St.new_nx, St.set_nx, St.del_nx, St.bump_nx]; omega) | fail)) [nul]

/-- What whole says. -/
def whol (t : Ty) (e : Int) (want : Ty) : Bool := if proper want then decide (e = 0) && same t want else same t nul && decide (e = 5)
theorem p17 (t : Ty) (e : Int) (want : Ty) (hl : lim t) : PureC Try.prog 17 [t.av, .int .i64 e, want.av] (.bool (whol t e want)) := by
  refine PureC.intro fun s => fun_sound mixed Try.func17 Try.call17 c17 rfl (awpFun_go _ _ _ _ ?_)
  simp (implicitDefEqProofs := false) (maxSteps := 2000000) (disch := (first | omega | (simp only [St.new_nx, St.set_nx, St.del_nx, St.bump_nx]; done) | (simp only [St.new_nx, St.set_nx, St.del_nx, St.bump_nx]; omega) | fail)) [a17, a17b, a17r0, a17r1]
  refine go_pure (p13 want) fun m hm => ?_
  simp only [St.new_nx, St.bump_nx, St.set_nx] at hm
  simp (implicitDefEqProofs := false) (maxSteps := 2000000) (disch := (first | omega | (simp only [St.new_nx, St.set_nx, St.del_nx, St.bump_nx]; done) | (simp only [St.new_nx, St.set_nx, St.del_nx, St.bump_nx]; omega) | fail)) [a17r2, a17r3]
  refine ⟨fun hw => ?_, fun hw => ⟨fun he => ?_, fun he => ?_⟩⟩
  · refine go_pure (p15 t hl) fun m2 hm2 => ?_
    simp only [St.new_nx, St.bump_nx, St.set_nx] at hm2
    simp (implicitDefEqProofs := false) (maxSteps := 2000000) (disch := (first | omega | (simp only [St.new_nx, St.set_nx, St.del_nx, St.bump_nx]; done) | (simp only [St.new_nx, St.set_nx, St.del_nx, St.bump_nx]; omega) | fail)) [whol, hw]
    by_cases hz : same t nul = true
    · simp (implicitDefEqProofs := false) (maxSteps := 2000000) (disch := (first | omega | (simp only [St.new_nx, St.set_nx, St.del_nx, St.bump_nx]; done) | (simp only [St.new_nx, St.set_nx, St.del_nx, St.bump_nx]; omega) | fail)) [hz]
    · simp only [Bool.not_eq_true] at hz
      simp (implicitDefEqProofs := false) (maxSteps := 2000000) (disch := (first | omega | (simp only [St.new_nx, St.set_nx, St.del_nx, St.bump_nx]; done) | (simp only [St.new_nx, St.set_nx, St.del_nx, St.bump_nx]; omega) | fail)) [hz]
  · refine go_pure (p31 t hl want) fun m2 hm2 => ?_
    simp only [St.new_nx, St.bump_nx, St.set_nx] at hm2
    simp (implicitDefEqProofs := false) (maxSteps := 2000000) (disch := (first | omega | (simp only [St.new_nx, St.set_nx, St.del_nx, St.bump_nx]; done) | (simp only [St.new_nx, St.set_nx, St.del_nx, St.bump_nx]; omega) | fail)) [whol, hw, he]
  · simp [whol, hw, he]
end Go.AL.Ty
