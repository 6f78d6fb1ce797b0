/- Bind, and what the reference says of it. -/
import Derived.Test.YtkegioliclbbhaaE17
set_option linter.unusedVariables false
set_option linter.unusedSimpArgs false
namespace Go.AL.Ty
open Go Go.Proofs

/-- Numbers of variables, no two the same. -/
def chk (pre : List Int) : List Int → Bool
  | [] => true
  | n :: r => (decide (0 ≤ n) && decide (n ≤ 9999) && !decide (n ∈ pre)) && chk (pre ++ [n]) r

def I22 (t : Ty) (op : Int) (l : List Int) (fn : Bool) (s : St) (oT oR : Nat) (n : Nat) (g : Env) (s1 : St) : Prop :=
  ∃ (i : Nat), i ≤ l.length ∧ n = l.length - i ∧ chk (l.take i) (l.drop i) = fn ∧
    g.get 27 = .list 1 .none (il l) ∧ g.get 28 = .int .i64 l.length ∧ g.get 29 = .int .i64 i ∧ g.get 1 = .int .i64 op ∧ g.get 2 = .list 1 .none (il l) ∧ g.get 3 = .ptr oT 0 ∧ g.get 6 = .ptr oR 0 ∧
    s1.m oT = some (.box [.int .i64 t.op, .int .i64 t.n, .str t.s, .list 4 .none (t.args.map av)]) ∧ s1.m oR = some (.box [.int .i64 0, .int .i64 0, .str ⟨#[]⟩, .list 0 .full []]) ∧ Kept s s1 ∧ oT < s1.nx ∧ oR < s1.nx

def bindR (t : Ty) (op : Int) (l : List Int) : AV := if proper t = true ∧ l.length ≤ 600 ∧ (op = 7 ∨ op = 6) ∧ chk [] l = true then fin (bound t op l) else .tup [nul.av, .int .i64 2]
theorem fin_or (x : Ty) (hx : ¬ proper x = true) : fin x = .tup [nul.av, .int .i64 5] := by rw [fin, if_neg hx]; rfl

theorem p22 (t : Ty) (op : Int) (l : List Int) : PureC Try.prog 22 [t.av, .int .i64 op, .list 1 .none (il l)] (bindR t op l) := by
  refine PureC.intro fun s => fun_sound mixed Try.func22 Try.call22 c22 rfl (awpFun_go _ _ _ _ ?_)
  simp (implicitDefEqProofs := false) (maxSteps := 2000000) (disch := (first | omega | (simp only [St.new_nx, St.set_nx, St.del_nx, St.bump_nx]; done) | (simp only [St.new_nx, St.set_nx, St.del_nx, St.bump_nx]; omega) | fail)) [a22, a22b, a22r0, a22r1]
  by_cases hc : proper t = true ∧ l.length ≤ 600 ∧ (op = 7 ∨ op = 6)
  · obtain ⟨hp, h1, h2⟩ := hc
    have h1' : ¬ (600 : Int) < l.length := by omega
    have e1 : bindR t op l = if chk [] l = true then fin (bound t op l) else .tup [nul.av, .int .i64 2] := by simp [bindR, hp, h1, h2]
    rw [e1]
    generalize hfn : chk [] l = fn
    generalize hres : (if fn = true then fin (bound t op l) else .tup [nul.av, .int .i64 2]) = res
    refine go_pure (p53 t) fun mm1 hm1 => ?_
    try simp only [St.new_nx, St.bump_nx, St.set_nx, St.del_nx] at hm1
    rw [hp]
    simp (implicitDefEqProofs := false) (maxSteps := 2000000) (disch := (first | omega | (simp only [St.new_nx, St.set_nx, St.del_nx, St.bump_nx]; done) | (simp only [St.new_nx, St.set_nx, St.del_nx, St.bump_nx]; omega) | fail)) [h1', a22r2, a22r3]
    have key : ∀ (G : Env) (S : St), G.get 27 = .list 1 .none (il l) → G.get 28 = .int .i64 l.length → G.get 29 = .int .i64 0 → G.get 1 = .int .i64 op → G.get 2 = .list 1 .none (il l) → G.get 3 = .ptr s.nx 0 → G.get 6 = .ptr (s.nx + 1) 0 →
        S.m s.nx = some (.box [.int .i64 t.op, .int .i64 t.n, .str t.s, .list 4 .none (t.args.map av)]) → S.m (s.nx + 1) = some (.box [.int .i64 0, .int .i64 0, .str ⟨#[]⟩, .list 0 .full []]) → Kept s S → s.nx + 1 < S.nx →
        go (awp Try.prog (.loop a22l9) (blockQ 0 (seqQ Try.prog ((ACode.reg false a22r10).seq .ret) (finQ [.cell (true, 6) 4 true, .tmp (true, 7)] fun r' s' => wk r' res ∧ Kept s s'))) G S) := by
      intro G S h27 h28 h29 h1 h2 h3 h6 hT hR hk hn
      refine go_loop (I22 t op l fn s s.nx (s.nx + 1)) l.length ⟨0, by omega, by omega, by simpa using hfn, h27, h28, h29, h1, h2, h3, h6, hT, hR, hk, by omega, hn⟩ ?_
      clear h27 h28 h29 h1 h2 h3 h6 hT hR hk hn
      rintro n g s1 ⟨i, hi, rfl, hg, h27, h28, h29, h1, h2, h3, h6, hT, hR, hk, hn, hn2⟩
      by_cases hlt : i < l.length
      · have hx : l[i]? = some l[i] := by simp [hlt]
        have hx' := il_get hx
        have hlt' : (i : Int) < l.length := by omega
        have w2 : IntKind.i64.wrap ((i : Int) + 1) = ((i + 1 : Nat) : Int) := by rw [wrap64 (by omega) (by omega)]; omega
        have hdrop : l.drop i = l[i] :: l.drop (i + 1) := List.drop_eq_getElem_cons hlt
        have hta : l.take (i + 1) = l.take i ++ [l[i]] := by rw [List.take_add_one, hx]; rfl
        rw [hdrop, chk] at hg
        simp (implicitDefEqProofs := false) (maxSteps := 2000000) (disch := (first | omega | (simp only [St.new_nx, St.set_nx, St.del_nx, St.bump_nx]; done) | (simp only [St.new_nx, St.set_nx, St.del_nx, St.bump_nx]; omega) | fail)) [a22l9, a22r4, a22r5, a22r6, a22r7, a22r8, h27, h28, h29, h1, h2, h3, h6, hlt', hlt, hx', w2, il_take]
        have hbad : fn = false → AV.tup [.agg [.int .i64 0, .int .i64 0, .str ⟨#[]⟩, .list 4 .none []], .int .i64 2] = res := fun h => by rw [← hres, h]; simp [nul, av_mk]
        refine ⟨fun g1 => ⟨fun g2 => ?_, fun g2 => ?_⟩, fun g1 => ?_⟩
        · refine go_pure (p65 (l.take i) l[i] (by rw [List.length_take]; omega)) fun mm2 hm2 => ?_
          try simp only [St.new_nx, St.bump_nx, St.set_nx, St.del_nx] at hm2
          simp (implicitDefEqProofs := false) (maxSteps := 2000000) (disch := (first | omega | (simp only [St.new_nx, St.set_nx, St.del_nx, St.bump_nx]; done) | (simp only [St.new_nx, St.set_nx, St.del_nx, St.bump_nx]; omega) | fail)) [w2, h29]
          simp only [g1, g2, decide_true, Bool.true_and] at hg
          refine ⟨fun g3 => ?_, fun g3 => ?_⟩
          · have hb := hbad (by rw [← hg]; simp [g3])
            simp (implicitDefEqProofs := false) (maxSteps := 2000000) (disch := (first | omega | (simp only [St.new_nx, St.set_nx, St.del_nx, St.bump_nx]; done) | (simp only [St.new_nx, St.set_nx, St.del_nx, St.bump_nx]; omega) | fail)) [h6, hR, ← hb, hk]
          · simp only [g3, decide_false, Bool.not_false, Bool.true_and] at hg
            refine go_next (l.length - (i + 1)) (by omega) ⟨i + 1, by omega, rfl, by rw [hta]; exact hg, ?_, ?_, ?_, ?_, ?_, ?_, ?_, ?_, ?_, ?_, ?_, ?_⟩
            all_goals (try simp (implicitDefEqProofs := false) (maxSteps := 2000000) (disch := (first | omega | (simp only [St.new_nx, St.set_nx, St.del_nx, St.bump_nx]; done) | (simp only [St.new_nx, St.set_nx, St.del_nx, St.bump_nx]; omega) | fail)) [h27, h28, h29, h1, h2, h3, h6, hT, hR, hk])
            all_goals omega
        · have g2' : ¬ l[i] ≤ 9999 := by omega
          have hb := hbad (by rw [← hg]; simp [g2'])
          simp (implicitDefEqProofs := false) (maxSteps := 2000000) (disch := (first | omega | (simp only [St.new_nx, St.set_nx, St.del_nx, St.bump_nx]; done) | (simp only [St.new_nx, St.set_nx, St.del_nx, St.bump_nx]; omega) | fail)) [h6, hR, ← hb, hk]
        · have g1' : ¬ 0 ≤ l[i] := by omega
          have hb := hbad (by rw [← hg]; simp [g1'])
          simp (implicitDefEqProofs := false) (maxSteps := 2000000) (disch := (first | omega | (simp only [St.new_nx, St.set_nx, St.del_nx, St.bump_nx]; done) | (simp only [St.new_nx, St.set_nx, St.del_nx, St.bump_nx]; omega) | fail)) [h6, hR, ← hb, hk]
      · have hlt' : ¬ (i : Int) < l.length := by omega
        have hdrop : l.drop i = [] := List.drop_eq_nil_of_le (by omega)
        rw [hdrop, chk] at hg
        subst hg
        rw [if_pos rfl] at hres
        simp (implicitDefEqProofs := false) (maxSteps := 2000000) (disch := (first | omega | (simp only [St.new_nx, St.set_nx, St.del_nx, St.bump_nx]; done) | (simp only [St.new_nx, St.set_nx, St.del_nx, St.bump_nx]; omega) | fail)) [a22l9, a22r4, h27, h28, h29, h1, h2, h3, h6, hlt', a22r10, hT, hR]
        refine go_pure (p66 t op l (by omega) (proper_fit hp)) fun mm3 hm3 => ?_
        try simp only [St.new_nx, St.bump_nx, St.set_nx, St.del_nx] at hm3
        simp (implicitDefEqProofs := false) (maxSteps := 2000000) (disch := (first | omega | (simp only [St.new_nx, St.set_nx, St.del_nx, St.bump_nx]; done) | (simp only [St.new_nx, St.set_nx, St.del_nx, St.bump_nx]; omega) | fail)) [h6, hR]
        refine go_pure (p55 (bound t op l)) fun mm4 hm4 => ?_
        try simp only [St.new_nx, St.bump_nx, St.set_nx, St.del_nx] at hm4
        by_cases hp2 : proper (bound t op l) = true
        · rw [if_pos hp2]
          rw [fin, if_pos hp2] at hres
          simp (implicitDefEqProofs := false) (maxSteps := 2000000) (disch := (first | omega | (simp only [St.new_nx, St.set_nx, St.del_nx, St.bump_nx]; done) | (simp only [St.new_nx, St.set_nx, St.del_nx, St.bump_nx]; omega) | fail)) [h6, hR, ← hres, hk]
        · rw [if_neg hp2]
          rw [fin, if_neg hp2] at hres
          simp (implicitDefEqProofs := false) (maxSteps := 2000000) (disch := (first | omega | (simp only [St.new_nx, St.set_nx, St.del_nx, St.bump_nx]; done) | (simp only [St.new_nx, St.set_nx, St.del_nx, St.bump_nx]; omega) | fail)) [h6, hR, ← hres, hk, av_mk]
    have h2' : ¬ (¬ op = 7 ∧ ¬ op = 6) := by omega
    refine ⟨fun k1 => ⟨fun k2 => absurd ⟨k1, k2⟩ h2', fun k2 => ?_⟩, fun k1 => ?_⟩
    · refine key _ _ ?_ ?_ ?_ ?_ ?_ ?_ ?_ ?_ ?_ ?_ ?_
      all_goals (try simp (implicitDefEqProofs := false) (maxSteps := 2000000) (disch := (first | omega | (simp only [St.new_nx, St.set_nx, St.del_nx, St.bump_nx]; done) | (simp only [St.new_nx, St.set_nx, St.del_nx, St.bump_nx]; omega) | fail)))
      all_goals omega
    · refine key _ _ ?_ ?_ ?_ ?_ ?_ ?_ ?_ ?_ ?_ ?_ ?_
      all_goals (try simp (implicitDefEqProofs := false) (maxSteps := 2000000) (disch := (first | omega | (simp only [St.new_nx, St.set_nx, St.del_nx, St.bump_nx]; done) | (simp only [St.new_nx, St.set_nx, St.del_nx, St.bump_nx]; omega) | fail)))
      all_goals omega
  · have hE : bindR t op l = .tup [nul.av, .int .i64 2] := by rw [bindR, if_neg fun h => hc ⟨h.1, h.2.1, h.2.2.1⟩]
    rw [hE]
    refine go_pure (p53 t) fun mm5 hm5 => ?_
    try simp only [St.new_nx, St.bump_nx, St.set_nx, St.del_nx] at hm5
    simp (implicitDefEqProofs := false) (maxSteps := 2000000) (disch := (first | omega | (simp only [St.new_nx, St.set_nx, St.del_nx, St.bump_nx]; done) | (simp only [St.new_nx, St.set_nx, St.del_nx, St.bump_nx]; omega) | fail))
    refine ⟨fun k1 => ⟨fun k2 => ⟨fun k3 => ⟨fun k4 => ?_, fun k4 => absurd ⟨k1, by omega, .inr k4⟩ hc⟩, fun k3 => absurd ⟨k1, by omega, .inl k3⟩ hc⟩, fun k2 => ?_⟩, fun k1 => ?_⟩
    all_goals simp (implicitDefEqProofs := false) (maxSteps := 2000000) (disch := (first | omega | (simp only [St.new_nx, St.set_nx, St.del_nx, St.bump_nx]; done) | (simp only [St.new_nx, St.set_nx, St.del_nx, St.bump_nx]; omega) | fail)) [a22r2, nul, av_mk]

def I23a (l : List Int) (fn : Bool) (s : St) (n : Nat) (g : Env) (s1 : St) : Prop :=
  ∃ (i : Nat), i ≤ l.length ∧ n = l.length - i ∧ chk (l.take i) (l.drop i) = fn ∧ (i = 0 ∨ l.length ≤ 600) ∧ g.get 0 = .list 1 .none (il l) ∧ g.get 6 = .int .i64 l.length ∧ g.get 7 = .int .i64 i ∧ Kept s s1 ∧ s.nx ≤ s1.nx
def I23b (l : List Int) (i : Nat) (x : Int) (s : St) (n : Nat) (g : Env) (s1 : St) : Prop :=
  ∃ (k : Nat), k ≤ i ∧ n = i - k ∧ ¬ x ∈ l.take k ∧ g.get 0 = .list 1 .none (il l) ∧ g.get 6 = .int .i64 l.length ∧ g.get 7 = .int .i64 i ∧ g.get 3 = .int .i64 i ∧ g.get 21 = .int .i64 i ∧ g.get 22 = .int .i64 k ∧ Kept s s1 ∧ s.nx ≤ s1.nx
theorem p23 (l : List Int) (hlen : l.length ≤ 1000000) : PureC Try.prog 23 [.list 1 .none (il l)] (.bool (decide (l.length ≤ 600) && chk [] l)) := by
  refine PureC.intro fun s => fun_sound mixed Try.func23 Try.call23 c23 rfl (awpFun_go _ _ _ _ ?_)
  generalize hfn : chk [] l = fn
  generalize hres : (decide (l.length ≤ 600) && fn) = res
  simp (implicitDefEqProofs := false) (maxSteps := 2000000) (disch := (first | omega | (simp only [St.new_nx, St.set_nx, St.del_nx, St.bump_nx]; done) | (simp only [St.new_nx, St.set_nx, St.del_nx, St.bump_nx]; omega) | fail)) [a23, a23b, a23r0, a23r1]
  refine go_loop (I23a l fn s) l.length ⟨0, by omega, by omega, by simpa using hfn, .inl rfl, ?_, ?_, ?_, ?_, ?_⟩ ?_
  rotate_right
  · rintro n g s1 ⟨i, hi, rfl, hg, hbig, h0, h6, h7, hk, hn⟩
    by_cases hlt : i < l.length
    · have hx : l[i]? = some l[i] := by simp [hlt]
      have hx' := il_get hx
      have hlt' : (i : Int) < l.length := by omega
      have w2 : IntKind.i64.wrap ((i : Int) + 1) = ((i + 1 : Nat) : Int) := by rw [wrap64 (by omega) (by omega)]; omega
      have hdrop : l.drop i = l[i] :: l.drop (i + 1) := List.drop_eq_getElem_cons hlt
      have hta : l.take (i + 1) = l.take i ++ [l[i]] := by rw [List.take_add_one, hx]; rfl
      rw [hdrop, chk] at hg
      have hbad : (¬ (0 ≤ l[i] ∧ l[i] ≤ 9999) ∨ ¬ l.length ≤ 600 ∨ l[i] ∈ l.take i) → res = false := by
        rw [← hres, ← hg]
        rintro (h | h | h)
        · by_cases k : 0 ≤ l[i]
          · have : ¬ l[i] ≤ 9999 := fun k2 => h ⟨k, k2⟩
            simp [this]
          · simp [k]
        · simp [h]
        · simp [h]
      simp (implicitDefEqProofs := false) (maxSteps := 2000000) (disch := (first | omega | (simp only [St.new_nx, St.set_nx, St.del_nx, St.bump_nx]; done) | (simp only [St.new_nx, St.set_nx, St.del_nx, St.bump_nx]; omega) | fail)) [a23l14, a23r2, a23r3, a23r4, h0, h6, h7, hlt', hlt, hx']
      refine go_pure (p20 l[i]) fun mm6 hm6 => ?_
      try simp only [St.new_nx, St.bump_nx, St.set_nx, St.del_nx] at hm6
      simp (implicitDefEqProofs := false) (maxSteps := 2000000) (disch := (first | omega | (simp only [St.new_nx, St.set_nx, St.del_nx, St.bump_nx]; done) | (simp only [St.new_nx, St.set_nx, St.del_nx, St.bump_nx]; omega) | fail))
      refine ⟨fun k1 k2 => ?_, fun k1 => ?_⟩
      · by_cases h600 : l.length ≤ 600
        · have h600' : ¬ (600 : Int) < l.length := by omega
          simp (implicitDefEqProofs := false) (maxSteps := 2000000) (disch := (first | omega | (simp only [St.new_nx, St.set_nx, St.del_nx, St.bump_nx]; done) | (simp only [St.new_nx, St.set_nx, St.del_nx, St.bump_nx]; omega) | fail)) [h0, h600', a23r6]
          refine go_loop (I23b l i l[i] s) i ⟨0, by omega, by omega, by simp, ?_, ?_, ?_, ?_, ?_, ?_, ?_, ?_⟩ ?_
          rotate_right
          · rintro n g s1 ⟨k, hki, rfl, hnot, h0, h6, h7, h3, h21, h22, hk, hn⟩
            by_cases hlt2 : k < i
            · have hlt2' : (k : Int) < i := by omega
              have hxk : l[k]? = some (l[k]'(by omega)) := by simp
              have hxk' := il_get hxk
              have hkl : (k : Int) < l.length := by omega
              have w3 : IntKind.i64.wrap ((k : Int) + 1) = ((k + 1 : Nat) : Int) := by rw [wrap64 (by omega) (by omega)]; omega
              have htk : l.take (k + 1) = l.take k ++ [l[k]'(by omega)] := by rw [List.take_add_one, hxk]; rfl
              simp (implicitDefEqProofs := false) (maxSteps := 2000000) (disch := (first | omega | (simp only [St.new_nx, St.set_nx, St.del_nx, St.bump_nx]; done) | (simp only [St.new_nx, St.set_nx, St.del_nx, St.bump_nx]; omega) | fail)) [a23l12, a23r7, a23r8, a23r9, a23r10, a23r11, h0, h6, h7, h3, h21, h22, hlt2', hlt', hx', hkl, hxk', w3]
              intro m hm
              refine ⟨fun k3 => ⟨hbad (.inr (.inr ?_)), hk⟩, fun k3 => ?_⟩
              · rw [k3]
                exact List.mem_take_iff_getElem.2 ⟨k, by omega, rfl⟩
              · refine go_next (i - (k + 1)) (by omega) ⟨k + 1, by omega, rfl, ?_, ?_, ?_, ?_, ?_, ?_, ?_, ?_, ?_⟩
                · rw [htk]
                  simp only [List.mem_append, List.mem_singleton, not_or]
                  exact ⟨hnot, k3⟩
                all_goals (try simp (implicitDefEqProofs := false) (maxSteps := 2000000) (disch := (first | omega | (simp only [St.new_nx, St.set_nx, St.del_nx, St.bump_nx]; done) | (simp only [St.new_nx, St.set_nx, St.del_nx, St.bump_nx]; omega) | fail)) [h0, h6, h7, h3, h21, hk])
                all_goals omega
            · have hlt2' : ¬ (k : Int) < i := by omega
              have hki' : k = i := by omega
              subst hki'
              simp (implicitDefEqProofs := false) (maxSteps := 2000000) (disch := (first | omega | (simp only [St.new_nx, St.set_nx, St.del_nx, St.bump_nx]; done) | (simp only [St.new_nx, St.set_nx, St.del_nx, St.bump_nx]; omega) | fail)) [a23l12, a23r7, h0, h6, h7, h3, h21, h22, hlt2', a23r13, w2]
              simp only [k1, k2, hnot, decide_true, decide_false, Bool.not_false, Bool.true_and] at hg
              refine go_next (l.length - (k + 1)) (by omega) ⟨k + 1, by omega, rfl, by rw [hta]; exact hg, .inr h600, ?_, ?_, ?_, ?_, ?_⟩
              all_goals (try simp (implicitDefEqProofs := false) (maxSteps := 2000000) (disch := (first | omega | (simp only [St.new_nx, St.set_nx, St.del_nx, St.bump_nx]; done) | (simp only [St.new_nx, St.set_nx, St.del_nx, St.bump_nx]; omega) | fail)) [h0, h6, h7, hk])
              all_goals omega
          all_goals (try simp (implicitDefEqProofs := false) (maxSteps := 2000000) (disch := (first | omega | (simp only [St.new_nx, St.set_nx, St.del_nx, St.bump_nx]; done) | (simp only [St.new_nx, St.set_nx, St.del_nx, St.bump_nx]; omega) | fail)) [h0, h6, h7, hk])
          all_goals omega
        · have h600' : (600 : Int) < l.length := by omega
          simp (implicitDefEqProofs := false) (maxSteps := 2000000) (disch := (first | omega | (simp only [St.new_nx, St.set_nx, St.del_nx, St.bump_nx]; done) | (simp only [St.new_nx, St.set_nx, St.del_nx, St.bump_nx]; omega) | fail)) [h0, h600', a23r5]
          exact ⟨hbad (.inr (.inl h600)), hk⟩
      · simp (implicitDefEqProofs := false) (maxSteps := 2000000) (disch := (first | omega | (simp only [St.new_nx, St.set_nx, St.del_nx, St.bump_nx]; done) | (simp only [St.new_nx, St.set_nx, St.del_nx, St.bump_nx]; omega) | fail)) [a23r5]
        exact ⟨hbad (.inl (by omega)), hk⟩
    · have hlt' : ¬ (i : Int) < l.length := by omega
      have hdrop : l.drop i = [] := List.drop_eq_nil_of_le (by omega)
      rw [hdrop, chk] at hg
      simp (implicitDefEqProofs := false) (maxSteps := 2000000) (disch := (first | omega | (simp only [St.new_nx, St.set_nx, St.del_nx, St.bump_nx]; done) | (simp only [St.new_nx, St.set_nx, St.del_nx, St.bump_nx]; omega) | fail)) [a23l14, a23r2, h0, h6, h7, hlt', a23r15]
      have : l.length ≤ 600 := by omega
      exact ⟨by rw [← hres, ← hg]; simpa using this, hk⟩
  all_goals (try simp (implicitDefEqProofs := false) (maxSteps := 2000000) (disch := (first | omega | (simp only [St.new_nx, St.set_nx, St.del_nx, St.bump_nx]; done) | (simp only [St.new_nx, St.set_nx, St.del_nx, St.bump_nx]; omega) | fail)))
end Go.AL.Ty
