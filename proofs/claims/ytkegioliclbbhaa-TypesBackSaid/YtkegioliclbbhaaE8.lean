/- The reference: what is proper. -/
import Derived.Test.YtkegioliclbbhaaE7
set_option linter.unusedVariables false
set_option linter.unusedSimpArgs false
namespace Go.AL.Ty
open Go Go.Proofs

/-- The reference counts upwards. -/
def C57 (t : Ty) : Prop := ∀ (d c : Int) (o : Nat) (s : St) (K : AV → St → Prop), 0 ≤ d → d ≤ 100 → 0 ≤ c → c ≤ 600 → s.m o = some (.box [.int .i64 c]) → o < s.nx →
    (∀ m, s.nx ≤ m → K (.bool (gd t d (600 - c)).1) ((s.set o (.box [.int .i64 (600 - (gd t d (600 - c)).2)])).bump m)) → ACalls Try.prog 57 [t.av, .int .i64 d, .ptr o 0] s K


theorem loop57 (ts : List Ty) (ih : ∀ x ∈ ts, C57 x) (d c : Int) (o : Nat) (s : St) (K : AV → St → Prop) (G : Env) (S : St) (hd0 : 0 ≤ d) (hd : d ≤ 50) (hl0 : 0 ≤ c) (hl : c ≤ 600) (hlen : ts.length ≤ 2)
    (h72 : G.get 72 = .list 4 .none (ts.map av)) (h73 : G.get 73 = .int .i64 ts.length) (h74 : G.get 74 = .int .i64 0) (h1 : G.get 1 = .int .i64 d) (h2 : G.get 2 = .ptr o 0)
    (hm : S.m o = some (.box [.int .i64 c])) (hk : KeptX s o S) (hn : s.nx ≤ S.nx) (ho : o < s.nx)
    (hK : ∀ s', s'.m o = some (.box [.int .i64 (600 - (gds ts (d + 1) (600 - c)).2)]) → KeptX s o s' → K (.bool (gds ts (d + 1) (600 - c)).1) s') :
    go (awp Try.prog (.loop a57l29) (blockQ 1 (seqQ Try.prog ((ACode.reg false a57r30).seq .ret) (finQ [.tmp (true, 6)] K))) G S) := by
  refine go_loop (fun n g s1 => ∃ (i : Nat) (l1 : Int), i ≤ ts.length ∧ n = ts.length - i ∧ gds (ts.drop i) (d + 1) (600 - l1) = gds ts (d + 1) (600 - c) ∧ 0 ≤ l1 ∧ l1 ≤ 600 ∧
    g.get 72 = .list 4 .none (ts.map av) ∧ g.get 73 = .int .i64 ts.length ∧ g.get 74 = .int .i64 i ∧ g.get 1 = .int .i64 d ∧ g.get 2 = .ptr o 0 ∧
    s1.m o = some (.box [.int .i64 l1]) ∧ KeptX s o s1 ∧ s.nx ≤ s1.nx) ts.length ⟨0, c, Nat.zero_le _, by simp, by simp, hl0, hl, h72, h73, h74, h1, h2, hm, hk, hn⟩ ?_
  clear h72 h73 h74 h1 h2 hm hk hn
  rintro n g s1 ⟨i, l1, hi, rfl, hg, hl10, hl1, h72, h73, h74, h1, h2, hm, hk, hn⟩
  by_cases hlt : i < ts.length
  · have hx : ts[i]? = some ts[i] := by simp [hlt]
    have hlt' : (i : Int) < ts.length := by omega
    have w1 : IntKind.i64.wrap (d + 1) = d + 1 := wrap64 (by omega) (by omega)
    have w2 : IntKind.i64.wrap ((i : Int) + 1) = ((i + 1 : Nat) : Int) := by rw [wrap64 (by omega) (by omega)]; omega
    have hon : o ≠ s1.nx := by omega
    have hdrop : ts.drop i = ts[i] :: ts.drop (i + 1) := List.drop_eq_getElem_cons hlt
    simp (implicitDefEqProofs := false) (maxSteps := 2000000) (disch := (first | omega | (simp only [St.new_nx, St.set_nx, St.del_nx, St.bump_nx]; done) | (simp only [St.new_nx, St.set_nx, St.del_nx, St.bump_nx]; omega) | fail)) [a57l29, a57r24, a57r25, a57r26, h72, h73, h74, h1, h2, hlt', hlt, hx, w1]
    refine go_calls (ih ts[i] (List.getElem_mem hlt) (d + 1) l1 o _ _ (by omega) (by omega) hl10 hl1 (by simp (implicitDefEqProofs := false) (maxSteps := 2000000) (disch := (first | omega | (simp only [St.new_nx, St.set_nx, St.del_nx, St.bump_nx]; done) | (simp only [St.new_nx, St.set_nx, St.del_nx, St.bump_nx]; omega) | fail)) [hm]) (by simp; omega) fun m hm1 => go_of ?_)
    simp (implicitDefEqProofs := false) (maxSteps := 2000000) (disch := (first | omega | (simp only [St.new_nx, St.set_nx, St.del_nx, St.bump_nx]; done) | (simp only [St.new_nx, St.set_nx, St.del_nx, St.bump_nx]; omega) | fail)) [a57r27, a57r28]
    simp at hm1
    refine ⟨fun hb => ?_, fun hb => ?_⟩
    · rw [hdrop, gds, if_neg (by simp [hb])] at hg
      rw [← hg] at hK
      exact hK _ (by simp (implicitDefEqProofs := false) (maxSteps := 2000000) (disch := (first | omega | (simp only [St.new_nx, St.set_nx, St.del_nx, St.bump_nx]; done) | (simp only [St.new_nx, St.set_nx, St.del_nx, St.bump_nx]; omega) | fail))) (by simp (implicitDefEqProofs := false) (maxSteps := 2000000) (disch := (first | omega | (simp only [St.new_nx, St.set_nx, St.del_nx, St.bump_nx]; done) | (simp only [St.new_nx, St.set_nx, St.del_nx, St.bump_nx]; omega) | fail)) [hk])
    · rw [hdrop, gds, if_pos hb] at hg
      have hbd := gd_bound ts[i] (d + 1) (600 - l1) (by omega)
      have := hbd.2 hb
      simp (implicitDefEqProofs := false) (maxSteps := 2000000) (disch := (first | omega | (simp only [St.new_nx, St.set_nx, St.del_nx, St.bump_nx]; done) | (simp only [St.new_nx, St.set_nx, St.del_nx, St.bump_nx]; omega) | fail)) [h74, w2]
      refine go_next (ts.length - (i + 1)) (by omega) ⟨i + 1, by omega, rfl, 600 - (gd ts[i] (d + 1) (600 - l1)).2, by rw [show (600 : Int) - (600 - (gd ts[i] (d + 1) (600 - l1)).2) = (gd ts[i] (d + 1) (600 - l1)).2 by omega]; exact hg, by omega, by omega, ?_, ?_, ?_, ?_, ?_, ?_, ?_, ?_⟩ <;> (try simp (implicitDefEqProofs := false) (maxSteps := 2000000) (disch := (first | omega | (simp only [St.new_nx, St.set_nx, St.del_nx, St.bump_nx]; done) | (simp only [St.new_nx, St.set_nx, St.del_nx, St.bump_nx]; omega) | fail)) [h72, h73, h74, h1, h2, hk])
      all_goals omega
  · have hlt' : ¬ (i : Int) < ts.length := by omega
    have hdrop : ts.drop i = [] := List.drop_eq_nil_of_le (by omega)
    simp (implicitDefEqProofs := false) (maxSteps := 2000000) (disch := (first | omega | (simp only [St.new_nx, St.set_nx, St.del_nx, St.bump_nx]; done) | (simp only [St.new_nx, St.set_nx, St.del_nx, St.bump_nx]; omega) | fail)) [a57l29, a57r24, h72, h73, h74, h1, h2, hlt', a57r30]
    rw [hdrop, gds] at hg
    rw [← hg] at hK
    simp only at hK
    rw [show (600 : Int) - (600 - l1) = l1 by omega] at hK
    exact hK _ hm hk

theorem tail57 (t : Ty) (ih : ∀ x ∈ t.args, C57 x) (d c : Int) (o oT : Nat) (s : St) (K : AV → St → Prop) (G : Env) (S : St) (hd0 : 0 ≤ d) (hd : d ≤ 40) (hl0 : 0 ≤ c) (hl : c ≤ 600)
    (h7 : G.get 7 = .int .i64 (kids t.op)) (h3 : G.get 3 = .ptr oT 0) (h1 : G.get 1 = .int .i64 d) (h2 : G.get 2 = .ptr o 0) (h6 : G.get 6 = .bool false)
    (hT : S.m oT = some (.box [.int .i64 t.op, .int .i64 t.n, .str t.s, .list 4 .none (t.args.map av)]))
    (hm : S.m o = some (.box [.int .i64 c])) (hk : KeptX s o S) (hn : s.nx ≤ S.nx) (ho : o < s.nx)
    (hK1 : (t.args.length : Int) ≠ kids t.op → ∀ s', s'.m o = some (.box [.int .i64 c]) → KeptX s o s' → K (.bool false) s')
    (hK2 : (t.args.length : Int) = kids t.op → ∀ s', s'.m o = some (.box [.int .i64 (600 - (gds t.args (d + 1) (600 - c)).2)]) → KeptX s o s' → K (.bool (gds t.args (d + 1) (600 - c)).1) s') :
    go (aops Try.prog a57r21 (regQ (seqQ Try.prog (.cond (.g 70) (.seq (.reg false a57r22) .ret) .skip) (seqQ Try.prog (.seq (.seq (.reg false a57r23) (.block 1 (.loop a57l29))) (.seq (.reg false a57r30) .ret)) (finQ [.tmp (true, 6)] K)))) G [] S) := by
  have hk2 : kids t.op ≤ 2 := by unfold kids; split <;> omega
  simp (implicitDefEqProofs := false) (maxSteps := 2000000) (disch := (first | omega | (simp only [St.new_nx, St.set_nx, St.del_nx, St.bump_nx]; done) | (simp only [St.new_nx, St.set_nx, St.del_nx, St.bump_nx]; omega) | fail)) [a57r21, a57r22, a57r23, h3, hT, h7]
  refine ⟨fun hne => hK1 (by omega) _ hm hk, fun he => ?_⟩
  refine loop57 t.args ih d c o s K _ _ hd0 (by omega) hl0 hl (by omega) ?_ ?_ ?_ ?_ ?_ hm hk hn ho (hK2 he) <;> simp (implicitDefEqProofs := false) (maxSteps := 2000000) (disch := (first | omega | (simp only [St.new_nx, St.set_nx, St.del_nx, St.bump_nx]; done) | (simp only [St.new_nx, St.set_nx, St.del_nx, St.bump_nx]; omega) | fail)) [h1, h2]

theorem p57 (t : Ty) : C57 t := by
  induction t using Ty.ind with
  | h t ih =>
    intro d c o s K hd0 hd hc0 hc hm ho hK
    refine ACalls.upd ho ?_ hK
    clear hK K
    refine fun_sound mixed Try.func57 Try.call57 c57 rfl (awpFun_go _ _ _ _ ?_)
    have hon : o ≠ s.nx := by omega
    have w1 : IntKind.i64.wrap (c + 1) = c + 1 := wrap64 (by omega) (by omega)
    simp (implicitDefEqProofs := false) (maxSteps := 2000000) (disch := (first | omega | (simp only [St.new_nx, St.set_nx, St.del_nx, St.bump_nx]; done) | (simp only [St.new_nx, St.set_nx, St.del_nx, St.bump_nx]; omega) | fail)) [a57, a57b, a57r0, a57r1, a57r2, a57r3, a57r4, a57r5, hm, w1]
    refine ⟨fun hc1 => ⟨fun hd1 => ?_, fun hd1 => ?_⟩, fun hc1 => ?_⟩
    · rw [gd_eq, if_pos (by omega)]; exact ⟨rfl, by simp only; omega⟩
    rotate_left
    · rw [gd_eq, if_pos (by omega)]; exact ⟨rfl, by simp only; omega⟩
    by_cases h167 : t.op = 1 ∨ t.op = 6 ∨ t.op = 7
    · rcases h167 with hop | hop | hop
      · have hkid : kids t.op = 0 := by rw [hop]; rfl
        have hnum : isNum t.op = true := by rw [hop]; rfl
        simp (implicitDefEqProofs := false) (maxSteps := 2000000) (disch := (first | omega | (simp only [St.new_nx, St.set_nx, St.del_nx, St.bump_nx]; done) | (simp only [St.new_nx, St.set_nx, St.del_nx, St.bump_nx]; omega) | fail)) [hop, a57r6, a57r7, a57r8, a57r9, a57r10]
        refine go_pure (p20 _) fun m hm => ?_
        simp only [St.new_nx, St.set_nx, St.bump_nx] at hm
        simp (implicitDefEqProofs := false) (maxSteps := 2000000) (disch := (first | omega | (simp only [St.new_nx, St.set_nx, St.del_nx, St.bump_nx]; done) | (simp only [St.new_nx, St.set_nx, St.del_nx, St.bump_nx]; omega) | fail))
        refine ⟨fun h0 h9 => ⟨fun hs => ?_, fun hs => ?_⟩, fun hn => ?_⟩
        · rw [gd_eq, if_neg (by omega)]
          by_cases hl : t.op < 1 ∨ 7 < t.op ∨ (t.args.length : Int) ≠ kids t.op
          · rw [if_pos hl]; exact ⟨rfl, by simp only; omega⟩
          · rw [if_neg hl, if_neg (by rw [hnum]; simp; omega), if_pos (by left; simp [hop, hs])]; exact ⟨rfl, by simp only; omega⟩
        · refine tail57 t ih d (c + 1) o s.nx s _ _ _ hd0 hd1 (by omega) (by omega) ?_ ?_ ?_ ?_ ?_ ?_ ?_ ?_ ?_ ho ?_ ?_
          rotate_right 2
          · intro hne s' k1 k2
            rw [gd_eq, if_neg (by omega), if_pos (by right; right; exact hne)]
            exact ⟨by simp, by rw [k1]; simp; omega, k2⟩
          · intro he s' k1 k2
            rw [gd_eq, if_neg (by omega), if_neg (by omega), if_neg (by rw [hnum]; simp; omega), if_neg (by simp [hop, hs]; decide), show (600 - c - 1 : Int) = 600 - (c + 1) by omega]
            exact ⟨by simp, k1, k2⟩
          all_goals (try simp (implicitDefEqProofs := false) (maxSteps := 2000000) (disch := (first | omega | (simp only [St.new_nx, St.set_nx, St.del_nx, St.bump_nx]; done) | (simp only [St.new_nx, St.set_nx, St.del_nx, St.bump_nx]; omega) | fail)) [hkid, hop])
          all_goals (have hkk : kids 1 = 0 ∧ kids 6 = 0 ∧ kids 7 = 0 := ⟨rfl, rfl, rfl⟩)
          all_goals omega
        · rw [gd_eq, if_neg (by omega)]
          by_cases hl : t.op < 1 ∨ 7 < t.op ∨ (t.args.length : Int) ≠ kids t.op
          · rw [if_pos hl]; exact ⟨rfl, by simp only; omega⟩
          · rw [if_neg hl, if_pos (by omega)]; exact ⟨rfl, by simp only; omega⟩
      · have hkid : kids t.op = 0 := by rw [hop]; rfl
        have hnum : isNum t.op = true := by rw [hop]; rfl
        simp (implicitDefEqProofs := false) (maxSteps := 2000000) (disch := (first | omega | (simp only [St.new_nx, St.set_nx, St.del_nx, St.bump_nx]; done) | (simp only [St.new_nx, St.set_nx, St.del_nx, St.bump_nx]; omega) | fail)) [hop, a57r6, a57r7, a57r8, a57r9, a57r10]
        refine go_pure (p20 _) fun m hm => ?_
        simp only [St.new_nx, St.set_nx, St.bump_nx] at hm
        simp (implicitDefEqProofs := false) (maxSteps := 2000000) (disch := (first | omega | (simp only [St.new_nx, St.set_nx, St.del_nx, St.bump_nx]; done) | (simp only [St.new_nx, St.set_nx, St.del_nx, St.bump_nx]; omega) | fail))
        refine ⟨fun h0 h9 => ⟨fun hs => ?_, fun hs => ?_⟩, fun hn => ?_⟩
        · rw [gd_eq, if_neg (by omega)]
          by_cases hl : t.op < 1 ∨ 7 < t.op ∨ (t.args.length : Int) ≠ kids t.op
          · rw [if_pos hl]; exact ⟨rfl, by simp only; omega⟩
          · rw [if_neg hl, if_neg (by rw [hnum]; simp; omega), if_pos (by left; simp [hop, hs])]; exact ⟨rfl, by simp only; omega⟩
        · refine tail57 t ih d (c + 1) o s.nx s _ _ _ hd0 hd1 (by omega) (by omega) ?_ ?_ ?_ ?_ ?_ ?_ ?_ ?_ ?_ ho ?_ ?_
          rotate_right 2
          · intro hne s' k1 k2
            rw [gd_eq, if_neg (by omega), if_pos (by right; right; exact hne)]
            exact ⟨by simp, by rw [k1]; simp; omega, k2⟩
          · intro he s' k1 k2
            rw [gd_eq, if_neg (by omega), if_neg (by omega), if_neg (by rw [hnum]; simp; omega), if_neg (by simp [hop, hs]; decide), show (600 - c - 1 : Int) = 600 - (c + 1) by omega]
            exact ⟨by simp, k1, k2⟩
          all_goals (try simp (implicitDefEqProofs := false) (maxSteps := 2000000) (disch := (first | omega | (simp only [St.new_nx, St.set_nx, St.del_nx, St.bump_nx]; done) | (simp only [St.new_nx, St.set_nx, St.del_nx, St.bump_nx]; omega) | fail)) [hkid, hop])
          all_goals (have hkk : kids 1 = 0 ∧ kids 6 = 0 ∧ kids 7 = 0 := ⟨rfl, rfl, rfl⟩)
          all_goals omega
        · rw [gd_eq, if_neg (by omega)]
          by_cases hl : t.op < 1 ∨ 7 < t.op ∨ (t.args.length : Int) ≠ kids t.op
          · rw [if_pos hl]; exact ⟨rfl, by simp only; omega⟩
          · rw [if_neg hl, if_pos (by omega)]; exact ⟨rfl, by simp only; omega⟩
      · have hkid : kids t.op = 0 := by rw [hop]; rfl
        have hnum : isNum t.op = true := by rw [hop]; rfl
        simp (implicitDefEqProofs := false) (maxSteps := 2000000) (disch := (first | omega | (simp only [St.new_nx, St.set_nx, St.del_nx, St.bump_nx]; done) | (simp only [St.new_nx, St.set_nx, St.del_nx, St.bump_nx]; omega) | fail)) [hop, a57r6, a57r7, a57r8, a57r9, a57r10]
        refine go_pure (p20 _) fun m hm => ?_
        simp only [St.new_nx, St.set_nx, St.bump_nx] at hm
        simp (implicitDefEqProofs := false) (maxSteps := 2000000) (disch := (first | omega | (simp only [St.new_nx, St.set_nx, St.del_nx, St.bump_nx]; done) | (simp only [St.new_nx, St.set_nx, St.del_nx, St.bump_nx]; omega) | fail))
        refine ⟨fun h0 h9 => ⟨fun hs => ?_, fun hs => ?_⟩, fun hn => ?_⟩
        · rw [gd_eq, if_neg (by omega)]
          by_cases hl : t.op < 1 ∨ 7 < t.op ∨ (t.args.length : Int) ≠ kids t.op
          · rw [if_pos hl]; exact ⟨rfl, by simp only; omega⟩
          · rw [if_neg hl, if_neg (by rw [hnum]; simp; omega), if_pos (by left; simp [hop, hs])]; exact ⟨rfl, by simp only; omega⟩
        · refine tail57 t ih d (c + 1) o s.nx s _ _ _ hd0 hd1 (by omega) (by omega) ?_ ?_ ?_ ?_ ?_ ?_ ?_ ?_ ?_ ho ?_ ?_
          rotate_right 2
          · intro hne s' k1 k2
            rw [gd_eq, if_neg (by omega), if_pos (by right; right; exact hne)]
            exact ⟨by simp, by rw [k1]; simp; omega, k2⟩
          · intro he s' k1 k2
            rw [gd_eq, if_neg (by omega), if_neg (by omega), if_neg (by rw [hnum]; simp; omega), if_neg (by simp [hop, hs]; decide), show (600 - c - 1 : Int) = 600 - (c + 1) by omega]
            exact ⟨by simp, k1, k2⟩
          all_goals (try simp (implicitDefEqProofs := false) (maxSteps := 2000000) (disch := (first | omega | (simp only [St.new_nx, St.set_nx, St.del_nx, St.bump_nx]; done) | (simp only [St.new_nx, St.set_nx, St.del_nx, St.bump_nx]; omega) | fail)) [hkid, hop])
          all_goals (have hkk : kids 1 = 0 ∧ kids 6 = 0 ∧ kids 7 = 0 := ⟨rfl, rfl, rfl⟩)
          all_goals omega
        · rw [gd_eq, if_neg (by omega)]
          by_cases hl : t.op < 1 ∨ 7 < t.op ∨ (t.args.length : Int) ≠ kids t.op
          · rw [if_pos hl]; exact ⟨rfl, by simp only; omega⟩
          · rw [if_neg hl, if_pos (by omega)]; exact ⟨rfl, by simp only; omega⟩
    · have n1 : ¬ t.op = 1 := fun h => h167 (.inl h)
      have n6 : ¬ t.op = 6 := fun h => h167 (.inr (.inl h))
      have n7 : ¬ t.op = 7 := fun h => h167 (.inr (.inr h))
      have hnum : isNum t.op = false := by simp [isNum, n1, n6, n7]
      by_cases hop : t.op = 2
      · have hkid : kids t.op = 0 := by rw [hop]; rfl
        simp (implicitDefEqProofs := false) (maxSteps := 2000000) (disch := (first | omega | (simp only [St.new_nx, St.set_nx, St.del_nx, St.bump_nx]; done) | (simp only [St.new_nx, St.set_nx, St.del_nx, St.bump_nx]; omega) | fail)) [hop, a57r6, a57r7, a57r8, a57r11, a57r12, a57r13, a57r14, a57r15, a57r16, a57r17, a57r18, a57r19, a57r20]
        refine ⟨fun h0 => ⟨fun hs => ⟨fun hz => ?_, fun hz => ?_⟩, fun hs => ?_⟩, fun h0 => ?_⟩
        · rw [gd_eq, if_neg (by omega)]
          by_cases hl : t.op < 1 ∨ 7 < t.op ∨ (t.args.length : Int) ≠ kids t.op
          · rw [if_pos hl]; exact ⟨rfl, by simp only; omega⟩
          · rw [if_neg hl, if_neg (by omega), if_pos (by right; omega)]; exact ⟨rfl, by simp only; omega⟩
        · refine tail57 t ih d (c + 1) o s.nx s _ _ _ hd0 hd1 (by omega) (by omega) ?_ ?_ ?_ ?_ ?_ ?_ ?_ ?_ ?_ ho ?_ ?_
          rotate_right 2
          · intro hne s' k1 k2
            rw [gd_eq, if_neg (by omega), if_pos (by right; right; exact hne)]
            exact ⟨by simp, by rw [k1]; simp; omega, k2⟩
          · intro he s' k1 k2
            rw [gd_eq, if_neg (by omega), if_neg (by omega), if_neg (by omega), if_neg (by simp [hop, hs]; omega), show (600 - c - 1 : Int) = 600 - (c + 1) by omega]
            exact ⟨by simp, k1, k2⟩
          all_goals (try simp (implicitDefEqProofs := false) (maxSteps := 2000000) (disch := (first | omega | (simp only [St.new_nx, St.set_nx, St.del_nx, St.bump_nx]; done) | (simp only [St.new_nx, St.set_nx, St.del_nx, St.bump_nx]; omega) | fail)) [hkid, hop])
          all_goals (have hkk : kids 2 = 0 ∧ kids 3 = 2 ∧ kids 4 = 2 ∧ kids 5 = 2 := ⟨rfl, rfl, rfl, rfl⟩)
          all_goals omega
        · rw [gd_eq, if_neg (by omega)]
          by_cases hl : t.op < 1 ∨ 7 < t.op ∨ (t.args.length : Int) ≠ kids t.op
          · rw [if_pos hl]; exact ⟨rfl, by simp only; omega⟩
          · rw [if_neg hl, if_neg (by omega), if_pos (by left; simp [hop, hs])]; exact ⟨rfl, by simp only; omega⟩
        · rw [gd_eq, if_neg (by omega)]
          by_cases hl : t.op < 1 ∨ 7 < t.op ∨ (t.args.length : Int) ≠ kids t.op
          · rw [if_pos hl]; exact ⟨rfl, by simp only; omega⟩
          · rw [if_neg hl, if_pos (by right; right; exact ⟨h0, hnum⟩)]; exact ⟨rfl, by simp only; omega⟩
      by_cases h345 : t.op = 3 ∨ t.op = 4 ∨ t.op = 5
      · rcases h345 with hop | hop | hop
        · have hkid : kids t.op = 2 := by rw [hop]; rfl
          simp (implicitDefEqProofs := false) (maxSteps := 2000000) (disch := (first | omega | (simp only [St.new_nx, St.set_nx, St.del_nx, St.bump_nx]; done) | (simp only [St.new_nx, St.set_nx, St.del_nx, St.bump_nx]; omega) | fail)) [hop, a57r6, a57r7, a57r8, a57r11, a57r12, a57r13, a57r14, a57r15, a57r16, a57r17, a57r18, a57r19, a57r20]
          refine ⟨fun h0 => ⟨fun hs => ?_, fun hs => ?_⟩, fun h0 => ?_⟩
          · rw [gd_eq, if_neg (by omega)]
            by_cases hl : t.op < 1 ∨ 7 < t.op ∨ (t.args.length : Int) ≠ kids t.op
            · rw [if_pos hl]; exact ⟨rfl, by simp only; omega⟩
            · rw [if_neg hl, if_neg (by omega), if_pos (by left; simp [hop, hs])]; exact ⟨rfl, by simp only; omega⟩
          · refine tail57 t ih d (c + 1) o s.nx s _ _ _ hd0 hd1 (by omega) (by omega) ?_ ?_ ?_ ?_ ?_ ?_ ?_ ?_ ?_ ho ?_ ?_
            rotate_right 2
            · intro hne s' k1 k2
              rw [gd_eq, if_neg (by omega), if_pos (by right; right; exact hne)]
              exact ⟨by simp, by rw [k1]; simp; omega, k2⟩
            · intro he s' k1 k2
              rw [gd_eq, if_neg (by omega), if_neg (by omega), if_neg (by omega), if_neg (by simp [hop, hs]; decide), show (600 - c - 1 : Int) = 600 - (c + 1) by omega]
              exact ⟨by simp, k1, k2⟩
            all_goals (try simp (implicitDefEqProofs := false) (maxSteps := 2000000) (disch := (first | omega | (simp only [St.new_nx, St.set_nx, St.del_nx, St.bump_nx]; done) | (simp only [St.new_nx, St.set_nx, St.del_nx, St.bump_nx]; omega) | fail)) [hkid, hop])
            all_goals (have hkk : kids 2 = 0 ∧ kids 3 = 2 ∧ kids 4 = 2 ∧ kids 5 = 2 := ⟨rfl, rfl, rfl, rfl⟩)
            all_goals omega
          · rw [gd_eq, if_neg (by omega)]
            by_cases hl : t.op < 1 ∨ 7 < t.op ∨ (t.args.length : Int) ≠ kids t.op
            · rw [if_pos hl]; exact ⟨rfl, by simp only; omega⟩
            · rw [if_neg hl, if_pos (by right; right; exact ⟨h0, hnum⟩)]; exact ⟨rfl, by simp only; omega⟩
        · have hkid : kids t.op = 2 := by rw [hop]; rfl
          simp (implicitDefEqProofs := false) (maxSteps := 2000000) (disch := (first | omega | (simp only [St.new_nx, St.set_nx, St.del_nx, St.bump_nx]; done) | (simp only [St.new_nx, St.set_nx, St.del_nx, St.bump_nx]; omega) | fail)) [hop, a57r6, a57r7, a57r8, a57r11, a57r12, a57r13, a57r14, a57r15, a57r16, a57r17, a57r18, a57r19, a57r20]
          refine ⟨fun h0 => ⟨fun hs => ?_, fun hs => ?_⟩, fun h0 => ?_⟩
          · rw [gd_eq, if_neg (by omega)]
            by_cases hl : t.op < 1 ∨ 7 < t.op ∨ (t.args.length : Int) ≠ kids t.op
            · rw [if_pos hl]; exact ⟨rfl, by simp only; omega⟩
            · rw [if_neg hl, if_neg (by omega), if_pos (by left; simp [hop, hs])]; exact ⟨rfl, by simp only; omega⟩
          · refine tail57 t ih d (c + 1) o s.nx s _ _ _ hd0 hd1 (by omega) (by omega) ?_ ?_ ?_ ?_ ?_ ?_ ?_ ?_ ?_ ho ?_ ?_
            rotate_right 2
            · intro hne s' k1 k2
              rw [gd_eq, if_neg (by omega), if_pos (by right; right; exact hne)]
              exact ⟨by simp, by rw [k1]; simp; omega, k2⟩
            · intro he s' k1 k2
              rw [gd_eq, if_neg (by omega), if_neg (by omega), if_neg (by omega), if_neg (by simp [hop, hs]; decide), show (600 - c - 1 : Int) = 600 - (c + 1) by omega]
              exact ⟨by simp, k1, k2⟩
            all_goals (try simp (implicitDefEqProofs := false) (maxSteps := 2000000) (disch := (first | omega | (simp only [St.new_nx, St.set_nx, St.del_nx, St.bump_nx]; done) | (simp only [St.new_nx, St.set_nx, St.del_nx, St.bump_nx]; omega) | fail)) [hkid, hop])
            all_goals (have hkk : kids 2 = 0 ∧ kids 3 = 2 ∧ kids 4 = 2 ∧ kids 5 = 2 := ⟨rfl, rfl, rfl, rfl⟩)
            all_goals omega
          · rw [gd_eq, if_neg (by omega)]
            by_cases hl : t.op < 1 ∨ 7 < t.op ∨ (t.args.length : Int) ≠ kids t.op
            · rw [if_pos hl]; exact ⟨rfl, by simp only; omega⟩
            · rw [if_neg hl, if_pos (by right; right; exact ⟨h0, hnum⟩)]; exact ⟨rfl, by simp only; omega⟩
        · have hkid : kids t.op = 2 := by rw [hop]; rfl
          simp (implicitDefEqProofs := false) (maxSteps := 2000000) (disch := (first | omega | (simp only [St.new_nx, St.set_nx, St.del_nx, St.bump_nx]; done) | (simp only [St.new_nx, St.set_nx, St.del_nx, St.bump_nx]; omega) | fail)) [hop, a57r6, a57r7, a57r8, a57r11, a57r12, a57r13, a57r14, a57r15, a57r16, a57r17, a57r18, a57r19, a57r20]
          refine ⟨fun h0 => ⟨fun hs => ?_, fun hs => ?_⟩, fun h0 => ?_⟩
          · rw [gd_eq, if_neg (by omega)]
            by_cases hl : t.op < 1 ∨ 7 < t.op ∨ (t.args.length : Int) ≠ kids t.op
            · rw [if_pos hl]; exact ⟨rfl, by simp only; omega⟩
            · rw [if_neg hl, if_neg (by omega), if_pos (by left; simp [hop, hs])]; exact ⟨rfl, by simp only; omega⟩
          · refine tail57 t ih d (c + 1) o s.nx s _ _ _ hd0 hd1 (by omega) (by omega) ?_ ?_ ?_ ?_ ?_ ?_ ?_ ?_ ?_ ho ?_ ?_
            rotate_right 2
            · intro hne s' k1 k2
              rw [gd_eq, if_neg (by omega), if_pos (by right; right; exact hne)]
              exact ⟨by simp, by rw [k1]; simp; omega, k2⟩
            · intro he s' k1 k2
              rw [gd_eq, if_neg (by omega), if_neg (by omega), if_neg (by omega), if_neg (by simp [hop, hs]; decide), show (600 - c - 1 : Int) = 600 - (c + 1) by omega]
              exact ⟨by simp, k1, k2⟩
            all_goals (try simp (implicitDefEqProofs := false) (maxSteps := 2000000) (disch := (first | omega | (simp only [St.new_nx, St.set_nx, St.del_nx, St.bump_nx]; done) | (simp only [St.new_nx, St.set_nx, St.del_nx, St.bump_nx]; omega) | fail)) [hkid, hop])
            all_goals (have hkk : kids 2 = 0 ∧ kids 3 = 2 ∧ kids 4 = 2 ∧ kids 5 = 2 := ⟨rfl, rfl, rfl, rfl⟩)
            all_goals omega
          · rw [gd_eq, if_neg (by omega)]
            by_cases hl : t.op < 1 ∨ 7 < t.op ∨ (t.args.length : Int) ≠ kids t.op
            · rw [if_pos hl]; exact ⟨rfl, by simp only; omega⟩
            · rw [if_neg hl, if_pos (by right; right; exact ⟨h0, hnum⟩)]; exact ⟨rfl, by simp only; omega⟩
      · have n3 : ¬ t.op = 3 := fun h => h345 (.inl h)
        have n4 : ¬ t.op = 4 := fun h => h345 (.inr (.inl h))
        have n5 : ¬ t.op = 5 := fun h => h345 (.inr (.inr h))
        simp (implicitDefEqProofs := false) (maxSteps := 2000000) (disch := (first | omega | (simp only [St.new_nx, St.set_nx, St.del_nx, St.bump_nx]; done) | (simp only [St.new_nx, St.set_nx, St.del_nx, St.bump_nx]; omega) | fail)) [a57r6, a57r7, a57r8, a57r11, a57r12, a57r13, a57r14, a57r15, a57r16, a57r17, a57r18, a57r19, a57r20, n1, n6, n7, hop, n3, n4, n5]
        rw [gd_eq, if_neg (by omega), if_pos (by omega)]
        exact ⟨rfl, by simp only; omega⟩
end Go.AL.Ty
