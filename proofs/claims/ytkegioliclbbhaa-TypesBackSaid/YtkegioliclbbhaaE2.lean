/- What is proper. -/
import Derived.Test.YtkegioliclbbhaaE1
set_option linter.unusedVariables false
set_option linter.unusedSimpArgs false
namespace Go.AL.Ty
open Go Go.Proofs

mutual
def gd : Ty → Int → Int → Bool × Int
  | mk op n s args, d, l =>
    if l - 1 < 0 ∨ 40 < d then (false, l - 1)
    else if op < 1 ∨ 7 < op ∨ (args.length : Int) ≠ kids op then (false, l - 1)
    else if n < 0 ∨ 9999 < n ∨ n ≠ 0 ∧ isNum op = false then (false, l - 1)
    else if ¬ (op = 2 ↔ s ≠ ⟨#[]⟩) ∨ 40 < s.size then (false, l - 1)
    else gds args (d + 1) (l - 1)
def gds : List Ty → Int → Int → Bool × Int
  | [], _, l => (true, l)
  | t :: ts, d, l => if (gd t d l).1 then gds ts d (gd t d l).2 else (false, (gd t d l).2)
end
theorem gd_eq (t : Ty) (d l : Int) : gd t d l =
    if l - 1 < 0 ∨ 40 < d then (false, l - 1)
    else if t.op < 1 ∨ 7 < t.op ∨ (t.args.length : Int) ≠ kids t.op then (false, l - 1)
    else if t.n < 0 ∨ 9999 < t.n ∨ t.n ≠ 0 ∧ isNum t.op = false then (false, l - 1)
    else if ¬ (t.op = 2 ↔ t.s ≠ ⟨#[]⟩) ∨ 40 < t.s.size then (false, l - 1)
    else gds t.args (d + 1) (l - 1) := by cases t; rw [gd]; rfl

theorem gds_bound : ∀ (ts : List Ty) (d l : Int), (∀ x ∈ ts, ∀ d l, 0 ≤ l → (gd x d l).2 ≤ l ∧ ((gd x d l).1 = true → 0 ≤ (gd x d l).2)) → 0 ≤ l → (gds ts d l).2 ≤ l ∧ ((gds ts d l).1 = true → 0 ≤ (gds ts d l).2)
  | [], d, l, _, hl => by simp [gds, hl]
  | t :: ts, d, l, h, hl => by
    have h1 := h t (by simp) d l hl
    simp only [gds]
    split
    · rename_i hb
      have h2 := gds_bound ts d (gd t d l).2 (fun x hx => h x (by simp [hx])) (h1.2 hb)
      exact ⟨by omega, h2.2⟩
    · exact ⟨h1.1, by simp⟩
theorem gd_bound (t : Ty) : ∀ d l, 0 ≤ l → (gd t d l).2 ≤ l ∧ ((gd t d l).1 = true → 0 ≤ (gd t d l).2) := by
  induction t using Ty.ind with
  | h t ih =>
    intro d l hl
    rw [gd_eq]
    split
    · simp; omega
    split
    · simp; omega
    split
    · simp; omega
    split
    · simp; omega
    · rename_i h1 _ _ _
      have := gds_bound t.args (d + 1) (l - 1) ih (by omega)
      exact ⟨by omega, this.2⟩

def C95 (t : Ty) : Prop := ∀ (d l : Int) (o : Nat) (s : St) (K : AV → St → Prop), 0 ≤ d → d ≤ 100 → 0 ≤ l → l ≤ 1000 → s.m o = some (.box [.int .i64 l]) → o < s.nx →
    (∀ m, s.nx ≤ m → K (.bool (gd t d l).1) ((s.set o (.box [.int .i64 (gd t d l).2])).bump m)) → ACalls Try.prog 95 [t.av, .int .i64 d, .ptr o 0] s K

theorem loop95 (ts : List Ty) (ih : ∀ x ∈ ts, C95 x) (d l : Int) (o : Nat) (s : St) (K : AV → St → Prop) (G : Env) (S : St) (hd0 : 0 ≤ d) (hd : d ≤ 50) (hl0 : 0 ≤ l) (hl : l ≤ 1000) (hlen : ts.length ≤ 2)
    (h72 : G.get 72 = .list 4 .none (ts.map av)) (h73 : G.get 73 = .int .i64 ts.length) (h74 : G.get 74 = .int .i64 0) (h1 : G.get 1 = .int .i64 d) (h2 : G.get 2 = .ptr o 0)
    (hm : S.m o = some (.box [.int .i64 l])) (hk : KeptX s o S) (hn : s.nx ≤ S.nx) (ho : o < s.nx)
    (hK : ∀ s', s'.m o = some (.box [.int .i64 (gds ts (d + 1) l).2]) → KeptX s o s' → K (.bool (gds ts (d + 1) l).1) s') :
    go (awp Try.prog (.loop a95l16) (blockQ 0 (seqQ Try.prog ((ACode.reg false a95r17).seq .ret) (finQ [.tmp (true, 6)] K))) G S) := by
  refine go_loop (fun n g s1 => ∃ (i : Nat) (l1 : Int), i ≤ ts.length ∧ n = ts.length - i ∧ gds (ts.drop i) (d + 1) l1 = gds ts (d + 1) l ∧ 0 ≤ l1 ∧ l1 ≤ 1000 ∧
    g.get 72 = .list 4 .none (ts.map av) ∧ g.get 73 = .int .i64 ts.length ∧ g.get 74 = .int .i64 i ∧ g.get 1 = .int .i64 d ∧ g.get 2 = .ptr o 0 ∧
    s1.m o = some (.box [.int .i64 l1]) ∧ KeptX s o s1 ∧ s.nx ≤ s1.nx) ts.length ⟨0, l, Nat.zero_le _, by simp, by simp, hl0, hl, h72, h73, h74, h1, h2, hm, hk, hn⟩ ?_
  clear h72 h73 h74 h1 h2 hm hk hn
  rintro n g s1 ⟨i, l1, hi, rfl, hg, hl10, hl1, h72, h73, h74, h1, h2, hm, hk, hn⟩
  by_cases hlt : i < ts.length
  · have hx : ts[i]? = some ts[i] := by simp [hlt]
    have hlt' : (i : Int) < ts.length := by omega
    have w1 : IntKind.i64.wrap (d + 1) = d + 1 := wrap64 (by omega) (by omega)
    have w2 : IntKind.i64.wrap ((i : Int) + 1) = ((i + 1 : Nat) : Int) := by rw [wrap64 (by omega) (by omega)]; omega
    have hon : o ≠ s1.nx := by omega
    have hdrop : ts.drop i = ts[i] :: ts.drop (i + 1) := List.drop_eq_getElem_cons hlt
    simp (implicitDefEqProofs := false) (maxSteps := 2000000) (disch := (first | omega | (simp only [St.new_nx, St.set_nx, St.del_nx, St.bump_nx]; done) | (simp only [St.new_nx, St.set_nx, St.del_nx, St.bump_nx]; omega) | fail)) [a95l16, a95r11, a95r12, a95r13, h72, h73, h74, h1, h2, hlt', hlt, hx, w1]
    refine go_calls (ih ts[i] (List.getElem_mem hlt) (d + 1) l1 o _ _ (by omega) (by omega) hl10 hl1 (by simp (implicitDefEqProofs := false) (maxSteps := 2000000) (disch := (first | omega | (simp only [St.new_nx, St.set_nx, St.del_nx, St.bump_nx]; done) | (simp only [St.new_nx, St.set_nx, St.del_nx, St.bump_nx]; omega) | fail)) [hm]) (by simp; omega) fun m hm1 => go_of ?_)
    simp (implicitDefEqProofs := false) (maxSteps := 2000000) (disch := (first | omega | (simp only [St.new_nx, St.set_nx, St.del_nx, St.bump_nx]; done) | (simp only [St.new_nx, St.set_nx, St.del_nx, St.bump_nx]; omega) | fail)) [a95r14, a95r15]
    simp at hm1
    refine ⟨fun hb => ?_, fun hb => ?_⟩
    · rw [hdrop, gds, if_neg (by simp [hb])] at hg
      rw [← hg] at hK
      exact hK _ (by simp (implicitDefEqProofs := false) (maxSteps := 2000000) (disch := (first | omega | (simp only [St.new_nx, St.set_nx, St.del_nx, St.bump_nx]; done) | (simp only [St.new_nx, St.set_nx, St.del_nx, St.bump_nx]; omega) | fail))) (by simp (implicitDefEqProofs := false) (maxSteps := 2000000) (disch := (first | omega | (simp only [St.new_nx, St.set_nx, St.del_nx, St.bump_nx]; done) | (simp only [St.new_nx, St.set_nx, St.del_nx, St.bump_nx]; omega) | fail)) [hk])
    · rw [hdrop, gds, if_pos hb] at hg
      have hbd := gd_bound ts[i] (d + 1) l1 hl10
      have := hbd.2 hb
      simp (implicitDefEqProofs := false) (maxSteps := 2000000) (disch := (first | omega | (simp only [St.new_nx, St.set_nx, St.del_nx, St.bump_nx]; done) | (simp only [St.new_nx, St.set_nx, St.del_nx, St.bump_nx]; omega) | fail)) [h74, w2]
      refine go_next (ts.length - (i + 1)) (by omega) ⟨i + 1, by omega, rfl, (gd ts[i] (d + 1) l1).2, hg, this, by omega, ?_, ?_, ?_, ?_, ?_, ?_, ?_, ?_⟩ <;> simp (implicitDefEqProofs := false) (maxSteps := 2000000) (disch := (first | omega | (simp only [St.new_nx, St.set_nx, St.del_nx, St.bump_nx]; done) | (simp only [St.new_nx, St.set_nx, St.del_nx, St.bump_nx]; omega) | fail)) [h72, h73, h74, h1, h2, hk]
      omega
  · have hlt' : ¬ (i : Int) < ts.length := by omega
    have hdrop : ts.drop i = [] := List.drop_eq_nil_of_le (by omega)
    simp (implicitDefEqProofs := false) (maxSteps := 2000000) (disch := (first | omega | (simp only [St.new_nx, St.set_nx, St.del_nx, St.bump_nx]; done) | (simp only [St.new_nx, St.set_nx, St.del_nx, St.bump_nx]; omega) | fail)) [a95l16, a95r11, a95r12, h72, h73, h74, h1, h2, hlt', a95r17]
    rw [hdrop, gds] at hg
    rw [← hg] at hK
    exact hK _ hm hk

theorem p95 (t : Ty) : C95 t := by
  induction t using Ty.ind with
  | h t ih =>
    intro d l o s K hd0 hd hl0 hl hm ho hK
    refine ACalls.upd ho ?_ hK
    clear hK K
    refine fun_sound mixed Try.func95 Try.call95 c95 rfl (awpFun_go _ _ _ _ ?_)
    have hon : o ≠ s.nx := by omega
    have w1 : IntKind.i64.wrap (l - 1) = l - 1 := wrap64 (by omega) (by omega)
    simp (implicitDefEqProofs := false) (maxSteps := 2000000) (disch := (first | omega | (simp only [St.new_nx, St.set_nx, St.del_nx, St.bump_nx]; done) | (simp only [St.new_nx, St.set_nx, St.del_nx, St.bump_nx]; omega) | fail)) [a95, a95b, a95r0, a95r1, a95r2, a95r3, a95r4, a95r5, hm, w1]
    refine ⟨fun hl1 => ⟨fun hd1 => ?_, fun hd1 => ⟨fun h1 => ⟨fun h7 => ?_, fun h7 m hm1 => ?_⟩, fun h1 m hm1 => ?_⟩⟩, fun hl1 => ?_⟩
    · rw [gd_eq, if_pos (by omega)]; simp
    rotate_left
    · rw [gd_eq, if_neg (by omega), if_pos (by omega)]; simp
    · rw [gd_eq, if_neg (by omega), if_pos (by omega)]; simp
    · rw [gd_eq, if_pos (by omega)]; simp
    refine pcV_intro (p124 _) ?_
    simp (implicitDefEqProofs := false) (maxSteps := 2000000) (disch := (first | omega | (simp only [St.new_nx, St.set_nx, St.del_nx, St.bump_nx]; done) | (simp only [St.new_nx, St.set_nx, St.del_nx, St.bump_nx]; omega) | fail)) [a95r6, a95r7]
    intro m hm1
    refine ⟨fun hk => ?_, fun hk => ?_⟩
    · rw [gd_eq, if_neg (by omega), if_pos (by omega)]; simp
    refine ⟨fun h0 => ⟨fun h9 => ⟨fun hz => go_pure (p125 _) fun m2 hm2 => ?_, fun hz => ?_⟩, fun h9 => ?_⟩, fun h0 => ?_⟩
    rotate_left 2
    · rw [gd_eq, if_neg (by omega), if_neg (by omega), if_pos (by omega)]; simp
    · rw [gd_eq, if_neg (by omega), if_neg (by omega), if_pos (by omega)]; simp
    · simp (implicitDefEqProofs := false) (maxSteps := 2000000) (disch := (first | omega | (simp only [St.new_nx, St.set_nx, St.del_nx, St.bump_nx]; done) | (simp only [St.new_nx, St.set_nx, St.del_nx, St.bump_nx]; omega) | fail))
      refine ⟨fun hn => ?_, fun hn => ?_⟩
      · rw [gd_eq, if_neg (by omega), if_neg (by omega), if_pos (by rw [hn]; simp; omega)]; simp
      rename_i _
      have hn' : ¬ (t.n < 0 ∨ 9999 < t.n ∨ t.n ≠ 0 ∧ isNum t.op = false) := by rw [hn]; simp; omega
      simp only [St.bump_nx] at hm2
      simp (implicitDefEqProofs := false) (maxSteps := 2000000) (disch := (first | omega | (simp only [St.new_nx, St.set_nx, St.del_nx, St.bump_nx]; done) | (simp only [St.new_nx, St.set_nx, St.del_nx, St.bump_nx]; omega) | fail)) [a95r8, a95r9, a95r10]
      refine ⟨fun hs => ⟨fun hs2 => ?_, fun hs2 => ?_⟩, fun hs => ?_⟩
      · rw [gd_eq, if_neg (by omega), if_neg (by omega), if_neg hn', if_pos (by right; omega)]; simp
      · have hc : ¬ (¬ (t.op = 2 ↔ t.s ≠ ⟨#[]⟩) ∨ 40 < t.s.size) := by
          rintro (hc | hc)
          · apply hc
            by_cases ha : t.op = 2 <;> by_cases hb : t.s = ⟨#[]⟩ <;> simp [ha, hb] at hs ⊢
          · omega
        have hk2 : t.args.length ≤ 2 := by unfold kids at hk; split at hk <;> omega
        have he : gd t d l = gds t.args (d + 1) (l - 1) := by rw [gd_eq, if_neg (by omega), if_neg (by omega), if_neg hn', if_neg hc]
        refine loop95 t.args ih d (l - 1) o s _ _ _ hd0 (by omega) (by omega) (by omega) hk2 ?_ ?_ ?_ ?_ ?_ ?_ ?_ ?_ ho ?_
        rotate_right
        · intro s' hs1 hs2
          rw [he]
          exact ⟨wk_refl _, hs1, hs2⟩
        all_goals simp (implicitDefEqProofs := false) (maxSteps := 2000000) (disch := (first | omega | (simp only [St.new_nx, St.set_nx, St.del_nx, St.bump_nx]; done) | (simp only [St.new_nx, St.set_nx, St.del_nx, St.bump_nx]; omega) | fail))
        all_goals omega
      · rw [gd_eq, if_neg (by omega), if_neg (by omega), if_neg hn', if_pos (by left; rw [hs]; simp)]; simp
    · have hn' : ¬ (t.n < 0 ∨ 9999 < t.n ∨ t.n ≠ 0 ∧ isNum t.op = false) := by omega
      simp (implicitDefEqProofs := false) (maxSteps := 2000000) (disch := (first | omega | (simp only [St.new_nx, St.set_nx, St.del_nx, St.bump_nx]; done) | (simp only [St.new_nx, St.set_nx, St.del_nx, St.bump_nx]; omega) | fail)) [a95r8, a95r9, a95r10]
      refine ⟨fun hs => ⟨fun hs2 => ?_, fun hs2 => ?_⟩, fun hs => ?_⟩
      · rw [gd_eq, if_neg (by omega), if_neg (by omega), if_neg hn', if_pos (by right; omega)]; simp
      · have hc : ¬ (¬ (t.op = 2 ↔ t.s ≠ ⟨#[]⟩) ∨ 40 < t.s.size) := by
          rintro (hc | hc)
          · apply hc
            by_cases ha : t.op = 2 <;> by_cases hb : t.s = ⟨#[]⟩ <;> simp [ha, hb] at hs ⊢
          · omega
        have hk2 : t.args.length ≤ 2 := by unfold kids at hk; split at hk <;> omega
        have he : gd t d l = gds t.args (d + 1) (l - 1) := by rw [gd_eq, if_neg (by omega), if_neg (by omega), if_neg hn', if_neg hc]
        refine loop95 t.args ih d (l - 1) o s _ _ _ hd0 (by omega) (by omega) (by omega) hk2 ?_ ?_ ?_ ?_ ?_ ?_ ?_ ?_ ho ?_
        rotate_right
        · intro s' hs1 hs2
          rw [he]
          exact ⟨wk_refl _, hs1, hs2⟩
        all_goals simp (implicitDefEqProofs := false) (maxSteps := 2000000) (disch := (first | omega | (simp only [St.new_nx, St.set_nx, St.del_nx, St.bump_nx]; done) | (simp only [St.new_nx, St.set_nx, St.del_nx, St.bump_nx]; omega) | fail))
        all_goals omega
      · rw [gd_eq, if_neg (by omega), if_neg (by omega), if_neg hn', if_pos (by left; rw [hs]; simp)]; simp
end Go.AL.Ty
