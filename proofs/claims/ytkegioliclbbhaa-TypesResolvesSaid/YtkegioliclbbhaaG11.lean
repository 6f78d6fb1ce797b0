/- The reference's resolved types. -/
import Derived.Test.YtkegioliclbbhaaE46
import Derived.Test.YtkegioliclbbhaaG2
set_option linter.unusedVariables false
set_option linter.unusedSimpArgs false
namespace Go.AL
namespace Ty
open Go Go.Proofs
section
variable {M : List Mt} (hw : WellFounded (dep M))

def ok94 (u : Ty) (d c : Int) : AV := .tup [(if (gd u d (600 - c)).1 then u else nul).av, .bool (gd u d (600 - c)).1]
def C94 (u : Ty) : Prop := ∀ (t : Ty), GK M t → rv hw t = u → ∀ (d c : Int) (o : Nat) (s : St) (K : AV → St → Prop), 0 ≤ d → d ≤ 100 → 0 ≤ c → c ≤ 600 → s.m o = some (.box [.int .i64 c]) → o < s.nx →
  (∀ m, s.nx ≤ m → K (ok94 u d c) ((s.set o (.box [.int .i64 (600 - (gd u d (600 - c)).2)])).bump m)) → ACalls Try.prog 94 [.list 10 .none (M.map Mt.av), t.av, .int .i64 d, .ptr o 0] s K

theorem gd_bound2 {u : Ty} (d l : Int) (hl : 0 ≤ l) : (gd u d l).2 ≤ l := (gd_bound u d l hl).1

/-- After the chain. -/
def I94 (u : Ty) (d c : Int) (o : Nat) (s : St) (oT oR : Nat) (n : Nat) (g : Env) (s1 : St) : Prop :=
  ∃ t : Ty, GK M t ∧ rv hw t = u ∧ n = cl hw t ∧ g.get 0 = .list 10 .none (M.map Mt.av) ∧ g.get 2 = .int .i64 d ∧ g.get 3 = .ptr o 0 ∧ g.get 5 = .ptr oT 0 ∧ g.get 8 = .ptr oR 0 ∧
    s1.m oT = some (.box [.int .i64 t.op, .int .i64 t.n, .str t.s, .list 4 .none (t.args.map av)]) ∧ s1.m oR = some (.box [.int .i64 0, .int .i64 0, .str ⟨#[]⟩, .list 0 .full []]) ∧
    s1.m o = some (.box [.int .i64 c]) ∧ KeptX s o s1 ∧ oR < s1.nx

/-- In the loop over the arguments. -/
def I94a (us : List Ty) (t : Ty) (d : Int) (R : Bool × Int) (o : Nat) (s : St) (oT oR oO : Nat) (n : Nat) (g : Env) (s1 : St) : Prop :=
  ∃ (i sz : Nat) (tok : Tok) (c : Int), i ≤ t.args.length ∧ n = t.args.length - i ∧ gds (us.drop i) (d + 1) (600 - c) = R ∧ 0 ≤ c ∧ c ≤ 600 ∧
    g.get 0 = .list 10 .none (M.map Mt.av) ∧ g.get 2 = .int .i64 d ∧ g.get 3 = .ptr o 0 ∧ g.get 8 = .ptr oR 0 ∧ g.get 10 = .ptr oO 0 ∧ g.get 54 = .list 4 .none (t.args.map av) ∧ g.get 55 = .int .i64 t.args.length ∧ g.get 56 = .int .i64 i ∧
    s1.m oO = some (.box [.int .i64 t.op, .int .i64 t.n, .str t.s, .list sz tok ((us.take i).map av)]) ∧ s1.m oR = some (.box [.int .i64 0, .int .i64 0, .str ⟨#[]⟩, .list 0 .full []]) ∧
    s1.m o = some (.box [.int .i64 c]) ∧ KeptX s o s1 ∧ oO < s1.nx ∧
    ((i = 0 ∧ sz = 0 ∧ tok = .full) ∨ (sz = 4 ∧ ∃ q, tok = .own q ∧ s1.m q = some (.spare (i * 4)) ∧ oO < q ∧ q < s1.nx))

theorem l94 (hlen : M.length ≤ 600) (hM : okM M) (us : List Ty) (ih : ∀ x ∈ us, C94 hw x) (t : Ty) (hG : GK M t) (hus : us = t.args.map (rv hw)) (d c : Int) (o : Nat) (s s1 : St) (g : Env) (oT oR : Nat) (hd0 : 0 ≤ d) (hd : d ≤ 40) (hc0 : 0 ≤ c) (hc : c ≤ 600) (ho : o < s.nx) (fin : Bool × Int)
    (hfin : gds us (d + 1) (600 - c) = fin) (g0 : g.get 0 = .list 10 .none (M.map Mt.av)) (g2 : g.get 2 = .int .i64 d) (g3 : g.get 3 = .ptr o 0) (g5 : g.get 5 = .ptr oT 0) (g8 : g.get 8 = .ptr oR 0)
    (hT : s1.m oT = some (.box [.int .i64 t.op, .int .i64 t.n, .str t.s, .list 4 .none (t.args.map av)])) (hR : s1.m oR = some (.box [.int .i64 0, .int .i64 0, .str ⟨#[]⟩, .list 0 .full []]))
    (hO : s1.m o = some (.box [.int .i64 c])) (hk : KeptX s o s1) (n1 : s.nx ≤ oT) (n2 : oT < oR) (hn : oR < s1.nx) :
    go (aops Try.prog a94r7 (regQ (seqQ Try.prog (((ACode.reg false a94r8).seq (.block 2 (.loop a94l16))).seq ((ACode.reg false a94r17).seq .ret)) (finQ [.cell (true, 8) 4 true, .tmp (true, 9)] fun r' s' =>
      wk r' (.tup [(if fin.1 then mk t.op t.n t.s us else nul).av, .bool fin.1]) ∧ s'.m o = some (.box [.int .i64 (600 - fin.2)]) ∧ KeptX s o s'))) g [] s1) := by
  have husl : us.length = t.args.length := by rw [hus]; simp
  have hk2 : t.args.length ≤ 2 := by
    obtain ⟨⟨h1, _⟩, _⟩ := hG.1.c
    have := kids_le t.op
    omega
  simp (implicitDefEqProofs := false) (maxSteps := 2000000) (disch := (first | omega | (simp only [St.new_nx, St.set_nx, St.del_nx, St.bump_nx]; done) | (simp only [St.new_nx, St.set_nx, St.del_nx, St.bump_nx]; omega) | fail)) [a94r7, a94r8, g5, hT]
  refine go_loop (I94a (M := M) us t d fin o s oT oR s1.nx) t.args.length ⟨0, 0, .full, c, by omega, by omega, by simpa using hfin, hc0, hc, ?_, ?_, ?_, ?_, ?_, ?_, ?_, ?_, ?_, ?_, ?_, ?_, ?_, .inl ⟨rfl, rfl, rfl⟩⟩ ?_
  iterate 13 (simp (implicitDefEqProofs := false) (maxSteps := 2000000) (disch := (first | omega | (simp only [St.new_nx, St.set_nx, St.del_nx, St.bump_nx]; done) | (simp only [St.new_nx, St.set_nx, St.del_nx, St.bump_nx]; omega) | fail)) [g0, g2, g3, g8, hR, hO, hk])
  clear g0 g2 g3 g5 g8 hT hR hO hfin hc0 hc
  have hoO : oR < s1.nx := hn
  generalize s1.nx = oO at *
  clear hn hk
  rintro n g s2 ⟨i, sz, tok, c', hi, rfl, hg, hc0, hc, g0, g2, g3, g8, g10, g54, g55, g56, hO', hR, hO, hk, hn, htok⟩
  by_cases hlt : i < t.args.length
  · have hx : t.args[i]? = some t.args[i] := by simp [hlt]
    have hlt' : (i : Int) < t.args.length := by omega
    have hlu : i < us.length := by omega
    have hux : us[i] = rv hw t.args[i] := by simp [hus]
    have w2 : IntKind.i64.wrap ((i : Int) + 1) = ((i + 1 : Nat) : Int) := by rw [wrap64 (by omega) (by omega)]; omega
    have w1 : IntKind.i64.wrap (d + 1) = d + 1 := wrap64 (by omega) (by omega)
    have hdrop : us.drop i = us[i] :: us.drop (i + 1) := List.drop_eq_getElem_cons hlu
    rw [hdrop, gds] at hg
    have hGx : GK M t.args[i] := ⟨hG.1.args _ (List.getElem_mem hlt), fun k hk => hG.2 k ((occ_eq _ _).2 (.inr ⟨_, List.getElem_mem hlt, hk⟩))⟩
    have hbd := gd_bound us[i] (d + 1) (600 - c') (by omega)
    simp (implicitDefEqProofs := false) (maxSteps := 2000000) (disch := (first | omega | (simp only [St.new_nx, St.set_nx, St.del_nx, St.bump_nx]; done) | (simp only [St.new_nx, St.set_nx, St.del_nx, St.bump_nx]; omega) | fail)) [a94l16, a94r9, a94r10, a94r11, g0, g2, g3, g8, g10, g54, g55, g56, hlt', hlt, hx, w1]
    refine go_calls (ih us[i] (List.getElem_mem hlu) t.args[i] hGx hux.symm (d + 1) c' o _ _ (by omega) (by omega) hc0 hc ?_ ?_ fun m hm => go_of ?_)
    · simp (implicitDefEqProofs := false) (maxSteps := 2000000) (disch := (first | omega | (simp only [St.new_nx, St.set_nx, St.del_nx, St.bump_nx]; done) | (simp only [St.new_nx, St.set_nx, St.del_nx, St.bump_nx]; omega) | fail)) [hO]
    · simp (implicitDefEqProofs := false) (maxSteps := 2000000) (disch := (first | omega | (simp only [St.new_nx, St.set_nx, St.del_nx, St.bump_nx]; done) | (simp only [St.new_nx, St.set_nx, St.del_nx, St.bump_nx]; omega) | fail))
      omega
    simp only [St.new_nx, St.bump_nx, St.set_nx, St.del_nx] at hm
    unfold ok94
    by_cases hok : (gd us[i] (d + 1) (600 - c')).1 = true
    · rw [if_pos hok] at hg
      have htake : (us.take (i + 1)).map av = (us.take i).map av ++ [us[i].av] := by
        rw [List.take_succ_eq_append_getElem hlu, List.map_append]; rfl
      have hc2 := hbd.2 hok
      generalize (gd us[i] (d + 1) (600 - c')).2 = l2 at hg hbd hc2
      rcases htok with ⟨rfl, rfl, rfl⟩ | ⟨rfl, q, rfl, hq, q1, q2⟩
      · simp only [Nat.zero_add, List.take_zero, List.map_nil, List.nil_append] at htake
        simp (implicitDefEqProofs := false) (maxSteps := 2000000) (disch := (first | omega | (simp only [St.new_nx, St.set_nx, St.del_nx, St.bump_nx]; done) | (simp only [St.new_nx, St.set_nx, St.del_nx, St.bump_nx]; omega) | fail)) [hok, a94r12, a94r14, a94r15, g10, hO', g56, show IntKind.i64.wrap 1 = 1 from rfl]
        refine go_next (t.args.length - 1) (by omega) ⟨1, 4, .own (m + 1), 600 - l2, by omega, by omega, by rw [show (600 : Int) - (600 - l2) = l2 by omega]; exact hg, by omega, by omega, ?_, ?_, ?_, ?_, ?_, ?_, ?_, ?_, ?_, ?_, ?_, ?_, ?_, .inr ⟨rfl, _, rfl, ?_, ?_, ?_⟩⟩
        all_goals (try simp (implicitDefEqProofs := false) (maxSteps := 2000000) (disch := (first | omega | (simp only [St.new_nx, St.set_nx, St.del_nx, St.bump_nx]; done) | (simp only [St.new_nx, St.set_nx, St.del_nx, St.bump_nx]; omega) | fail)) [g0, g2, g3, g8, g10, g54, g55, hR, hO, hk, ← List.map_take, htake])
        all_goals omega
      · simp (implicitDefEqProofs := false) (maxSteps := 2000000) (disch := (first | omega | (simp only [St.new_nx, St.set_nx, St.del_nx, St.bump_nx]; done) | (simp only [St.new_nx, St.set_nx, St.del_nx, St.bump_nx]; omega) | fail)) [hok, a94r12, a94r14, a94r15, g10, hO', g56, hq, w2]
        refine go_next (t.args.length - (i + 1)) (by omega) ⟨i + 1, 4, .own (m + 1), 600 - l2, by omega, by omega, by rw [show (600 : Int) - (600 - l2) = l2 by omega]; exact hg, by omega, by omega, ?_, ?_, ?_, ?_, ?_, ?_, ?_, ?_, ?_, ?_, ?_, ?_, ?_, .inr ⟨rfl, _, rfl, ?_, ?_, ?_⟩⟩
        all_goals (try simp (implicitDefEqProofs := false) (maxSteps := 2000000) (disch := (first | omega | (simp only [St.new_nx, St.set_nx, St.del_nx, St.bump_nx]; done) | (simp only [St.new_nx, St.set_nx, St.del_nx, St.bump_nx]; omega) | fail)) [g0, g2, g3, g8, g10, g54, g55, hR, hO, hk, ← List.map_take, htake, w2])
        all_goals omega
    · rw [if_neg hok] at hg
      simp (implicitDefEqProofs := false) (maxSteps := 2000000) (disch := (first | omega | (simp only [St.new_nx, St.set_nx, St.del_nx, St.bump_nx]; done) | (simp only [St.new_nx, St.set_nx, St.del_nx, St.bump_nx]; omega) | fail)) [hok, a94r12, a94r13, g8, hR]
      subst hg
      simp only [Bool.false_eq_true, if_false]
      refine ⟨⟨?_, trivial⟩, trivial, hk⟩
      simp (implicitDefEqProofs := false) (maxSteps := 2000000) (disch := (first | omega | (simp only [St.new_nx, St.set_nx, St.del_nx, St.bump_nx]; done) | (simp only [St.new_nx, St.set_nx, St.del_nx, St.bump_nx]; omega) | fail)) [nul, av_mk]
  · have hlt' : ¬ (i : Int) < t.args.length := by omega
    have hie : i = t.args.length := by omega
    have hdrop : us.drop i = [] := List.drop_eq_nil_of_le (by omega)
    rw [hdrop, gds] at hg
    have htk : us.take i = us := List.take_of_length_le (by omega)
    rw [htk] at hO'
    simp (implicitDefEqProofs := false) (maxSteps := 2000000) (disch := (first | omega | (simp only [St.new_nx, St.set_nx, St.del_nx, St.bump_nx]; done) | (simp only [St.new_nx, St.set_nx, St.del_nx, St.bump_nx]; omega) | fail)) [a94l16, a94r9, a94r17, g55, g56, g8, g10, hlt', hO', hR, ← hg, hO, hk]
    refine ⟨?_, by omega⟩
    rw [av_mk]
    rcases htok with ⟨h0, rfl, rfl⟩ | ⟨rfl, q, rfl, _⟩
    · have : us = [] := List.length_eq_zero_iff.1 (by omega)
      simp [this]
    · simp

theorem p94 (hlen : M.length ≤ 600) (hM : okM M) (u : Ty) : C94 hw u := by
  induction u using Ty.ind with
  | h u ih =>
    intro t hG hrt d c o s K hd0 hd hc0 hc hm ho hK
    refine ACalls.upd (r := ok94 u d c) (ob := .box [.int .i64 (600 - (gd u d (600 - c)).2)]) ho ?_ hK
    clear hK K
    refine fun_sound mixed Try.func94 Try.call94 c94 rfl (awpFun_go _ _ _ _ ?_)
    simp (implicitDefEqProofs := false) (maxSteps := 2000000) (disch := (first | omega | (simp only [St.new_nx, St.set_nx, St.del_nx, St.bump_nx]; done) | (simp only [St.new_nx, St.set_nx, St.del_nx, St.bump_nx]; omega) | fail)) [a94, a94b, a94r0]
    refine go_loop (I94 hw u d c o s s.nx (s.nx + 1)) (cl hw t) ⟨t, hG, hrt, rfl, ?_, ?_, ?_, ?_, ?_, ?_, ?_, ?_, ?_, ?_⟩ ?_
    iterate 9 (simp (implicitDefEqProofs := false) (maxSteps := 2000000) (disch := (first | omega | (simp only [St.new_nx, St.set_nx, St.del_nx, St.bump_nx]; done) | (simp only [St.new_nx, St.set_nx, St.del_nx, St.bump_nx]; omega) | fail)) [hm])
    · simp (implicitDefEqProofs := false) (maxSteps := 2000000) (disch := (first | omega | (simp only [St.new_nx, St.set_nx, St.del_nx, St.bump_nx]; done) | (simp only [St.new_nx, St.set_nx, St.del_nx, St.bump_nx]; omega) | fail))
    rintro n g s1 ⟨t1, hG1, hrt1, rfl, g0, g2, g3, g5, g8, hT, hR, hO, hk, hn⟩
    by_cases hso : t1.op = 6 ∧ ∃ v, vl M t1.n = some v
    · obtain ⟨hop, v, hv⟩ := hso
      obtain ⟨i, hi, hiM, hs, hval⟩ := mt_idx hv
      have hc1 := cl_eq hw hop hv
      have hGv := hM.gk hv
      have hMi := mt_get hiM
      have hrv := rv_meta hw hop hv
      simp (implicitDefEqProofs := false) (maxSteps := 2000000) (disch := (first | omega | (simp only [St.new_nx, St.set_nx, St.del_nx, St.bump_nx]; done) | (simp only [St.new_nx, St.set_nx, St.del_nx, St.bump_nx]; omega) | fail)) [a94l3, a94r1, a94r2, g0, g5, hT, hop, hi, hiM, hMi, hs]
      refine go_next (cl hw v) (by omega) ⟨v, hGv.1, by rw [← hrv]; exact hrt1, rfl, ?_, ?_, ?_, ?_, ?_, ?_, ?_, ?_, ?_, ?_⟩
      all_goals (try simp (implicitDefEqProofs := false) (maxSteps := 2000000) (disch := (first | omega | (simp only [St.new_nx, St.set_nx, St.del_nx, St.bump_nx]; done) | (simp only [St.new_nx, St.set_nx, St.del_nx, St.bump_nx]; omega) | fail)) [g0, g2, g3, g5, g8, hR, hO, hk, hval])
      all_goals omega
    · have huu : u = mk t1.op t1.n t1.s (t1.args.map (rv hw)) := by
        rw [← hrt1]
        by_cases hop : t1.op = 6
        · have hv : vl M t1.n = none := by
            cases h : vl M t1.n with
            | none => rfl
            | some v => exact absurd ⟨hop, v, h⟩ hso
          rw [rv_none hw hop hv, hG1.1.meta hop, List.map_nil]
          have := Ty.eta t1
          rw [hG1.1.meta hop] at this
          exact this.symm
        · exact rv_node hw hop
      have hLu : LG u := by rw [← hrt1]; exact rv_lg hw hM hG1.1
      have hgd := hLu.gd d (600 - c)
      have w1 : IntKind.i64.wrap (c + 1) = c + 1 := wrap64 (by omega) (by omega)
      have rest : ∀ g' : Env, g'.get 0 = .list 10 .none (M.map Mt.av) → g'.get 2 = .int .i64 d → g'.get 3 = .ptr o 0 → g'.get 5 = .ptr s.nx 0 → g'.get 8 = .ptr (s.nx + 1) 0 →
          go (aops Try.prog a94r4 (regQ (seqQ Try.prog (((ACode.reg false a94r5).seq (.cond (.g 44) ((ACode.reg false a94r6).seq .ret) .skip)).seq ((ACode.reg false a94r7).seq (((ACode.reg false a94r8).seq (.block 2 (.loop a94l16))).seq ((ACode.reg false a94r17).seq .ret))))
            (finQ [.cell (true, 8) 4 true, .tmp (true, 9)] fun r' s' => wk r' (ok94 u d c) ∧ s'.m o = some (.box [.int .i64 (600 - (gd u d (600 - c)).2)]) ∧ KeptX s o s'))) g' [] s1) := by
        intro g' g0 g2 g3 g5 g8
        simp (implicitDefEqProofs := false) (maxSteps := 2000000) (disch := (first | omega | (simp only [St.new_nx, St.set_nx, St.del_nx, St.bump_nx]; done) | (simp only [St.new_nx, St.set_nx, St.del_nx, St.bump_nx]; omega) | fail)) [a94r4, a94r5, g2, g3, hO, w1]
        have hbad : 600 - c - 1 < 0 ∨ 40 < d → ok94 u d c = .tup [nul.av, .bool false] ∧ 600 - (gd u d (600 - c)).2 = c + 1 := by
          intro h
          rw [if_pos h] at hgd
          unfold ok94
          rw [hgd]
          exact ⟨by simp, by simp only; omega⟩
        refine ⟨fun hc1 => ⟨fun hd1 => ?_, fun hd1 => ?_⟩, fun hc1 => ?_⟩
        · obtain ⟨e1, e2⟩ := hbad (by omega)
          rw [e1, e2]
          simp (implicitDefEqProofs := false) (maxSteps := 2000000) (disch := (first | omega | (simp only [St.new_nx, St.set_nx, St.del_nx, St.bump_nx]; done) | (simp only [St.new_nx, St.set_nx, St.del_nx, St.bump_nx]; omega) | fail)) [a94r6, g8, hk, hR, nul, av_mk]
        · rw [if_neg (by omega)] at hgd
          have e1 : ok94 u d c = .tup [(if (gds u.args (d + 1) (600 - c - 1)).1 then u else nul).av, .bool (gds u.args (d + 1) (600 - c - 1)).1] := by unfold ok94; rw [hgd]
          rw [e1, hgd]
          have hua : u.args = t1.args.map (rv hw) := by rw [huu]; rfl
          have := l94 hw hlen hM u.args ih t1 hG1 hua d (c + 1) o s (s1.set o (.box [.int .i64 (c + 1)])) ((44, AV.bool (decide (40 < d))) :: g') s.nx (s.nx + 1) hd0 hd1 (by omega) (by omega) ho (gds u.args (d + 1) (600 - c - 1)) (by rw [show (600 : Int) - (c + 1) = 600 - c - 1 by omega]) ?_ ?_ ?_ ?_ ?_ ?_ ?_ ?_ ?_ ?_ ?_ ?_
          · have hmk : mk t1.op t1.n t1.s u.args = u := by rw [hua]; exact huu.symm
            rw [hmk] at this
            exact this
          all_goals (try simp (implicitDefEqProofs := false) (maxSteps := 2000000) (disch := (first | omega | (simp only [St.new_nx, St.set_nx, St.del_nx, St.bump_nx]; done) | (simp only [St.new_nx, St.set_nx, St.del_nx, St.bump_nx]; omega) | fail)) [g0, g2, g3, g5, g8, hT, hR, hk])
          all_goals omega
        · obtain ⟨e1, e2⟩ := hbad (by omega)
          rw [e1, e2]
          simp (implicitDefEqProofs := false) (maxSteps := 2000000) (disch := (first | omega | (simp only [St.new_nx, St.set_nx, St.del_nx, St.bump_nx]; done) | (simp only [St.new_nx, St.set_nx, St.del_nx, St.bump_nx]; omega) | fail)) [a94r6, g8, hk, hR, nul, av_mk]
      by_cases hop : t1.op = 6
      · have hocc : occ t1.n t1 := (occ_eq _ _).2 (.inl ⟨hop, rfl⟩)
        have hn0 := (hG1.1.occ_nn hocc).1
        have hnM := hG1.2 _ hocc
        obtain ⟨i, hi⟩ : ∃ i : Nat, t1.n = i := ⟨t1.n.toNat, by omega⟩
        have hiM : i < M.length := by omega
        have hMi := mt_get hiM
        have hs : M[i].solved = false := by
          cases h : M[i].solved with
          | false => rfl
          | true => exact absurd ⟨hop, M[i].value, by rw [hi]; simp [vl, hiM, h]⟩ hso
        simp (implicitDefEqProofs := false) (maxSteps := 2000000) (disch := (first | omega | (simp only [St.new_nx, St.set_nx, St.del_nx, St.bump_nx]; done) | (simp only [St.new_nx, St.set_nx, St.del_nx, St.bump_nx]; omega) | fail)) [a94l3, a94r1, g0, g5, hT, hop, hi, hiM, hMi, hs]
        exact rest _ (by simp (implicitDefEqProofs := false) (maxSteps := 2000000) (disch := (first | omega | (simp only [St.new_nx, St.set_nx, St.del_nx, St.bump_nx]; done) | (simp only [St.new_nx, St.set_nx, St.del_nx, St.bump_nx]; omega) | fail)) [g0]) (by simp (implicitDefEqProofs := false) (maxSteps := 2000000) (disch := (first | omega | (simp only [St.new_nx, St.set_nx, St.del_nx, St.bump_nx]; done) | (simp only [St.new_nx, St.set_nx, St.del_nx, St.bump_nx]; omega) | fail)) [g2]) (by simp (implicitDefEqProofs := false) (maxSteps := 2000000) (disch := (first | omega | (simp only [St.new_nx, St.set_nx, St.del_nx, St.bump_nx]; done) | (simp only [St.new_nx, St.set_nx, St.del_nx, St.bump_nx]; omega) | fail)) [g3]) (by simp (implicitDefEqProofs := false) (maxSteps := 2000000) (disch := (first | omega | (simp only [St.new_nx, St.set_nx, St.del_nx, St.bump_nx]; done) | (simp only [St.new_nx, St.set_nx, St.del_nx, St.bump_nx]; omega) | fail)) [g5]) (by simp (implicitDefEqProofs := false) (maxSteps := 2000000) (disch := (first | omega | (simp only [St.new_nx, St.set_nx, St.del_nx, St.bump_nx]; done) | (simp only [St.new_nx, St.set_nx, St.del_nx, St.bump_nx]; omega) | fail)) [g8])
      · simp (implicitDefEqProofs := false) (maxSteps := 2000000) (disch := (first | omega | (simp only [St.new_nx, St.set_nx, St.del_nx, St.bump_nx]; done) | (simp only [St.new_nx, St.set_nx, St.del_nx, St.bump_nx]; omega) | fail)) [a94l3, a94r1, g0, g5, hT, hop]
        exact rest _ (by simp (implicitDefEqProofs := false) (maxSteps := 2000000) (disch := (first | omega | (simp only [St.new_nx, St.set_nx, St.del_nx, St.bump_nx]; done) | (simp only [St.new_nx, St.set_nx, St.del_nx, St.bump_nx]; omega) | fail)) [g0]) (by simp (implicitDefEqProofs := false) (maxSteps := 2000000) (disch := (first | omega | (simp only [St.new_nx, St.set_nx, St.del_nx, St.bump_nx]; done) | (simp only [St.new_nx, St.set_nx, St.del_nx, St.bump_nx]; omega) | fail)) [g2]) (by simp (implicitDefEqProofs := false) (maxSteps := 2000000) (disch := (first | omega | (simp only [St.new_nx, St.set_nx, St.del_nx, St.bump_nx]; done) | (simp only [St.new_nx, St.set_nx, St.del_nx, St.bump_nx]; omega) | fail)) [g3]) (by simp (implicitDefEqProofs := false) (maxSteps := 2000000) (disch := (first | omega | (simp only [St.new_nx, St.set_nx, St.del_nx, St.bump_nx]; done) | (simp only [St.new_nx, St.set_nx, St.del_nx, St.bump_nx]; omega) | fail)) [g5]) (by simp (implicitDefEqProofs := false) (maxSteps := 2000000) (disch := (first | omega | (simp only [St.new_nx, St.set_nx, St.del_nx, St.bump_nx]; done) | (simp only [St.new_nx, St.set_nx, St.del_nx, St.bump_nx]; omega) | fail)) [g8])

theorem p52 (hlen : M.length ≤ 600) (hM : okM M) (t : Ty) (hG : GK M t) : PureC Try.prog 52 [.list 10 .none (M.map Mt.av), t.av] (if proper (rv hw t) then .tup [(rv hw t).av, .int .i64 0] else .tup [nul.av, .int .i64 5]) := by
  refine PureC.intro fun s => fun_sound mixed Try.func52 Try.call52 c52 rfl (awpFun_go _ _ _ _ ?_)
  have h94 := p94 hw hlen hM (rv hw t) t hG rfl 1 0 (s.nx + 1 + 1)
  unfold ok94 at h94
  simp (implicitDefEqProofs := false) (maxSteps := 2000000) (disch := (first | omega | (simp only [St.new_nx, St.set_nx, St.del_nx, St.bump_nx]; done) | (simp only [St.new_nx, St.set_nx, St.del_nx, St.bump_nx]; omega) | fail)) [a52, a52b, a52r0, a52r1, a52r2]
  refine go_calls (h94 _ _ (by omega) (by omega) (by omega) (by omega) ?_ ?_ fun m hm => go_of ?_)
  · simp (implicitDefEqProofs := false) (maxSteps := 2000000) (disch := (first | omega | (simp only [St.new_nx, St.set_nx, St.del_nx, St.bump_nx]; done) | (simp only [St.new_nx, St.set_nx, St.del_nx, St.bump_nx]; omega) | fail))
  · simp (implicitDefEqProofs := false) (maxSteps := 2000000) (disch := (first | omega | (simp only [St.new_nx, St.set_nx, St.del_nx, St.bump_nx]; done) | (simp only [St.new_nx, St.set_nx, St.del_nx, St.bump_nx]; omega) | fail))
  simp only [St.new_nx, St.bump_nx, St.set_nx, St.del_nx] at hm
  have hpr : (gd (rv hw t) 1 (600 - 0)).1 = proper (rv hw t) := rfl
  rw [hpr]
  by_cases hp : proper (rv hw t) = true
  · simp (implicitDefEqProofs := false) (maxSteps := 2000000) (disch := (first | omega | (simp only [St.new_nx, St.set_nx, St.del_nx, St.bump_nx]; done) | (simp only [St.new_nx, St.set_nx, St.del_nx, St.bump_nx]; omega) | fail)) [hp, a52r3, a52r5]
  · simp (implicitDefEqProofs := false) (maxSteps := 2000000) (disch := (first | omega | (simp only [St.new_nx, St.set_nx, St.del_nx, St.bump_nx]; done) | (simp only [St.new_nx, St.set_nx, St.del_nx, St.bump_nx]; omega) | fail)) [hp, a52r3, a52r4, nul, av_mk]
end

/-! ## The law -/

def okA (M : List Mt) (t : Ty) : Prop := M.length ≤ 600 ∧ known M t = true ∧ okM M
open Classical in
noncomputable def resR (M : List Mt) (t : Ty) : AV :=
  if h : okA M t ∧ WellFounded (dep M) then (if proper (rv h.2 t) then .tup [(rv h.2 t).av, .int .i64 0] else .tup [nul.av, .int .i64 5]) else .tup [nul.av, .int .i64 2]
theorem resR_bad {M : List Mt} {t : Ty} (h : ¬ (okA M t ∧ WellFounded (dep M))) : resR M t = .tup [nul.av, .int .i64 2] := by rw [resR, dif_neg h]
theorem known_gk {M : List Mt} {t : Ty} (h : known M t = true) : proper t = true ∧ GK M t := by
  simp only [known, Bool.and_eq_true, Bool.not_eq_true'] at h
  exact ⟨h.1, (Gd.of h.1).lg, (outs_false M t).1 h.2⟩
theorem okm_iff (M : List Mt) (m : Mt) (hs : m.solved = true) : okm M m ↔ known M m.value = true ∧ nums m.value 1 = [] := by
  unfold okm known
  simp only [hs, true_imp_iff, Bool.and_eq_true, Bool.not_eq_true', outs_false, mem_nums]
  exact ⟨fun ⟨h1, h2, h3⟩ => ⟨⟨h1, h3⟩, h2⟩, fun ⟨⟨h1, h3⟩, h2⟩ => ⟨h1, h2, h3⟩⟩

theorem p49 (M : List Mt) (hL : M.length ≤ 9223372036854775807) (t : Ty) : PureC Try.prog 49 [.list 10 .none (M.map Mt.av), t.av] (resR M t) := by
  refine PureC.intro fun s => fun_sound mixed Try.func49 Try.call49 c49 rfl (awpFun_go _ _ _ _ ?_)
  have bad : ¬ (okA M t ∧ WellFounded (dep M)) → resR M t = .tup [.agg [.int .i64 0, .int .i64 0, .str ⟨#[]⟩, .list 4 .none []], .int .i64 2] := fun h => by rw [resR_bad h, nul, av_mk]; rfl
  have good : (h : okA M t ∧ WellFounded (dep M)) → resR M t = if proper (rv h.2 t) then .tup [(rv h.2 t).av, .int .i64 0] else .tup [nul.av, .int .i64 5] := fun h => by rw [resR, dif_pos h]
  generalize resR M t = R at bad good
  simp (implicitDefEqProofs := false) (maxSteps := 2000000) (disch := (first | omega | (simp only [St.new_nx, St.set_nx, St.del_nx, St.bump_nx]; done) | (simp only [St.new_nx, St.set_nx, St.del_nx, St.bump_nx]; omega) | fail)) [a49, a49b, a49r0, a49r1, a49r2]
  refine ⟨fun hl => ?_, fun hl => ?_⟩
  rotate_left
  · rw [bad fun h => by have := h.1.1; omega]
    simp (implicitDefEqProofs := false) (maxSteps := 2000000) (disch := (first | omega | (simp only [St.new_nx, St.set_nx, St.del_nx, St.bump_nx]; done) | (simp only [St.new_nx, St.set_nx, St.del_nx, St.bump_nx]; omega) | fail)) [a49r3]
  refine go_pure (p87 M t) fun mm1 hm1 => ?_
  try simp only [St.new_nx, St.bump_nx, St.set_nx, St.del_nx] at hm1
  simp (implicitDefEqProofs := false) (maxSteps := 2000000) (disch := (first | omega | (simp only [St.new_nx, St.set_nx, St.del_nx, St.bump_nx]; done) | (simp only [St.new_nx, St.set_nx, St.del_nx, St.bump_nx]; omega) | fail))
  by_cases hkn : known M t = true
  rotate_left
  · rw [bad fun h => hkn h.1.2.1]
    simp (implicitDefEqProofs := false) (maxSteps := 2000000) (disch := (first | omega | (simp only [St.new_nx, St.set_nx, St.del_nx, St.bump_nx]; done) | (simp only [St.new_nx, St.set_nx, St.del_nx, St.bump_nx]; omega) | fail)) [hkn, a49r3]
  simp (implicitDefEqProofs := false) (maxSteps := 2000000) (disch := (first | omega | (simp only [St.new_nx, St.set_nx, St.del_nx, St.bump_nx]; done) | (simp only [St.new_nx, St.set_nx, St.del_nx, St.bump_nx]; omega) | fail)) [hkn, a49r4]
  obtain ⟨hpt, hGt⟩ := known_gk hkn
  refine go_loop (fun m g s1 => ∃ i : Nat, i ≤ M.length ∧ m = M.length - i ∧ (∀ x ∈ M.take i, okm M x) ∧ g.get 20 = .list 10 .none (M.map Mt.av) ∧ g.get 21 = .int .i64 M.length ∧ g.get 22 = .int .i64 i ∧ g.get 2 = .cptr [.list 10 .none (M.map Mt.av)] ∧
    g.get 6 = .fn 87 [] [.cptr [.list 10 .none (M.map Mt.av)]] ∧ g.get 3 = .ptr (s.nx + 1) 0 ∧ g.get 4 = .ptr (s.nx + 1 + 1) 0 ∧ s1.m (s.nx + 1) = some (.box [.int .i64 t.op, .int .i64 t.n, .str t.s, .list 4 .none (t.args.map av)]) ∧
    s1.m (s.nx + 1 + 1) = some (.box [.int .i64 0, .int .i64 0, .str ⟨#[]⟩, .list 0 .full []]) ∧ Kept s s1 ∧ s.nx + 1 + 1 < s1.nx) M.length ⟨0, by omega, by omega, by simp, ?_, ?_, ?_, ?_, ?_, ?_, ?_, ?_, ?_, ?_, ?_⟩ ?_
  iterate 10 (simp (implicitDefEqProofs := false) (maxSteps := 2000000) (disch := (first | omega | (simp only [St.new_nx, St.set_nx, St.del_nx, St.bump_nx]; done) | (simp only [St.new_nx, St.set_nx, St.del_nx, St.bump_nx]; omega) | fail)))
  · simp (implicitDefEqProofs := false) (maxSteps := 2000000) (disch := (first | omega | (simp only [St.new_nx, St.set_nx, St.del_nx, St.bump_nx]; done) | (simp only [St.new_nx, St.set_nx, St.del_nx, St.bump_nx]; omega) | fail))
    omega
  rintro m g s1 ⟨i, hi, rfl, hall, h20, h21, h22, h2, h6, h3, h4, hT, hZ, hk, hn⟩
  by_cases hlt : i < M.length
  · have hlt' : (i : Int) < M.length := by omega
    have hMi := mt_get hlt
    have hmem : M[i] ∈ M := List.getElem_mem hlt
    have w2 : IntKind.i64.wrap ((i : Int) + 1) = ((i + 1 : Nat) : Int) := by rw [wrap64 (by omega) (by omega)]; omega
    have next : okm M M[i] → ∀ x ∈ M.take (i + 1), okm M x := by
      intro h x hx
      rw [List.take_succ_eq_append_getElem hlt] at hx
      rcases List.mem_append.1 hx with hx | hx
      · exact hall x hx
      · simp at hx; subst hx; exact h
    have worse : ¬ okm M M[i] → R = .tup [.agg [.int .i64 0, .int .i64 0, .str ⟨#[]⟩, .list 4 .none []], .int .i64 2] := fun h => bad fun hc => h (hc.1.2.2 _ hmem)
    simp (implicitDefEqProofs := false) (maxSteps := 2000000) (disch := (first | omega | (simp only [St.new_nx, St.set_nx, St.del_nx, St.bump_nx]; done) | (simp only [St.new_nx, St.set_nx, St.del_nx, St.bump_nx]; omega) | fail)) [a49l10, a49r5, a49r6, a49r7, a49r8, a49r9, h20, h21, h22, h6, hlt', hlt, hMi, w2]
    refine ⟨fun hs => ?_, fun hs => ?_⟩
    · refine go_pure (p87 M M[i].value) fun mm2 hm2 => ?_
      try simp only [St.new_nx, St.bump_nx, St.set_nx, St.del_nx] at hm2
      simp (implicitDefEqProofs := false) (maxSteps := 2000000) (disch := (first | omega | (simp only [St.new_nx, St.set_nx, St.del_nx, St.bump_nx]; done) | (simp only [St.new_nx, St.set_nx, St.del_nx, St.bump_nx]; omega) | fail))
      by_cases hkv : known M M[i].value = true
      · have hpv := (known_gk hkv).1
        have hsz := proper_sz hpv
        simp (implicitDefEqProofs := false) (maxSteps := 2000000) (disch := (first | omega | (simp only [St.new_nx, St.set_nx, St.del_nx, St.bump_nx]; done) | (simp only [St.new_nx, St.set_nx, St.del_nx, St.bump_nx]; omega) | fail)) [hkv]
        refine go_pure (p91 M[i].value (proper_fit hpv) (by omega)) fun mm3 hm3 => ?_
        try simp only [St.new_nx, St.bump_nx, St.set_nx, St.del_nx] at hm3
        simp (implicitDefEqProofs := false) (maxSteps := 2000000) (disch := (first | omega | (simp only [St.new_nx, St.set_nx, St.del_nx, St.bump_nx]; done) | (simp only [St.new_nx, St.set_nx, St.del_nx, St.bump_nx]; omega) | fail))
        refine ⟨fun hb => ?_, fun hb => ?_⟩
        · rw [worse fun h => by rw [((okm_iff M _ hs).1 h).2] at hb; simp at hb]
          simp (implicitDefEqProofs := false) (maxSteps := 2000000) (disch := (first | omega | (simp only [St.new_nx, St.set_nx, St.del_nx, St.bump_nx]; done) | (simp only [St.new_nx, St.set_nx, St.del_nx, St.bump_nx]; omega) | fail)) [h4, hZ, hk]
        · simp (implicitDefEqProofs := false) (maxSteps := 2000000) (disch := (first | omega | (simp only [St.new_nx, St.set_nx, St.del_nx, St.bump_nx]; done) | (simp only [St.new_nx, St.set_nx, St.del_nx, St.bump_nx]; omega) | fail)) [h22, w2]
          refine go_next (M.length - (i + 1)) (by omega) ⟨i + 1, by omega, rfl, next ((okm_iff M _ hs).2 ⟨hkv, hb⟩), ?_, ?_, ?_, ?_, ?_, ?_, ?_, ?_, ?_, ?_, ?_⟩
          all_goals (try simp (implicitDefEqProofs := false) (maxSteps := 2000000) (disch := (first | omega | (simp only [St.new_nx, St.set_nx, St.del_nx, St.bump_nx]; done) | (simp only [St.new_nx, St.set_nx, St.del_nx, St.bump_nx]; omega) | fail)) [h20, h21, h2, h6, h3, h4, hT, hZ, hk, w2])
          all_goals omega
      · rw [worse fun h => hkv ((okm_iff M _ hs).1 h).1]
        simp (implicitDefEqProofs := false) (maxSteps := 2000000) (disch := (first | omega | (simp only [St.new_nx, St.set_nx, St.del_nx, St.bump_nx]; done) | (simp only [St.new_nx, St.set_nx, St.del_nx, St.bump_nx]; omega) | fail)) [hkv, h4, hZ, hk]
    · refine go_next (M.length - (i + 1)) (by omega) ⟨i + 1, by omega, rfl, next (fun h => by rw [hs] at h; cases h), ?_, ?_, ?_, ?_, ?_, ?_, ?_, ?_, ?_, ?_, ?_⟩
      all_goals (try simp (implicitDefEqProofs := false) (maxSteps := 2000000) (disch := (first | omega | (simp only [St.new_nx, St.set_nx, St.del_nx, St.bump_nx]; done) | (simp only [St.new_nx, St.set_nx, St.del_nx, St.bump_nx]; omega) | fail)) [h20, h21, h2, h6, h3, h4, hT, hZ, hk, w2])
      all_goals omega
  · have hlt' : ¬ (i : Int) < M.length := by omega
    have hie : i = M.length := by omega
    have hM : okM M := by
      rw [hie, List.take_length] at hall
      exact hall
    simp (implicitDefEqProofs := false) (maxSteps := 2000000) (disch := (first | omega | (simp only [St.new_nx, St.set_nx, St.del_nx, St.bump_nx]; done) | (simp only [St.new_nx, St.set_nx, St.del_nx, St.bump_nx]; omega) | fail)) [a49l10, a49r5, a49r11, h21, h22, h2, hlt']
    refine go_pure (p92 M hM (by omega)) fun mm4 hm4 => ?_
    try simp only [St.new_nx, St.bump_nx, St.set_nx, St.del_nx] at hm4
    simp (implicitDefEqProofs := false) (maxSteps := 2000000) (disch := (first | omega | (simp only [St.new_nx, St.set_nx, St.del_nx, St.bump_nx]; done) | (simp only [St.new_nx, St.set_nx, St.del_nx, St.bump_nx]; omega) | fail))
    by_cases hw : WellFounded (dep M)
    · have hgd := good ⟨⟨by omega, hkn, hM⟩, hw⟩
      have h93 := p93 hw (by omega) hM t hGt (proper_fit hpt)
      rw [hgd]
      by_cases hp : proper (rv hw t) = true
      · rw [if_pos hp] at h93 ⊢
        simp (implicitDefEqProofs := false) (maxSteps := 2000000) (disch := (first | omega | (simp only [St.new_nx, St.set_nx, St.del_nx, St.bump_nx]; done) | (simp only [St.new_nx, St.set_nx, St.del_nx, St.bump_nx]; omega) | fail)) [ring_false hw, a49r13, h2, h3, hT]
        refine go_pure h93 fun mm5 hm5 => ?_
        try simp only [St.new_nx, St.bump_nx, St.set_nx, St.del_nx] at hm5
        simp (implicitDefEqProofs := false) (maxSteps := 2000000) (disch := (first | omega | (simp only [St.new_nx, St.set_nx, St.del_nx, St.bump_nx]; done) | (simp only [St.new_nx, St.set_nx, St.del_nx, St.bump_nx]; omega) | fail)) [h4, hZ, hk]
      · rw [if_neg hp] at h93 ⊢
        simp (implicitDefEqProofs := false) (maxSteps := 2000000) (disch := (first | omega | (simp only [St.new_nx, St.set_nx, St.del_nx, St.bump_nx]; done) | (simp only [St.new_nx, St.set_nx, St.del_nx, St.bump_nx]; omega) | fail)) [ring_false hw, a49r13, h2, h3, hT]
        refine go_pure h93 fun mm6 hm6 => ?_
        try simp only [St.new_nx, St.bump_nx, St.set_nx, St.del_nx] at hm6
        simp (implicitDefEqProofs := false) (maxSteps := 2000000) (disch := (first | omega | (simp only [St.new_nx, St.set_nx, St.del_nx, St.bump_nx]; done) | (simp only [St.new_nx, St.set_nx, St.del_nx, St.bump_nx]; omega) | fail)) [h4, hZ, hk]
    · rw [bad fun h => hw h.2]
      simp (implicitDefEqProofs := false) (maxSteps := 2000000) (disch := (first | omega | (simp only [St.new_nx, St.set_nx, St.del_nx, St.bump_nx]; done) | (simp only [St.new_nx, St.set_nx, St.del_nx, St.bump_nx]; omega) | fail)) [ring_true hw, a49r12, h4, hZ, hk]

/-- The law: it returns true. -/
theorem p11 (M : List Mt) (hL : M.length * 128 ≤ 140737488355328) (t : Ty) : PureC Try.prog 11 [.list 10 .none (M.map Mt.av), t.av] (.bool true) := by
  refine PureC.intro fun s => fun_sound mixed Try.func11 Try.call11 c11 rfl (awpFun_go _ _ _ _ ?_)
  have h49 := p49 M (by omega) t
  have bad : ¬ (okA M t ∧ WellFounded (dep M)) → resR M t = .tup [nul.av, .int .i64 2] := resR_bad
  have good : (h : okA M t ∧ WellFounded (dep M)) → resR M t = if proper (rv h.2 t) then .tup [(rv h.2 t).av, .int .i64 0] else .tup [nul.av, .int .i64 5] := fun h => by rw [resR, dif_pos h]
  generalize resR M t = R at bad good h49
  have h49' : PureC Try.prog 49 [.list 10 (.own (s.nx + 1)) (M.map Mt.av), t.av] R := h49.argw (by simp)
  have h13 := p13 t
  simp (implicitDefEqProofs := false) (maxSteps := 2000000) (disch := (first | omega | (simp only [St.new_nx, St.set_nx, St.del_nx, St.bump_nx]; done) | (simp only [St.new_nx, St.set_nx, St.del_nx, St.bump_nx]; omega) | fail)) [a11, a11b, a11r0, a11r1]
  refine pcV_intro h49' ?_
  by_cases hp : proper t = true
  rotate_left
  · have hp' : proper t = false := by simpa using hp
    rw [bad fun h => hp (known_gk h.1.2.1).1]
    rw [hp'] at h13
    simp (implicitDefEqProofs := false) (maxSteps := 2000000) (disch := (first | omega | (simp only [St.new_nx, St.set_nx, St.del_nx, St.bump_nx]; done) | (simp only [St.new_nx, St.set_nx, St.del_nx, St.bump_nx]; omega) | fail)) []
    intro m hm
    simp (implicitDefEqProofs := false) (maxSteps := 2000000) (disch := (first | omega | (simp only [St.new_nx, St.set_nx, St.del_nx, St.bump_nx]; done) | (simp only [St.new_nx, St.set_nx, St.del_nx, St.bump_nx]; omega) | fail)) [a11r2]
    refine go_pure h13 fun mm7 hm7 => ?_
    try simp only [St.new_nx, St.bump_nx, St.set_nx, St.del_nx] at hm7
    simp (implicitDefEqProofs := false) (maxSteps := 2000000) (disch := (first | omega | (simp only [St.new_nx, St.set_nx, St.del_nx, St.bump_nx]; done) | (simp only [St.new_nx, St.set_nx, St.del_nx, St.bump_nx]; omega) | fail)) [a11r3]
    refine go_pure p15n fun mm8 hm8 => ?_
    try simp only [St.new_nx, St.bump_nx, St.set_nx, St.del_nx] at hm8
    simp (implicitDefEqProofs := false) (maxSteps := 2000000) (disch := (first | omega | (simp only [St.new_nx, St.set_nx, St.del_nx, St.bump_nx]; done) | (simp only [St.new_nx, St.set_nx, St.del_nx, St.bump_nx]; omega) | fail))
    refine go_pure p16 fun mm9 hm9 => ?_
    try simp only [St.new_nx, St.bump_nx, St.set_nx, St.del_nx] at hm9
    simp (implicitDefEqProofs := false) (maxSteps := 2000000) (disch := (first | omega | (simp only [St.new_nx, St.set_nx, St.del_nx, St.bump_nx]; done) | (simp only [St.new_nx, St.set_nx, St.del_nx, St.bump_nx]; omega) | fail))
  rw [hp] at h13
  have hg := Gd.of hp
  have hsz := proper_sz hp
  by_cases hl : M.length ≤ 600
  rotate_left
  · have hl' : (600 : Int) < M.length := by omega
    rw [bad fun h => hl h.1.1]
    simp (implicitDefEqProofs := false) (maxSteps := 2000000) (disch := (first | omega | (simp only [St.new_nx, St.set_nx, St.del_nx, St.bump_nx]; done) | (simp only [St.new_nx, St.set_nx, St.del_nx, St.bump_nx]; omega) | fail)) []
    intro m hm
    simp (implicitDefEqProofs := false) (maxSteps := 2000000) (disch := (first | omega | (simp only [St.new_nx, St.set_nx, St.del_nx, St.bump_nx]; done) | (simp only [St.new_nx, St.set_nx, St.del_nx, St.bump_nx]; omega) | fail)) [a11r2]
    refine go_pure h13 fun mm10 hm10 => ?_
    try simp only [St.new_nx, St.bump_nx, St.set_nx, St.del_nx] at hm10
    simp (implicitDefEqProofs := false) (maxSteps := 2000000) (disch := (first | omega | (simp only [St.new_nx, St.set_nx, St.del_nx, St.bump_nx]; done) | (simp only [St.new_nx, St.set_nx, St.del_nx, St.bump_nx]; omega) | fail)) [a11r3, hl']
    refine go_pure p15n fun mm11 hm11 => ?_
    try simp only [St.new_nx, St.bump_nx, St.set_nx, St.del_nx] at hm11
    simp (implicitDefEqProofs := false) (maxSteps := 2000000) (disch := (first | omega | (simp only [St.new_nx, St.set_nx, St.del_nx, St.bump_nx]; done) | (simp only [St.new_nx, St.set_nx, St.del_nx, St.bump_nx]; omega) | fail))
    refine go_pure p16 fun mm12 hm12 => ?_
    try simp only [St.new_nx, St.bump_nx, St.set_nx, St.del_nx] at hm12
    simp (implicitDefEqProofs := false) (maxSteps := 2000000) (disch := (first | omega | (simp only [St.new_nx, St.set_nx, St.del_nx, St.bump_nx]; done) | (simp only [St.new_nx, St.set_nx, St.del_nx, St.bump_nx]; omega) | fail))
  have hl' : ¬ (600 : Int) < M.length := by omega
  have h50 := p50 M t hg (by omega)
  have h51 := p51 M hl
  cases ho : outs M t with
  | true =>
    rw [ho] at h50
    rw [bad fun h => by have := h.1.2.1; rw [known, ho] at this; simp at this]
    simp (implicitDefEqProofs := false) (maxSteps := 2000000) (disch := (first | omega | (simp only [St.new_nx, St.set_nx, St.del_nx, St.bump_nx]; done) | (simp only [St.new_nx, St.set_nx, St.del_nx, St.bump_nx]; omega) | fail)) []
    intro m hm
    simp (implicitDefEqProofs := false) (maxSteps := 2000000) (disch := (first | omega | (simp only [St.new_nx, St.set_nx, St.del_nx, St.bump_nx]; done) | (simp only [St.new_nx, St.set_nx, St.del_nx, St.bump_nx]; omega) | fail)) [a11r2]
    refine go_pure h13 fun mm13 hm13 => ?_
    try simp only [St.new_nx, St.bump_nx, St.set_nx, St.del_nx] at hm13
    simp (implicitDefEqProofs := false) (maxSteps := 2000000) (disch := (first | omega | (simp only [St.new_nx, St.set_nx, St.del_nx, St.bump_nx]; done) | (simp only [St.new_nx, St.set_nx, St.del_nx, St.bump_nx]; omega) | fail)) [a11r3, hl']
    refine go_pure h50 fun mm14 hm14 => ?_
    try simp only [St.new_nx, St.bump_nx, St.set_nx, St.del_nx] at hm14
    simp (implicitDefEqProofs := false) (maxSteps := 2000000) (disch := (first | omega | (simp only [St.new_nx, St.set_nx, St.del_nx, St.bump_nx]; done) | (simp only [St.new_nx, St.set_nx, St.del_nx, St.bump_nx]; omega) | fail))
    refine go_pure p15n fun mm15 hm15 => ?_
    try simp only [St.new_nx, St.bump_nx, St.set_nx, St.del_nx] at hm15
    simp (implicitDefEqProofs := false) (maxSteps := 2000000) (disch := (first | omega | (simp only [St.new_nx, St.set_nx, St.del_nx, St.bump_nx]; done) | (simp only [St.new_nx, St.set_nx, St.del_nx, St.bump_nx]; omega) | fail))
    refine go_pure p16 fun mm16 hm16 => ?_
    try simp only [St.new_nx, St.bump_nx, St.set_nx, St.del_nx] at hm16
    simp (implicitDefEqProofs := false) (maxSteps := 2000000) (disch := (first | omega | (simp only [St.new_nx, St.set_nx, St.del_nx, St.bump_nx]; done) | (simp only [St.new_nx, St.set_nx, St.del_nx, St.bump_nx]; omega) | fail))
  | false =>
    rw [ho] at h50
    have hkn : known M t = true := by rw [known, hp, ho]; rfl
    cases hsv : solvable M with
    | false =>
      rw [hsv] at h51
      rw [bad fun h => by rw [solvable_is ⟨h.1.2.2, h.2⟩] at hsv; cases hsv]
      simp (implicitDefEqProofs := false) (maxSteps := 2000000) (disch := (first | omega | (simp only [St.new_nx, St.set_nx, St.del_nx, St.bump_nx]; done) | (simp only [St.new_nx, St.set_nx, St.del_nx, St.bump_nx]; omega) | fail)) []
      intro m hm
      simp (implicitDefEqProofs := false) (maxSteps := 2000000) (disch := (first | omega | (simp only [St.new_nx, St.set_nx, St.del_nx, St.bump_nx]; done) | (simp only [St.new_nx, St.set_nx, St.del_nx, St.bump_nx]; omega) | fail)) [a11r2]
      refine go_pure h13 fun mm17 hm17 => ?_
      try simp only [St.new_nx, St.bump_nx, St.set_nx, St.del_nx] at hm17
      simp (implicitDefEqProofs := false) (maxSteps := 2000000) (disch := (first | omega | (simp only [St.new_nx, St.set_nx, St.del_nx, St.bump_nx]; done) | (simp only [St.new_nx, St.set_nx, St.del_nx, St.bump_nx]; omega) | fail)) [a11r3, hl']
      refine go_pure h50 fun mm18 hm18 => ?_
      try simp only [St.new_nx, St.bump_nx, St.set_nx, St.del_nx] at hm18
      simp (implicitDefEqProofs := false) (maxSteps := 2000000) (disch := (first | omega | (simp only [St.new_nx, St.set_nx, St.del_nx, St.bump_nx]; done) | (simp only [St.new_nx, St.set_nx, St.del_nx, St.bump_nx]; omega) | fail))
      refine go_pure h51 fun mm19 hm19 => ?_
      try simp only [St.new_nx, St.bump_nx, St.set_nx, St.del_nx] at hm19
      simp (implicitDefEqProofs := false) (maxSteps := 2000000) (disch := (first | omega | (simp only [St.new_nx, St.set_nx, St.del_nx, St.bump_nx]; done) | (simp only [St.new_nx, St.set_nx, St.del_nx, St.bump_nx]; omega) | fail))
      refine go_pure p15n fun mm20 hm20 => ?_
      try simp only [St.new_nx, St.bump_nx, St.set_nx, St.del_nx] at hm20
      simp (implicitDefEqProofs := false) (maxSteps := 2000000) (disch := (first | omega | (simp only [St.new_nx, St.set_nx, St.del_nx, St.bump_nx]; done) | (simp only [St.new_nx, St.set_nx, St.del_nx, St.bump_nx]; omega) | fail))
      refine go_pure p16 fun mm21 hm21 => ?_
      try simp only [St.new_nx, St.bump_nx, St.set_nx, St.del_nx] at hm21
      simp (implicitDefEqProofs := false) (maxSteps := 2000000) (disch := (first | omega | (simp only [St.new_nx, St.set_nx, St.del_nx, St.bump_nx]; done) | (simp only [St.new_nx, St.set_nx, St.del_nx, St.bump_nx]; omega) | fail))
    | true =>
      rw [hsv] at h51
      have hMW : okM M ∧ WellFounded (dep M) := Classical.byContradiction fun h => by rw [solvable_not h] at hsv; cases hsv
      obtain ⟨hM, hw⟩ := hMW
      rw [good ⟨⟨hl, hkn, hM⟩, hw⟩]
      have h52 := p52 hw hl hM t (known_gk hkn).2
      by_cases hpr : proper (rv hw t) = true
      · rw [if_pos hpr] at h52 ⊢
        have h31 := p31 (rv hw t) (proper_lim hpr) (rv hw t)
        rw [same_refl] at h31
        simp (implicitDefEqProofs := false) (maxSteps := 2000000) (disch := (first | omega | (simp only [St.new_nx, St.set_nx, St.del_nx, St.bump_nx]; done) | (simp only [St.new_nx, St.set_nx, St.del_nx, St.bump_nx]; omega) | fail)) []
        intro m hm
        simp (implicitDefEqProofs := false) (maxSteps := 2000000) (disch := (first | omega | (simp only [St.new_nx, St.set_nx, St.del_nx, St.bump_nx]; done) | (simp only [St.new_nx, St.set_nx, St.del_nx, St.bump_nx]; omega) | fail)) [a11r2]
        refine go_pure h13 fun mm22 hm22 => ?_
        try simp only [St.new_nx, St.bump_nx, St.set_nx, St.del_nx] at hm22
        simp (implicitDefEqProofs := false) (maxSteps := 2000000) (disch := (first | omega | (simp only [St.new_nx, St.set_nx, St.del_nx, St.bump_nx]; done) | (simp only [St.new_nx, St.set_nx, St.del_nx, St.bump_nx]; omega) | fail)) [a11r4, hl']
        refine go_pure h50 fun mm23 hm23 => ?_
        try simp only [St.new_nx, St.bump_nx, St.set_nx, St.del_nx] at hm23
        simp (implicitDefEqProofs := false) (maxSteps := 2000000) (disch := (first | omega | (simp only [St.new_nx, St.set_nx, St.del_nx, St.bump_nx]; done) | (simp only [St.new_nx, St.set_nx, St.del_nx, St.bump_nx]; omega) | fail))
        refine go_pure h51 fun mm24 hm24 => ?_
        try simp only [St.new_nx, St.bump_nx, St.set_nx, St.del_nx] at hm24
        simp (implicitDefEqProofs := false) (maxSteps := 2000000) (disch := (first | omega | (simp only [St.new_nx, St.set_nx, St.del_nx, St.bump_nx]; done) | (simp only [St.new_nx, St.set_nx, St.del_nx, St.bump_nx]; omega) | fail))
        refine go_pure h52 fun mm25 hm25 => ?_
        try simp only [St.new_nx, St.bump_nx, St.set_nx, St.del_nx] at hm25
        simp (implicitDefEqProofs := false) (maxSteps := 2000000) (disch := (first | omega | (simp only [St.new_nx, St.set_nx, St.del_nx, St.bump_nx]; done) | (simp only [St.new_nx, St.set_nx, St.del_nx, St.bump_nx]; omega) | fail)) [a11r5]
        refine go_pure h31 fun mm26 hm26 => ?_
        try simp only [St.new_nx, St.bump_nx, St.set_nx, St.del_nx] at hm26
        simp (implicitDefEqProofs := false) (maxSteps := 2000000) (disch := (first | omega | (simp only [St.new_nx, St.set_nx, St.del_nx, St.bump_nx]; done) | (simp only [St.new_nx, St.set_nx, St.del_nx, St.bump_nx]; omega) | fail))
        refine go_pure p16 fun mm27 hm27 => ?_
        try simp only [St.new_nx, St.bump_nx, St.set_nx, St.del_nx] at hm27
        simp (implicitDefEqProofs := false) (maxSteps := 2000000) (disch := (first | omega | (simp only [St.new_nx, St.set_nx, St.del_nx, St.bump_nx]; done) | (simp only [St.new_nx, St.set_nx, St.del_nx, St.bump_nx]; omega) | fail))
      · rw [if_neg hpr] at h52 ⊢
        have h31 := p31 nul nul_lim nul
        rw [same_refl] at h31
        simp (implicitDefEqProofs := false) (maxSteps := 2000000) (disch := (first | omega | (simp only [St.new_nx, St.set_nx, St.del_nx, St.bump_nx]; done) | (simp only [St.new_nx, St.set_nx, St.del_nx, St.bump_nx]; omega) | fail)) []
        intro m hm
        simp (implicitDefEqProofs := false) (maxSteps := 2000000) (disch := (first | omega | (simp only [St.new_nx, St.set_nx, St.del_nx, St.bump_nx]; done) | (simp only [St.new_nx, St.set_nx, St.del_nx, St.bump_nx]; omega) | fail)) [a11r2]
        refine go_pure h13 fun mm28 hm28 => ?_
        try simp only [St.new_nx, St.bump_nx, St.set_nx, St.del_nx] at hm28
        simp (implicitDefEqProofs := false) (maxSteps := 2000000) (disch := (first | omega | (simp only [St.new_nx, St.set_nx, St.del_nx, St.bump_nx]; done) | (simp only [St.new_nx, St.set_nx, St.del_nx, St.bump_nx]; omega) | fail)) [a11r4, hl']
        refine go_pure h50 fun mm29 hm29 => ?_
        try simp only [St.new_nx, St.bump_nx, St.set_nx, St.del_nx] at hm29
        simp (implicitDefEqProofs := false) (maxSteps := 2000000) (disch := (first | omega | (simp only [St.new_nx, St.set_nx, St.del_nx, St.bump_nx]; done) | (simp only [St.new_nx, St.set_nx, St.del_nx, St.bump_nx]; omega) | fail))
        refine go_pure h51 fun mm30 hm30 => ?_
        try simp only [St.new_nx, St.bump_nx, St.set_nx, St.del_nx] at hm30
        simp (implicitDefEqProofs := false) (maxSteps := 2000000) (disch := (first | omega | (simp only [St.new_nx, St.set_nx, St.del_nx, St.bump_nx]; done) | (simp only [St.new_nx, St.set_nx, St.del_nx, St.bump_nx]; omega) | fail))
        refine go_pure h52 fun mm31 hm31 => ?_
        try simp only [St.new_nx, St.bump_nx, St.set_nx, St.del_nx] at hm31
        simp (implicitDefEqProofs := false) (maxSteps := 2000000) (disch := (first | omega | (simp only [St.new_nx, St.set_nx, St.del_nx, St.bump_nx]; done) | (simp only [St.new_nx, St.set_nx, St.del_nx, St.bump_nx]; omega) | fail)) [a11r5]
        refine go_pure h31 fun mm32 hm32 => ?_
        try simp only [St.new_nx, St.bump_nx, St.set_nx, St.del_nx] at hm32
        simp (implicitDefEqProofs := false) (maxSteps := 2000000) (disch := (first | omega | (simp only [St.new_nx, St.set_nx, St.del_nx, St.bump_nx]; done) | (simp only [St.new_nx, St.set_nx, St.del_nx, St.bump_nx]; omega) | fail))
        refine go_pure p16 fun mm33 hm33 => ?_
        try simp only [St.new_nx, St.bump_nx, St.set_nx, St.del_nx] at hm33
        simp (implicitDefEqProofs := false) (maxSteps := 2000000) (disch := (first | omega | (simp only [St.new_nx, St.set_nx, St.del_nx, St.bump_nx]; done) | (simp only [St.new_nx, St.set_nx, St.del_nx, St.bump_nx]; omega) | fail))
end Ty
end Go.AL
/- Metavariables, read. -/
set_option linter.unusedVariables false
set_option linter.unusedSimpArgs false
set_option maxRecDepth 100000
namespace Go.AL.Ty
open Go Go.Proofs Go.ChangeShapes Go.WideShapes Go.ChangeAt Go.RowKit

theorem cells98 : Try.prog.cellsOf 98 = 10 := by kernel_rfl
theorem cells4 : Try.prog.cellsOf 4 = 1 := by kernel_rfl
theorem bytes98 : Try.prog.bytesOf 98 = 128 := by kernel_rfl
section
variable {H : Type} {enc : TypeId × Value → H} {w : World}

theorem Cells.append {cs cs' : List Value} {xs xs' : List AV} (h : Cells w cs xs) (h' : Cells w cs' xs') : Cells w (cs ++ cs') (xs ++ xs') := by
  obtain ⟨h1, h2, h3⟩ := h
  obtain ⟨k1, k2, k3⟩ := h'
  refine ⟨by simp [h1, k1], fun v hv => ?_, fun j v y hv hy => ?_⟩
  · rcases List.mem_append.1 hv with hv | hv
    · exact h2 v hv
    · exact k2 v hv
  · by_cases hj : j < cs.length
    · rw [List.getElem?_append_left hj] at hv
      rw [List.getElem?_append_left (by omega)] at hy
      exact h3 j v y hv hy
    · rw [List.getElem?_append_right (by omega)] at hv
      rw [List.getElem?_append_right (by omega), ← h1] at hy
      exact k3 _ v y hv hy

theorem trod_meta (n : Nat) : ∀ cs x, DataW.trod enc Try.prog w 0 (fun _ => true) true n 98 cs = some x → ∃ m : Mt, Cells w cs m.av.cells := by
  intro cs x h
  obtain ⟨xs, m, rfl, rfl, hl, hxl, hf⟩ := DataW.trod_struct Try.underlying98 h
  rw [cells98] at hl
  match cs, hl with
  | [c0, c1, c2, c3, c4, c5, c6, c7, c8, c9], _ =>
    have h0 : DataW.trod enc Try.prog w 0 (fun _ => true) true m 24 (([c0, c1, c2, c3, c4, c5, c6, c7, c8, c9].drop 0).take (Try.prog.cellsOf 24)) = xs[0]? := hf 0 _ rfl
    rw [cells24] at h0
    have h1 : DataW.trod enc Try.prog w 0 (fun _ => true) true m 3 (([c0, c1, c2, c3, c4, c5, c6, c7, c8, c9].drop 4).take (Try.prog.cellsOf 3)) = xs[1]? := hf 1 _ rfl
    rw [cells3] at h1
    have h2 : DataW.trod enc Try.prog w 0 (fun _ => true) true m 4 (([c0, c1, c2, c3, c4, c5, c6, c7, c8, c9].drop 5).take (Try.prog.cellsOf 4)) = xs[2]? := hf 2 _ rfl
    rw [cells4] at h2
    have h3 : DataW.trod enc Try.prog w 0 (fun _ => true) true m 24 (([c0, c1, c2, c3, c4, c5, c6, c7, c8, c9].drop 6).take (Try.prog.cellsOf 24)) = xs[3]? := hf 3 _ rfl
    rw [cells24] at h3
    simp only [List.drop_zero, List.drop_succ_cons, List.take_succ_cons, List.take_zero] at h0 h1 h2 h3
    have hs : ∀ i, i < 4 → ∃ y, xs[i]? = some y := fun i hi => List.getElem?_eq_some_iff.2 ⟨by rw [hxl]; exact hi, rfl⟩ |> fun h => ⟨_, h⟩
    obtain ⟨y0, hy0⟩ := hs 0 (by omega)
    obtain ⟨y1, hy1⟩ := hs 1 (by omega)
    obtain ⟨y2, hy2⟩ := hs 2 (by omega)
    obtain ⟨y3, hy3⟩ := hs 3 (by omega)
    rw [hy0] at h0
    rw [hy1] at h1
    rw [hy2] at h2
    rw [hy3] at h3
    obtain ⟨t0, e0, _⟩ := trod_ty m _ _ h0
    obtain ⟨nn, e1, _, _⟩ := DataW.trod_int Try.underlying3 h1
    obtain ⟨b, e2, _⟩ := DataW.trod_bool Try.underlying4 h2
    obtain ⟨t3, e3, _⟩ := trod_ty m _ _ h3
    simp only [List.cons.injEq, and_true] at e1 e2
    subst e1 e2
    refine ⟨⟨t0, nn, b, t3⟩, ?_⟩
    have hmid : Cells w [.int .i64 nn, .bool b] [.int .i64 nn, .bool b] := .cons rfl (.int _ _) (.cons rfl (.bool _) (.nil w))
    have := Cells.append (Cells.append e0 hmid) e3
    simpa using this
theorem open_metas_sized {v : Value} {d : DataW H} {ps : List MemPlace} (h : DataW.Trod enc Try.prog w 0 (fun _ => true) true 69 v d ps) {base : Nat} (hval : Value.okWide Try.prog w .any base 69 v)
    {ts : List TypeId} {ds : List (DataW H)} (hsz : (DataW.weightsEach Try.prog ts ds).all (· ≤ reachBytes) = true) {j : Nat} (ht : ts[j]? = some 69) (hd : ds[j]? = some d) :
    ∃ l : List Mt, Rep ι0 F0 w v (.list 10 .none (l.map Mt.av)) ∧ l.length * 128 ≤ 140737488355328 := by
  obtain ⟨a, len, cap, rfl⟩ := okWide_slice Try.underlying69 hval
  obtain ⟨n, hn⟩ := h
  obtain ⟨v, l, e, k1, k2, k3, k4, _⟩ := slice_reads (f := fun m : Mt => m.av.cells) Try.underlying69 cells98 (by omega) (fun k hk cs y hy => trod_meta k cs y hy) hn
  simp [Value.cells] at e
  subst e
  refine ⟨l, k2 Mt.av fun _ => rfl, ?_⟩
  rcases DataW.trod_slice Try.underlying69 hn with ⟨_, h⟩ | ⟨_, _, _, _, _, _, _, _, h, _⟩
  · simp at h
    have := k4 h.1
    simp [this]
  · simp at h
    have := sized_slice hsz ht (hd.trans (congrArg some h.1)) Try.underlying69
    rw [bytes98] at this
    rw [k3 _ _ h.1]
    simp only [reachBytes] at this
    omega
end
end Go.AL.Ty
