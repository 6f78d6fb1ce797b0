/- Well formed code: both say the same. -/
import Derived.Test.YtlledcnjfgcipaaGreatDoorF10
import Derived.Test.YtlledcnjfgcipaaGreatDoorC2
import Derived.Test.YtlledcnjfgcipaaGreatDoorProg
import Derived.KernelRfl
import Derived.Test.YtlledcnjfgcipaaGreatDoorD2
import Derived.Sort.Row
import Derived.Sort.Grow
import Derived.Sort.EncStr
import Derived.Lib.SlicesCompact
set_option linter.unusedVariables false
set_option linter.unusedSimpArgs false
namespace Go.AL.Dm
open Go Go.Proofs
def small (t : Pl) : Prop := sz t ≤ 3000 ∧ dw t ≤ 199
theorem keptX_kept {s s1 s' : St} {o : Nat} (h : KeptX s1 o s') (hk : Kept s s1) (ho : s.nx ≤ o) (hn : s.nx ≤ s1.nx) : Kept s s' := fun q hq => (h q (by omega) (by omega)).trans (hk q hq)
theorem p45 (t : Pl) (h : small t) : PureC Tryz.prog 45 [t.av] (.bool (wf t)) := by
 refine PureC.intro fun s => fun_sound mixed Tryz.func45 Tryz.call45 c45 rfl (awpFun_go _ _ _ _ ?_)
 obtain ⟨h1, h2⟩ := h
 simp -implicitDefEqProofs (disch:=first|omega|simp only[nx4]<;>omega|fail) [a45, a45b, a45r0, a45r1, a45r2]
 refine go_calls (ACalls.mono (p82 t 1 0 0 (s.nx + 1) _ (by omega) (by omega) (by omega) (by omega) (by simp -implicitDefEqProofs (disch:=first|omega|simp only[nx4]<;>omega|fail) [cnt]) (by simp -implicitDefEqProofs (disch:=first|omega|simp only[nx4]<;>omega|fail))) fun r s' hn' h => go_of ?_)
 obtain ⟨rfl, nn', dd', q1, q2, q3, q4⟩ := h
 have hk : Kept s s' := keptX_kept q4 (by simp -implicitDefEqProofs (disch:=first|omega|simp only[nx4]<;>omega|fail)) (by omega) (by simp -implicitDefEqProofs (disch:=first|omega|simp only[nx4]<;>omega|fail); omega)
 simp -implicitDefEqProofs (disch:=first|omega|simp only[nx4]<;>omega|fail) [hk]
def cnt3 (n d : Int) (b : Bool) : AObj := .box [.int .i64 n, .int .i64 d, .bool b]
def R91 (t : Pl) (nn : Int) (o : Nat) (s : St) (r : AV) (s' : St) : Prop := r = .tup [] ∧ ∃ nn' dd', nn ≤ nn' ∧ nn' ≤ nn + sz t ∧ s'.m o = some (cnt3 nn' dd' (!wf t)) ∧ KeptX s o s'
def C91 (t : Pl) : Prop := ∀ (d nn dd : Int) (o : Nat) (s : St), 1 ≤ d → d + dw t ≤ 201 → 0 ≤ nn → nn + sz t ≤ 4000 → s.m o = some (cnt3 nn dd false) → o < s.nx →
 ACalls Tryz.prog 91 [.ptr o 0, t.av, .int .i64 d] s (R91 t nn o s)
def IB91 (t : Pl) (d nn : Int) (o : Nat) (s : St) (m : Nat) (g : Env) (s1 : St) : Prop :=
 ∃ (i : Nat) (nb db : Int) (b : Bool), i ≤ t.alts.length ∧ m = t.alts.length - i ∧ (if b then wf t = false else wfa (t.alts.drop i) = wf t) ∧ nn ≤ nb ∧ nb + sza (t.alts.drop i) ≤ nn + sz t ∧ d + 1 + dwa (t.alts.drop i) ≤ 201 ∧
  g.get 0 = .ptr o 0 ∧ g.get 2 = .int .i64 d ∧ g.get 4 = .ptr s.nx 0 ∧ g.get 7 = .int .i64 i ∧ s1.m s.nx = some (.box t.av.cells) ∧ s1.m o = some (cnt3 nb db b) ∧ KeptX s o s1 ∧ s.nx < s1.nx
theorem loopB91 (t : Pl) (ih2 : ∀ a ∈ t.alts, C91 a.2) (d nn : Int) (o : Nat) (s : St) (hd : 1 ≤ d) (hd2 : d + 1 + dwa t.alts ≤ 201) (b : Bool) (hw : if b then wf t = false else wfa t.alts = wf t) (hn : 0 ≤ nn) (hn2 : nn + sz t ≤ 4000) (nb db : Int) (hb1 : nn ≤ nb) (hb2 : nb + sza t.alts ≤ nn + sz t)
  (G : Env) (S : St) (g0 : G.get 0 = .ptr o 0) (g2 : G.get 2 = .int .i64 d) (g4 : G.get 4 = .ptr s.nx 0) (hbx : S.m s.nx = some (.box t.av.cells)) (hm : S.m o = some (cnt3 nb db b)) (hk : KeptX s o S) (hnx : s.nx < S.nx) (ho : o < s.nx) (hlen : t.alts.length ≤ 4000) :
  go (awp Tryz.prog (.seq (.reg false a91r10) (.block 2 (.loop a91l15))) (finQ [] (R91 t nn o s)) G S) := by
 simp -implicitDefEqProofs (disch:=first|omega|simp only[nx4]<;>omega|fail) [a91r10]
 refine go_loop (IB91 t d nn o s) t.alts.length ⟨0, nb, db, b, by omega, by omega, by simpa using hw, hb1, by simpa using hb2, by simpa using hd2, ?_, ?_, ?_, ?_, hbx, hm, hk, hnx⟩ ?_
 iterate 4 (simp -implicitDefEqProofs (disch:=first|omega|simp only[nx4]<;>omega|fail) [g0, g2, g4])
 rintro m g s1 ⟨i, nb, db, b, hi, rfl, hw, hb1, hb2, hd2, e0, e2, e4, e7, hbx, hm, hk, hnx⟩
 rw [cnt3] at hm
 cases b with
 | true =>
  have hz := sza_pos (t.alts.drop i) fun x _ => sz_pos x.2
  rw [if_pos rfl] at hw
  by_cases hlt' : (i : Int) < t.alts.length <;> simp -implicitDefEqProofs (disch:=first|omega|simp only[nx4]<;>omega|fail) [a91l15, a91r11, e0, e2, e4, e7, hbx, hm, hlt']
  all_goals exact ⟨rfl, nb, db, hb1, by omega, by rw [hm, hw]; rfl, hk⟩
 | false =>
  rw [if_neg (by simp)] at hw
  by_cases hlt : i < t.alts.length
  ·have hlt' : (i : Int) < t.alts.length := by omega
   have w3 := wrapS (i := i) (by omega)
   have w2 : IntKind.i64.wrap (d + 2) = d + 2 := wrap64 (by omega) (by have := dwa_pos (t.alts.drop i); omega)
   rw [List.drop_eq_getElem_cons hlt] at hw hb2 hd2
   have ihx := ih2 _ (List.getElem_mem hlt)
   generalize hx : t.alts[i] = x at hw hb2 hd2 ihx
   obtain ⟨xh, xb⟩ := x
   simp only [wfa] at hw
   simp only [sza] at hb2
   simp only [dwa] at hd2
   simp only at ihx
   have z1 := sz_pos xb
   have z2 := sza_pos (t.alts.drop (i + 1)) fun x _ => sz_pos x.2
   have z3 := dw_pos xb
   have w4 : IntKind.i64.wrap (nb + 1) = nb + 1 := wrap64 (by omega) (by omega)
   have hne : s.nx ≠ o := by omega
   simp -implicitDefEqProofs (disch:=first|omega|simp only[nx4]<;>omega|fail) [a91l15, a91r11, a91r12, a91r13, e0, e2, e4, e7, hbx, hm, hlt', hx, w2, w4, hne]
   refine go_calls (ACalls.mono (ihx (d + 2) (nb + 1) db o _ (by omega) (by omega) (by omega) (by omega) (by simp -implicitDefEqProofs (disch:=first|omega|simp only[nx4]<;>omega|fail) [cnt3]) (by simp -implicitDefEqProofs (disch:=first|omega|simp only[nx4]<;>omega|fail); omega)) fun r s' hn' h => go_of ?_)
   try simp only [St.new_nx, St.bump_nx, St.set_nx, St.del_nx] at hn'
   obtain ⟨rfl, nn', dd', q1, q2, q3, q4⟩ := h
   have hk' : KeptX s o s' := keptX_trans (by simp -implicitDefEqProofs (disch:=first|omega|simp only[nx4]<;>omega|fail) [hk]) q4 (by simp -implicitDefEqProofs (disch:=first|omega|simp only[nx4]<;>omega|fail); omega)
   have hbx' : s'.m s.nx = some (.box t.av.cells) := by
    rw [q4 s.nx (by simp -implicitDefEqProofs (disch:=first|omega|simp only[nx4]<;>omega|fail); omega) (by omega)]
    simp -implicitDefEqProofs (disch:=first|omega|simp only[nx4]<;>omega|fail) [hbx, hne]
   simp -implicitDefEqProofs (disch:=first|omega|simp only[nx4]<;>omega|fail) [a91r14, e7, w3]
   refine go_next (t.alts.length - (i + 1)) (by omega) ⟨i + 1, nn', dd', !wf xb, by omega, rfl, ?_, by omega, by omega, by omega, ?_, ?_, ?_, rfl, hbx', q3, hk', by omega⟩
   ·cases hb : wf xb with
    | false => rw [hb, Bool.false_and] at hw; simp [← hw]
    | true => rw [hb, Bool.true_and] at hw; simpa using hw
   all_goals simp -implicitDefEqProofs (disch:=first|omega|simp only[nx4]<;>omega|fail) [e0, e2, e4]
  ·have hlt' : ¬ (i : Int) < t.alts.length := by omega
   rw [List.drop_eq_nil_of_le (by omega)] at hw hb2
   simp only [wfa] at hw
   simp only [sza] at hb2
   simp -implicitDefEqProofs (disch:=first|omega|simp only[nx4]<;>omega|fail) [a91l15, a91r11, e0, e2, e4, e7, hbx, hm, hlt']
   exact ⟨rfl, nb, db, hb1, by omega, by rw [hm, ← hw]; rfl, hk⟩
def IA91 (t : Pl) (d nn : Int) (o : Nat) (s : St) (m : Nat) (g : Env) (s1 : St) : Prop :=
 ∃ (i : Nat) (nb db : Int) (b : Bool), i ≤ t.args.length ∧ m = t.args.length - i ∧ (if b then wf t = false else (wfs (t.args.drop i) && wfa t.alts) = wf t) ∧ nn ≤ nb ∧ nb + szs (t.args.drop i) + sza t.alts ≤ nn + sz t ∧ d + dws (t.args.drop i) ≤ 200 ∧
  g.get 0 = .ptr o 0 ∧ g.get 2 = .int .i64 d ∧ g.get 4 = .ptr s.nx 0 ∧ g.get 6 = .int .i64 i ∧ s1.m s.nx = some (.box t.av.cells) ∧ s1.m o = some (cnt3 nb db b) ∧ KeptX s o s1 ∧ s.nx < s1.nx
theorem loopA91 (t : Pl) (ih1 : ∀ x ∈ t.args, C91 x) (ih2 : ∀ a ∈ t.alts, C91 a.2) (d nn : Int) (o : Nat) (s : St) (hd : 1 ≤ d) (hd2 : d + dw t ≤ 201) (b : Bool) (hw : if b then wf t = false else (wfs t.args && wfa t.alts) = wf t) (hn : 0 ≤ nn) (hn2 : nn + sz t ≤ 4000) (nb db : Int) (hb1 : nn ≤ nb) (hb2 : nb + szs t.args + sza t.alts ≤ nn + sz t)
  (G : Env) (S : St) (g0 : G.get 0 = .ptr o 0) (g2 : G.get 2 = .int .i64 d) (g4 : G.get 4 = .ptr s.nx 0) (hbx : S.m s.nx = some (.box t.av.cells)) (hm : S.m o = some (cnt3 nb db b)) (hk : KeptX s o S) (hnx : s.nx < S.nx) (ho : o < s.nx) (hla : t.args.length ≤ 4000) (hlen : t.alts.length ≤ 4000) :
  go (awp Tryz.prog (.seq (.seq (.reg false a91r5) (.block 0 (.loop a91l9))) (.seq (.reg false a91r10) (.block 2 (.loop a91l15)))) (finQ [] (R91 t nn o s)) G S) := by
 have hde := dw_eq t
 have hda := dwa_pos t.alts
 have hza := sza_pos t.alts fun x _ => sz_pos x.2
 simp -implicitDefEqProofs (disch:=first|omega|simp only[nx4]<;>omega|fail) [a91r5]
 refine go_loop (IA91 t d nn o s) t.args.length ⟨0, nb, db, b, by omega, by omega, by simpa using hw, hb1, by simpa using hb2, by simp only [List.drop_zero]; omega, ?_, ?_, ?_, ?_, hbx, hm, hk, hnx⟩ ?_
 iterate 4 (simp -implicitDefEqProofs (disch:=first|omega|simp only[nx4]<;>omega|fail) [g0, g2, g4])
 rintro m g s1 ⟨i, nb, db, b, hi, rfl, hw, hb1, hb2, hd3, e0, e2, e4, e6, hbx, hm, hk, hnx⟩
 have hzs := szs_pos (t.args.drop i) fun x _ => sz_pos x
 have hm0 := hm
 rw [cnt3] at hm
 cases b with
 | true =>
  rw [if_pos rfl] at hw
  by_cases hlt' : (i : Int) < t.args.length <;> simp -implicitDefEqProofs (disch:=first|omega|simp only[nx4]<;>omega|fail) [a91l9, a91r6, e0, e2, e4, e6, hbx, hm, hlt']
  all_goals
   refine loopB91 t ih2 d nn o s hd (by omega) true (by rw [if_pos rfl]; exact hw) hn hn2 nb db hb1 (by omega) _ _ ?_ ?_ ?_ hbx hm0 hk hnx ho hlen
   all_goals simp -implicitDefEqProofs (disch:=first|omega|simp only[nx4]<;>omega|fail) [e0, e2, e4]
 | false =>
  rw [if_neg (by simp)] at hw
  by_cases hlt : i < t.args.length
  ·have hlt' : (i : Int) < t.args.length := by omega
   have w3 := wrapS (i := i) (by omega)
   have w1 : IntKind.i64.wrap (d + 1) = d + 1 := wrap64 (by omega) (by have := dws_pos (t.args.drop i); omega)
   rw [List.drop_eq_getElem_cons hlt] at hw hb2 hd3
   have ihx := ih1 _ (List.getElem_mem hlt)
   generalize hx : t.args[i] = x at hw hb2 hd3 ihx
   simp only [wfs] at hw
   simp only [szs] at hb2
   simp only [dws] at hd3
   have z1 := sz_pos x
   have z2 := szs_pos (t.args.drop (i + 1)) fun x _ => sz_pos x
   have z3 := dw_pos x
   simp -implicitDefEqProofs (disch:=first|omega|simp only[nx4]<;>omega|fail) [a91l9, a91r6, a91r7, e0, e2, e4, e6, hbx, hm, hlt', hx, w1]
   refine go_calls (ACalls.mono (ihx (d + 1) nb db o _ (by omega) (by omega) (by omega) (by omega) (by simp -implicitDefEqProofs (disch:=first|omega|simp only[nx4]<;>omega|fail) [hm, cnt3]) (by omega)) fun r s' hn' h => go_of ?_)
   obtain ⟨rfl, nn', dd', q1, q2, q3, q4⟩ := h
   have hk' : KeptX s o s' := keptX_trans hk q4 (by omega)
   have hbx' : s'.m s.nx = some (.box t.av.cells) := by
    rw [q4 s.nx (by omega) (by omega)]
    exact hbx
   simp -implicitDefEqProofs (disch:=first|omega|simp only[nx4]<;>omega|fail) [a91r8, e6, w3]
   refine go_next (t.args.length - (i + 1)) (by omega) ⟨i + 1, nn', dd', !wf x, by omega, rfl, ?_, by omega, by omega, by omega, ?_, ?_, ?_, rfl, hbx', q3, hk', by omega⟩
   ·cases hb : wf x with
    | false => rw [hb, Bool.false_and, Bool.false_and] at hw; simp [← hw]
    | true => rw [hb, Bool.true_and] at hw; simpa using hw
   all_goals simp -implicitDefEqProofs (disch:=first|omega|simp only[nx4]<;>omega|fail) [e0, e2, e4]
  ·have hlt' : ¬ (i : Int) < t.args.length := by omega
   rw [List.drop_eq_nil_of_le (by omega)] at hw hb2
   simp only [wfs, Bool.true_and] at hw
   simp only [szs] at hb2
   simp -implicitDefEqProofs (disch:=first|omega|simp only[nx4]<;>omega|fail) [a91l9, a91r6, e0, e2, e4, e6, hbx, hm, hlt']
   refine loopB91 t ih2 d nn o s hd (by omega) false (by rw [if_neg (by simp)]; exact hw) hn hn2 nb db hb1 (by omega) _ _ ?_ ?_ ?_ hbx hm0 hk hnx ho hlen
   all_goals simp -implicitDefEqProofs (disch:=first|omega|simp only[nx4]<;>omega|fail) [e0, e2, e4]
theorem p91 (t : Pl) : C91 t := by
 induction t using Pl.ind with
 | h t ih1 ih2 =>
  intro d nn dd o s hd hd2 hn hn2 hm ho
  have hps := szs_len t.args
  have hpa := sza_len t.alts
  have hse := sz_eq t
  have hde := dw_eq t
  have hdp := dw_pos t
  have hz1 := sz_pos t
  refine fun_sound mixed Tryz.func91 Tryz.call91 c91 rfl (awpFun_go _ _ _ _ ?_)
  have h140 := p140 t
  have hwf := wf_eq t
  have w1 : IntKind.i64.wrap (nn + 1) = nn + 1 := wrap64 (by omega) (by omega)
  have t1 : nn + 1 ≤ 4000 := by omega
  have t2 : d ≤ 200 := by omega
  have t1' : ¬ 4000 < nn + 1 := by omega
  have t2' : ¬ 200 < d := by omega
  have hne : o ≠ s.nx := by omega
  rw [cnt3] at hm
  cases hno : nodeOK t <;> rw [hno] at h140 hwf
  ·simp -implicitDefEqProofs (disch:=first|omega|simp only[nx4]<;>omega|fail) [a91, a91b, a91r0, a91r1, a91r2, a91r3, hm, w1, t1', t2', hne]
   refine go_pure h140 fun mm1 hm1 => ?_
   try simp only [nx4] at hm1
   simp -implicitDefEqProofs (disch:=first|omega|simp only[nx4]<;>omega|fail) [a91r4, hm, hne]
   refine loopA91 t ih1 ih2 d nn o s hd hd2 true (by rw [if_pos rfl, hwf]; rfl) hn hn2 (nn + 1) (if dd < d then d else dd) (by omega) (by omega) _ _ ?_ ?_ ?_ ?_ ?_ ?_ ?_ ho (by omega) (by omega)
   all_goals (try simp -implicitDefEqProofs (disch:=first|omega|simp only[nx4]<;>omega|fail) [cnt3])
   all_goals omega
  ·simp -implicitDefEqProofs (disch:=first|omega|simp only[nx4]<;>omega|fail) [a91, a91b, a91r0, a91r1, a91r2, a91r3, hm, w1, t1', t2', hne]
   refine go_pure h140 fun mm2 hm2 => ?_
   try simp only [nx4] at hm2
   simp -implicitDefEqProofs (disch:=first|omega|simp only[nx4]<;>omega|fail)
   refine loopA91 t ih1 ih2 d nn o s hd hd2 false (by rw [if_neg (by simp), hwf, Bool.true_and]) hn hn2 (nn + 1) (if dd < d then d else dd) (by omega) (by omega) _ _ ?_ ?_ ?_ ?_ ?_ ?_ ?_ ho (by omega) (by omega)
   all_goals (try simp -implicitDefEqProofs (disch:=first|omega|simp only[nx4]<;>omega|fail) [cnt3])
   all_goals omega
theorem p51 (t : Pl) (h : small t) (s : St) : ACalls Tryz.prog 51 [t.av] s fun r s' => (∃ a b, r = .tup [.int .i64 a, .int .i64 b, .bool (wf t)]) ∧ Kept s s' := by
 refine fun_sound mixed Tryz.func51 Tryz.call51 c51 rfl (awpFun_go _ _ _ _ ?_)
 obtain ⟨h1, h2⟩ := h
 simp -implicitDefEqProofs (disch:=first|omega|simp only[nx4]<;>omega|fail) [a51, a51b, a51r0, a51r1, a51r2]
 refine go_calls (ACalls.mono (p91 t 1 0 0 (s.nx + 1) _ (by omega) (by omega) (by omega) (by omega) (by simp -implicitDefEqProofs (disch:=first|omega|simp only[nx4]<;>omega|fail) [cnt3]) (by simp -implicitDefEqProofs (disch:=first|omega|simp only[nx4]<;>omega|fail))) fun r s' hn' h => go_of ?_)
 obtain ⟨rfl, nn', dd', q1, q2, q3, q4⟩ := h
 have hk : Kept s s' := keptX_kept q4 (by simp -implicitDefEqProofs (disch:=first|omega|simp only[nx4]<;>omega|fail)) (by omega) (by simp -implicitDefEqProofs (disch:=first|omega|simp only[nx4]<;>omega|fail); omega)
 rw [cnt3] at q3
 cases hw : wf t <;> rw [hw] at q3
 ·simp -implicitDefEqProofs (disch:=first|omega|simp only[nx4]<;>omega|fail) [a51r3, a51r4, q3]
  exact hk
 ·simp -implicitDefEqProofs (disch:=first|omega|simp only[nx4]<;>omega|fail) [a51r3, a51r5, q3]
  exact fun m _ => hk
theorem p27 (t : Pl) (h : small t) : PureC Tryz.prog 27 [t.av] (.bool (wf t)) := by
 refine PureC.intro fun s => fun_sound mixed Tryz.func27 Tryz.call27 c27 rfl (awpFun_go _ _ _ _ ?_)
 simp -implicitDefEqProofs (disch:=first|omega|simp only[nx4]<;>omega|fail) [a27, a27b, a27r0, a27r1]
 refine go_calls (ACalls.mono (p51 t h _) fun r s' hn' h => go_of ?_)
 obtain ⟨⟨a, b, rfl⟩, hk⟩ := h
 have hk' : Kept s s' := fun q hq => (hk q (by simp -implicitDefEqProofs (disch:=first|omega|simp only[nx4]<;>omega|fail); omega)).trans (by simp -implicitDefEqProofs (disch:=first|omega|simp only[nx4]<;>omega|fail))
 simp -implicitDefEqProofs (disch:=first|omega|simp only[nx4]<;>omega|fail) [a27r2, hk']
end Go.AL.Dm
namespace Go.AL.Dm
open Go.Proofs
/- damask/term.Parts -/
def a103r0 : Rg := [oT 1 (.box (.g 0)), oT 2 (.mv (.c .nilfn))]
def a103r1 : Rg := [oL 3 (.mkfn 143 [] [(.g 1)]), oT 2 (.mv (.l 3))]
def a103b : ACode := (.seq (.seq (rq a103r0) (.frz 1)) (.seq (rq a103r1) .ret))
def a103 : AFun := ⟨1, 4, a103b, [.tmp (true, 2)]⟩
theorem c103 : compileFun Tryz.prog [0, 1, 2, 1000000000001] Tryz.f103 = some a103 := by kernel_rfl
/- damask/term.Parts$1 -/
def a143r0 : Rg := [oL 8 (.load 5 true (.g 1)), oL 9 (.cf 141 [(.l 8)]), oT 3 (.mv (.l 9))]
def a143r1 : Rg := [oL 10 (.fa 3 (.g 1)), oT 11 (.ld (.l 10)), oT 12 (.len (.g 11)), oT 13 (.mv (ci 0))]
def a143r2 : Rg := [oT 14 (.bin .lss (.g 13) (.g 12))]
def a143r3 : Rg := [oL 15 (.ia 5 (.g 11) (.g 13)), oL 16 (.load 5 true (.l 15)), oT 5 (.alloc [i0, i0, s0, nl, nl]), oN (.store 5 (.g 5) (.l 16))]
def a143r4 : Rg := [oL 17 (.mv (.g 0)), oL 18 (.mv (.g 3)), oL 19 (.load 5 true (.g 5)), oL 20 (.call false (.l 17) [(.l 18), (.l 19)]), oT 21 (.un .not (.l 20))]
def a143r5 : Rg := [oL 22 (.bin .add (.g 13) (ci 1)), oT 13 (.mv (.l 22))]
def a143l6 : ACode := (.seq (rq a143r2) (.seq (.cond (.g 14) .skip (.exit 0)) (.seq (.block 1 (.seq (rq a143r3) (.seq (rq a143r4) (.cond (.g 21) .ret .skip)))) (rq a143r5))))
def a143r7 : Rg := [oL 23 (.fa 4 (.g 1)), oT 24 (.ld (.l 23)), oT 25 (.len (.g 24)), oT 26 (.mv (ci 0))]
def a143r8 : Rg := [oT 27 (.bin .lss (.g 26) (.g 25))]
def a143r9 : Rg := [oL 28 (.ia 8 (.g 24) (.g 26)), oL 29 (.load 8 true (.l 28)), oT 7 (.alloc [i0, s0, i0, i0, i0, s0, nl, nl]), oN (.store 8 (.g 7) (.l 29))]
def a143r10 : Rg := [oL 30 (.mv (.g 0)), oL 31 (.load 8 true (.g 7)), oL 32 (.ct 142 [(.l 31)]), oL 33 (.fa 3 (.g 7)), oL 34 (.load 5 true (.l 33))]
def a143s10 : Rg := [oL 35 (.call false (.l 30) [(.l 32), (.l 34)]), oT 36 (.un .not (.l 35))]
def a143r11 : Rg := [oL 37 (.bin .add (.g 26) (ci 1)), oT 26 (.mv (.l 37))]
def a143l12 : ACode := (.seq (rq a143r8) (.seq (.cond (.g 27) .skip (.exit 2)) (.seq (.block 3 (.seq (rq a143r9) (.seq (.reg2 a143r10 a143s10) (.cond (.g 36) .ret .skip)))) (rq a143r11))))
def a143b : ACode := (.seq (rq a143r0) (.seq (.seq (rq a143r1) (.block 0 (.loop a143l6))) (.seq (rq a143r7) (.block 2 (.loop a143l12)))))
def a143 : AFun := ⟨2, 38, a143b, []⟩
theorem c143 : compileFun Tryz.prog [0, 1, 3, 5, 7, 11, 12, 13, 14, 21, 24, 25, 26, 27, 36, 10000000999999] Tryz.f143 = some a143 := by kernel_rfl
/- damask/term.Free -/
def a104r0 : Rg := [oT 1 (.box (.g 0)), oT 2 (.mv (.c nl))]
def a104r1 : Rg := [oL 6 (.mkmap), oT 3 (.mv (.l 6))]
def a104r2 : Rg := [oL 7 (.mv (.g 3)), oL 8 (.load 5 true (.g 1)), oL 9 (.cf 144 [(.l 7), (.l 8), (ci 0)])]
def a104r3 : Rg := [oT 4 (.mkslice 1 0 [] true (.c .any) (.c .any))]
def a104r4 : Rg := [oL 10 (.mv (.g 3)), oT 11 (.range (.l 10))]
def a104r5 : Rg := [oL 12 (.next (.g 11)), oT 13 (.extract (.l 12) 0)]
def a104r6 : Rg := [oL 14 (.entry (.g 11)), oL 15 (.extract (.l 14) 0), oT 5 (.mv (.l 15))]
def a104r7 : Rg := [oL 16 (.mv (.g 4)), oL 17 (.mv (.g 5)), oL 18 (.buildSlice 1 false [i0] 1 [(0, (.l 17))]), oL 19 (.append 1 8 (.l 16) (.l 18)), oT 4 (.mv (.l 19))]
def a104l8 : ACode := (.seq (rq a104r5) (.seq (.cond (.g 13) .skip (.exit 0)) (.block 1 (.seq (rq a104r6) (rq a104r7)))))
def a104r9 : Rg := [oL 20 (.mv (.g 4)), oL 21 (.cf 50 [(.l 20)])]
def a104r10 : Rg := [oL 22 (.mv (.g 4)), oT 2 (.mv (.l 22))]
def a104b : ACode := (.seq (rq a104r0) (.seq (rq a104r1) (.seq (rq a104r2) (.seq (rq a104r3) (.seq (.seq (rq a104r4) (.block 0 (.loop a104l8))) (.seq (rq a104r9) (.seq (rq a104r10) .ret)))))))
def a104 : AFun := ⟨1, 23, a104b, [.tmp (true, 2)]⟩
theorem c104 : compileFun Tryz.prog [0, 1, 2, 3, 4, 5, 11, 13, 5000001] Tryz.f104 = some a104 := by kernel_rfl
/- (damask/term.free).add -/
def a144r0 : Rg := [oT 3 (.box (.g 0)), oT 4 (.box (.g 1)), oT 5 (.box (.g 2))]
def a144r1 : Rg := [oL 8 (.fa 0 (.g 4)), oL 9 (.ld (.l 8)), oT 10 (.bin .eql (.l 9) (ci 1))]
def a144r2 : Rg := [oL 11 (.fa 1 (.g 4)), oL 12 (.ld (.l 11)), oL 13 (.ld (.g 5)), oT 14 (.bin .geq (.l 12) (.l 13))]
def a144r3 : Rg := [oL 15 (.ld (.g 3)), oL 16 (.fa 1 (.g 4)), oL 17 (.ld (.l 16)), oL 18 (.ld (.g 5)), oL 19 (.bin .sub (.l 17) (.l 18)), oN (.mapUpdate false (.l 15) (.l 19) cT)]
def a144r4 : Rg := [oL 20 (.load 5 true (.g 4)), oT 21 (.cf 103 [(.l 20)])]
def a144r5 : Rg := [oT 6 (.mv (.g 22))]
def a144r6 : Rg := [oT 7 (.alloc [i0, i0, s0, nl, nl]), oN (.store 5 (.g 7) (.g 23))]
def a144r7 : Rg := [oL 24 (.ld (.g 3)), oL 25 (.load 5 true (.g 7)), oL 26 (.ld (.g 5)), oL 27 (.mv (.g 6)), oL 28 (.bin .add (.l 26) (.l 27)), oL 29 (.cf 144 [(.l 24), (.l 25), (.l 28)])]
def a144x8 : ACode := (.seq (rq a144r5) (rq a144r6))
def a144y8 : ACode := (.block 1 (rq a144r7))
def a144b : ACode := (.seq (rq a144r0) (.seq (.seq (rq a144r1) (.cond (.g 10) (.seq (.seq (rq a144r2) (.cond (.g 14) (rq a144r3) .skip)) .ret) .skip)) (.seq (rq a144r4) (.block 0 (.rfunc (.g 21) [22, 23] 30 [3, 5, 6, 7, 22, 23] a144x8 a144y8)))))
def a144 : AFun := ⟨3, 30, a144b, []⟩
theorem c144 : compileFun Tryz.prog [0, 1, 2, 3, 4, 5, 6, 7, 10, 14, 21, 22, 23] Tryz.f144 = some a144 := by kernel_rfl
/- damask/term.Globals -/
def a47r0 : Rg := [oT 1 (.box (.g 0)), oT 2 (.mv (.c nl))]
def a47r1 : Rg := [oT 3 (.alloc [nl])]
def a47r2 : Rg := [oL 5 (.load 5 true (.g 1)), oT 6 (.cf 84 [(.l 5)])]
def a47r3 : Rg := [oT 4 (.alloc [i0, i0, s0, nl, nl]), oN (.store 5 (.g 4) (.g 7))]
def a47r4 : Rg := [oL 8 (.fa 0 (.g 4)), oL 9 (.ld (.l 8)), oT 10 (.bin .eql (.l 9) (ci 2))]
def a47r5 : Rg := [oL 11 (.ld (.g 3)), oL 12 (.fa 2 (.g 4)), oL 13 (.ld (.l 12)), oL 14 (.buildSlice 1 false [s0] 1 [(0, (.l 13))]), oL 15 (.append 1 16 (.l 11) (.l 14)), oN (.store 1 (.g 3) (.l 15))]
def a47x6 : ACode := (rq a47r3)
def a47y6 : ACode := (.block 1 (.seq (rq a47r4) (.cond (.g 10) (rq a47r5) .skip)))
def a47r7 : Rg := [oL 16 (.ld (.g 3)), oL 17 (.cf 85 [(.l 16)])]
def a47r8 : Rg := [oL 18 (.ld (.g 3)), oL 19 (.cf 86 [(.l 18)]), oT 2 (.mv (.l 19))]
def a47b : ACode := (.seq (rq a47r0) (.seq (rq a47r1) (.seq (.seq (rq a47r2) (.block 0 (.rfunc (.g 6) [7] 20 [3, 4, 7, 10] a47x6 a47y6))) (.seq (rq a47r7) (.seq (rq a47r8) .ret)))))
def a47 : AFun := ⟨1, 20, a47b, [.tmp (true, 2)]⟩
theorem c47 : compileFun Tryz.prog [0, 1, 2, 3, 4, 6, 7, 10] Tryz.f47 = some a47 := by kernel_rfl
/- damask/term.All -/
def a84r0 : Rg := [oT 1 (.box (.g 0)), oT 2 (.mv (.c .nilfn))]
def a84r1 : Rg := [oL 3 (.mkfn 118 [] [(.g 1)]), oT 2 (.mv (.l 3))]
def a84b : ACode := (.seq (.seq (rq a84r0) (.frz 1)) (.seq (rq a84r1) .ret))
def a84 : AFun := ⟨1, 4, a84b, [.tmp (true, 2)]⟩
theorem c84 : compileFun Tryz.prog [0, 1, 2, 1000000000001] Tryz.f84 = some a84 := by kernel_rfl
/- damask/term.All$1 -/
def a118r0 : Rg := [oL 3 (.load 5 true (.g 1)), oL 4 (.mv (.g 0)), oL 5 (.cf 119 [(.l 3), (.l 4)])]
def a118b : ACode := (rq a118r0)
def a118 : AFun := ⟨2, 6, a118b, []⟩
theorem c118 : compileFun Tryz.prog [0, 1] Tryz.f118 = some a118 := by kernel_rfl
/- damask/term.all -/
def a119r0 : Rg := [oT 2 (.box (.g 0)), oT 3 (.box (.g 1)), oT 4 (.alloc [bF])]
def a119r1 : Rg := [oL 7 (.ld (.g 3)), oL 8 (.load 5 true (.g 2)), oL 9 (.call false (.l 7) [(.l 8)]), oT 10 (.un .not (.l 9))]
def a119r2 : Rg := [oN (.store 1 (.g 4) cF)]
def a119r3 : Rg := [oL 11 (.load 5 true (.g 2)), oT 12 (.cf 103 [(.l 11)])]
def a119r4 : Rg := [oT 6 (.alloc [i0, i0, s0, nl, nl]), oN (.store 5 (.g 6) (.g 14))]
def a119r5 : Rg := [oL 15 (.load 5 true (.g 6)), oL 16 (.ld (.g 3)), oL 17 (.cf 119 [(.l 15), (.l 16)]), oT 18 (.un .not (.l 17))]
def a119r6 : Rg := [oN (.store 1 (.g 4) cF)]
def a119x7 : ACode := (rq a119r4)
def a119y7 : ACode := (.block 1 (.seq (rq a119r5) (.cond (.g 18) (.seq (rq a119r6) .ret) .skip)))
def a119r8 : Rg := [oN (.store 1 (.g 4) cT)]
def a119b : ACode := (.seq (rq a119r0) (.seq (.seq (rq a119r1) (.cond (.g 10) (.seq (rq a119r2) .ret) .skip)) (.seq (.seq (rq a119r3) (.block 0 (.rfunc (.g 12) [13, 14] 19 [3, 4, 6, 14, 18] a119x7 a119y7))) (.seq (rq a119r8) .ret))))
def a119 : AFun := ⟨2, 19, a119b, [.cell (true, 4) 1 false]⟩
theorem c119 : compileFun Tryz.prog [0, 1, 2, 3, 4, 6, 10, 12, 14, 18] Tryz.f119 = some a119 := by kernel_rfl
/- damask/term.IsClosed -/
def a75r0 : Rg := [oT 2 (.box (.g 0)), oT 3 (.box (.g 1)), oT 4 (.mv cF)]
def a75r1 : Rg := [oL 5 (.load 5 true (.g 2)), oL 6 (.cf 104 [(.l 5)]), oL 7 (.len (.l 6)), oL 8 (.bin .eql (.l 7) (ci 0)), oL 9 (.mv (.l 8)), oLt 10 (.load 5 true (.g 2)) 9, oLt 11 (.cf 47 [(.l 10)]) 9, oLt 12 (.mkfn 109 [] [(.g 3)]) 9, oLt 13 (.cf 46 [(.l 11), (.l 12)]) 9, oLt 14 (.un .not (.l 13)) 9, oL 15 (.pick (.l 9) (.l 14) cF), oT 4 (.mv (.l 15))]
def a75b : ACode := (.seq (rq a75r0) (.seq (rq a75r1) .ret))
def a75 : AFun := ⟨2, 16, a75b, [.tmp (true, 4)]⟩
theorem c75 : compileFun Tryz.prog [0, 1, 2, 3, 4] Tryz.f75 = some a75 := by kernel_rfl
/- damask/term.IsClosed$1 -/
def a109r0 : Rg := [oT 3 (.mv cF)]
def a109r1 : Rg := [oL 4 (.ld (.g 1)), oL 5 (.mv (.g 0)), oL 6 (.lookup true false [bF] false (.l 4) (.l 5)), oL 7 (.un .not (.l 6)), oT 3 (.mv (.l 7))]
def a109b : ACode := (.seq (rq a109r0) (.seq (rq a109r1) .ret))
def a109 : AFun := ⟨2, 8, a109b, [.tmp (true, 3)]⟩
theorem c109 : compileFun Tryz.prog [0, 1, 3] Tryz.f109 = some a109 := by kernel_rfl
/- slices.ContainsFunc[[]string,string] -/
def a46r0 : Rg := [oT 4 (.mv cF)]
def a46r1 : Rg := [oL 5 (.mv (.g 0)), oL 6 (.mv (.g 1)), oL 7 (.cf 83 [(.l 5), (.l 6)]), oL 8 (.bin .geq (.l 7) (ci 0)), oT 4 (.mv (.l 8))]
def a46b : ACode := (.seq (rq a46r0) (.seq (rq a46r1) .ret))
def a46 : AFun := ⟨2, 9, a46b, [.tmp (true, 4)]⟩
theorem c46 : compileFun Tryz.prog [0, 1, 4] Tryz.f46 = some a46 := by kernel_rfl
/- slices.IndexFunc[[]string,string] -/
def a83r0 : Rg := [oT 4 (.mv (ci 0))]
def a83r1 : Rg := [oL 6 (.mv (.g 0)), oT 7 (.len (.l 6)), oT 8 (.mv (ci 0))]
def a83r2 : Rg := [oT 9 (.bin .lss (.g 8) (.g 7))]
def a83r3 : Rg := [oL 10 (.mv (.g 8)), oT 5 (.mv (.l 10))]
def a83r4 : Rg := [oL 11 (.mv (.g 1)), oL 12 (.mv (.g 0)), oL 13 (.mv (.g 5)), oL 14 (.ia 1 (.l 12) (.l 13)), oL 15 (.ld (.l 14)), oT 16 (.call false (.l 11) [(.l 15)])]
def a83r5 : Rg := [oL 17 (.mv (.g 5)), oT 4 (.mv (.l 17))]
def a83r6 : Rg := [oL 18 (.bin .add (.g 8) (ci 1)), oT 8 (.mv (.l 18))]
def a83l7 : ACode := (.seq (rq a83r2) (.seq (.cond (.g 9) .skip (.exit 0)) (.seq (.block 1 (.seq (rq a83r3) (.seq (rq a83r4) (.cond (.g 16) (.seq (rq a83r5) .ret) .skip)))) (rq a83r6))))
def a83r8 : Rg := [oT 4 (.mv (ci (-1)))]
def a83b : ACode := (.seq (rq a83r0) (.seq (.seq (rq a83r1) (.block 0 (.loop a83l7))) (.seq (rq a83r8) .ret)))
def a83 : AFun := ⟨2, 19, a83b, [.tmp (true, 4)]⟩
theorem c83 : compileFun Tryz.prog [0, 1, 4, 5, 7, 8, 9, 16] Tryz.f83 = some a83 := by kernel_rfl
/- damask/term.IsProgram -/
def a36r0 : Rg := [oT 2 (.mv cF)]
def a36r1 : Rg := [oL 8 (.mv (.g 0)), oL 9 (.len (.l 8)), oT 10 (.bin .gtr (.l 9) (ci 400))]
def a36r2 : Rg := [oT 2 (.mv cF)]
def a36r3 : Rg := [oL 11 (.mkmap), oT 3 (.mv (.l 11))]
def a36r4 : Rg := [oT 12 (.mv (.g 0)), oT 13 (.len (.g 12)), oT 14 (.mv (ci 0))]
def a36r5 : Rg := [oT 15 (.bin .lss (.g 14) (.g 13))]
def a36r6 : Rg := [oL 16 (.ia 6 (.g 12) (.g 14)), oL 17 (.load 6 true (.l 16)), oT 5 (.alloc [s0, i0, i0, s0, nl, nl]), oN (.store 6 (.g 5) (.l 17))]
def a36r7 : Rg := [oL 18 (.fa 0 (.g 5)), oL 19 (.ld (.l 18)), oL 20 (.cf 74 [(.l 19)]), oL 21 (.un .not (.l 20)), oL 22 (.mv (.l 21)), oLf 23 (.mv (.g 3)) 22, oLf 24 (.fa 0 (.g 5)) 22, oLf 25 (.ld (.l 24)) 22, oLf 26 (.lookup true false [bF] false (.l 23) (.l 25)) 22, oL 27 (.pick (.l 22) cT (.l 26)), oL 28 (.mv (.l 27)), oLf 29 (.fa 1 (.g 5)) 28, oLf 30 (.load 5 true (.l 29)) 28, oLf 31 (.cf 45 [(.l 30)]) 28, oLf 32 (.un .not (.l 31)) 28, oT 33 (.pick (.l 28) cT (.l 32))]
def a36r8 : Rg := [oT 2 (.mv cF)]
def a36r9 : Rg := [oL 34 (.mv (.g 3)), oL 35 (.fa 0 (.g 5)), oL 36 (.ld (.l 35)), oN (.mapUpdate true (.l 34) (.l 36) cT)]
def a36r10 : Rg := [oL 37 (.bin .add (.g 14) (ci 1)), oT 14 (.mv (.l 37))]
def a36l11 : ACode := (.seq (rq a36r5) (.seq (.cond (.g 15) .skip (.exit 0)) (.seq (.block 1 (.seq (rq a36r6) (.seq (.seq (rq a36r7) (.cond (.g 33) (.seq (rq a36r8) .ret) .skip)) (rq a36r9)))) (rq a36r10))))
def a36r12 : Rg := [oT 38 (.mv (.g 0)), oT 39 (.len (.g 38)), oT 40 (.mv (ci 0))]
def a36r13 : Rg := [oT 41 (.bin .lss (.g 40) (.g 39))]
def a36r14 : Rg := [oL 42 (.ia 6 (.g 38) (.g 40)), oL 43 (.load 6 true (.l 42)), oT 7 (.alloc [s0, i0, i0, s0, nl, nl]), oN (.store 6 (.g 7) (.l 43))]
def a36r15 : Rg := [oL 44 (.fa 1 (.g 7)), oL 45 (.load 5 true (.l 44)), oL 46 (.mv (.g 3)), oL 47 (.cf 75 [(.l 45), (.l 46)]), oT 48 (.un .not (.l 47))]
def a36r16 : Rg := [oT 2 (.mv cF)]
def a36r17 : Rg := [oL 49 (.bin .add (.g 40) (ci 1)), oT 40 (.mv (.l 49))]
def a36l18 : ACode := (.seq (rq a36r13) (.seq (.cond (.g 41) .skip (.exit 2)) (.seq (.block 3 (.seq (rq a36r14) (.seq (rq a36r15) (.cond (.g 48) (.seq (rq a36r16) .ret) .skip)))) (rq a36r17))))
def a36r19 : Rg := [oT 2 (.mv cT)]
def a36b : ACode := (.seq (rq a36r0) (.seq (.seq (rq a36r1) (.cond (.g 10) (.seq (rq a36r2) .ret) .skip)) (.seq (rq a36r3) (.seq (.seq (rq a36r4) (.block 0 (.loop a36l11))) (.seq (.seq (rq a36r12) (.block 2 (.loop a36l18))) (.seq (rq a36r19) .ret))))))
def a36 : AFun := ⟨1, 50, a36b, [.tmp (true, 2)]⟩
theorem c36 : compileFun Tryz.prog [0, 2, 3, 5, 7, 10, 12, 13, 14, 15, 33, 38, 39, 40, 41, 48] Tryz.f36 = some a36 := by kernel_rfl
/- damask/damaskref15.Free -/
/- damask/damaskref15.collect -/
/- damask/damaskref15.inner -/
def a101r0 : Rg := [oT 1 (.box (.g 0)), oT 2 (.mv (ci 0))]
def a101r1 : Rg := [oL 3 (.fa 0 (.g 1)), oT 4 (.ld (.l 3))]
def a101r2 : Rg := [oL 6 (.bin .eql (.g 4) (ci 5)), oT 5 (.mv (.l 6))]
def a101r3 : Rg := [oL 7 (.fa 1 (.g 1)), oL 8 (.ld (.l 7)), oT 2 (.mv (.l 8))]
def a101r4 : Rg := [oL 10 (.bin .eql (.g 4) (ci 7)), oT 9 (.mv (.l 10))]
def a101r5 : Rg := [oL 11 (.fa 3 (.g 1)), oL 12 (.ld (.l 11)), oL 13 (.len (.l 12)), oL 14 (.bin .sub (.l 13) (ci 1)), oT 2 (.mv (.l 14))]
def a101r6 : Rg := [oT 2 (.mv (ci 0))]
def a101b : ACode := (.seq (rq a101r0) (.seq (.seq (rq a101r1) (.block 0 (.seq (rq a101r2) (.cond (.g 5) (.seq (rq a101r3) .ret) (.seq (rq a101r4) (.cond (.g 9) (.seq (rq a101r5) .ret) .skip)))))) (.seq (rq a101r6) .ret)))
def a101 : AFun := ⟨1, 15, a101b, [.tmp (true, 2)]⟩
theorem c101 : compileFun Tryz.prog [0, 1, 2, 4, 5, 9] Tryz.f101 = some a101 := by kernel_rfl
/- damask/damaskref15.Binds -/
def a95r0 : Rg := [oT 1 (.box (.g 0)), oT 2 (.mv (ci 0))]
def a95r1 : Rg := [oL 3 (.fa 0 (.g 1)), oL 4 (.ld (.l 3)), oT 5 (.bin .eql (.l 4) (ci 2))]
def a95r2 : Rg := [oL 6 (.fa 2 (.g 1)), oL 7 (.ld (.l 6)), oL 8 (.bin .add (ci 1) (.l 7)), oT 2 (.mv (.l 8))]
def a95r3 : Rg := [oT 2 (.mv (ci 1))]
def a95b : ACode := (.seq (rq a95r0) (.seq (.seq (rq a95r1) (.cond (.g 5) (.seq (rq a95r2) .ret) .skip)) (.seq (rq a95r3) .ret)))
def a95 : AFun := ⟨1, 9, a95b, [.tmp (true, 2)]⟩
theorem c95 : compileFun Tryz.prog [0, 1, 2, 5] Tryz.f95 = some a95 := by kernel_rfl
/- sort.Ints -/
def a98r0 : Rg := [oL 2 (.mv (.g 0)), oL 3 (.cf 50 [(.l 2)])]
def a98b : ACode := (rq a98r0)
def a98 : AFun := ⟨1, 4, a98b, []⟩
theorem c98 : compileFun Tryz.prog [0] Tryz.f98 = some a98 := by kernel_rfl
/- damask/damaskref15.below -/
def a61r0 : Rg := [oT 2 (.box (.g 0)), oT 4 (.mv cF)]
def a61r1 : Rg := [oL 7 (.fa 0 (.g 2)), oL 8 (.ld (.l 7)), oT 9 (.bin .eql (.l 8) (ci 1))]
def a61r2 : Rg := [oL 10 (.fa 1 (.g 2)), oL 11 (.ld (.l 10)), oL 12 (.mv (.g 1)), oL 13 (.bin .lss (.l 11) (.l 12)), oT 4 (.mv (.l 13))]
def a61r3 : Rg := [oT 5 (.mv (ci 0))]
def a61r4 : Rg := [oL 14 (.mv (.g 5)), oL 15 (.fa 3 (.g 2)), oL 16 (.ld (.l 15)), oL 17 (.len (.l 16)), oT 18 (.bin .lss (.l 14) (.l 17))]
def a61r5 : Rg := [oL 21 (.fa 3 (.g 2)), oL 22 (.ld (.l 21)), oL 23 (.mv (.g 5)), oL 24 (.ia 5 (.l 22) (.l 23)), oL 25 (.load 5 true (.l 24)), oL 26 (.mv (.g 1)), oL 27 (.load 5 true (.g 2)), oL 28 (.ct 101 [(.l 27)]), oL 29 (.bin .add (.l 26) (.l 28)), oL 30 (.ct 61 [(.l 25), (.l 29)]), oT 31 (.un .not (.l 30))]
def a61r6 : Rg := [oT 4 (.mv cF)]
def a61r7 : Rg := [oL 19 (.mv (.g 5)), oL 20 (.bin .add (.l 19) (ci 1)), oT 5 (.mv (.l 20))]
def a61l8 : ACode := (.seq (.seq (rq a61r4) (.cond (.g 18) .skip (.exit 0))) (.seq (.block 1 (.seq (.reg true a61r5) (.cond (.g 31) (.seq (rq a61r6) .ret) .skip))) (rq a61r7)))
def a61r9 : Rg := [oT 6 (.mv (ci 0))]
def a61r10 : Rg := [oL 32 (.mv (.g 6)), oL 33 (.fa 4 (.g 2)), oL 34 (.ld (.l 33)), oL 35 (.len (.l 34)), oT 36 (.bin .lss (.l 32) (.l 35))]
def a61r11 : Rg := [oL 39 (.fa 4 (.g 2)), oL 40 (.ld (.l 39)), oL 41 (.mv (.g 6)), oL 42 (.ia 8 (.l 40) (.l 41)), oL 43 (.fa 3 (.l 42)), oL 44 (.load 5 true (.l 43)), oL 45 (.mv (.g 1)), oL 46 (.fa 4 (.g 2)), oL 47 (.ld (.l 46)), oL 48 (.mv (.g 6)), oL 49 (.ia 8 (.l 47) (.l 48)), oL 50 (.load 8 true (.l 49)), oL 51 (.ct 95 [(.l 50)]), oL 52 (.bin .add (.l 45) (.l 51)), oL 53 (.ct 61 [(.l 44), (.l 52)]), oT 54 (.un .not (.l 53))]
def a61r12 : Rg := [oT 4 (.mv cF)]
def a61r13 : Rg := [oL 37 (.mv (.g 6)), oL 38 (.bin .add (.l 37) (ci 1)), oT 6 (.mv (.l 38))]
def a61l14 : ACode := (.seq (.seq (rq a61r10) (.cond (.g 36) .skip (.exit 2))) (.seq (.block 3 (.seq (.reg true a61r11) (.cond (.g 54) (.seq (rq a61r12) .ret) .skip))) (rq a61r13)))
def a61r15 : Rg := [oT 4 (.mv cT)]
def a61b : ACode := (.seq (rq a61r0) (.seq (.seq (rq a61r1) (.cond (.g 9) (.seq (rq a61r2) .ret) .skip)) (.seq (.seq (rq a61r3) (.block 0 (.loop a61l8))) (.seq (.seq (rq a61r9) (.block 2 (.loop a61l14))) (.seq (rq a61r15) .ret)))))
def a61 : AFun := ⟨2, 55, a61b, [.tmp (true, 4)]⟩
theorem c61 : compileFun Tryz.prog [0, 1, 2, 4, 5, 6, 9, 18, 31, 36, 54] Tryz.f61 = some a61 := by kernel_rfl
/- damask/damaskref15.Term -/
def a31r0 : Rg := [oT 2 (.box (.g 0)), oT 4 (.mv cF)]
def a31r1 : Rg := [oL 8 (.load 5 true (.g 2)), oL 9 (.cf 27 [(.l 8)]), oT 10 (.un .not (.l 9))]
def a31r2 : Rg := [oT 4 (.mv cF)]
def a31r3 : Rg := [oL 11 (.mv (.g 1)), oT 12 (.bin .leq (.l 11) (ci 0))]
def a31r4 : Rg := [oL 13 (.load 5 true (.g 2)), oL 14 (.cf 61 [(.l 13), (ci 0)]), oT 4 (.mv (.l 14))]
def a31r5 : Rg := [oL 16 (.load 5 true (.g 2)), oL 17 (.cf 62 [(.l 16)]), oL 15 (.mv (.l 17)), oL 18 (.extract (.l 15) 0), oL 19 (.extract (.l 15) 1), oT 5 (.mv (.l 18)), oL 6 (.mv (.l 19))]
def a31r6 : Rg := [oT 7 (.mv (ci 0))]
def a31r7 : Rg := [oL 20 (.mv (.g 7)), oL 21 (.mv (.g 5)), oL 22 (.len (.l 21)), oT 23 (.bin .lss (.l 20) (.l 22))]
def a31r8 : Rg := [oL 26 (.mv (.g 5)), oL 27 (.mv (.g 7)), oL 28 (.ia 1 (.l 26) (.l 27)), oL 29 (.ld (.l 28)), oL 30 (.mv (.g 1)), oT 31 (.bin .geq (.l 29) (.l 30))]
def a31r9 : Rg := [oT 4 (.mv cF)]
def a31r10 : Rg := [oL 24 (.mv (.g 7)), oL 25 (.bin .add (.l 24) (ci 1)), oT 7 (.mv (.l 25))]
def a31l11 : ACode := (.seq (.seq (rq a31r7) (.cond (.g 23) .skip (.exit 0))) (.seq (.block 1 (.seq (rq a31r8) (.cond (.g 31) (.seq (rq a31r9) .ret) .skip))) (rq a31r10)))
def a31r12 : Rg := [oT 4 (.mv cT)]
def a31b : ACode := (.seq (rq a31r0) (.seq (.seq (rq a31r1) (.cond (.g 10) (.seq (rq a31r2) .ret) .skip)) (.seq (.seq (rq a31r3) (.cond (.g 12) (.seq (rq a31r4) .ret) .skip)) (.seq (rq a31r5) (.seq (.seq (rq a31r6) (.block 0 (.loop a31l11))) (.seq (rq a31r12) .ret))))))
def a31 : AFun := ⟨2, 32, a31b, [.tmp (true, 4)]⟩
theorem c31 : compileFun Tryz.prog [0, 1, 2, 4, 5, 7, 10, 12, 23, 31] Tryz.f31 = some a31 := by kernel_rfl
/- damask/damaskref15.Globals -/
def a52r0 : Rg := [oT 1 (.box (.g 0)), oT 2 (.mv (.c nl))]
def a52r1 : Rg := [oL 6 (.load 5 true (.g 1)), oL 7 (.cf 92 [(.l 6), (.c nl)]), oT 3 (.mv (.l 7))]
def a52r2 : Rg := [oL 8 (.mv (.g 3)), oL 9 (.cf 93 [(.l 8)])]
def a52r3 : Rg := [oT 4 (.mkslice 1 0 [] true (.c .any) (.c .any))]
def a52r4 : Rg := [oT 5 (.mv (ci 0))]
def a52r5 : Rg := [oL 10 (.mv (.g 5)), oL 11 (.mv (.g 3)), oL 12 (.len (.l 11)), oT 13 (.bin .lss (.l 10) (.l 12))]
def a52r6 : Rg := [oL 16 (.mv (.g 5)), oL 17 (.bin .eql (.l 16) (ci 0)), oL 18 (.mv (.l 17)), oLf 19 (.mv (.g 3)) 18, oLf 20 (.mv (.g 5)) 18, oLf 21 (.ia 1 (.l 19) (.l 20)) 18, oLf 22 (.ld (.l 21)) 18, oLf 23 (.mv (.g 3)) 18, oLf 24 (.mv (.g 5)) 18, oLf 25 (.bin .sub (.l 24) (ci 1)) 18, oLf 26 (.ia 1 (.l 23) (.l 25)) 18, oLf 27 (.ld (.l 26)) 18, oLf 28 (.bin .neq (.l 22) (.l 27)) 18, oT 29 (.pick (.l 18) cT (.l 28))]
def a52r7 : Rg := [oL 30 (.mv (.g 4)), oL 31 (.mv (.g 3)), oL 32 (.mv (.g 5)), oL 33 (.ia 1 (.l 31) (.l 32)), oL 34 (.ld (.l 33)), oL 35 (.buildSlice 1 false [s0] 1 [(0, (.l 34))]), oL 36 (.append 1 16 (.l 30) (.l 35)), oT 4 (.mv (.l 36))]
def a52r8 : Rg := [oL 14 (.mv (.g 5)), oL 15 (.bin .add (.l 14) (ci 1)), oT 5 (.mv (.l 15))]
def a52l9 : ACode := (.seq (.seq (rq a52r5) (.cond (.g 13) .skip (.exit 0))) (.seq (.block 1 (.seq (.reg true a52r6) (.cond (.g 29) (rq a52r7) .skip))) (rq a52r8)))
def a52r10 : Rg := [oL 37 (.mv (.g 4)), oT 2 (.mv (.l 37))]
def a52b : ACode := (.seq (rq a52r0) (.seq (rq a52r1) (.seq (rq a52r2) (.seq (rq a52r3) (.seq (.seq (rq a52r4) (.block 0 (.loop a52l9))) (.seq (rq a52r10) .ret))))))
def a52 : AFun := ⟨1, 38, a52b, [.tmp (true, 2)]⟩
theorem c52 : compileFun Tryz.prog [0, 1, 2, 3, 4, 5, 13, 29, 5000001] Tryz.f52 = some a52 := by kernel_rfl
/- damask/damaskref15.named -/
def a92r0 : Rg := [oT 2 (.box (.g 0)), oT 4 (.mv (.c nl))]
def a92r1 : Rg := [oL 7 (.fa 0 (.g 2)), oL 8 (.ld (.l 7)), oT 9 (.bin .eql (.l 8) (ci 2))]
def a92r2 : Rg := [oL 10 (.mv (.g 1)), oL 11 (.fa 2 (.g 2)), oL 12 (.ld (.l 11)), oL 13 (.buildSlice 1 false [s0] 1 [(0, (.l 12))]), oL 14 (.append 1 16 (.l 10) (.l 13)), oT 1 (.mv (.l 14))]
def a92r3 : Rg := [oT 5 (.mv (ci 0))]
def a92r4 : Rg := [oL 15 (.mv (.g 5)), oL 16 (.fa 3 (.g 2)), oL 17 (.ld (.l 16)), oL 18 (.len (.l 17)), oT 19 (.bin .lss (.l 15) (.l 18))]
def a92r5 : Rg := [oL 22 (.fa 3 (.g 2)), oL 23 (.ld (.l 22)), oL 24 (.mv (.g 5)), oL 25 (.ia 5 (.l 23) (.l 24)), oL 26 (.load 5 true (.l 25)), oL 27 (.mv (.g 1)), oL 28 (.cf 92 [(.l 26), (.l 27)]), oT 1 (.mv (.l 28))]
def a92r6 : Rg := [oL 20 (.mv (.g 5)), oL 21 (.bin .add (.l 20) (ci 1)), oT 5 (.mv (.l 21))]
def a92l7 : ACode := (.seq (.seq (rq a92r4) (.cond (.g 19) .skip (.exit 0))) (.seq (.block 1 (rq a92r5)) (rq a92r6)))
def a92r8 : Rg := [oT 6 (.mv (ci 0))]
def a92r9 : Rg := [oL 29 (.mv (.g 6)), oL 30 (.fa 4 (.g 2)), oL 31 (.ld (.l 30)), oL 32 (.len (.l 31)), oT 33 (.bin .lss (.l 29) (.l 32))]
def a92r10 : Rg := [oL 36 (.fa 4 (.g 2)), oL 37 (.ld (.l 36)), oL 38 (.mv (.g 6)), oL 39 (.ia 8 (.l 37) (.l 38)), oL 40 (.fa 3 (.l 39)), oL 41 (.load 5 true (.l 40)), oL 42 (.mv (.g 1)), oL 43 (.cf 92 [(.l 41), (.l 42)]), oT 1 (.mv (.l 43))]
def a92r11 : Rg := [oL 34 (.mv (.g 6)), oL 35 (.bin .add (.l 34) (ci 1)), oT 6 (.mv (.l 35))]
def a92l12 : ACode := (.seq (.seq (rq a92r9) (.cond (.g 33) .skip (.exit 2))) (.seq (.block 3 (rq a92r10)) (rq a92r11)))
def a92r13 : Rg := [oL 44 (.mv (.g 1)), oT 4 (.mv (.l 44))]
def a92b : ACode := (.seq (rq a92r0) (.seq (.seq (rq a92r1) (.cond (.g 9) (rq a92r2) .skip)) (.seq (.seq (rq a92r3) (.block 0 (.loop a92l7))) (.seq (.seq (rq a92r8) (.block 2 (.loop a92l12))) (.seq (rq a92r13) .ret)))))
def a92 : AFun := ⟨2, 45, a92b, [.tmp (true, 4)]⟩
theorem c92 : compileFun Tryz.prog [0, 1, 2, 4, 5, 6, 9, 19, 33] Tryz.f92 = some a92 := by kernel_rfl
/- sort.Strings -/
def a93r0 : Rg := [oL 2 (.mv (.g 0)), oL 3 (.cf 85 [(.l 2)])]
def a93b : ACode := (rq a93r0)
def a93 : AFun := ⟨1, 4, a93b, []⟩
theorem c93 : compileFun Tryz.prog [0] Tryz.f93 = some a93 := by kernel_rfl
/- damask/damaskref15.Defined -/
def a28r0 : Rg := [oT 3 (.box (.g 1)), oT 4 (.mv cF)]
def a28r1 : Rg := [oL 7 (.load 5 true (.g 3)), oL 8 (.cf 52 [(.l 7)]), oT 5 (.mv (.l 8))]
def a28r2 : Rg := [oT 6 (.mv (ci 0))]
def a28r3 : Rg := [oL 9 (.mv (.g 6)), oL 10 (.mv (.g 5)), oL 11 (.len (.l 10)), oT 12 (.bin .lss (.l 9) (.l 11))]
def a28r4 : Rg := [oL 15 (.mv (.g 0)), oL 16 (.mv (.g 5)), oL 17 (.mv (.g 6)), oL 18 (.ia 1 (.l 16) (.l 17)), oL 19 (.ld (.l 18)), oL 20 (.cf 23 [(.l 15), (.l 19)]), oT 21 (.bin .lss (.l 20) (ci 0))]
def a28r5 : Rg := [oT 4 (.mv cF)]
def a28r6 : Rg := [oL 13 (.mv (.g 6)), oL 14 (.bin .add (.l 13) (ci 1)), oT 6 (.mv (.l 14))]
def a28l7 : ACode := (.seq (.seq (rq a28r3) (.cond (.g 12) .skip (.exit 0))) (.seq (.block 1 (.seq (rq a28r4) (.cond (.g 21) (.seq (rq a28r5) .ret) .skip))) (rq a28r6)))
def a28r8 : Rg := [oT 4 (.mv cT)]
def a28b : ACode := (.seq (rq a28r0) (.seq (rq a28r1) (.seq (.seq (rq a28r2) (.block 0 (.loop a28l7))) (.seq (rq a28r8) .ret))))
def a28 : AFun := ⟨2, 22, a28b, [.tmp (true, 4)]⟩
theorem c28 : compileFun Tryz.prog [0, 1, 3, 4, 5, 6, 12, 21] Tryz.f28 = some a28 := by kernel_rfl
/- damask/damaskref15.Find -/
def a23r0 : Rg := [oT 4 (.mv (ci 0))]
def a23r1 : Rg := [oT 5 (.mv (ci 0))]
def a23r2 : Rg := [oL 6 (.mv (.g 5)), oL 7 (.mv (.g 0)), oL 8 (.len (.l 7)), oT 9 (.bin .lss (.l 6) (.l 8))]
def a23r3 : Rg := [oL 12 (.mv (.g 0)), oL 13 (.mv (.g 5)), oL 14 (.ia 6 (.l 12) (.l 13)), oL 15 (.fa 0 (.l 14)), oL 16 (.ld (.l 15)), oL 17 (.mv (.g 1)), oT 18 (.bin .eql (.l 16) (.l 17))]
def a23r4 : Rg := [oL 19 (.mv (.g 5)), oT 4 (.mv (.l 19))]
def a23r5 : Rg := [oL 10 (.mv (.g 5)), oL 11 (.bin .add (.l 10) (ci 1)), oT 5 (.mv (.l 11))]
def a23l6 : ACode := (.seq (.seq (rq a23r2) (.cond (.g 9) .skip (.exit 0))) (.seq (.block 1 (.seq (rq a23r3) (.cond (.g 18) (.seq (rq a23r4) .ret) .skip))) (rq a23r5)))
def a23r7 : Rg := [oT 4 (.mv (ci (-1)))]
def a23b : ACode := (.seq (rq a23r0) (.seq (.seq (rq a23r1) (.block 0 (.loop a23l6))) (.seq (rq a23r7) .ret)))
def a23 : AFun := ⟨2, 20, a23b, [.tmp (true, 4)]⟩
theorem c23 : compileFun Tryz.prog [0, 1, 4, 5, 9, 18] Tryz.f23 = some a23 := by kernel_rfl
/- damask/damaskref15.Check -/
def a9r0 : Rg := [oT 2 (.mv cF)]
def a9r1 : Rg := [oL 4 (.mv (.g 0)), oL 5 (.len (.l 4)), oT 6 (.bin .gtr (.l 5) (ci 400))]
def a9r2 : Rg := [oT 2 (.mv cF)]
def a9r3 : Rg := [oT 3 (.mv (ci 0))]
def a9r4 : Rg := [oL 7 (.mv (.g 3)), oL 8 (.mv (.g 0)), oL 9 (.len (.l 8)), oT 10 (.bin .lss (.l 7) (.l 9))]
def a9r5 : Rg := [oL 13 (.mv (.g 0)), oL 14 (.mv (.g 3)), oL 15 (.ia 6 (.l 13) (.l 14)), oL 16 (.fa 0 (.l 15)), oL 17 (.ld (.l 16)), oL 18 (.cf 34 [(.l 17)]), oL 19 (.un .not (.l 18)), oL 20 (.mv (.l 19)), oLf 21 (.mv (.g 0)) 20, oLf 22 (.mv (.g 0)) 20, oLf 23 (.mv (.g 3)) 20, oLf 24 (.ia 6 (.l 22) (.l 23)) 20, oLf 25 (.fa 0 (.l 24)) 20, oLf 26 (.ld (.l 25)) 20, oLf 27 (.cf 23 [(.l 21), (.l 26)]) 20, oLf 28 (.mv (.g 3)) 20, oLf 29 (.bin .lss (.l 27) (.l 28)) 20, oL 30 (.pick (.l 20) cT (.l 29)), oL 31 (.mv (.l 30)), oLf 32 (.mv (.g 0)) 31, oLf 33 (.mv (.g 3)) 31, oLf 34 (.ia 6 (.l 32) (.l 33)) 31, oLf 35 (.fa 1 (.l 34)) 31, oLf 36 (.load 5 true (.l 35)) 31, oLf 37 (.cf 31 [(.l 36), (ci 0)]) 31, oLf 38 (.un .not (.l 37)) 31, oL 39 (.pick (.l 31) cT (.l 38)), oL 40 (.mv (.l 39)), oLf 41 (.mv (.g 0)) 40, oLf 42 (.mv (.g 0)) 40, oLf 43 (.mv (.g 3)) 40, oLf 44 (.ia 6 (.l 42) (.l 43)) 40, oLf 45 (.fa 1 (.l 44)) 40, oLf 46 (.load 5 true (.l 45)) 40, oLf 47 (.cf 28 [(.l 41), (.l 46)]) 40, oLf 48 (.un .not (.l 47)) 40, oT 49 (.pick (.l 40) cT (.l 48))]
def a9r6 : Rg := [oT 2 (.mv cF)]
def a9r7 : Rg := [oL 11 (.mv (.g 3)), oL 12 (.bin .add (.l 11) (ci 1)), oT 3 (.mv (.l 12))]
def a9l8 : ACode := (.seq (.seq (rq a9r4) (.cond (.g 10) .skip (.exit 0))) (.seq (.block 1 (.seq (rq a9r5) (.cond (.g 49) (.seq (rq a9r6) .ret) .skip))) (rq a9r7)))
def a9r9 : Rg := [oT 2 (.mv cT)]
def a9b : ACode := (.seq (rq a9r0) (.seq (.seq (rq a9r1) (.cond (.g 6) (.seq (rq a9r2) .ret) .skip)) (.seq (.seq (rq a9r3) (.block 0 (.loop a9l8))) (.seq (rq a9r9) .ret))))
def a9 : AFun := ⟨1, 50, a9b, [.tmp (true, 2)]⟩
theorem c9 : compileFun Tryz.prog [0, 2, 3, 6, 10, 49] Tryz.f9 = some a9 := by kernel_rfl
/- damask/damaskref15.Closed -/
/- damask/term.Inner -/
def a141r0 : Rg := [oT 1 (.box (.g 0)), oT 2 (.mv (ci 0))]
def a141r1 : Rg := [oL 3 (.fa 0 (.g 1)), oT 4 (.ld (.l 3))]
def a141r2 : Rg := [oL 6 (.bin .eql (.g 4) (ci 5)), oT 5 (.mv (.l 6))]
def a141r3 : Rg := [oL 7 (.fa 1 (.g 1)), oL 8 (.ld (.l 7)), oT 2 (.mv (.l 8))]
def a141r4 : Rg := [oL 10 (.bin .eql (.g 4) (ci 7)), oT 9 (.mv (.l 10))]
def a141r5 : Rg := [oL 11 (.fa 3 (.g 1)), oL 12 (.ld (.l 11)), oL 13 (.len (.l 12)), oL 14 (.bin .sub (.l 13) (ci 1)), oT 2 (.mv (.l 14))]
def a141r6 : Rg := [oT 2 (.mv (ci 0))]
def a141b : ACode := (.seq (rq a141r0) (.seq (.seq (rq a141r1) (.block 0 (.seq (rq a141r2) (.cond (.g 5) (.seq (rq a141r3) .ret) (.seq (rq a141r4) (.cond (.g 9) (.seq (rq a141r5) .ret) .skip)))))) (.seq (rq a141r6) .ret)))
def a141 : AFun := ⟨1, 15, a141b, [.tmp (true, 2)]⟩
theorem c141 : compileFun Tryz.prog [0, 1, 2, 4, 5, 9] Tryz.f141 = some a141 := by kernel_rfl
/- damask/term.Binds -/
def a142r0 : Rg := [oT 1 (.box (.g 0)), oT 2 (.mv (ci 0))]
def a142r1 : Rg := [oL 3 (.fa 0 (.g 1)), oL 4 (.ld (.l 3)), oT 5 (.bin .eql (.l 4) (ci 2))]
def a142r2 : Rg := [oL 6 (.fa 2 (.g 1)), oL 7 (.ld (.l 6)), oL 8 (.bin .add (.l 7) (ci 1)), oT 2 (.mv (.l 8))]
def a142r3 : Rg := [oT 2 (.mv (ci 1))]
def a142b : ACode := (.seq (rq a142r0) (.seq (.seq (rq a142r1) (.cond (.g 5) (.seq (rq a142r2) .ret) .skip)) (.seq (rq a142r3) .ret)))
def a142 : AFun := ⟨1, 9, a142b, [.tmp (true, 2)]⟩
theorem c142 : compileFun Tryz.prog [0, 1, 2, 5] Tryz.f142 = some a142 := by kernel_rfl
/- damask/term.Names -/
end Go.AL.Dm
namespace Go.AL.Dm
open Go Go.Proofs
def inn (t : Pl) : Int := if t.op = 5 then t.n else if t.op = 7 then (t.args.length : Int) - 1 else 0
def bnd (a : Hd) : Int := if a.op = 2 then a.n + 1 else 1
theorem p141 (t : Pl) (h : t.args.length ≤ 100000) : PureC Tryz.prog 141 [t.av] (.int .i64 (inn t)) := by
 refine PureC.intro fun s => fun_sound mixed Tryz.func141 Tryz.call141 c141 rfl (awpFun_go _ _ _ _ ?_)
 have w1 : IntKind.i64.wrap ((t.args.length : Int) - 1) = (t.args.length : Int) - 1 := wrap64 (by omega) (by omega)
 by_cases o5 : t.op = 5
 ·simp -implicitDefEqProofs (disch:=first|omega|simp only[nx4]<;>omega|fail) [a141, a141b, a141r0, a141r1, a141r2, a141r3, inn, o5]
 by_cases o7 : t.op = 7
 ·simp -implicitDefEqProofs (disch:=first|omega|simp only[nx4]<;>omega|fail) [a141, a141b, a141r0, a141r1, a141r2, a141r4, a141r5, inn, o7, w1]
 simp -implicitDefEqProofs (disch:=first|omega|simp only[nx4]<;>omega|fail) [a141, a141b, a141r0, a141r1, a141r2, a141r4, a141r6, inn, o5, o7]
theorem p101 (t : Pl) (h : t.args.length ≤ 100000) : PureC Tryz.prog 101 [t.av] (.int .i64 (inn t)) := by
 refine PureC.intro fun s => fun_sound mixed Tryz.func101 Tryz.call101 c101 rfl (awpFun_go _ _ _ _ ?_)
 have w1 : IntKind.i64.wrap ((t.args.length : Int) - 1) = (t.args.length : Int) - 1 := wrap64 (by omega) (by omega)
 by_cases o5 : t.op = 5
 ·simp -implicitDefEqProofs (disch:=first|omega|simp only[nx4]<;>omega|fail) [a101, a101b, a101r0, a101r1, a101r2, a101r3, inn, o5]
 by_cases o7 : t.op = 7
 ·simp -implicitDefEqProofs (disch:=first|omega|simp only[nx4]<;>omega|fail) [a101, a101b, a101r0, a101r1, a101r2, a101r4, a101r5, inn, o7, w1]
 simp -implicitDefEqProofs (disch:=first|omega|simp only[nx4]<;>omega|fail) [a101, a101b, a101r0, a101r1, a101r2, a101r4, a101r6, inn, o5, o7]
theorem p142 (a : Hd × Pl) (h : a.1.op = 2 → 0 ≤ a.1.n ∧ a.1.n ≤ 100000) : PureC Tryz.prog 142 [Pl.altv a] (.int .i64 (bnd a.1)) := by
 refine PureC.intro fun s => fun_sound mixed Tryz.func142 Tryz.call142 c142 rfl (awpFun_go _ _ _ _ ?_)
 by_cases o : a.1.op = 2
 ·have w1 : IntKind.i64.wrap (a.1.n + 1) = a.1.n + 1 := wrap64 (by have := h o; omega) (by have := h o; omega)
  simp -implicitDefEqProofs (disch:=first|omega|simp only[nx4]<;>omega|fail) [a142, a142b, a142r0, a142r1, a142r2, bnd, o, w1]
 ·simp -implicitDefEqProofs (disch:=first|omega|simp only[nx4]<;>omega|fail) [a142, a142b, a142r0, a142r1, a142r3, bnd, o]
theorem p95 (a : Hd × Pl) (h : a.1.op = 2 → 0 ≤ a.1.n ∧ a.1.n ≤ 100000) : PureC Tryz.prog 95 [Pl.altv a] (.int .i64 (bnd a.1)) := by
 refine PureC.intro fun s => fun_sound mixed Tryz.func95 Tryz.call95 c95 rfl (awpFun_go _ _ _ _ ?_)
 by_cases o : a.1.op = 2
 ·have w1 : IntKind.i64.wrap (1 + a.1.n) = a.1.n + 1 := by rw [wrap64 (by have := h o; omega) (by have := h o; omega)]; omega
  simp -implicitDefEqProofs (disch:=first|omega|simp only[nx4]<;>omega|fail) [a95, a95b, a95r0, a95r1, a95r2, bnd, o, w1]
 ·simp -implicitDefEqProofs (disch:=first|omega|simp only[nx4]<;>omega|fail) [a95, a95b, a95r0, a95r1, a95r3, bnd, o]
theorem p103 (t : Pl) : PureC Tryz.prog 103 [t.av] (.fn 143 [] [.cptr t.av.cells]) := by
 refine PureC.intro fun s => fun_sound mixed Tryz.func103 Tryz.call103 c103 rfl (awpFun_go _ _ _ _ ?_)
 simp -implicitDefEqProofs (disch:=first|omega|simp only[nx4]<;>omega|fail) [a103, a103b, a103r0, a103r1]
theorem go_yields {P : Program} {o : Nat} {args : List AV} {s : St} {K : AV → St → Prop} (h : AYields P o args s K) : go (AYields P o args s K) := h
def parts (t : Pl) : List (Int × Pl) := t.args.map (fun x => (inn t, x)) ++ t.alts.map (fun a => (bnd a.1, a.2))
theorem parts_len (t : Pl) : (parts t).length = t.args.length + t.alts.length := by simp [parts]
theorem parts_arg (t : Pl) (i : Nat) (h : i < t.args.length) (h' : i < (parts t).length) : (parts t)[i] = (inn t, t.args[i]) := by
 simp only [parts]
 rw [List.getElem_append_left (by simpa using h)]
 simp
theorem parts_alt (t : Pl) (i : Nat) (h : i < t.alts.length) (h' : t.args.length + i < (parts t).length) : (parts t)[t.args.length + i] = (bnd t.alts[i].1, t.alts[i].2) := by
 simp only [parts]
 rw [List.getElem_append_right (by simp)]
 simp
def IA143 (t : Pl) (o : Nat) (J : Nat → St → Prop) (m : Nat) (g : Env) (s1 : St) : Prop :=
 ∃ i : Nat, i ≤ t.args.length ∧ m = t.args.length - i ∧ g.get 0 = .yld o ∧ g.get 1 = .cptr t.av.cells ∧ g.get 3 = .int .i64 (inn t) ∧ g.get 11 = .list 5 .none (t.args.map Pl.av) ∧ g.get 12 = .int .i64 t.args.length ∧ g.get 13 = .int .i64 i ∧ J i s1
def IB143 (t : Pl) (o : Nat) (J : Nat → St → Prop) (m : Nat) (g : Env) (s1 : St) : Prop :=
 ∃ i : Nat, i ≤ t.alts.length ∧ m = t.alts.length - i ∧ g.get 0 = .yld o ∧ g.get 24 = .list 8 .none (t.alts.map Pl.altv) ∧ g.get 25 = .int .i64 t.alts.length ∧ g.get 26 = .int .i64 i ∧ J (t.args.length + i) s1
theorem p143 (t : Pl) (hla : t.args.length ≤ 100000) (hlb : t.alts.length ≤ 100000) (hbn : ∀ a ∈ t.alts, a.1.op = 2 → 0 ≤ a.1.n ∧ a.1.n ≤ 100000) (o : Nat) (J : Nat → St → Prop) (Jx : St → Prop)
  (hst : ∀ i s s', J i s → (∀ q, q < s.nx → s'.m q = s.m q) → s.nx ≤ s'.nx → J i s')
  (hY : ∀ i (hi : i < (parts t).length) s1, J i s1 → AYields Tryz.prog o [.int .i64 (parts t)[i].1, (parts t)[i].2.av] s1 fun r s' => (r = .bool true ∧ J (i + 1) s') ∨ (r = .bool false ∧ Jx s'))
  (s : St) (h0 : J 0 s) : ACalls Tryz.prog 143 [.yld o, .cptr t.av.cells] s fun _ s' => J (parts t).length s' ∨ Jx s' := by
 refine fun_sound mixed Tryz.func143 Tryz.call143 c143 rfl (awpFun_go _ _ _ _ ?_)
 have hpl := parts_len t
 simp -implicitDefEqProofs (disch:=first|omega|simp only[nx4]<;>omega|fail) [a143, a143b, a143r0]
 refine go_pure (p141 t hla) fun mm1 hm1 => ?_
 try simp only [nx4] at hm1
 simp -implicitDefEqProofs (disch:=first|omega|simp only[nx4]<;>omega|fail) [a143r1]
 refine go_loop (IA143 t o J) t.args.length ⟨0, by omega, by omega, ?_, ?_, ?_, ?_, ?_, ?_, hst 0 s _ h0 (fun q hq => by simp -implicitDefEqProofs (disch:=first|omega|simp only[nx4]<;>omega|fail)) (by simp -implicitDefEqProofs (disch:=first|omega|simp only[nx4]<;>omega|fail); omega)⟩ ?_
 iterate 6 (simp -implicitDefEqProofs (disch:=first|omega|simp only[nx4]<;>omega|fail))
 rintro m g s1 ⟨i, hi, rfl, e0, e1, e3, e11, e12, e13, hJ⟩
 by_cases hlt : i < t.args.length
 ·have hlt' : (i : Int) < t.args.length := by omega
  have w3 := wrapS (i := i) (by omega)
  have hy := hY i (by omega)
  rw [parts_arg t i hlt (by omega)] at hy
  generalize hx : t.args[i] = x at hy
  simp -implicitDefEqProofs (disch:=first|omega|simp only[nx4]<;>omega|fail) [a143l6, a143r2, a143r3, a143r4, e0, e1, e3, e11, e12, e13, hlt', hx]
  refine go_yields (AYields.mono (hy _ (hst i s1 _ hJ (fun q hq => by simp -implicitDefEqProofs (disch:=first|omega|simp only[nx4]<;>omega|fail)) (by simp -implicitDefEqProofs (disch:=first|omega|simp only[nx4]<;>omega|fail)))) fun r s' hn' h => go_of ?_)
  rcases h with ⟨rfl, hJ'⟩ | ⟨rfl, hx'⟩
  ·simp -implicitDefEqProofs (disch:=first|omega|simp only[nx4]<;>omega|fail) [a143r5, e13, w3]
   refine go_next (t.args.length - (i + 1)) (by omega) ⟨i + 1, by omega, rfl, ?_, ?_, ?_, ?_, ?_, rfl, hJ'⟩
   all_goals simp -implicitDefEqProofs (disch:=first|omega|simp only[nx4]<;>omega|fail) [e0, e1, e3, e11, e12]
  ·simp -implicitDefEqProofs (disch:=first|omega|simp only[nx4]<;>omega|fail)
   exact .inr hx'
 ·have hlt' : ¬ (i : Int) < t.args.length := by omega
  obtain rfl : i = t.args.length := by omega
  simp -implicitDefEqProofs (disch:=first|omega|simp only[nx4]<;>omega|fail) [a143l6, a143r2, a143r7, e0, e1, e3, e11, e12, e13, hlt']
  refine go_loop (IB143 t o J) t.alts.length ⟨0, by omega, by omega, ?_, ?_, ?_, ?_, hJ⟩ ?_
  iterate 4 (simp -implicitDefEqProofs (disch:=first|omega|simp only[nx4]<;>omega|fail) [e0])
  clear hJ e0 e1 e3 e11 e12 e13 hlt'
  rintro m g s1 ⟨i, hi, rfl, e0, e24, e25, e26, hJ⟩
  by_cases hlt : i < t.alts.length
  ·have hlt' : (i : Int) < t.alts.length := by omega
   have w3 := wrapS (i := i) (by omega)
   have hy := hY (t.args.length + i) (by omega)
   rw [parts_alt t i hlt (by omega)] at hy
   have h142 := p142 t.alts[i] (hbn _ (List.getElem_mem hlt))
   generalize hx : t.alts[i] = x at hy h142
   simp -implicitDefEqProofs (disch:=first|omega|simp only[nx4]<;>omega|fail) [a143l12, a143r8, a143r9, a143r10, a143s10, e0, e24, e25, e26, hlt', hx]
   refine pcV_intro h142 ?_
   simp -implicitDefEqProofs (disch:=first|omega|simp only[nx4]<;>omega|fail)
   intro mm hmm
   refine go_yields (AYields.mono (hy _ (hst _ s1 _ hJ (fun q hq => by simp -implicitDefEqProofs (disch:=first|omega|simp only[nx4]<;>omega|fail)) (by show s1.nx ≤ mm; have h5 : s1.nx + 1 ≤ mm := hmm; omega))) fun r s' hn' h => go_of ?_)
   rcases h with ⟨rfl, hJ'⟩ | ⟨rfl, hx'⟩
   ·simp -implicitDefEqProofs (disch:=first|omega|simp only[nx4]<;>omega|fail) [a143r11, e26, w3]
    refine go_next (t.alts.length - (i + 1)) (by omega) ⟨i + 1, by omega, rfl, ?_, ?_, ?_, rfl, hJ'⟩
    all_goals simp -implicitDefEqProofs (disch:=first|omega|simp only[nx4]<;>omega|fail) [e0, e24, e25]
   ·simp -implicitDefEqProofs (disch:=first|omega|simp only[nx4]<;>omega|fail)
    exact .inr hx'
  ·have hlt' : ¬ (i : Int) < t.alts.length := by omega
   obtain rfl : i = t.alts.length := by omega
   simp -implicitDefEqProofs (disch:=first|omega|simp only[nx4]<;>omega|fail) [a143l12, a143r8, e0, e24, e25, e26, hlt']
   rw [hpl]
   exact .inl hJ
mutual
def fv : Pl → Int → List Int
 | .mk op n s args alts, u => if op = 1 then (if u ≤ n then [n - u] else []) else fvs args (u + inn (.mk op n s args alts)) ++ fva alts u
def fvs : List Pl → Int → List Int
 | [], _ => []
 | t :: ts, u => fv t u ++ fvs ts u
def fva : List (Hd × Pl) → Int → List Int
 | [], _ => []
 | (h, b) :: ts, u => fv b (u + bnd h) ++ fva ts u
end
theorem fv_eq (t : Pl) (u : Int) : fv t u = if t.op = 1 then (if u ≤ t.n then [t.n - u] else []) else fvs t.args (u + inn t) ++ fva t.alts u := by cases t; rw [fv]; rfl
def fvp : List (Int × Pl) → Int → List Int
 | [], _ => []
 | (n, x) :: r, u => fv x (u + n) ++ fvp r u
theorem fvp_append : ∀ (l r : List (Int × Pl)) (u : Int), fvp (l ++ r) u = fvp l u ++ fvp r u
 | [], r, u => rfl
 | (n, x) :: l, r, u => by simp [fvp, fvp_append l r u]
theorem fv_parts (t : Pl) (u : Int) (h : t.op ≠ 1) : fv t u = fvp (parts t) u := by
 rw [fv_eq, if_neg h, parts, fvp_append]
 have h1 : ∀ (l : List Pl) (n : Int), fvs l (u + n) = fvp (l.map fun x => (n, x)) u := by
  intro l n
  induction l with
  | nil => rfl
  | cons x l ih => simp [fvs, fvp, ih]
 have h2 : ∀ l : List (Hd × Pl), fva l u = fvp (l.map fun a => (bnd a.1, a.2)) u := by
  intro l
  induction l with
  | nil => rfl
  | cons x l ih => obtain ⟨a, b⟩ := x; simp [fva, fvp, ih]
 rw [h1, h2]
end Go.AL.Dm
namespace Go.AL
open Go.Sort
variable {P : Program} {ι ι' : Nat → Option Nat} {s s' : St} {w w' : World}
def ilist (zs : List Int) : List AV := zs.map (AV.int .i64)
def isort (zs : List Int) : List Int := zs.mergeSort fun x y => decide (x ≤ y)
theorem isort_length (zs : List Int) : (isort zs).length = zs.length := by simp [isort]
theorem ahead_step [Glob] (ι : Nat → Option Nat) (S : Store) (w : World) (n : Nat) : Step ι S w ι S (Sort.ahead w n) :=
 grow_step (Nat.le_refl _) rfl rfl rfl (fun _ _ => rfl) (fun _ _ h => h) (fun _ _ _ h => h) (fun _ _ h => h)
theorem WF.ahead [Glob] {S : Store} (hwf : WF ι S w) (n : Nat) : WF ι S (Sort.ahead w n) :=
 hwf.of_step (ahead_step ι S w n) hwf.blt hwf.inj fun _ _ b h1 h2 => .inl ⟨h1, h2, rfl⟩
theorem putRow_setRow {enc : Int → Value} {w : World} {b : Nat} {vs : Array Value} {e : TypeId} {fr : Nat × Nat} (d : Array Int) (h : w.heap[b]? = some (.cells vs e fr)) : putRow enc w b 0 d = w.setRow b (putCells enc 0 d vs) := by
 unfold putRow mapBlock World.setRow
 congr 1
 apply Array.ext_getElem?
 intro k
 simp only [Array.getElem?_modify]
 by_cases hk : b = k
 ·subst hk
  simp only [if_true, h, Option.map_some, onCells]
 ·simp [hk]
theorem sort_sound [Glob] {f : FuncId} (hcb : Callable P f) (hnone : ∀ (p : Option Addr) (cap : Nat) (w : World), Calls P f #[.slice p 0 cap] w fun e w' => e = .returned (.tuple #[]) ∧ w' = w)
  (hsort : ∀ (blk off cap : Nat) (zs : List Int) (w : World), Holds (Value.int .i64) w blk off zs.toArray → blk < w.heap.size → zs.length < 4611686018427387904 →
   Calls P f #[.slice (some ⟨blk, off, none⟩) zs.length cap] w fun e w' => e = .returned (.tuple #[]) ∧ ∃ n os, w' = Go.Sort.grow (putRow (Value.int .i64) (Sort.ahead w n) blk off (zs.mergeSort fun x y => decide (x ≤ y)).toArray) os)
  (zs : List Int) (o : Nat) {K : AV → St → Prop} (hlen : zs.length < 4611686018427387904) (ho : s.m o = some (.box (ilist zs))) (hK : K (.tup []) (s.set o (.box (ilist (isort zs))))) : ACalls P f [.mref 1 o 0 zs.length] s K := by
 refine ⟨hcb, fun ι w vs hwf hbnd hvs => ?_⟩
 obtain ⟨v, rfl⟩ : ∃ v, vs = #[v] := by
  obtain ⟨l⟩ := vs
  match l, hvs.1 with
  | [v], _ => exact ⟨v, rfl⟩
 have hv := hvs.2 0 v _ rfl rfl
 have hbnd' : Bnd ι (s.set o (.box (ilist (isort zs)))).m s.nx := ⟨fun q ob hq => by
  by_cases e : q = o
  ·subst e; exact hbnd.lt q _ ho
  ·simp [St.set, e] at hq; exact hbnd.lt q ob hq, hbnd.ilt⟩
 cases zs with
 | nil =>
  have hvv : ∃ p cap, v = .slice p 0 cap := by
   cases hv with
   | mref h hcap hb => exact ⟨_, _, rfl⟩
   | mnil => exact ⟨_, _, rfl⟩
  obtain ⟨p, cap, rfl⟩ := hvv
  refine (hnone p cap w).mono ?_
  rintro e w' ⟨rfl, rfl⟩
  have hm : (s.set o (.box (ilist (isort [])))).m = s.m := by
   funext q
   by_cases e : q = o
   ·subst e; simp [St.set, ho, isort, ilist]
   ·simp [St.set, e]
  refine ⟨_, _, s.set o (.box (ilist (isort []))), ι, rfl, ?_, ?_, ?_, Inc.refl _ _, .tup rfl (by simp), hK⟩
  ·rw [hm]; exact Step.refl _ _ _
  ·rw [hm]; exact hwf
  ·exact hbnd'
 | cons z zs =>
  generalize hzz : z :: zs = zl at *
  have hne : zl.length ≠ 0 := by rw [← hzz]; simp
  generalize hln : zl.length = ln at hv
  cases hv with
  | mnil => exact absurd hln hne
  | @mref _ _ b _ _ cap h hcap hb =>
   subst hln
   obtain ⟨cvs, e, h1, h2, h3, h4⟩ := hwf.rep o _ b ho h
   simp only [ilist, List.length_map] at h2
   have hcell : ∀ j, j < zl.length → cvs[j]? = some (.int .i64 zl[j]!) := by
    intro j hj
    have hjc : j < cvs.size := by omega
    have hx : (ilist zl)[j]? = some (.int .i64 zl[j]!) := by simp [ilist, hj]
    have := h3 j cvs[j] _ (by simp [hjc]) hx
    rw [Array.getElem?_eq_getElem hjc]
    generalize cvs[j] = u at this
    cases this
    rfl
   have hH : Holds (Value.int .i64) w b (0 * 1) zl.toArray := by
    intro j hj
    have hj' : j < zl.length := by simpa using hj
    refine ⟨?_, ?_⟩
    ·simp [World.cell?, h1, hcell j hj']
    ·simp [World.frozen?, h1]
   have hblk : b < w.heap.size := (Array.getElem?_eq_some_iff.1 h1).1
   refine (hsort b (0 * 1) cap zl w hH hblk hlen).mono ?_
   rintro e' w' ⟨rfl, n, os, hw'⟩
   have h1a : (Sort.ahead w n).heap[b]? = some (.cells cvs e (0, 0)) := h1
   rw [Nat.zero_mul, putRow_setRow _ h1a] at hw'
   have hszp : (putCells (Value.int .i64) 0 (isort zl).toArray cvs).size = cvs.size := by simp [putCells]
   have hget : ∀ (j : Nat) v x, (putCells (Value.int .i64) 0 (isort zl).toArray cvs)[j]? = some v → (ilist (isort zl))[j]? = some x → ∃ m, v = .int .i64 m ∧ x = .int .i64 m := by
    intro j v x hv hx
    simp only [ilist, List.getElem?_map, Option.map_eq_some_iff] at hx
    obtain ⟨m, hm, rfl⟩ := hx
    have hjl : j < (isort zl).length := (List.getElem?_eq_some_iff.1 hm).1
    have hjc : j < cvs.size := by rw [isort_length] at hjl; omega
    rw [putCells, Array.getElem?_mapIdx, Array.getElem?_eq_getElem hjc] at hv
    simp only [Option.map_some, Option.some.injEq, Nat.zero_add, Nat.zero_le, true_and, Nat.sub_zero, List.size_toArray] at hv
    rw [if_pos hjl] at hv
    subst hv
    refine ⟨m, ?_, rfl⟩
    simp [hm]
   obtain ⟨q1, q2⟩ := write_obj (obj' := .box (ilist (isort zl))) (cs := putCells (Value.int .i64) 0 (isort zl).toArray cvs) (hwf.ahead n) ho h h1a hszp (fun _ => trivial) fun hR hh =>
    ⟨_, e, hh, by rw [hszp]; simp only [ilist, List.length_map, isort_length]; exact h2, fun j v x hv hx => by obtain ⟨m, rfl, rfl⟩ := hget j v x hv hx; exact .int _ _,
     fun j v hj hv => by
      have hx : (ilist (isort zl))[j]? = some (ilist (isort zl))[j] := by simp [hj]
      obtain ⟨m, rfl, _⟩ := hget j v _ hv hx
      rfl⟩
   obtain ⟨w2, hw2⟩ : ∃ w2, w2 = (Sort.ahead w n).setRow b (putCells (Value.int .i64) 0 (isort zl).toArray cvs) := ⟨_, rfl⟩
   change w' = Go.Sort.grow ((Sort.ahead w n).setRow b (putCells (Value.int .i64) 0 (isort zl).toArray cvs)) os at hw'
   rw [← hw2] at q1 q2 hw'
   subst hw'
   have hgr : Grown (putS s.m o (.box (ilist (isort zl)))) ι w2 (Go.Sort.grow w2 os) none :=
    ⟨⟨rfl, rfl, rfl, by simp [Go.Sort.grow], fun k hk _ => by simp [Go.Sort.grow, Array.getElem?_append_left hk]⟩, fun r e => by cases e⟩
   exact ⟨_, _, s.set o (.box (ilist (isort zl))), ι, rfl, hgr.step ((ahead_step ι s.m w n).trans q1) (fun r e => by cases e), hgr.wf q2, hbnd', Inc.refl _ _, .tup rfl (by simp), hK⟩
end Go.AL
namespace Go.AL
open Go.Sort
variable {P : Program} {ι ι' : Nat → Option Nat} {s s' : St} {w w' : World}
open Go.Proofs (encStr)
def slist (zs : List (List UInt8)) : List AV := zs.map fun x => .str ⟨x.toArray⟩
def bsort (zs : List (List UInt8)) : List (List UInt8) := zs.mergeSort fun x y => decide (x ≤ y)
theorem bsort_length (zs : List (List UInt8)) : (bsort zs).length = zs.length := by simp [bsort]
theorem putRow_setRowS {enc : List UInt8 → Value} {w : World} {b : Nat} {vs : Array Value} {e : TypeId} {fr : Nat × Nat} (d : Array (List UInt8)) (h : w.heap[b]? = some (.cells vs e fr)) : putRow enc w b 0 d = w.setRow b (putCells enc 0 d vs) := by
 unfold putRow mapBlock World.setRow
 congr 1
 apply Array.ext_getElem?
 intro k
 simp only [Array.getElem?_modify]
 by_cases hk : b = k
 ·subst hk
  simp only [if_true, h, Option.map_some, onCells]
 ·simp [hk]
theorem ssort_sound [Glob] {f : FuncId} (hcb : Callable P f) (hnone : ∀ (p : Option Addr) (cap : Nat) (w : World), Calls P f #[.slice p 0 cap] w fun e w' => e = .returned (.tuple #[]) ∧ w' = w)
  (hsort : ∀ (blk off cap : Nat) (zs : List (List UInt8)) (w : World), Holds encStr w blk off zs.toArray → blk < w.heap.size → zs.length < 4611686018427387904 →
   Calls P f #[.slice (some ⟨blk, off, none⟩) zs.length cap] w fun e w' => e = .returned (.tuple #[]) ∧ ∃ n os, w' = Go.Sort.grow (putRow encStr (Sort.ahead w n) blk off (zs.mergeSort fun x y => decide (x ≤ y)).toArray) os)
  (zs : List (List UInt8)) (o : Nat) {K : AV → St → Prop} (hlen : zs.length < 4611686018427387904) (ho : s.m o = some (.box (slist zs))) (hK : K (.tup []) (s.set o (.box (slist (bsort zs))))) : ACalls P f [.mref 1 o 0 zs.length] s K := by
 refine ⟨hcb, fun ι w vs hwf hbnd hvs => ?_⟩
 obtain ⟨v, rfl⟩ : ∃ v, vs = #[v] := by
  obtain ⟨l⟩ := vs
  match l, hvs.1 with
  | [v], _ => exact ⟨v, rfl⟩
 have hv := hvs.2 0 v _ rfl rfl
 have hbnd' : Bnd ι (s.set o (.box (slist (bsort zs)))).m s.nx := ⟨fun q ob hq => by
  by_cases e : q = o
  ·subst e; exact hbnd.lt q _ ho
  ·simp [St.set, e] at hq; exact hbnd.lt q ob hq, hbnd.ilt⟩
 cases zs with
 | nil =>
  have hvv : ∃ p cap, v = .slice p 0 cap := by
   cases hv with
   | mref h hcap hb => exact ⟨_, _, rfl⟩
   | mnil => exact ⟨_, _, rfl⟩
  obtain ⟨p, cap, rfl⟩ := hvv
  refine (hnone p cap w).mono ?_
  rintro e w' ⟨rfl, rfl⟩
  have hm : (s.set o (.box (slist (bsort [])))).m = s.m := by
   funext q
   by_cases e : q = o
   ·subst e; simp [St.set, ho, bsort, slist]
   ·simp [St.set, e]
  refine ⟨_, _, s.set o (.box (slist (bsort []))), ι, rfl, ?_, ?_, ?_, Inc.refl _ _, .tup rfl (by simp), hK⟩
  ·rw [hm]; exact Step.refl _ _ _
  ·rw [hm]; exact hwf
  ·exact hbnd'
 | cons z zs =>
  generalize hzz : z :: zs = zl at *
  have hne : zl.length ≠ 0 := by rw [← hzz]; simp
  generalize hln : zl.length = ln at hv
  cases hv with
  | mnil => exact absurd hln hne
  | @mref _ _ b _ _ cap h hcap hb =>
   subst hln
   obtain ⟨cvs, e, h1, h2, h3, h4⟩ := hwf.rep o _ b ho h
   simp only [slist, List.length_map] at h2
   have hcell : ∀ j, j < zl.length → cvs[j]? = some (encStr zl[j]!) := by
    intro j hj
    have hjc : j < cvs.size := by omega
    have hx : (slist zl)[j]? = some (.str ⟨zl[j]!.toArray⟩) := by simp [slist, hj]
    have := h3 j cvs[j] _ (by simp [hjc]) hx
    rw [Array.getElem?_eq_getElem hjc]
    generalize cvs[j] = u at this
    cases this
    rfl
   have hH : Holds encStr w b (0 * 1) zl.toArray := by
    intro j hj
    have hj' : j < zl.length := by simpa using hj
    refine ⟨?_, ?_⟩
    ·simp [World.cell?, h1, hcell j hj']
    ·simp [World.frozen?, h1]
   have hblk : b < w.heap.size := (Array.getElem?_eq_some_iff.1 h1).1
   refine (hsort b (0 * 1) cap zl w hH hblk hlen).mono ?_
   rintro e' w' ⟨rfl, n, os, hw'⟩
   have h1a : (Sort.ahead w n).heap[b]? = some (.cells cvs e (0, 0)) := h1
   rw [Nat.zero_mul, putRow_setRowS _ h1a] at hw'
   have hszp : (putCells encStr 0 (bsort zl).toArray cvs).size = cvs.size := by simp [putCells]
   have hget : ∀ (j : Nat) v x, (putCells encStr 0 (bsort zl).toArray cvs)[j]? = some v → (slist (bsort zl))[j]? = some x → ∃ m, v = encStr m ∧ x = .str ⟨m.toArray⟩ := by
    intro j v x hv hx
    simp only [slist, List.getElem?_map, Option.map_eq_some_iff] at hx
    obtain ⟨m, hm, rfl⟩ := hx
    have hjl : j < (bsort zl).length := (List.getElem?_eq_some_iff.1 hm).1
    have hjc : j < cvs.size := by rw [bsort_length] at hjl; omega
    rw [putCells, Array.getElem?_mapIdx, Array.getElem?_eq_getElem hjc] at hv
    simp only [Option.map_some, Option.some.injEq, Nat.zero_add, Nat.zero_le, true_and, Nat.sub_zero, List.size_toArray] at hv
    rw [if_pos hjl] at hv
    subst hv
    refine ⟨m, ?_, rfl⟩
    simp [hm]
   obtain ⟨q1, q2⟩ := write_obj (obj' := .box (slist (bsort zl))) (cs := putCells encStr 0 (bsort zl).toArray cvs) (hwf.ahead n) ho h h1a hszp (fun _ => trivial) fun hR hh =>
    ⟨_, e, hh, by rw [hszp]; simp only [slist, List.length_map, bsort_length]; exact h2, fun j v x hv hx => by obtain ⟨m, rfl, rfl⟩ := hget j v x hv hx; exact .str _,
     fun j v hj hv => by
      have hx : (slist (bsort zl))[j]? = some (slist (bsort zl))[j] := by simp [hj]
      obtain ⟨m, rfl, _⟩ := hget j v _ hv hx
      rfl⟩
   obtain ⟨w2, hw2⟩ : ∃ w2, w2 = (Sort.ahead w n).setRow b (putCells encStr 0 (bsort zl).toArray cvs) := ⟨_, rfl⟩
   change w' = Go.Sort.grow ((Sort.ahead w n).setRow b (putCells encStr 0 (bsort zl).toArray cvs)) os at hw'
   rw [← hw2] at q1 q2 hw'
   subst hw'
   have hgr : Grown (putS s.m o (.box (slist (bsort zl)))) ι w2 (Go.Sort.grow w2 os) none :=
    ⟨⟨rfl, rfl, rfl, by simp [Go.Sort.grow], fun k hk _ => by simp [Go.Sort.grow, Array.getElem?_append_left hk]⟩, fun r e => by cases e⟩
   exact ⟨_, _, s.set o (.box (slist (bsort zl))), ι, rfl, hgr.step ((ahead_step ι s.m w n).trans q1) (fun r e => by cases e), hgr.wf q2, hbnd', Inc.refl _ _, .tup rfl (by simp), hK⟩
theorem mem_compact {zs : List (List UInt8)} {x : List UInt8} : x ∈ Lib.compact zs ↔ x ∈ zs := by
 have key : ∀ j, j < zs.length → zs[j]! ∈ Lib.compact zs := by
  intro j
  induction j using Nat.strongRecOn with
  | ind j ih =>
   intro hj
   by_cases hk : Lib.keeps zs.toArray j = true
   ·simp only [Lib.compact, Lib.compactUpTo, List.mem_map, List.mem_filter, List.mem_range]
    exact ⟨j, ⟨hj, hk⟩, by simp⟩
   ·have h2 : ¬ (j = 0 ∨ zs[j]! ≠ zs[j - 1]!) := by simpa [Lib.keeps] using hk
    have h3 : j ≠ 0 := fun e => h2 (.inl e)
    have h4 : zs[j]! = zs[j - 1]! := Decidable.byContradiction fun e => h2 (.inr e)
    rw [h4]
    exact ih (j - 1) (by omega) (by omega)
 constructor
 ·intro h
  simp only [Lib.compact, Lib.compactUpTo, List.mem_map, List.mem_filter, List.mem_range] at h
  obtain ⟨j, ⟨hj, _⟩, rfl⟩ := h
  simp [hj]
 ·intro h
  obtain ⟨j, hj, rfl⟩ := List.mem_iff_getElem.1 h
  have := key j hj
  simpa [hj] using this
theorem compact_length (zs : List (List UInt8)) : (Lib.compact zs).length ≤ zs.length := by
 simp only [Lib.compact, Lib.compactUpTo, List.length_map]
 refine Nat.le_trans (List.length_filter_le _ _) ?_
 simp
theorem scompact_sound [Glob] {f : FuncId} (hcb : Callable P f) (hnone : ∀ (p : Option Addr) (cap : Nat) (w : World), Calls P f #[.slice p 0 cap] w fun e w' => e = .returned (.slice p 0 cap) ∧ w' = w)
  (hcomp : ∀ (blk off cap : Nat) (zs : List (List UInt8)) (w : World), Holds encStr w blk off zs.toArray → zs.length ≤ 9223372036854775807 → zs.length ≤ cap →
   Calls P f #[.slice (some ⟨blk, off, none⟩) zs.length cap] w fun e w' => e = .returned (.slice (some ⟨blk, off, none⟩) (Lib.compact zs).length cap) ∧ ∃ q, w' = putRow encStr (Sort.ahead w q) blk off (Lib.compact zs ++ List.replicate (zs.length - (Lib.compact zs).length) []).toArray)
  (zs : List (List UInt8)) (o : Nat) {K : AV → St → Prop} (hlen : zs.length < 4611686018427387904) (ho : s.m o = some (.box (slist zs))) (hK : K (.mref 1 o 0 (Lib.compact zs).length) (s.set o (.box (slist (Lib.compact zs))))) : ACalls P f [.mref 1 o 0 zs.length] s K := by
 refine ⟨hcb, fun ι w vs hwf hbnd hvs => ?_⟩
 obtain ⟨v, rfl⟩ : ∃ v, vs = #[v] := by
  obtain ⟨l⟩ := vs
  match l, hvs.1 with
  | [v], _ => exact ⟨v, rfl⟩
 have hv := hvs.2 0 v _ rfl rfl
 have hbnd' : Bnd ι (s.set o (.box (slist (Lib.compact zs)))).m s.nx := ⟨fun q ob hq => by
  by_cases e : q = o
  ·subst e; exact hbnd.lt q _ ho
  ·simp [St.set, e] at hq; exact hbnd.lt q ob hq, hbnd.ilt⟩
 cases zs with
 | nil =>
  have hvv : ∃ p cap, v = .slice p 0 cap := by
   cases hv with
   | mref h hcap hb => exact ⟨_, _, rfl⟩
   | mnil => exact ⟨_, _, rfl⟩
  obtain ⟨p, cap, rfl⟩ := hvv
  refine (hnone p cap w).mono ?_
  rintro e w' ⟨rfl, rfl⟩
  have hm : (s.set o (.box (slist (Lib.compact [])))).m = s.m := by
   funext q
   by_cases e : q = o
   ·subst e; simp [St.set, ho, Lib.compact, Lib.compactUpTo, slist]
   ·simp [St.set, e]
  refine ⟨_, _, s.set o (.box (slist (Lib.compact []))), ι, rfl, ?_, ?_, ?_, Inc.refl _ _, ?_, hK⟩
  ·rw [hm]; exact Step.refl _ _ _
  ·rw [hm]; exact hwf
  ·exact hbnd'
  ·rw [hm]; exact hv
 | cons z zs =>
  generalize hzz : z :: zs = zl at *
  have hne : zl.length ≠ 0 := by rw [← hzz]; simp
  generalize hln : zl.length = ln at hv
  cases hv with
  | mnil => exact absurd hln hne
  | @mref _ _ b _ _ cap h hcap hb =>
   subst hln
   obtain ⟨cvs, e, h1, h2, h3, h4⟩ := hwf.rep o _ b ho h
   simp only [slist, List.length_map] at h2
   have hcell : ∀ j, j < zl.length → cvs[j]? = some (encStr zl[j]!) := by
    intro j hj
    have hjc : j < cvs.size := by omega
    have hx : (slist zl)[j]? = some (.str ⟨zl[j]!.toArray⟩) := by simp [slist, hj]
    have := h3 j cvs[j] _ (by simp [hjc]) hx
    rw [Array.getElem?_eq_getElem hjc]
    generalize cvs[j] = u at this
    cases this
    rfl
   have hH : Holds encStr w b (0 * 1) zl.toArray := by
    intro j hj
    have hj' : j < zl.length := by simpa using hj
    refine ⟨?_, ?_⟩
    ·simp [World.cell?, h1, hcell j hj']
    ·simp [World.frozen?, h1]
   refine (hcomp b (0 * 1) cap zl w hH (by omega) hcap).mono ?_
   rintro e' w' ⟨rfl, n, hw'⟩
   have h1a : (Sort.ahead w n).heap[b]? = some (.cells cvs e (0, 0)) := h1
   generalize hrow : Lib.compact zl ++ List.replicate (zl.length - (Lib.compact zl).length) [] = row at hw'
   have hrl : row.length = zl.length := by
    have := compact_length zl
    rw [← hrow]; simp; omega
   have hcl := compact_length zl
   rw [Nat.zero_mul, putRow_setRowS _ h1a] at hw'
   have hszp : (putCells encStr 0 row.toArray cvs).size = cvs.size := by simp [putCells]
   have hget : ∀ (j : Nat) v x, (putCells encStr 0 row.toArray cvs)[j]? = some v → (slist (Lib.compact zl))[j]? = some x → ∃ m, v = encStr m ∧ x = .str ⟨m.toArray⟩ := by
    intro j v x hv hx
    simp only [slist, List.getElem?_map, Option.map_eq_some_iff] at hx
    obtain ⟨m, hm, rfl⟩ := hx
    have hjk : j < (Lib.compact zl).length := (List.getElem?_eq_some_iff.1 hm).1
    have hjl : j < row.length := by omega
    have hjc : j < cvs.size := by omega
    rw [putCells, Array.getElem?_mapIdx, Array.getElem?_eq_getElem hjc] at hv
    simp only [Option.map_some, Option.some.injEq, Nat.zero_add, Nat.zero_le, true_and, Nat.sub_zero, List.size_toArray] at hv
    rw [if_pos hjl] at hv
    subst hv
    refine ⟨m, ?_, rfl⟩
    have : row[j]? = some m := by rw [← hrow, List.getElem?_append_left hjk]; exact hm
    simp [this]
   obtain ⟨q1, q2⟩ := write_obj (obj' := .box (slist (Lib.compact zl))) (cs := putCells encStr 0 row.toArray cvs) (hwf.ahead n) ho h h1a hszp (fun _ => trivial) fun hR hh =>
    ⟨_, e, hh, by rw [hszp]; simp only [slist, List.length_map]; omega, fun j v x hv hx => by obtain ⟨m, rfl, rfl⟩ := hget j v x hv hx; exact .str _,
     fun j v hj hv => by
      have hx : (slist (Lib.compact zl))[j]? = some (slist (Lib.compact zl))[j] := by simp [hj]
      obtain ⟨m, rfl, _⟩ := hget j v _ hv hx
      rfl⟩
   subst hw'
   refine ⟨_, _, s.set o (.box (slist (Lib.compact zl))), ι, rfl, (ahead_step ι s.m w n).trans q1, q2, hbnd', Inc.refl _ _, ?_, hK⟩
   have hst := (ahead_step ι s.m w n).trans q1
   exact .mref h (Nat.le_trans hcl hcap) (hst.shape _ _ hb)
end Go.AL
namespace Go.AL
variable {P : Program}
def imapF : Nat → List Int → List (Nat × AV × AV)
 | _, [] => []
 | i, n :: r => (i, .int .i64 n, .bool true) :: imapF (i + 1) r
def obS (l : List Int) : AObj := .map (imapF 0 l) l.length
def ains (l : List Int) (n : Int) : List Int := if n ∈ l then l else l ++ [n]
theorem idxOf_ne {a n : Int} {r : List Int} (h : ¬ a = n) : (a :: r).idxOf n = r.idxOf n + 1 := by
 rw [List.idxOf_cons]
 have : (a == n) = false := by simpa using h
 rw [this]; rfl
theorem mfind_imap [Glob] (n : Int) : ∀ (l : List Int) (i k : Nat), mfind (.int .i64 n) (imapF i l) k = some (if n ∈ l then some (k + l.idxOf n) else none)
 | [], i, k => by simp [imapF, mfind]
 | a :: r, i, k => by
  simp only [imapF, mfind, keq, if_true]
  by_cases h : n = a
  ·subst h; simp
  ·have ha : ¬ a = n := fun e => h e.symm
   rw [decide_eq_false h]
   simp only [mfind_imap n r (i + 1) (k + 1), List.mem_cons, h, false_or]
   by_cases hm : n ∈ r
   ·simp only [hm, if_true, idxOf_ne ha]
    congr 2
    omega
   ·simp [hm]
theorem modify_imap [Glob] (n : Int) : ∀ (l : List Int) (i : Nat), n ∈ l → (imapF i l).modify (l.idxOf n) (fun e => (e.1, .int .i64 n, .bool true)) = imapF i l
 | [], i, h => by simp at h
 | a :: r, i, h => by
  by_cases e : a = n
  ·subst e; simp [imapF]
  ·have hm : n ∈ r := by
    rcases List.mem_cons.1 h with h | h
    ·exact absurd h.symm e
    ·exact h
   rw [idxOf_ne e]
   simp [imapF, modify_imap n r (i + 1) hm]
theorem append_imap (n : Int) : ∀ (l : List Int) (i : Nat), imapF i l ++ [(i + l.length, .int .i64 n, .bool true)] = imapF i (l ++ [n])
 | [], i => by simp [imapF]
 | a :: r, i => by
  simp only [imapF, List.cons_append, List.length_cons]
  rw [← append_imap n r (i + 1)]
  congr 3
  congr 1
  omega
theorem up_set [Glob] (n : Int) (l : List Int) (o : Nat) (s : St) (K : AV → St → Prop) (hk : go (K (.tup []) (s.set o (obS (ains l n))))) : go (upO o (.int .i64 n) (.bool true) (some (obS l)) s K) := by
 rw [obS, go_upO_map, mfind_imap]
 by_cases h : n ∈ l
 ·rw [if_pos h, go_upR_some, Nat.zero_add, modify_imap n l 0 h]
  rw [ains, if_pos h] at hk
  exact hk
 ·rw [if_neg h, go_upR_none]
  rw [ains, if_neg h, obS, ← append_imap, Nat.zero_add, List.length_append] at hk
  exact hk
theorem mem_imapF : ∀ (l : List Int) (i : Nat) (e : Nat × AV × AV), e ∈ imapF i l → ∃ j, j < l.length ∧ e = (i + j, .int .i64 (l.getD j 0), .bool true)
 | [], i, e, h => by simp [imapF] at h
 | a :: r, i, e, h => by
  simp only [imapF, List.mem_cons] at h
  rcases h with rfl | h
  ·exact ⟨0, by simp, by simp⟩
  ·obtain ⟨j, hj, rfl⟩ := mem_imapF r (i + 1) e h
   exact ⟨j + 1, by simpa using hj, by simp; omega⟩
theorem find_imapF : ∀ (l : List Int) (i j : Nat), j < l.length → ((imapF i l).find? fun e => e.1 == i + j) = some (i + j, .int .i64 (l.getD j 0), .bool true)
 | [], i, j, h => by simp at h
 | a :: r, i, 0, h => by simp [imapF]
 | a :: r, i, j + 1, h => by
  have := find_imapF r (i + 1) j (by simpa using h)
  have e1 : i + 1 + j = i + (j + 1) := by omega
  rw [e1] at this
  have e2 : ¬ i = i + (j + 1) := by omega
  simp only [imapF, List.find?_cons]
  have e3 : (i == i + (j + 1)) = false := by simp
  rw [e3, this]
  simp
theorem in_imapF [Glob] : ∀ (l : List Int) (i j : Nat), j < l.length → (i + j, AV.int .i64 (l.getD j 0), AV.bool true) ∈ imapF i l := fun l i j h => List.mem_of_find?_eq_some (find_imapF l i j h)
theorem isort_perm {a b : List Int} (h : a.Perm b) : isort a = isort b := by
 have h1 : (isort a).Perm (isort b) := (List.mergeSort_perm a _).trans (h.trans (List.mergeSort_perm b _).symm)
 refine List.Perm.eq_of_pairwise (le := fun x y => x ≤ y) (fun x y _ _ h1 h2 => Int.le_antisymm h1 h2) ?_ ?_ h1
 ·exact (List.pairwise_mergeSort (le := fun x y : Int => decide (x ≤ y)) (fun a b c h1 h2 => by simp at *; omega) (fun a b => by simp; omega) a).imp (by simp)
 ·exact (List.pairwise_mergeSort (le := fun x y : Int => decide (x ≤ y)) (fun a b c h1 h2 => by simp at *; omega) (fun a b => by simp; omega) b).imp (by simp)
theorem perm_seen (l : List Int) (seen : List Nat) (hnd : seen.Nodup) (hlt : ∀ j ∈ seen, j < l.length) (hall : ∀ j, j < l.length → j ∈ seen) : (seen.map fun j => l.getD j 0).Perm l := by
 have h1 : seen.Perm (List.range l.length) := by
  rw [List.perm_ext_iff_of_nodup hnd List.nodup_range]
  intro j
  rw [List.mem_range]
  exact ⟨hlt j, hall j⟩
 have h2 : (List.range l.length).map (fun j => l.getD j 0) = l := by
  apply List.ext_getElem
  ·simp
  ·intro i h1 h2; simp [h2]
 have := h1.map fun j => l.getD j 0
 rw [h2] at this
 exact this
theorem nodup_le {seen : List Nat} {n : Nat} (hnd : seen.Nodup) (hlt : ∀ j ∈ seen, j < n) : seen.length ≤ n := by
 have h : seen.Perm ((List.range n).filter fun j => decide (j ∈ seen)) := by
  rw [List.perm_ext_iff_of_nodup hnd (List.nodup_range.filter _)]
  intro j
  simp only [List.mem_filter, List.mem_range, decide_eq_true_eq]
  exact ⟨fun h => ⟨hlt j h, h⟩, fun h => h.2⟩
 have h1 := h.length_eq
 have h2 := List.length_filter_le (fun j => decide (j ∈ seen)) (List.range n)
 simp only [List.length_range] at h2
 omega
theorem Rep.nilm {ι : Nat → Option Nat} {F : Nat → Nat → Prop} {w : World} {v : Value} (h : Rep ι F w v (.list 0 .full [])) (sz o : Nat) : Rep ι F w v (.mref sz o 0 0) := by
 generalize hx : AV.list 0 .full [] = x at h
 cases h <;> try (cases hx; done)
 rename_i cs hlen hcap hsz ht hnone hc hr
 injection hx with e1 e2 e3
 subst e1 e2 e3
 cases hlen
 cases ht
 exact .mnil
theorem redesc [Glob] {ι : Nat → Option Nat} {S : Store} {w : World} {o : Nat} {cs cs' : List AV} (hwf : WF ι S w) (ho : S o = some (.box cs)) (hr : ∀ b, ι o = some b → ObjRep ι (Foot ι S) w b (.box cs) → ObjRep ι (Foot ι S) w b (.box cs')) :
  Step ι S w ι (putS S o (.box cs')) w ∧ WF ι (putS S o (.box cs')) w := by
 have hf : ∀ b off, Foot ι (putS S o (.box cs')) b off → Foot ι S b off := by
  rintro b off ⟨q, ob, h1, h2, h3⟩
  unfold putS at h1
  split at h1
  ·rename_i e; subst e; exact ⟨q, _, ho, h2, trivial⟩
  ·exact ⟨q, ob, h1, h2, h3⟩
 have hst : Step ι S w ι (putS S o (.box cs')) w := by
  refine grow_step (Nat.le_refl _) rfl rfl rfl (fun _ _ => rfl) (fun _ _ h => h) (fun b off _ h => hf b off h) ?_
  rintro b hb ⟨q, ob, h1, h2⟩
  unfold putS at h1
  split at h1
  ·rename_i e; subst e; exact ⟨q, _, ho, h2⟩
  ·exact ⟨q, ob, h1, h2⟩
 refine ⟨hst, hwf.of_step hst hwf.blt ?_ ?_⟩
 ·intro q q' ob ob' b h1 h2 h3 h4
  unfold putS at h1 h2
  by_cases e : q = o <;> by_cases e' : q' = o <;> simp only [e, e', if_true, if_false] at h1 h2 h3 h4 ⊢
  ·exact hwf.inj o q' _ ob' b ho h2 h3 h4
  ·exact e (hwf.inj q o ob _ b h1 ho h3 h4)
  ·exact hwf.inj q q' ob ob' b h1 h2 h3 h4
 ·intro q ob b h1 h2
  unfold putS at h1
  split at h1
  ·rename_i e
   subst e
   cases h1
   refine .inr ?_
   obtain ⟨vs, e, k1, k2, k3, k4⟩ := hr b h2 (hwf.rep _ _ b ho h2)
   exact ⟨vs, e, k1, k2, fun j v x hv hx => (k3 j v x hv hx).step hst, k4⟩
  ·exact .inl ⟨h1, h2, rfl⟩
section
variable {f : FuncId} {args : List AV} {s : St} {K : AV → St → Prop}
theorem ACalls.virt [Glob] (ob : AObj) (h : ACalls P f args (s.new ob) K) : ACalls P f args s K := by
 refine ⟨h.1, fun ι w vs h1 h2 h3 => ?_⟩
 have hn : ι s.nx = none := by
  cases e : ι s.nx with
  | none => rfl
  | some b => exact absurd (h2.ilt _ b e) (by omega)
 have hst := virtual_step hn s.m w ob
 have hb : Bnd ι (s.new ob).m (s.new ob).nx := by
  refine ⟨fun q o hq => ?_, fun q b hq => Nat.lt_succ_of_lt (h2.ilt q b hq)⟩
  by_cases e : q = s.nx
  ·subst e; exact Nat.lt_succ_self _
  ·rw [St.new_ne _ _ _ e] at hq; exact Nat.lt_succ_of_lt (h2.lt q o hq)
 refine Calls.mono (h.2 ι w vs (h1.virtual hn ob) hb ⟨h3.1, fun j v x hv hx => (h3.2 j v x hv hx).step hst⟩) ?_
 rintro e w' ⟨v, r, s', ι', k1, k2, k3, k4, k5, k6, k7⟩
 exact ⟨v, r, s', ι', k1, hst.trans k2, k3, k4, ⟨Nat.le_trans (Nat.le_succ _) k5.1, fun q b hq hlt => k5.2 q b hq (Nat.lt_succ_of_lt hlt)⟩, k6, k7⟩
theorem ACalls.nilbox [Glob] {o : Nat} (sz : Nat) (ho : s.m o = some (.box [.list 0 .full []])) (h : ACalls P f args ((s.new (.box [])).set o (.box [.mref sz s.nx 0 0])) K) : ACalls P f args s K := by
 refine ACalls.bnd h.1 fun hb0 => ACalls.virt (.box []) ⟨h.1, fun ι w vs h1 h2 h3 => ?_⟩
 have hon : o ≠ s.nx := by have := hb0 o _ ho; omega
 have ho' : (s.new (.box [])).m o = some (.box [.list 0 .full []]) := by rw [St.new_ne _ _ _ hon]; exact ho
 obtain ⟨hst, hwf⟩ := redesc (cs' := [.mref sz s.nx 0 0]) h1 ho' fun b hob ⟨vs, e, k1, k2, k3, k4⟩ => ⟨vs, e, k1, k2, fun j v x hv hx => by
  cases j with
  | zero =>
   simp only [List.getElem?_cons_zero, Option.some.injEq] at hx
   subst hx
   exact (k3 0 v _ hv rfl).nilm _ _
  | succ j => simp at hx, k4⟩
 have hb : Bnd ι ((s.new (.box [])).set o (.box [.mref sz s.nx 0 0])).m (s.new (.box [])).nx := by
  refine ⟨fun q ob hq => ?_, h2.ilt⟩
  by_cases e : q = o
  ·subst e; exact h2.lt _ _ ho'
  ·rw [St.set_ne _ _ _ _ e] at hq; exact h2.lt q ob hq
 refine Calls.mono (h.2 ι w vs hwf hb ⟨h3.1, fun j v x hv hx => (h3.2 j v x hv hx).step hst⟩) ?_
 rintro e w' ⟨v, r, s', ι', k1, k2, k3, k4, k5, k6, k7⟩
 exact ⟨v, r, s', ι', k1, hst.trans k2, k3, k4, k5, k6, k7⟩
theorem ACalls.nilarg [Glob] {i : Nat} (sz : Nat) (hi : args[i]? = some (.list 0 .full [])) (h : ACalls P f (args.set i (.mref sz s.nx 0 0)) (s.new (.box [])) K) : ACalls P f args s K := by
 refine ACalls.virt (.box []) ⟨h.1, fun ι w vs h1 h2 h3 => h.2 ι w vs h1 h2 ⟨by simpa using h3.1, fun j v x hv hx => ?_⟩⟩
 by_cases e : i = j
 ·subst e
  have hj : i < args.length := (List.getElem?_eq_some_iff.1 hi).1
  simp [hj] at hx
  subst hx
  exact (h3.2 i v _ hv hi).nilm _ _
 ·rw [List.getElem?_set_ne e] at hx
  exact h3.2 j v x hv hx
end
theorem flat_il (l : List Int) : flat (ilist l) = ilist l := by
 induction l with
 | nil => rfl
 | cons a r ih => simp [ilist] at ih ⊢; exact ih
@[simp] theorem ilist_length (l : List Int) : (ilist l).length = l.length := by simp [ilist]
theorem ains_nodup {l : List Int} (h : l.Nodup) (n : Int) : (ains l n).Nodup := by
 unfold ains
 by_cases hm : n ∈ l
 ·rw [if_pos hm]; exact h
 ·rw [if_neg hm, List.nodup_append]
  refine ⟨h, by simp, fun a ha b hb => ?_⟩
  simp at hb; subst hb
  exact fun e => hm (e ▸ ha)
theorem ains_len (l : List Int) (n : Int) : (ains l n).length ≤ l.length + 1 := by
 unfold ains
 by_cases hm : n ∈ l
 ·rw [if_pos hm]; omega
 ·rw [if_neg hm]; simp
theorem mem_ains {l : List Int} {n k : Int} : k ∈ ains l n ↔ k ∈ l ∨ k = n := by
 unfold ains
 by_cases hm : n ∈ l
 ·rw [if_pos hm]; exact ⟨.inl, fun h => h.elim id fun e => e ▸ hm⟩
 ·rw [if_neg hm]; simp
def adds (l ns : List Int) : List Int := ns.foldl ains l
@[simp] theorem adds_nil (l : List Int) : adds l [] = l := rfl
theorem adds_one (l : List Int) (n : Int) : adds l [n] = ains l n := rfl
theorem adds_append (l a b : List Int) : adds l (a ++ b) = adds (adds l a) b := by simp [adds]
theorem adds_nodup [Glob] : ∀ (ns : List Int) {l : List Int} (_ : l.Nodup), (adds l ns).Nodup
 | [], l, h => h
 | n :: ns, l, h => by simp only [adds, List.foldl_cons]; exact adds_nodup ns (ains_nodup h n)
theorem adds_len [Glob] : ∀ (ns : List Int) (l : List Int), (adds l ns).length ≤ l.length + ns.length
 | [], l => by simp
 | n :: ns, l => by
  have := adds_len ns (ains l n)
  have := ains_len l n
  simp only [adds, List.foldl_cons, List.length_cons] at *
  omega
theorem mem_adds [Glob] {k : Int} : ∀ (ns : List Int) {l : List Int}, k ∈ adds l ns ↔ k ∈ l ∨ k ∈ ns
 | [], l => by simp
 | n :: ns, l => by
  have := mem_adds ns (l := ains l n) (k := k)
  simp only [adds, List.foldl_cons] at *
  rw [this, mem_ains, List.mem_cons, or_assoc]
theorem freeze1 [Glob] {f : FuncId} {args : List AV} {s : St} {K : AV → St → Prop} (h : ACalls P f args s fun r s' => ∃ sz o len xs, r = .mref sz o 0 len ∧ s'.m o = some (.box (flat xs)) ∧ (∀ x ∈ xs, x.cells.length = sz) ∧ xs.length = len ∧
  K (.list sz .none xs) (s'.del o)) : ACalls P f args s K := by
 refine ⟨h.1, fun ι w ws h1 h2 h3 => Calls.mono (h.2 ι w ws h1 h2 h3) ?_⟩
 rintro e w' ⟨v, r, s', ι', k1, k2, k3, k4, k5, k6, sz, o, len, xs, rfl, ho, hsz, hlen, hk⟩
 have hst : Step ι' s'.m w' ι' (s'.del o).m w' := drop_step s'.m (delS s'.m o) (delS_sub s'.m o) ι' w'
 exact ⟨v, _, _, ι', k1, k2.trans hst, k3.drop (delS_sub s'.m o), ⟨fun q ob hq => k4.lt q ob (delS_sub s'.m o q ob hq), k4.ilt⟩, k5, k6.freeze k3 ho hsz hlen, hk⟩
end Go.AL
