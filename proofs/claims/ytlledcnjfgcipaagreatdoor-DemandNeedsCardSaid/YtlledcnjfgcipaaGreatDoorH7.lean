/- The need of code: the program's answer, and the law. -/
import Derived.Test.YtlledcnjfgcipaaGreatDoorH5
set_option linter.unusedVariables false
set_option linter.unusedSimpArgs false
namespace Go.AL.Dm
open Go Go.Proofs
theorem freezeT {f : FuncId} {args : List AV} {s : St} {K : AV → St → Prop} {x y : AV} (hx : Plain x) (hy : Plain y) (h : ACalls Tryz.prog f args s fun r s' => ∃ sz o len xs, r = .tup [.mref sz o 0 len, x, y] ∧ s'.m o = some (.box (flat xs)) ∧ (∀ x ∈ xs, x.cells.length = sz) ∧ xs.length = len ∧
  K (.tup [.list sz .none xs, x, y]) (s'.del o)) : ACalls Tryz.prog f args s K := by
 refine ACalls.recast (ACalls.mono h fun r s' hn hh => ?_)
 obtain ⟨sz, o, len, xs, rfl, ho, hsz, hlen, hk⟩ := hh
 refine ⟨_, (s'.del o).m, delS_sub s'.m o, fun ι w v hwf hv => ?_, hk⟩
 cases hv with
 | tup hl hr =>
  refine .tup hl fun j u z hu hz => ?_
  match j with
  | 0 => simp at hz; subst hz; exact (hr 0 u _ hu rfl).freeze hwf ho hsz hlen
  | 1 => simp at hz; subst hz; exact hx _ _ _ _ _ _ (hr 1 u _ hu rfl)
  | 2 => simp at hz; subst hz; exact hy _ _ _ _ _ _ (hr 2 u _ hu rfl)
  | j + 3 => simp at hz
def okX (p : List Gl) (t : Pl) : Bool := isP p && (wf t && (gls t).all fun x => decide (ba x ∈ nms p))
noncomputable def needP (p : List Gl) (t : Pl) : ND := need (lookK (tbD p (fin p).1)) t
def J26 (s : St) (bx : Nat) (k : Nat) (g : Env) (s1 : St) : Prop :=
 g.get 39 = .ptr (bx + 1 + 1) 0 ∧ g.get 11 = .mref 1 (bx + 1) 0 0 ∧ g.get 10 = .ptr bx 0 ∧ s1.m (bx + 1 + 1) = some (.iter none 0 [] 0) ∧ s1.m (bx + 1) = some (.box []) ∧ s1.m bx = some (.box [.bool true, .nilmap]) ∧ Kept s s1 ∧ bx + 1 + 1 < s1.nx ∧ s.nx ≤ bx
def I26 (l : List Int) (s : St) (k it : Nat) (g : Env) (s1 : St) : Prop :=
 ∃ (seen : List Nat) (acc : List Int) (oa : Nat), k = l.length - seen.length ∧ seen.length = acc.length ∧ seen.Nodup ∧ (∀ j ∈ seen, j < l.length) ∧ acc = seen.map (fun j => l.getD j 0) ∧
  g.get 39 = .ptr it 0 ∧ g.get 11 = .mref 1 oa 0 acc.length ∧ s1.m oa = some (.box (ilist acc)) ∧ s.nx ≤ oa ∧ oa < s1.nx ∧ oa ≠ it ∧ s1.m it = some (.kiter (isetK l) seen) ∧ Kept s s1 ∧ it < s1.nx ∧ s.nx ≤ it ∧ (∃ bx, g.get 10 = .ptr bx 0 ∧ s1.m bx = some (.box [.bool false, .kmap (isetK l)]) ∧ bx ≠ oa ∧ bx ≠ it ∧ bx < s1.nx)
theorem p26a (p : List Gl) (t : Pl) (hp : Few p) (hs : small t) (hno : okX p t = false) : PureC Tryz.prog 26 [.list 6 .none (p.map Gl.av), t.av] (.tup [.list 1 .none [], .bool false, .int .i64 40]) := by
 refine PureC.intro fun s => fun_sound mixed Tryz.func26 Tryz.call26 k26.2 rfl (awpFun_go _ _ _ _ ?_)
 have h36 := p36 p hp
 have h45 := p45 t hs
 simp -implicitDefEqProofs (maxSteps:=999999) (disch:=first|omega|simp only[nx4]<;>omega|fail) [k26]
 refine go_calls (ACalls.mono (p44 p _ (by have := hp.1; omega)) fun r s' hn' h => go_of ?_)
 obtain ⟨o, es, clock, rfl, h1, h2, h3, hks, hk⟩ := h
 unfold okX at hno
 cases hi : isP p with
 | false =>
  rw [hi] at h36
  simp -implicitDefEqProofs (maxSteps:=999999) (disch:=first|omega|simp only[nx4]<;>omega|fail) at h1 hn'
  have hk2 : Kept s s' := fun q hq => (hk q (by simp -implicitDefEqProofs (maxSteps:=999999) (disch:=first|omega|simp only[nx4]<;>omega|fail); omega)).trans (by simp -implicitDefEqProofs (maxSteps:=999999) (disch:=first|omega|simp only[nx4]<;>omega|fail))
  simp -implicitDefEqProofs (maxSteps:=999999) (disch:=first|omega|simp only[nx4]<;>omega|fail)
  refine go_pure h36 fun mm1 hm1 => ?_
  try simp only [nx4] at hm1
  simp -implicitDefEqProofs (maxSteps:=999999) (disch:=first|omega|simp only[nx4]<;>omega|fail) [hk2]
 | true =>
  rw [hi] at h36 hno
  simp only [Bool.true_and] at hno
  have k0 := hk s.nx (by simp -implicitDefEqProofs (maxSteps:=999999) (disch:=first|omega|simp only[nx4]<;>omega|fail))
  simp -implicitDefEqProofs (maxSteps:=999999) (disch:=first|omega|simp only[nx4]<;>omega|fail) at k0 h1 hn'
  have hk2 : Kept s s' := fun q hq => (hk q (by simp -implicitDefEqProofs (maxSteps:=999999) (disch:=first|omega|simp only[nx4]<;>omega|fail); omega)).trans (by simp -implicitDefEqProofs (maxSteps:=999999) (disch:=first|omega|simp only[nx4]<;>omega|fail))
  cases hw : wf t with
  | false =>
   rw [hw] at h45
   simp -implicitDefEqProofs (maxSteps:=999999) (disch:=first|omega|simp only[nx4]<;>omega|fail)
   refine go_pure h36 fun mm2 hm2 => ?_
   try simp only [nx4] at hm2
   simp -implicitDefEqProofs (maxSteps:=999999) (disch:=first|omega|simp only[nx4]<;>omega|fail) [k0]
   refine go_pure h45 fun mm3 hm3 => ?_
   try simp only [nx4] at hm3
   simp -implicitDefEqProofs (maxSteps:=999999) (disch:=first|omega|simp only[nx4]<;>omega|fail) [hk2]
  | true =>
   rw [hw] at h45 hno
   simp only [Bool.true_and] at hno
   have hgl : (gls t).length ≤ 3000 := by have := pre_len t; have := gls_len t; have := hs.1; omega
   simp -implicitDefEqProofs (maxSteps:=999999) (disch:=first|omega|simp only[nx4]<;>omega|fail)
   refine go_pure h36 fun mm4 hm4 => ?_
   try simp only [nx4] at hm4
   simp -implicitDefEqProofs (maxSteps:=999999) (disch:=first|omega|simp only[nx4]<;>omega|fail) [k0]
   refine go_pure h45 fun mm5 hm5 => ?_
   try simp only [nx4] at hm5
   simp -implicitDefEqProofs (maxSteps:=999999) (disch:=first|omega|simp only[nx4]<;>omega|fail) [k0]
   refine go_pure (p47 t hw hs) fun mm6 hm6 => ?_
   try simp only [nx4] at hm6
   simp -implicitDefEqProofs (maxSteps:=999999) (disch:=first|omega|simp only[nx4]<;>omega|fail) []
   refine go_calls (ACalls.mono (p46 (gls t) (fun x => !decide (ba x ∈ ddn [] p)) 48 _ _ (by omega) fun x _ s1 k1 k2 => p48 x s'.nx o es clock _ hks s1 ?_ ?_) fun r s2 hn2 h => go_of ?_)
   ·rw [k1 _ (by simp -implicitDefEqProofs (maxSteps:=999999) (disch:=first|omega|simp only[nx4]<;>omega|fail); omega)]
    simp -implicitDefEqProofs (maxSteps:=999999) (disch:=first|omega|simp only[nx4]<;>omega|fail)
   ·rw [k1 _ (by simp -implicitDefEqProofs (maxSteps:=999999) (disch:=first|omega|simp only[nx4]<;>omega|fail); omega)]
    have : o ≠ s'.nx := by omega
    simp -implicitDefEqProofs (maxSteps:=999999) (disch:=first|omega|simp only[nx4]<;>omega|fail) [h3, this]
   obtain ⟨rfl, hk'⟩ := h
   have e1 : ((gls t).any fun x => !decide (ba x ∈ ddn [] p)) = true := by
    rw [Bool.eq_false_iff] at hno
    simp only [List.any_eq_true, Bool.not_eq_true', decide_eq_false_iff_not, mem_ddn, List.not_mem_nil, false_or]
    apply Classical.byContradiction
    intro hc
    refine hno (List.all_eq_true.2 fun x hx => decide_eq_true ?_)
    apply Classical.byContradiction
    exact fun hm => hc ⟨x, hx, hm⟩
   have hk3 : Kept s s2 := fun q hq => by
    rw [hk' q (by simp -implicitDefEqProofs (maxSteps:=999999) (disch:=first|omega|simp only[nx4]<;>omega|fail); omega)]
    have : q ≠ s'.nx := by omega
    simp -implicitDefEqProofs (maxSteps:=999999) (disch:=first|omega|simp only[nx4]<;>omega|fail) [this, hk2 q hq]
   simp -implicitDefEqProofs (maxSteps:=999999) (disch:=first|omega|simp only[nx4]<;>omega|fail) [e1, hk3]
theorem p26b (p : List Gl) (t : Pl) (hp : Few p) (hs : small t) (hr : rng t) (hyes : okX p t = true) : PureC Tryz.prog 26 [.list 6 .none (p.map Gl.av), t.av] (.tup [.list 1 .none (ilist ((needP p t).getD [])), .bool (needP p t).isNone, .int .i64 0]) := by
 refine PureC.intro fun s => freezeT (x := .bool (needP p t).isNone) (y := .int .i64 0) (plain_bool _) (plain_int _ _) (fun_sound mixed Tryz.func26 Tryz.call26 k26.2 rfl (awpFun_go _ _ _ _ ?_))
 have h36 := p36 p hp
 have h45 := p45 t hs
 simp only [okX, Bool.and_eq_true] at hyes
 obtain ⟨hi, hw, hall⟩ := hyes
 rw [hi] at h36
 rw [hw] at h45
 have hgl : (gls t).length ≤ 3000 := by have := pre_len t; have := gls_len t; have := hs.1; omega
 have hgp := goodP hp hi
 obtain ⟨n0, hway, _⟩ := fin_way hgp
 have h49 := p49 (tbD p (fin p).1) hway.good.D t hw hs hr
 have hok := need_ok (lookK (tbD p (fin p).1)) t
 have hln := (need_len (lookK (tbD p (fin p).1)) t hw).1
 rw [show need (lookK (tbD p (fin p).1)) t = needP p t from rfl] at h49 hok hln
 generalize needP p t = x at h49 hok hln ⊢
 simp -implicitDefEqProofs (maxSteps:=999999) (disch:=first|omega|simp only[nx4]<;>omega|fail) [k26]
 refine go_calls (ACalls.mono (p44 p _ (by have := hp.1; omega)) fun r s' hn' h => go_of ?_)
 obtain ⟨o, es, clock, rfl, h1, h2, h3, hks, hk⟩ := h
 have k0 := hk s.nx (by simp -implicitDefEqProofs (maxSteps:=999999) (disch:=first|omega|simp only[nx4]<;>omega|fail))
 simp -implicitDefEqProofs (maxSteps:=999999) (disch:=first|omega|simp only[nx4]<;>omega|fail) at k0 h1 hn'
 have hk2 : Kept s s' := fun q hq => (hk q (by simp -implicitDefEqProofs (maxSteps:=999999) (disch:=first|omega|simp only[nx4]<;>omega|fail); omega)).trans (by simp -implicitDefEqProofs (maxSteps:=999999) (disch:=first|omega|simp only[nx4]<;>omega|fail))
 simp -implicitDefEqProofs (maxSteps:=999999) (disch:=first|omega|simp only[nx4]<;>omega|fail)
 refine go_pure h36 fun mm7 hm7 => ?_
 try simp only [nx4] at hm7
 simp -implicitDefEqProofs (maxSteps:=999999) (disch:=first|omega|simp only[nx4]<;>omega|fail) [k0]
 refine go_pure h45 fun mm8 hm8 => ?_
 try simp only [nx4] at hm8
 simp -implicitDefEqProofs (maxSteps:=999999) (disch:=first|omega|simp only[nx4]<;>omega|fail) [k0]
 refine go_pure (p47 t hw hs) fun mm9 hm9 => ?_
 try simp only [nx4] at hm9
 simp -implicitDefEqProofs (maxSteps:=999999) (disch:=first|omega|simp only[nx4]<;>omega|fail) []
 refine go_calls (ACalls.mono (p46 (gls t) (fun x => !decide (ba x ∈ ddn [] p)) 48 _ _ (by omega) fun x _ s1 k1 k2 => p48 x s'.nx o es clock _ hks s1 ?_ ?_) fun r s2 hn2 h => go_of ?_)
 ·rw [k1 _ (by simp -implicitDefEqProofs (maxSteps:=999999) (disch:=first|omega|simp only[nx4]<;>omega|fail); omega)]
  simp -implicitDefEqProofs (maxSteps:=999999) (disch:=first|omega|simp only[nx4]<;>omega|fail)
 ·rw [k1 _ (by simp -implicitDefEqProofs (maxSteps:=999999) (disch:=first|omega|simp only[nx4]<;>omega|fail); omega)]
  have : o ≠ s'.nx := by omega
  simp -implicitDefEqProofs (maxSteps:=999999) (disch:=first|omega|simp only[nx4]<;>omega|fail) [h3, this]
 obtain ⟨rfl, hk'⟩ := h
 have e1 : ((gls t).any fun x => !decide (ba x ∈ ddn [] p)) = false := by
  rw [List.any_eq_false]
  intro x hx
  have := List.all_eq_true.1 hall x hx
  simpa [mem_ddn] using this
 have hk3 : Kept s s2 := fun q hq => by
  rw [hk' q (by simp -implicitDefEqProofs (maxSteps:=999999) (disch:=first|omega|simp only[nx4]<;>omega|fail); omega)]
  have : q ≠ s'.nx := by omega
  simp -implicitDefEqProofs (maxSteps:=999999) (disch:=first|omega|simp only[nx4]<;>omega|fail) [this, hk2 q hq]
 have kx : s2.m s.nx = some (.box t.av.cells) := by
  rw [hk' _ (by simp -implicitDefEqProofs (maxSteps:=999999) (disch:=first|omega|simp only[nx4]<;>omega|fail); omega)]
  have : s.nx ≠ s'.nx := by omega
  simp -implicitDefEqProofs (maxSteps:=999999) (disch:=first|omega|simp only[nx4]<;>omega|fail) [this, k0]
 simp -implicitDefEqProofs (maxSteps:=999999) (disch:=first|omega|simp only[nx4]<;>omega|fail) at hn2
 simp -implicitDefEqProofs (maxSteps:=999999) (disch:=first|omega|simp only[nx4]<;>omega|fail) [e1]
 refine go_calls (ACalls.mono (p40z p hgp _) fun r s3 hn3 h => go_of ?_)
 obtain ⟨rfl, hk4⟩ := h
 have ky : s3.m s.nx = some (.box t.av.cells) := by rw [hk4 _ (by omega), kx]
 have hk5 : Kept s s3 := fun q hq => (hk4 q (by omega)).trans (hk3 q hq)
 rw [Pl.av_cells] at ky
 simp -implicitDefEqProofs (maxSteps:=999999) (disch:=first|omega|simp only[nx4]<;>omega|fail) [ky]
 refine go_pure h49 fun mm10 hm10 => ?_
 try simp only [nx4] at hm10
 simp -implicitDefEqProofs (maxSteps:=999999) (disch:=first|omega|simp only[nx4]<;>omega|fail)
 cases x with
 | none =>
  have en : ndv none = .agg [.bool true, .nilmap] := rfl
  simp -implicitDefEqProofs (maxSteps:=999999) (disch:=first|omega|simp only[nx4]<;>omega|fail) [en]
  have hkb : s.nx ≤ mm10 := by omega
  refine go_loop (J26 s mm10) 1 ⟨?_, ?_, ?_, ?_, ?_, ?_, ?_, ?_, ?_⟩ ?_
  all_goals (try simp -implicitDefEqProofs (maxSteps:=999999) (disch:=first|omega|simp only[nx4]<;>omega|fail) [hk5])
  all_goals (try omega)
  rintro m g S ⟨e39, e11, e10, j2, j1, j0, hkS, hn, hb⟩
  simp -implicitDefEqProofs (maxSteps:=999999) (disch:=first|omega|simp only[nx4]<;>omega|fail) [e39, j2, e11]
  refine go_calls (p50 [] (mm10 + 1) _ _ (by simp) (by simp -implicitDefEqProofs (maxSteps:=999999) (disch:=first|omega|simp only[nx4]<;>omega|fail) [j1, ilist]) (go_of ?_))
  simp -implicitDefEqProofs (maxSteps:=999999) (disch:=first|omega|simp only[nx4]<;>omega|fail) [e11, e10, j0]
  intro m1 hm1
  exact ⟨1, mm10 + 1, 0, ⟨rfl, rfl, rfl⟩, [], by simp -implicitDefEqProofs (maxSteps:=999999) (disch:=first|omega|simp only[nx4]<;>omega|fail) [ilist, isort], by simp, rfl, ⟨.inl rfl, by simp [ilist, wkL]⟩, by simp -implicitDefEqProofs (maxSteps:=999999) (disch:=first|omega|simp only[nx4]<;>omega|fail) [hkS]⟩
 | some l =>
  have en : ndv (some l) = .agg [.bool false, .kmap (isetK l)] := rfl
  have hnd : l.Nodup := Asc.nodup hok
  have hll : l.length ≤ 3000 := by have := hs.1; simp only [lenN, Option.getD_some] at hln; omega
  have hkl : (isetK l).length = l.length := by simp [isetK]
  have hkg : ∀ j, (h : j < l.length) → (isetK l)[j]? = some (.int .i64 l[j], .bool true) := fun j h => by simp [isetK, h]
  simp -implicitDefEqProofs (maxSteps:=999999) (disch:=first|omega|simp only[nx4]<;>omega|fail) [en]
  have hkb : s.nx ≤ mm10 := by omega
  refine go_loop (fun k g s1 => I26 l s k (mm10 + 1 + 1) g s1) l.length ⟨[], [], mm10 + 1, by simp, rfl, by simp, by simp, rfl, ?_, ?_, ?_, ?_, ?_, ?_, ?_, ?_, ?_, ?_, mm10, ?_, ?_, ?_, ?_, ?_⟩ ?_
  all_goals (try simp -implicitDefEqProofs (maxSteps:=999999) (disch:=first|omega|simp only[nx4]<;>omega|fail) [hk5, ilist])
  all_goals (try omega)
  rintro n g S ⟨seen, acc, oa, hn, hsl, hsn, hlt, hacc, e39, e11, jO, hoa1, hoa2, hoa3, jI, hkS, hit, hit2, bx, e10, jB, hb1, hb2, hb3⟩
  have hsle : seen.length ≤ l.length := nodup_le hsn hlt
  simp -implicitDefEqProofs (maxSteps:=999999) (disch:=first|omega|simp only[nx4]<;>omega|fail) [e39, jI]
  refine nk_intro (fun hall => ?_) (fun j p hj hjs => ?_)
  ·have hp : acc.Perm l := by
    rw [hacc]
    exact perm_seen l seen hsn hlt fun j hj => hall j (by rw [hkl]; exact hj)
   have hal : acc.length = l.length := hp.length_eq
   simp -implicitDefEqProofs (maxSteps:=999999) (disch:=first|omega|simp only[nx4]<;>omega|fail) [e11]
   refine go_calls (p50 acc oa _ _ (by omega) (by simp -implicitDefEqProofs (maxSteps:=999999) (disch:=first|omega|simp only[nx4]<;>omega|fail) [jO]) (go_of ?_))
   simp -implicitDefEqProofs (maxSteps:=999999) (disch:=first|omega|simp only[nx4]<;>omega|fail) [e11, e10, jB, hb1]
   intro m1 hm1
   have hso : isort acc = l := by
    rw [isort_perm hp]
    exact asc_ext (isort_asc hnd) hok fun k => mem_isort
   refine ⟨1, oa, acc.length, ⟨rfl, rfl, rfl⟩, ilist l, ?_, ?_, by simp [ilist, hal], ⟨.inl rfl, wkL_refl _⟩, ?_⟩
   ·rw [hso]; simp -implicitDefEqProofs (maxSteps:=999999) (disch:=first|omega|simp only[nx4]<;>omega|fail) [flat_il]
   ·intro x hx
    simp only [ilist, List.mem_map] at hx
    obtain ⟨y, _, rfl⟩ := hx
    rfl
   ·simp -implicitDefEqProofs (maxSteps:=999999) (disch:=first|omega|simp only[nx4]<;>omega|fail) [hkS]
  ·have hjl : j < l.length := by rw [← hkl]; exact (List.getElem?_eq_some_iff.1 hj).1
   have hpe := hkg j hjl
   rw [hj] at hpe
   cases hpe
   simp -implicitDefEqProofs (maxSteps:=999999) (disch:=first|omega|simp only[nx4]<;>omega|fail) [e39]
   refine ek_intro (j := j) (by simp) hj ?_
   simp -implicitDefEqProofs (maxSteps:=999999) (disch:=first|omega|simp only[nx4]<;>omega|fail) [e11, jO]
   have hsn' : (seen ++ [j]).Nodup := by
    rw [List.nodup_append]
    refine ⟨hsn, by simp, fun a ha b hb => ?_⟩
    simp at hb; subst hb
    exact fun e => hjs (e ▸ ha)
   have hlt' : ∀ k ∈ seen ++ [j], k < l.length := by
    intro k hk
    rcases List.mem_append.1 hk with h | h
    ·exact hlt k h
    ·simp at h; subst h; exact hjl
   have hle' := nodup_le hsn' hlt'
   simp only [List.length_append, List.length_singleton] at hle'
   have hgd : l[j] = l.getD j 0 := by simp [hjl]
   refine go_next (l.length - (seen.length + 1)) (by omega) ⟨seen ++ [j], acc ++ [l[j]], S.nx, by simp, by simp [hsl], hsn', hlt', by rw [List.map_append, ← hacc, hgd]; rfl, ?_, ?_, ?_, ?_, ?_, ?_, ?_, ?_, ?_, ?_, bx, ?_, ?_, ?_, ?_, ?_⟩
   all_goals (try simp -implicitDefEqProofs (maxSteps:=999999) (disch:=first|omega|simp only[nx4]<;>omega|fail) [e39, e10, jB, ilist, hkS, hb1, hb2])
   all_goals (try omega)
inductive Rch (p : List Gl) (ns : List ByteArray) : ByteArray → Prop
 | base {n : ByteArray} : n ∈ ns → Rch p ns n
 | step {g : Gl} {x : List UInt8} : g ∈ p → Rch p ns g.name → x ∈ gls g.body → Rch p ns (ba x)
structure RI (p : List Gl) (ns Q S : List ByteArray) (i : Nat) : Prop where
 rch : ∀ x ∈ Q, Rch p ns x
 nd : S.Nodup
 sub : ∀ x ∈ S, x ∈ Q
 clo : ∀ x ∈ S, ∃ g ∈ p, g.name = x ∧ ∀ y ∈ gls g.body, ba y ∈ Q
 don : ∀ (j : Nat) x, j < i → Q[j]? = some x → x ∈ S
 all : ∀ x ∈ ns, x ∈ Q
theorem RI.fin {p : List Gl} {ns Q S : List ByteArray} {i : Nat} (h : RI p ns Q S i) (hnd : (nms p).Nodup) (hi : Q.length ≤ i) (x : ByteArray) : x ∈ S ↔ Rch p ns x := by
 have hQ : ∀ x, x ∈ Q → x ∈ S := fun x hx => by
  obtain ⟨j, hj, rfl⟩ := List.mem_iff_getElem.1 hx
  exact h.don j _ (by omega) (by simp [hj])
 refine ⟨fun hx => h.rch x (h.sub x hx), fun hx => ?_⟩
 induction hx with
 | base hn => exact hQ _ (h.all _ hn)
 | @step g y hg _ hy ih =>
  obtain ⟨g', h1, h2, h3⟩ := h.clo _ ih
  have : g' = g := by
   obtain ⟨a, ha, rfl⟩ := List.mem_iff_getElem.1 h1
   obtain ⟨b, hb, rfl⟩ := List.mem_iff_getElem.1 hg
   have e1 : (nms p)[a]? = some p[a].name := by simp [nms, ha]
   have e2 : (nms p)[b]? = some p[a].name := by rw [h2]; simp [nms, hb]
   have : a = b := nodup_get hnd e1 e2
   subst this; rfl
  subst this
  exact hQ _ (h3 y hy)
noncomputable def itr (p : List Gl) : Nat → Tb
 | 0 => tb0
 | n + 1 => stp p (itr p n)
theorem rnds_itr (p : List Gl) : ∀ (k n c : Nat), ∃ m, (rnds p k (itr p n) c).1 = itr p m
 | 0, n, c => ⟨n, rfl⟩
 | k + 1, n, c => by
  rw [rnds]
  split
  ·exact rnds_itr p k (n + 1) (c + 1)
  ·exact ⟨n, rfl⟩
theorem rt_itr {p : List Gl} (hp : GoodP p) : ∀ n, RT p (itr p n)
 | 0 => rt_0 hp
 | n + 1 => (rt_itr hp n).stp
theorem rt_fin {p : List Gl} (hp : GoodP p) : RT p (fin p).1 := by
 obtain ⟨m, hm⟩ := rnds_itr p (ms p tb0 + 1) 0 1
 have hf : (fin p).1 = itr p m := hm
 rw [hf]
 exact rt_itr hp m
theorem small_of {p : List Gl} {t : Pl} (h : fewD p t = true) : small t := by
 simp only [fewD, Bool.and_eq_true, decide_eq_true_eq] at h
 obtain ⟨h4, h5⟩ := wt_spec t 3000 100 (by omega) (by omega) h.2
 exact ⟨by omega, by omega⟩
theorem okX_eq (p : List Gl) (t : Pl) : okX p t = (isP p && (wf t && dfd p t)) := by
 have : dfd p t = (gls t).all fun x => decide (ba x ∈ nms p) := by
  unfold dfd
  exact List.all_congr rfl fun x => by rw [decide_eq_decide]; exact findI_mem
 rw [okX, this]
def I5 (v : List Int) (b : Bool) (bx : Nat) (s : St) (m : Nat) (g : Env) (s1 : St) : Prop :=
 ∃ i : Nat, i ≤ v.length ∧ m = v.length - i ∧ g.get 5 = .list 1 .none (ilist v) ∧ g.get 10 = .ptr bx 0 ∧ g.get 11 = .int .i64 i ∧ s1.m bx = some (.box [.bool b, .list 1 .none (ilist v)]) ∧ Kept s s1 ∧ s.nx ≤ bx ∧ bx < s1.nx
set_option maxHeartbeats 4000000 in
theorem p5 (p : List Gl) (t : Pl) (hr : ∀ g ∈ p, rng g.body) (hrt : rng t) : PureC Tryz.prog 5 [.list 6 .none (p.map Gl.av), t.av] (.bool true) := by
 refine PureC.intro fun s => fun_sound mixed Tryz.func5 Tryz.call5 k5.2 rfl (awpFun_go _ _ _ _ ?_)
 have h8 := p8 p t
 have h10 := p10
 have h24 := p24 t
 have h25 := p25 t
 cases hfw : fewD p t with
 | false =>
  rw [hfw] at h8
  simp -implicitDefEqProofs (maxSteps:=999999) (disch:=first|omega|simp only[nx4]<;>omega|fail) [k5]
  refine go_pure h8 fun mm1 hm1 => ?_
  try simp only [nx4] at hm1
  simp -implicitDefEqProofs (maxSteps:=999999) (disch:=first|omega|simp only[nx4]<;>omega|fail)
  refine go_pure h10 fun mm2 hm2 => ?_
  try simp only [nx4] at hm2
  simp -implicitDefEqProofs (maxSteps:=999999) (disch:=first|omega|simp only[nx4]<;>omega|fail)
  done
 | true =>
  rw [hfw] at h8
  have hp := few_of hfw hr
  have hsm := small_of hfw
  have h9 := p9 p hp
  have h27 := p27 t hsm
  cases hok : okX p t with
  | false =>
   have h26 := p26a p t hp hsm hok
   rw [okX_eq] at hok
   cases hi : isP p with
   | false =>
    rw [hi] at h9
    simp -implicitDefEqProofs (maxSteps:=999999) (disch:=first|omega|simp only[nx4]<;>omega|fail) [k5]
    refine go_pure h8 fun mm3 hm3 => ?_
    try simp only [nx4] at hm3
    simp -implicitDefEqProofs (maxSteps:=999999) (disch:=first|omega|simp only[nx4]<;>omega|fail)
    refine pcV_intro h24 ?_
    simp -implicitDefEqProofs (maxSteps:=999999) (disch:=first|omega|simp only[nx4]<;>omega|fail)
    refine pcV_intro h25 ?_
    simp -implicitDefEqProofs (maxSteps:=999999) (disch:=first|omega|simp only[nx4]<;>omega|fail)
    intro m1 hm1
    try simp -implicitDefEqProofs (maxSteps:=999999) (disch:=first|omega|simp only[nx4]<;>omega|fail)
    refine go_pure h26 fun mm4 hm4 => ?_
    try simp only [nx4] at hm4
    simp -implicitDefEqProofs (maxSteps:=999999) (disch:=first|omega|simp only[nx4]<;>omega|fail)
    refine go_pure h9 fun mm5 hm5 => ?_
    try simp only [nx4] at hm5
    simp -implicitDefEqProofs (maxSteps:=999999) (disch:=first|omega|simp only[nx4]<;>omega|fail)
    refine go_pure h10 fun mm6 hm6 => ?_
    try simp only [nx4] at hm6
    simp -implicitDefEqProofs (maxSteps:=999999) (disch:=first|omega|simp only[nx4]<;>omega|fail)
    done
   | true =>
    rw [hi] at h9 hok
    simp only [Bool.true_and] at hok
    cases hw : wf t with
    | false =>
     rw [hw] at h27
     simp -implicitDefEqProofs (maxSteps:=999999) (disch:=first|omega|simp only[nx4]<;>omega|fail) [k5]
     refine go_pure h8 fun mm7 hm7 => ?_
     try simp only [nx4] at hm7
     simp -implicitDefEqProofs (maxSteps:=999999) (disch:=first|omega|simp only[nx4]<;>omega|fail)
     refine pcV_intro h24 ?_
     simp -implicitDefEqProofs (maxSteps:=999999) (disch:=first|omega|simp only[nx4]<;>omega|fail)
     refine pcV_intro h25 ?_
     simp -implicitDefEqProofs (maxSteps:=999999) (disch:=first|omega|simp only[nx4]<;>omega|fail)
     intro m1 hm1
     try simp -implicitDefEqProofs (maxSteps:=999999) (disch:=first|omega|simp only[nx4]<;>omega|fail)
     refine go_pure h26 fun mm8 hm8 => ?_
     try simp only [nx4] at hm8
     simp -implicitDefEqProofs (maxSteps:=999999) (disch:=first|omega|simp only[nx4]<;>omega|fail)
     refine go_pure h9 fun mm9 hm9 => ?_
     try simp only [nx4] at hm9
     simp -implicitDefEqProofs (maxSteps:=999999) (disch:=first|omega|simp only[nx4]<;>omega|fail)
     refine go_pure h27 fun mm10 hm10 => ?_
     try simp only [nx4] at hm10
     simp -implicitDefEqProofs (maxSteps:=999999) (disch:=first|omega|simp only[nx4]<;>omega|fail)
     refine go_pure h10 fun mm11 hm11 => ?_
     try simp only [nx4] at hm11
     simp -implicitDefEqProofs (maxSteps:=999999) (disch:=first|omega|simp only[nx4]<;>omega|fail)
     done
    | true =>
     rw [hw] at h27 hok
     simp only [Bool.true_and] at hok
     have h28 := p28 p t (by have := hp.1; omega) hw hsm
     rw [hok] at h28
     simp -implicitDefEqProofs (maxSteps:=999999) (disch:=first|omega|simp only[nx4]<;>omega|fail) [k5]
     refine go_pure h8 fun mm12 hm12 => ?_
     try simp only [nx4] at hm12
     simp -implicitDefEqProofs (maxSteps:=999999) (disch:=first|omega|simp only[nx4]<;>omega|fail)
     refine pcV_intro h24 ?_
     simp -implicitDefEqProofs (maxSteps:=999999) (disch:=first|omega|simp only[nx4]<;>omega|fail)
     refine pcV_intro h25 ?_
     simp -implicitDefEqProofs (maxSteps:=999999) (disch:=first|omega|simp only[nx4]<;>omega|fail)
     intro m1 hm1
     try simp -implicitDefEqProofs (maxSteps:=999999) (disch:=first|omega|simp only[nx4]<;>omega|fail)
     refine go_pure h26 fun mm13 hm13 => ?_
     try simp only [nx4] at hm13
     simp -implicitDefEqProofs (maxSteps:=999999) (disch:=first|omega|simp only[nx4]<;>omega|fail)
     refine go_pure h9 fun mm14 hm14 => ?_
     try simp only [nx4] at hm14
     simp -implicitDefEqProofs (maxSteps:=999999) (disch:=first|omega|simp only[nx4]<;>omega|fail)
     refine go_pure h27 fun mm15 hm15 => ?_
     try simp only [nx4] at hm15
     simp -implicitDefEqProofs (maxSteps:=999999) (disch:=first|omega|simp only[nx4]<;>omega|fail)
     refine go_pure h28 fun mm16 hm16 => ?_
     try simp only [nx4] at hm16
     simp -implicitDefEqProofs (maxSteps:=999999) (disch:=first|omega|simp only[nx4]<;>omega|fail)
     refine go_pure h10 fun mm17 hm17 => ?_
     try simp only [nx4] at hm17
     simp -implicitDefEqProofs (maxSteps:=999999) (disch:=first|omega|simp only[nx4]<;>omega|fail)
     done
  | true =>
   have h26 := p26b p t hp hsm hrt hok
   have hok2 := hok
   rw [okX_eq] at hok
   simp only [Bool.and_eq_true] at hok
   obtain ⟨hi, hw, hd⟩ := hok
   rw [hi] at h9
   rw [hw] at h27
   have h28 := p28 p t (by have := hp.1; omega) hw hsm
   rw [hd] at h28
   have hgp := goodP hp hi
   have h21 := p21 p hgp (gin_of hi)
   have hgin : Gin p t := fun e he o2 => by
    simp only [okX, Bool.and_eq_true, List.all_eq_true, decide_eq_true_eq] at hok2
    have := hok2.2.2 _ (mem_gls.2 ⟨e, he, o2, rfl⟩)
    rw [mem_bs rfl] at this
    exact this
   have h29 : PureC Tryz.prog 29 [KR p (fin p).1, t.av] (rN (needP p t)) := p29 p (fin p).1 (rt_fin hgp) t hw hsm hrt hgin
   have hln := (need_len (lookK (tbD p (fin p).1)) t hw).1
   rw [show need (lookK (tbD p (fin p).1)) t = needP p t from rfl] at hln
   generalize needP p t = x at h26 h29 hln
   rw [rN] at h29
   have hll : (x.getD []).length ≤ 3000 := by have := hsm.1; simp only [lenN] at hln; omega
   generalize x.getD [] = v at h26 h29 hll
   generalize x.isNone = b at h26 h29
   have hvl : (ilist v).length = v.length := by simp [ilist]
   simp -implicitDefEqProofs (maxSteps:=999999) (disch:=first|omega|simp only[nx4]<;>omega|fail) [k5]
   refine go_pure h8 fun mm18 hm18 => ?_
   try simp only [nx4] at hm18
   simp -implicitDefEqProofs (maxSteps:=999999) (disch:=first|omega|simp only[nx4]<;>omega|fail)
   refine pcV_intro h24 ?_
   simp -implicitDefEqProofs (maxSteps:=999999) (disch:=first|omega|simp only[nx4]<;>omega|fail)
   refine pcV_intro h25 ?_
   simp -implicitDefEqProofs (maxSteps:=999999) (disch:=first|omega|simp only[nx4]<;>omega|fail)
   intro m1 hm1
   try simp -implicitDefEqProofs (maxSteps:=999999) (disch:=first|omega|simp only[nx4]<;>omega|fail)
   refine go_pure h26 fun mm19 hm19 => ?_
   try simp only [nx4] at hm19
   simp -implicitDefEqProofs (maxSteps:=999999) (disch:=first|omega|simp only[nx4]<;>omega|fail)
   refine go_pure h9 fun mm20 hm20 => ?_
   try simp only [nx4] at hm20
   simp -implicitDefEqProofs (maxSteps:=999999) (disch:=first|omega|simp only[nx4]<;>omega|fail)
   refine go_pure h27 fun mm21 hm21 => ?_
   try simp only [nx4] at hm21
   simp -implicitDefEqProofs (maxSteps:=999999) (disch:=first|omega|simp only[nx4]<;>omega|fail)
   refine go_pure h28 fun mm22 hm22 => ?_
   try simp only [nx4] at hm22
   simp -implicitDefEqProofs (maxSteps:=999999) (disch:=first|omega|simp only[nx4]<;>omega|fail)
   refine go_pure h21 fun mm23 hm23 => ?_
   try simp only [nx4] at hm23
   simp -implicitDefEqProofs (maxSteps:=999999) (disch:=first|omega|simp only[nx4]<;>omega|fail)
   rw [KR] at h29
   refine go_pure h29 fun mm24 hm24 => ?_
   try simp only [nx4] at hm24
   simp -implicitDefEqProofs (maxSteps:=999999) (disch:=first|omega|simp only[nx4]<;>omega|fail) [hvl]
   refine go_loop (I5 v b mm24 s) v.length ⟨0, by omega, by omega, ?_, ?_, ?_, ?_, ?_, ?_, ?_⟩ ?_
   all_goals (try simp -implicitDefEqProofs (maxSteps:=999999) (disch:=first|omega|simp only[nx4]<;>omega|fail))
   all_goals (try omega)
   rintro m g S ⟨i, hil, rfl, e5, e10, e11, j0, hk, hb1, hb2⟩
   by_cases hlt : i < v.length
   ·have hlt' : (i : Int) < v.length := by omega
    have w3 := wrapS (i := i) (by omega)
    have hget : (ilist v)[i]'(by rw [hvl]; exact hlt) = .int .i64 v[i] := by simp [ilist]
    simp -implicitDefEqProofs (maxSteps:=999999) (disch:=first|omega|simp only[nx4]<;>omega|fail) [e5, e10, e11, hvl, hlt', hlt, j0, hget]
    intro m1 hm1
    rw [w3]
    refine go_next (v.length - (i + 1)) (by omega) ⟨i + 1, by omega, rfl, ?_, ?_, ?_, ?_, ?_, ?_, ?_⟩
    all_goals (try simp -implicitDefEqProofs (maxSteps:=999999) (disch:=first|omega|simp only[nx4]<;>omega|fail) [e5, e10, j0, hk])
    all_goals (try omega)
   ·have hlt' : ¬ (i : Int) < v.length := by omega
    simp -implicitDefEqProofs (maxSteps:=999999) (disch:=first|omega|simp only[nx4]<;>omega|fail) [e5, e11, hvl, hlt']
    refine go_pure h10 fun mm25 hm25 => ?_
    try simp only [nx4] at hm25
    simp -implicitDefEqProofs (maxSteps:=999999) (disch:=first|omega|simp only[nx4]<;>omega|fail)
    exact hk
end Go.AL.Dm
