/- The reference: needs, one with the other. -/
import Derived.Test.YtlledcnjfgcipaaGreatDoorF42
set_option linter.unusedVariables false
set_option linter.unusedSimpArgs false
namespace Go.AL.Dm
open Go Go.Proofs
theorem p98 (zs : List Int) (o : Nat) (s : St) (hlen : zs.length ≤ 1000000) (ho : s.m o = some (.box (ilist zs))) (hon : o < s.nx) : ACalls Tryz.prog 98 [.mref 1 o 0 zs.length] s fun r s' => r = .tup [] ∧ s'.m o = some (.box (ilist (isort zs))) ∧ KeptX s o s' := by
 refine fun_sound mixed Tryz.func98 Tryz.call98 c98 rfl (awpFun_go _ _ _ _ ?_)
 simp -implicitDefEqProofs (disch:=first|omega|simp only[nx4]<;>omega|fail) [a98, a98b, a98r0]
 refine go_calls (p50 zs o _ _ (by omega) (by simp -implicitDefEqProofs (disch:=first|omega|simp only[nx4]<;>omega|fail) [ho]) (go_of ?_))
 simp -implicitDefEqProofs (disch:=first|omega|simp only[nx4]<;>omega|fail)
 rfl
def withL (a b : List Int) : List Int := b.filter fun k => decide (k ∉ a)
theorem withL_sort {a b : List Int} (ha : Asc a) (hb : Asc b) : isort (a ++ withL a b) = lun a b := by
 have hnd : (a ++ withL a b).Nodup := by
  rw [List.nodup_append]
  refine ⟨ha.nodup, List.Pairwise.filter _ hb.nodup, ?_⟩
  rintro x hx y hy rfl
  simp [withL] at hy
  exact hy.2 hx
 refine asc_ext (isort_asc hnd) (lun_asc ha) fun k => ?_
 rw [mem_isort, mem_lun, List.mem_append]
 simp only [withL, List.mem_filter, decide_eq_true_eq]
 constructor
 ·rintro (h | h)
  ·exact .inl h
  ·exact .inr h.1
 ·rintro (h | h)
  ·exact .inl h
  ·by_cases hk : k ∈ a
   ·exact .inl hk
   ·exact .inr ⟨h, hk⟩
def I57 (a b : List Int) (s : St) (m : Nat) (g : Env) (s1 : St) : Prop :=
 ∃ (i o : Nat) (acc : List Int), i ≤ b.length ∧ m = b.length - i ∧ acc ++ withL a (b.drop i) = a ++ withL a b ∧ acc.length ≤ a.length + i ∧ g.get 2 = .ptr s.nx 0 ∧ g.get 3 = .ptr (s.nx + 1) 0 ∧ g.get 4 = .ptr (s.nx + 1 + 1) 0 ∧ g.get 5 = .mref 1 o 0 acc.length ∧ s1.m o = some (.box (ilist acc)) ∧ s.nx + 1 + 1 < o ∧ o < s1.nx ∧ g.get 6 = .int .i64 i ∧
  s1.m s.nx = some (.box [.bool false, .list 1 .none (ilist a)]) ∧ s1.m (s.nx + 1) = some (.box [.bool false, .list 1 .none (ilist b)]) ∧ s1.m (s.nx + 1 + 1) = some (.box [.bool false, .list 0 .full []]) ∧ Kept s s1
theorem p57 (x y : ND) (hx : lenN x ≤ 400000) (hy : lenN y ≤ 400000) (hxo : x.ok) (hyo : y.ok) : PureC Tryz.prog 57 [rN x, rN y] (rN (nWith x y)) := by
 refine PureC.intro fun s => frzS (fun_sound mixed Tryz.func57 Tryz.call57 c57 rfl (awpFun_go _ _ _ _ ?_))
 cases x with
 | none =>
  simp -implicitDefEqProofs (disch:=first|omega|simp only[nx4]<;>omega|fail) [a57, a57b, a57r0, a57r1, a57r2, rN, nWith]
  refine .inl ?_
  refine ⟨by simp [wk, wkL, ilist], ?_⟩
  simp -implicitDefEqProofs (disch:=first|omega|simp only[nx4]<;>omega|fail)
 | some a =>
 cases y with
 | none =>
  simp -implicitDefEqProofs (disch:=first|omega|simp only[nx4]<;>omega|fail) [a57, a57b, a57r0, a57r1, a57r2, rN, nWith]
  refine .inl ?_
  refine ⟨by simp [wk, wkL, ilist], ?_⟩
  simp -implicitDefEqProofs (disch:=first|omega|simp only[nx4]<;>omega|fail)
 | some b =>
 simp only [lenN, Option.getD_some] at hx hy
 have hila : (ilist a).length = a.length := by simp [ilist]
 have hil : (ilist b).length = b.length := by simp [ilist]
 have hfa : flat (ilist a) = ilist a := flat_il a
 simp -implicitDefEqProofs (disch:=first|omega|simp only[nx4]<;>omega|fail) [a57, a57b, a57r0, a57r1, a57r3, a57r4, rN, nWith, hila, hfa, a57r5]
 refine go_loop (I57 a b s) b.length ⟨0, s.nx + 1 + 1 + 1 + 1, a, by omega, by omega, by simp, by simp, ?_, ?_, ?_, ?_, ?_, by omega, ?_, ?_, ?_, ?_, ?_, ?_⟩ ?_
 iterate 11 (simp -implicitDefEqProofs (disch:=first|omega|simp only[nx4]<;>omega|fail))
 rintro m g S ⟨i, o, acc, hi, rfl, hw, hal, e2, e3, e4, e5, jO, ho1, ho2, e6, jo, j3, j4, hk⟩
 have hia : (ilist acc).length = acc.length := by simp [ilist]
 by_cases hlt : i < b.length
 ·have hlt' : (i : Int) < b.length := by omega
  have w3 := wrapS (i := i) (by omega)
  have hget : ∀ h : i < (ilist b).length, (ilist b)[i]'h = .int .i64 b[i] := by intro h; simp [ilist]
  rw [List.drop_eq_getElem_cons hlt] at hw
  generalize b[i] = z at hw hget
  have h81 := p81 (some a) z (by simp [lenN]; omega)
  have hrn : rN (some a) = .agg [.bool false, .list 1 .none (ilist a)] := rfl
  rw [hrn] at h81
  by_cases hny : z ∈ a
  ·have hw' : acc ++ withL a (b.drop (i + 1)) = a ++ withL a b := by
    rw [← hw]; simp [withL, hny]
   simp -implicitDefEqProofs (disch:=first|omega|simp only[nx4]<;>omega|fail) [a57l10, a57r6, a57r7, e2, e3, e6, jo, j3, hil, hlt', hlt, hget]
   refine pcV_intro h81 ?_
   simp -implicitDefEqProofs (disch:=first|omega|simp only[nx4]<;>omega|fail) [hny]
   intro m hm
   simp -implicitDefEqProofs (disch:=first|omega|simp only[nx4]<;>omega|fail) [a57r9, e6, w3]
   refine go_next (b.length - (i + 1)) (by omega) ⟨i + 1, o, acc, by omega, rfl, hw', by omega, ?_, ?_, ?_, ?_, ?_, by omega, ?_, ?_, ?_, ?_, ?_, ?_⟩
   all_goals (try simp -implicitDefEqProofs (disch:=first|omega|simp only[nx4]<;>omega|fail) [e2, e3, e4, e5, jO, jo, j3, j4, hk])
   all_goals (try omega)
  ·have hw' : (acc ++ [z]) ++ withL a (b.drop (i + 1)) = a ++ withL a b := by
    rw [← hw]; simp [withL, hny]
   have e9 : ilist (acc ++ [z]) = ilist acc ++ [.int .i64 z] := by simp [ilist]
   simp -implicitDefEqProofs (disch:=first|omega|simp only[nx4]<;>omega|fail) [a57l10, a57r6, a57r7, e2, e3, e6, jo, j3, hil, hlt', hlt, hget]
   refine pcV_intro h81 ?_
   simp -implicitDefEqProofs (disch:=first|omega|simp only[nx4]<;>omega|fail) [hny]
   intro m hm
   simp -implicitDefEqProofs (disch:=first|omega|simp only[nx4]<;>omega|fail) [a57r8, e3, e5, e6, j3, jO, hil, hia, hlt', hlt, hget, a57r9, w3]
   refine go_next (b.length - (i + 1)) (by omega) ⟨i + 1, m, acc ++ [z], by omega, rfl, hw', by simp; omega, ?_, ?_, ?_, ?_, ?_, ?_, ?_, ?_, ?_, ?_, ?_, ?_⟩
   all_goals (try simp -implicitDefEqProofs (disch:=first|omega|simp only[nx4]<;>omega|fail) [e2, e3, e4, jo, j3, j4, hk, e9])
   all_goals (try omega)
 ·have hlt' : ¬ (i : Int) < b.length := by omega
  obtain rfl : i = b.length := by omega
  rw [List.drop_length] at hw
  have hacc : acc = a ++ withL a b := by rw [← hw]; simp [withL]
  simp -implicitDefEqProofs (disch:=first|omega|simp only[nx4]<;>omega|fail) [a57l10, a57r6, e3, e5, e6, j3, hil, hlt', a57r11]
  refine go_calls (ACalls.mono (p98 acc o S (by omega) jO ho2) fun r s' hn' h => go_of ?_)
  obtain ⟨rfl, q0, hk'⟩ := h
  have q4 : s'.m (s.nx + 1 + 1) = some (.box [.bool false, .list 0 .full []]) := (hk' _ (by omega) (by omega)).trans j4
  have q3 : Kept s s' := fun q hq => (hk' q (by omega) (by omega)).trans (hk q hq)
  simp -implicitDefEqProofs (disch:=first|omega|simp only[nx4]<;>omega|fail) [a57r12, e4, e5, q4]
  refine .inr ⟨false, 1, o, acc.length, ilist (isort acc), rfl, ?_, ?_, ?_, ?_, ?_⟩
  ·rw [flat_il]
   simp -implicitDefEqProofs (disch:=first|omega|simp only[nx4]<;>omega|fail) [q0]
  ·intro x hx
   simp only [ilist, List.mem_map] at hx
   obtain ⟨y, _, rfl⟩ := hx
   rfl
  ·simp [ilist, isort_length]
  ·rw [hacc, withL_sort hxo hyo]
   simp
  ·simp -implicitDefEqProofs (disch:=first|omega|simp only[nx4]<;>omega|fail) [q3]
def Gin (p : List Gl) (t : Pl) : Prop := ∀ e ∈ pre t, e.op = 2 → e.s ∈ nms p
theorem pres_mem : ∀ {l : List Pl} {x e : Pl}, x ∈ l → e ∈ pre x → e ∈ pres l
 | y :: l, x, e, h, he => by
  rw [pres, List.mem_append]
  rcases List.mem_cons.1 h with rfl | h
  ·exact .inl he
  ·exact .inr (pres_mem h he)
theorem prea_mem : ∀ {l : List (Hd × Pl)} {x : Hd × Pl} {e : Pl}, x ∈ l → e ∈ pre x.2 → e ∈ prea l
 | (h0, y) :: l, x, e, h, he => by
  rw [prea, List.mem_append]
  rcases List.mem_cons.1 h with rfl | h
  ·exact .inl he
  ·exact .inr (prea_mem h he)
theorem pre_self (t : Pl) : t ∈ pre t := by cases t; simp [pre]
theorem Gin.arg {p : List Gl} {t x : Pl} (h : Gin p t) (hx : x ∈ t.args) : Gin p x := fun e he ho => h e (by
 cases t
 rw [pre]
 exact List.mem_cons_of_mem _ (List.mem_append_left _ (pres_mem hx he))) ho
theorem Gin.alt {p : List Gl} {t : Pl} {x : Hd × Pl} (h : Gin p t) (hx : x ∈ t.alts) : Gin p x.2 := fun e he ho => h e (by
 cases t
 rw [pre]
 exact List.mem_cons_of_mem _ (List.mem_append_right _ (prea_mem hx he))) ho
theorem idxQ_at {α : Type} (q : α → Bool) : ∀ (l : List α) (i : Int) (j : Nat), 0 ≤ i → idxQ q l i = i + j → ∃ h : j < l.length, q l[j] = true
 | [], i, j, hi, h => by simp [idxQ] at h; omega
 | x :: l, i, j, hi, h => by
  rw [idxQ] at h
  split at h
  ·rename_i hq
   have : j = 0 := by omega
   subst this
   exact ⟨by simp, hq⟩
  ·cases j with
   | zero =>
    exfalso
    have : ∀ (l : List α) (k : Int), 0 ≤ k → idxQ q l k = -1 ∨ k ≤ idxQ q l k := by
     intro l
     induction l with
     | nil => intro k _; simp [idxQ]
     | cons y l ih =>
      intro k hk
      rw [idxQ]
      split
      ·exact .inr (by omega)
      ·rcases ih (k + 1) (by omega) with h | h
       ·exact .inl h
       ·exact .inr (by omega)
    rcases this l (i + 1) (by omega) with h' | h' <;> omega
   | succ j =>
    obtain ⟨h1, h2⟩ := idxQ_at q l (i + 1) j (by omega) (by omega)
    exact ⟨by simpa using h1, by simpa using h2⟩
theorem find_name {p : List Gl} {s : ByteArray} (h : s ∈ nms p) : ∃ j : Nat, findI p s = j ∧ ∃ h : j < p.length, p[j].name = s := by
 have hn : 0 ≤ findI p s := (idxQ_neg _ p 0 (by omega)).2 (by
  simp only [nms, List.mem_map] at h
  obtain ⟨g, hg, e⟩ := h
  exact ⟨g, hg, by simp [e]⟩)
 obtain ⟨j, hj⟩ : ∃ j : Nat, findI p s = j := ⟨(findI p s).toNat, by omega⟩
 obtain ⟨h1, h2⟩ := idxQ_at (fun g : Gl => decide (g.name = s)) p 0 j (by omega) (by rw [findI] at hj; omega)
 exact ⟨j, hj, h1, by simpa using h2⟩
structure RT (p : List Gl) (f : Tb) : Prop where
 gp : GoodP p
 good : GoodT p f
 w : ∀ g ∈ p, (f g).w = wnt g.body
def KR (p : List Gl) (f : Tb) : AV := .agg [.list 6 .none (p.map Gl.av), .list 3 .none (dmL p f)]
def C29 (p : List Gl) (f : Tb) (t : Pl) : Prop := PureC Tryz.prog 29 [KR p f, t.av] (rN (need (lookK (tbD p f)) t))
theorem dmL_get {p : List Gl} {f : Tb} {j : Nat} (hj : j < p.length) : ∀ h : j < (dmL p f).length, (dmL p f)[j]'h = .agg [.str p[j].name, .list 1 .none ((f p[j]).st.map .bool), .bool (f p[j]).fails] := by
 intro h; simp [dmL, dm]
theorem dmL_len {p : List Gl} {f : Tb} : (dmL p f).length = p.length := by simp [dmL]
theorem p29g (p : List Gl) (f : Tb) (hf : RT p f) (t : Pl) (o2 : t.op = 2) (hg : Gin p t) : C29 p f t := by
 refine PureC.intro fun s => fun_sound mixed Tryz.func29 Tryz.call29 c29 rfl (awpFun_go _ _ _ _ ?_)
 have hpl := hf.gp.few
 obtain ⟨j, hj, hjl, hjn⟩ := find_name (hg t (pre_self t) o2)
 have hjl' : (j : Int) < p.length := by omega
 have h23 := p23 p t.s (by omega)
 have h13 := p13 p[j]
 have hlk := lookK_tb (f := f) hf.gp.nd _ (List.getElem_mem hjl)
 rw [hjn] at hlk
 have hw := hf.w _ (List.getElem_mem hjl)
 have hdl : (dmL p f).length = p.length := dmL_len
 have hdg := dmL_get (f := f) hjl
 rw [need_glob o2, hlk, hw]
 rw [hj] at h23
 generalize hx : p[j] = x at h13 hdg hw
 generalize f x = k at hdg hw
 simp -implicitDefEqProofs (disch:=first|omega|simp only[nx4]<;>omega|fail) [a29, a29b, a29r0, a29r1, a29r2, a29r4, KR, o2, a29r5]
 refine go_pure h23 fun mm1 hm1 => ?_
 try simp only [nx4] at hm1
 simp -implicitDefEqProofs (disch:=first|omega|simp only[nx4]<;>omega|fail) [a29r6, hjl, hx]
 by_cases h0 : wnt x.body = 0
 ·refine go_pure h13 fun mm2 hm2 => ?_
  try simp only [nx4] at hm2
  simp -implicitDefEqProofs (disch:=first|omega|simp only[nx4]<;>omega|fail) [h0, hdl, hdg, hjl, hjl']
  cases k.fails <;> simp [rN, wk, wkL, ilist]
 ·refine go_pure h13 fun mm3 hm3 => ?_
  try simp only [nx4] at hm3
  simp -implicitDefEqProofs (disch:=first|omega|simp only[nx4]<;>omega|fail) [h0]
  simp [rN, wk, wkL, ilist]
theorem has_getD {x : ND} (h : x.isNone = false) (k : Int) : k ∈ x.getD [] ↔ x.has k := by cases x <;> simp [ND.has] at *
theorem isNone_eq {x : ND} (h : x.isNone = true) : x = none := by cases x <;> simp at *
def IA53 (p : List Gl) (f : Tb) (fn : Pl) (fb : ND) (wn : Nat) (l : List Pl) (fin : ND) (b5 b7 b8 : Nat) (s : St) (m : Nat) (g : Env) (s1 : St) : Prop :=
 ∃ (i : Nat) (acc : ND), i ≤ wn ∧ m = wn - i ∧ lamArgs fb wn i ((l.drop i).map (need (lookK (tbD p f)))) acc = fin ∧ acc.ok ∧ lenN acc ≤ 3000 * (i + 1) ∧
  g.get 2 = .ptr s.nx 0 ∧ g.get 4 = .ptr (s.nx + 1 + 1) 0 ∧ g.get 5 = .ptr b5 0 ∧ g.get 6 = .list 5 .none (l.map Pl.av) ∧ g.get 7 = .ptr b7 0 ∧ g.get 8 = .ptr b8 0 ∧ g.get 9 = .int .i64 i ∧
  s1.m s.nx = some (.box [.list 6 .none (p.map Gl.av), .list 3 .none (dmL p f)]) ∧ s1.m (s.nx + 1 + 1) = some (.box [.bool false, .list 0 .full []]) ∧ s1.m b5 = some (.box fn.av.cells) ∧
  s1.m b7 = some (.box [.bool fb.isNone, .list 1 .none (ilist (fb.getD []))]) ∧ s1.m b8 = some (.box [.bool acc.isNone, .list 1 .none (ilist (acc.getD []))]) ∧ Kept s s1 ∧ b8 < s1.nx
set_option maxHeartbeats 4000000 in
theorem tA53 (p : List Gl) (f : Tb) (fn : Pl) (fb : ND) (hfo : fb.ok) (wn : Nat) (hw1 : 1 ≤ wn) (hw8 : wn ≤ 8) (hwn : fn.n = wn) (l : List Pl) (hle : wn ≤ l.length) (hll : l.length ≤ 8) (fin : ND) (hfl : lenN fb ≤ 3000) (hfb : NB fb)
  (hL : ∀ x ∈ l, PureC Tryz.prog 29 [.agg [.list 6 .none (p.map Gl.av), .list 3 .none (dmL p f)], x.av] (rN (need (lookK (tbD p f)) x)) ∧ lenN (need (lookK (tbD p f)) x) ≤ 3000) (hfin : lamArgs fb wn 0 (l.map (need (lookK (tbD p f)))) (nOut wn fb) = fin)
  (s : St) (b5 b7 : Nat) (g : Env) (S : St) (e2 : g.get 2 = .ptr s.nx 0) (e4 : g.get 4 = .ptr (s.nx + 1 + 1) 0) (e5 : g.get 5 = .ptr b5 0) (e6 : g.get 6 = .list 5 .none (l.map Pl.av)) (e7 : g.get 7 = .ptr b7 0)
  (j2 : S.m s.nx = some (.box [.list 6 .none (p.map Gl.av), .list 3 .none (dmL p f)])) (j4 : S.m (s.nx + 1 + 1) = some (.box [.bool false, .list 0 .full []])) (j5 : S.m b5 = some (.box fn.av.cells)) (j7 : S.m b7 = some (.box [.bool fb.isNone, .list 1 .none (ilist (fb.getD []))]))
  (hk : Kept s S) (h45 : s.nx + 1 + 1 < b5) (h57 : b5 < b7) (h7 : b7 < S.nx) :
  go (aops Tryz.prog a53r4 (regQ (seqQ Tryz.prog (((ACode.reg false a53r5).seq (ACode.block 0 a53l10.loop)).seq ((ACode.reg false a53r11).seq ACode.ret)) (seqQ Tryz.prog
    (((ACode.reg false a53r12).seq
              (ACode.cond (AOpd.g 70) ((ACode.reg false a53r13).seq ACode.ret) ACode.skip)).seq
       ((ACode.reg false a53r14).seq
        ((ACode.reg false a53r15).seq
         (((ACode.reg false a53r16).seq
               (ACode.cond (AOpd.g 86) ((ACode.reg false a53r17).seq ACode.ret) ACode.skip)).seq
          (((ACode.reg false a53r18).seq
                (ACode.cond (AOpd.g 101) ((ACode.reg false a53r19).seq ACode.ret) ACode.skip)).seq
           ((ACode.reg false a53r20).seq
            (((ACode.reg false a53r21).seq (ACode.block 2 a53l26.loop)).seq
             ((ACode.reg false a53r27).seq ACode.ret))))))))
    (finQ [ARes.cell (true, 4) 2 true] fun r' s' => wk r' (rN fin) ∧ Kept s s')))) g [] S) := by
 have h94 := p94 fb wn (by omega) (by omega) hfb
 simp only [rN] at h94
 simp -implicitDefEqProofs (disch:=first|omega|simp only[nx4]<;>omega|fail) [a53r4, e7, j7, e5, j5, hwn]
 refine go_pure h94 fun mm1 hm1 => ?_
 try simp only [nx4] at hm1
 simp -implicitDefEqProofs (disch:=first|omega|simp only[nx4]<;>omega|fail) [a53r5]
 refine go_loop (IA53 p f fn fb wn l fin b5 b7 mm1 s) wn ?h0 ?_
 case h0 =>
  have hno := lenN_out wn fb
  refine ⟨0, nOut wn fb, by omega, by omega, by simpa using hfin, nOut_ok hfo _, by omega, ?_, ?_, ?_, ?_, ?_, ?_, ?_, ?_, ?_, ?_, ?_, ?_, ?_, ?_⟩
  all_goals (try simp -implicitDefEqProofs (disch:=first|omega|simp only[nx4]<;>omega|fail) [e2, e4, e5, e6, e7, j2, j4, j5, j7, hk])
  all_goals (try omega)
 have hb8 : b7 < mm1 := by omega
 clear e2 e4 e5 e6 e7 j2 j4 j5 j7 hk h7 h94 hfin
 rintro m g S ⟨i, acc, hi, rfl, hu, hao, hal, e2, e4, e5, e6, e7, e8, e9, j2, j4, j5, j7, j8, hk, hnx⟩
 by_cases hlt : i < wn
 ·have hlt' : (i : Int) < wn := by omega
  have hil : i < l.length := by omega
  have hil' : (i : Int) < l.length := by omega
  have w1 : IntKind.i64.wrap ((wn : Int) - 1) = (wn : Int) - 1 := wrap64 (by omega) (by omega)
  have w2 : IntKind.i64.wrap ((wn : Int) - 1 - i) = (wn : Int) - 1 - i := wrap64 (by omega) (by omega)
  have w3 := wrapS (i := i) (by omega)
  rw [List.drop_eq_getElem_cons hil, List.map_cons, lamArgs, if_pos (by omega)] at hu
  obtain ⟨hxl, hxn⟩ := hL _ (List.getElem_mem hil)
  have hxo := need_ok (lookK (tbD p f)) l[i]
  generalize hxx : l[i] = x at hu hxl hxo hxn
  generalize need (lookK (tbD p f)) x = nx at hu hxl hxo hxn
  have h57 := p57 acc nx (by omega) (by omega) hao hxo
  have h81 := p81 fb ((wn : Int) - 1 - i) (by omega)
  simp only [rN] at h57 hxl h81
  have hnw := lenN_with acc nx
  cases hfbn : fb.isNone with
  | true =>
   have hno : ¬ fb.has ((wn : Int) - 1 - i) := by rw [isNone_eq hfbn]; simp [ND.has]
   rw [if_neg hno] at hu
   rw [hfbn] at j7
   simp -implicitDefEqProofs (disch:=first|omega|simp only[nx4]<;>omega|fail) [a53l10, a53r6, a53r7, e2, e5, e7, e9, j5, j7, hwn, hlt', a53r9, w3]
   refine go_next (wn - (i + 1)) (by omega) ⟨i + 1, acc, by omega, rfl, hu, hao, by omega, ?_, ?_, ?_, ?_, ?_, ?_, ?_, ?_, ?_, ?_, ?_, ?_, ?_, ?_⟩
   all_goals (try simp -implicitDefEqProofs (disch:=first|omega|simp only[nx4]<;>omega|fail) [e2, e4, e5, e6, e7, e8, j2, j4, j5, j7, j8, hk, hfbn])
   all_goals (try omega)
  | false =>
   rw [hfbn] at j7 h81
   by_cases hh : fb.has ((wn : Int) - 1 - i)
   ·rw [if_pos hh] at hu
    have hm := (has_getD hfbn _).2 hh
    rw [decide_eq_true hm] at h81
    simp -implicitDefEqProofs (disch:=first|omega|simp only[nx4]<;>omega|fail) [a53l10, a53r6, a53r7, e2, e5, e7, e9, j5, j7, hwn, hlt', w1, w2]
    refine go_pure h81 fun mm2 hm2 => ?_
    try simp only [nx4] at hm2
    simp -implicitDefEqProofs (disch:=first|omega|simp only[nx4]<;>omega|fail) [a53r8, e2, e6, e8, e9, j2, j8, hil, hil', hxx]
    refine pcV_intro hxl ?_
    simp -implicitDefEqProofs (disch:=first|omega|simp only[nx4]<;>omega|fail) []
    refine pcV_intro h57 ?_
    simp -implicitDefEqProofs (disch:=first|omega|simp only[nx4]<;>omega|fail) [e8, j8]
    intro m hm
    simp -implicitDefEqProofs (disch:=first|omega|simp only[nx4]<;>omega|fail) [a53r9, e9, w3]
    refine go_next (wn - (i + 1)) (by omega) ⟨i + 1, nWith acc nx, by omega, rfl, hu, nWith_ok hao hxo, by omega, ?_, ?_, ?_, ?_, ?_, ?_, ?_, ?_, ?_, ?_, ?_, ?_, ?_, ?_⟩
    all_goals (try simp -implicitDefEqProofs (disch:=first|omega|simp only[nx4]<;>omega|fail) [e2, e4, e5, e6, e7, e8, j2, j4, j5, j7, hk, hfbn])
    all_goals (try omega)
   ·rw [if_neg hh] at hu
    have hm : ¬ (wn : Int) - 1 - i ∈ fb.getD [] := fun h => hh ((has_getD hfbn _).1 h)
    rw [decide_eq_false hm] at h81
    simp -implicitDefEqProofs (disch:=first|omega|simp only[nx4]<;>omega|fail) [a53l10, a53r6, a53r7, e2, e5, e7, e9, j5, j7, hwn, hlt', w1, w2]
    refine go_pure h81 fun mm3 hm3 => ?_
    try simp only [nx4] at hm3
    simp -implicitDefEqProofs (disch:=first|omega|simp only[nx4]<;>omega|fail) [a53r9, e9, w3]
    refine go_next (wn - (i + 1)) (by omega) ⟨i + 1, acc, by omega, rfl, hu, hao, by omega, ?_, ?_, ?_, ?_, ?_, ?_, ?_, ?_, ?_, ?_, ?_, ?_, ?_, ?_⟩
    all_goals (try simp -implicitDefEqProofs (disch:=first|omega|simp only[nx4]<;>omega|fail) [e2, e4, e5, e6, e7, e8, j2, j4, j5, j7, j8, hk, hfbn])
    all_goals (try omega)
 ·have hlt' : ¬ (i : Int) < wn := by omega
  obtain rfl : i = wn := by omega
  rw [lamArgs_end] at hu
  subst hu
  simp -implicitDefEqProofs (disch:=first|omega|simp only[nx4]<;>omega|fail) [a53l10, a53r6, e5, e9, j5, hwn, hlt', a53r11, e4, e8, j4, j8, hk, rN]
  done
def IB53 (p : List Gl) (f : Tb) (k : Kn) (j wn : Nat) (l : List Pl) (fin : ND) (b12 : Nat) (s : St) (m : Nat) (g : Env) (s1 : St) : Prop :=
 ∃ (i : Nat) (acc : ND), i ≤ wn ∧ m = wn - i ∧ unionIf (k.st.drop i) ((l.drop i).map (need (lookK (tbD p f)))) acc = fin ∧ acc.ok ∧ lenN acc ≤ 3000 * i ∧
  g.get 2 = .ptr s.nx 0 ∧ g.get 4 = .ptr (s.nx + 1 + 1) 0 ∧ g.get 6 = .list 5 .none (l.map Pl.av) ∧ g.get 10 = .int .i64 j ∧ g.get 11 = .int .i64 wn ∧ g.get 12 = .ptr b12 0 ∧ g.get 13 = .int .i64 i ∧
  s1.m s.nx = some (.box [.list 6 .none (p.map Gl.av), .list 3 .none (dmL p f)]) ∧ s1.m (s.nx + 1 + 1) = some (.box [.bool false, .list 0 .full []]) ∧
  (∃ tk, s1.m b12 = some (.box [.bool acc.isNone, tk]) ∧ (tk = .list 1 .none (ilist (acc.getD [])) ∨ (tk = .list 0 .full [] ∧ acc = some []))) ∧ Kept s s1 ∧ b12 < s1.nx
set_option maxHeartbeats 4000000 in
theorem tB53 (p : List Gl) (f : Tb) (j : Nat) (hjl : j < p.length) (hpl : p.length ≤ 400) (k : Kn) (hdg : ∀ h : j < (dmL p f).length, (dmL p f)[j]'h = .agg [.str p[j].name, .list 1 .none (k.st.map .bool), .bool k.fails]) (wn : Nat) (hw8 : wn ≤ 8) (hst : k.st.length = wn) (l : List Pl) (hle : wn ≤ l.length) (hll : l.length ≤ 8) (fin : ND)
  (hL : ∀ x ∈ l, PureC Tryz.prog 29 [.agg [.list 6 .none (p.map Gl.av), .list 3 .none (dmL p f)], x.av] (rN (need (lookK (tbD p f)) x)) ∧ lenN (need (lookK (tbD p f)) x) ≤ 3000) (hfin : unionIf k.st (l.map (need (lookK (tbD p f)))) (some []) = fin)
  (s : St) (g : Env) (S : St) (e2 : g.get 2 = .ptr s.nx 0) (e4 : g.get 4 = .ptr (s.nx + 1 + 1) 0) (e6 : g.get 6 = .list 5 .none (l.map Pl.av)) (e10 : g.get 10 = .int .i64 j) (e11 : g.get 11 = .int .i64 wn)
  (j2 : S.m s.nx = some (.box [.list 6 .none (p.map Gl.av), .list 3 .none (dmL p f)])) (j4 : S.m (s.nx + 1 + 1) = some (.box [.bool false, .list 0 .full []])) (hk : Kept s S) (h7 : s.nx + 1 + 1 < S.nx) :
  go (aops Tryz.prog a53r20 (regQ (seqQ Tryz.prog (((ACode.reg false a53r21).seq (ACode.block 2 a53l26.loop)).seq ((ACode.reg false a53r27).seq ACode.ret)) (finQ [ARes.cell (true, 4) 2 true] fun r' s' => wk r' (rN fin) ∧ Kept s s'))) g [] S) := by
 simp -implicitDefEqProofs (disch:=first|omega|simp only[nx4]<;>omega|fail) [a53r20, a53r21]
 refine go_loop (IB53 p f k j wn l fin S.nx s) wn ?h0 ?_
 case h0 =>
  refine ⟨0, some [], by omega, by omega, by simpa using hfin, asc_nil, by simp [lenN], ?_, ?_, ?_, ?_, ?_, ?_, ?_, ?_, ?_, ⟨.list 0 .full [], ?_, .inr ⟨rfl, rfl⟩⟩, ?_, ?_⟩
  all_goals (try simp -implicitDefEqProofs (disch:=first|omega|simp only[nx4]<;>omega|fail) [e2, e4, e6, e10, e11, j2, j4, hk])
  all_goals (try omega)
 have hb12 : s.nx + 1 + 1 < S.nx := h7
 generalize S.nx = b12 at hb12
 clear e2 e4 e6 e10 e11 j2 j4 hk hfin h7
 rintro m g S ⟨i, acc, hi, rfl, hu, hao, hal, e2, e4, e6, e10, e11, e12, e13, j2, j4, ⟨tk, j12, htk⟩, hk, hnx⟩
 have hdl : (dmL p f).length = p.length := dmL_len
 have hjl' : (j : Int) < p.length := by omega
 by_cases hlt : i < wn
 ·have hlt' : (i : Int) < wn := by omega
  have hil : i < l.length := by omega
  have hil' : (i : Int) < l.length := by omega
  have his : i < k.st.length := by omega
  have w3 := wrapS (i := i) (by omega)
  rw [List.drop_eq_getElem_cons hil, List.map_cons, List.drop_eq_getElem_cons his, unionIf] at hu
  obtain ⟨hxl, hxn⟩ := hL _ (List.getElem_mem hil)
  have hxo := need_ok (lookK (tbD p f)) l[i]
  generalize hxx : l[i] = x at hu hxl hxo hxn
  generalize need (lookK (tbD p f)) x = nx at hu hxl hxo hxn
  have h57 := p57 acc nx (by omega) (by omega) hao hxo
  simp only [rN] at h57 hxl
  have hnw := lenN_with acc nx
  cases hb : k.st[i] with
  | false =>
   rw [if_neg (by rw [hb]; simp)] at hu
   simp -implicitDefEqProofs (disch:=first|omega|simp only[nx4]<;>omega|fail) [a53l26, a53r22, a53r23, e2, e10, e11, e13, j2, hlt', hdl, hdg, hjl, hjl', hst, hlt, hb, a53r25, w3]
   refine go_next (wn - (i + 1)) (by omega) ⟨i + 1, acc, by omega, rfl, hu, hao, by omega, ?_, ?_, ?_, ?_, ?_, ?_, ?_, ?_, ?_, ⟨tk, ?_, htk⟩, ?_, ?_⟩
   all_goals (try simp -implicitDefEqProofs (disch:=first|omega|simp only[nx4]<;>omega|fail) [e2, e4, e6, e10, e11, e12, j2, j4, j12, hk])
   all_goals (try omega)
  | true =>
   rw [if_pos hb] at hu
   have h57' : PureC Tryz.prog 57 [.agg [.bool acc.isNone, tk], .agg [.bool nx.isNone, .list 1 .none (ilist (nx.getD []))]] (.agg [.bool (nWith acc nx).isNone, .list 1 .none (ilist ((nWith acc nx).getD []))]) := by
    rcases htk with rfl | ⟨rfl, rfl⟩
    ·exact h57
    ·exact h57.argw (by simp [wkL, wk, ilist])
   simp -implicitDefEqProofs (disch:=first|omega|simp only[nx4]<;>omega|fail) [a53l26, a53r22, a53r23, e2, e10, e11, e13, j2, hlt', hdl, hdg, hjl, hjl', hst, hlt, hb, a53r24, e6, e12, j12, hil, hil', hxx]
   refine pcV_intro hxl ?_
   simp -implicitDefEqProofs (disch:=first|omega|simp only[nx4]<;>omega|fail) []
   refine pcV_intro h57' ?_
   simp -implicitDefEqProofs (disch:=first|omega|simp only[nx4]<;>omega|fail) [e12, j12]
   intro m hm
   simp -implicitDefEqProofs (disch:=first|omega|simp only[nx4]<;>omega|fail) [a53r25, e13, w3]
   refine go_next (wn - (i + 1)) (by omega) ⟨i + 1, nWith acc nx, by omega, rfl, hu, nWith_ok hao hxo, by omega, ?_, ?_, ?_, ?_, ?_, ?_, ?_, ?_, ?_, ⟨_, ?_, .inl rfl⟩, ?_, ?_⟩
   all_goals (try simp -implicitDefEqProofs (disch:=first|omega|simp only[nx4]<;>omega|fail) [e2, e4, e6, e10, e11, e12, j2, j4, hk])
   all_goals (try omega)
 ·have hlt' : ¬ (i : Int) < wn := by omega
  obtain rfl : i = wn := by omega
  rw [List.drop_eq_nil_of_le (by omega), unionIf_nil] at hu
  subst hu
  have htv : tk.isVal = true ∧ tk.cells = [tk] ∧ wk tk (.list 1 .none (ilist (acc.getD []))) := by
   rcases htk with rfl | ⟨rfl, rfl⟩
   ·simp
   ·simp [ilist, wkL]
  obtain ⟨tv1, tv2, tv3⟩ := htv
  simp -implicitDefEqProofs (disch:=first|omega|simp only[nx4]<;>omega|fail) [a53l26, a53r22, e11, e13, hlt', a53r27, e4, e12, j4, j12, hk, rN, wkL, tv1, tv2, tv3]
  done
set_option maxHeartbeats 4000000 in
theorem p53 (p : List Gl) (f : Tb) (hf : RT p f) (t : Pl) (hw : wf t = true) (hs : small t) (hr : rng t) (hg : Gin p t) (o6 : t.op = 6) (ih : ∀ x ∈ t.args, C29 p f x) (ihb : ∀ x ∈ t.args, ∀ y ∈ x.args, C29 p f y) :
  PureC Tryz.prog 53 [KR p f, t.av] (rN (need (lookK (tbD p f)) t)) := by
 refine PureC.intro fun s => fun_sound mixed Tryz.func53 Tryz.call53 c53 rfl (awpFun_go _ _ _ _ ?_)
 obtain ⟨hnd, hwa, hwb⟩ := wf_nd hw
 have hr' := (rng_eq t).1 hr
 obtain ⟨fn, l, hfl⟩ : ∃ fn l, t.args = fn :: l := by
  cases h : t.args with
  | nil => have := hnd.app o6; rw [h] at this; simp at this
  | cons f l => exact ⟨f, l, rfl⟩
 have hal := hnd.app o6
 have hll : l.length ≤ 8 := by rw [hfl] at hal; simp at hal; omega
 obtain ⟨fin, hfin⟩ : ∃ fin, need (lookK (tbD p f)) t = fin := ⟨_, rfl⟩
 rw [hfin]
 rw [need_app o6 hfl] at hfin
 have hfm : fn ∈ t.args := by simp [hfl]
 have hfw := hwa fn hfm
 obtain ⟨hfnd, hfwa, _⟩ := wf_nd hfw
 have h29f := ih fn hfm
 unfold C29 at h29f
 have hg0 : ((fn.av :: List.map Pl.av l)[0]?).getD AV.any = fn.av := rfl
 simp -implicitDefEqProofs (disch:=first|omega|simp only[nx4]<;>omega|fail) [a53, a53b, a53r0, KR, a53r1, hfl, hg0]
 intro m hm
 by_cases o5 : fn.op = 5
 ·obtain ⟨n1, n8, nl⟩ := hfnd.lam o5
  obtain ⟨fx, hfx⟩ : ∃ x, fn.args = [x] := List.length_eq_one_iff.1 nl
  obtain ⟨wn, hwn⟩ : ∃ wn : Nat, fn.n = wn := ⟨fn.n.toNat, by omega⟩
  by_cases hle : fn.n ≤ (l.length : Int)
  ·rw [if_pos ⟨o5, hle⟩] at hfin
   simp -implicitDefEqProofs (disch:=first|omega|simp only[nx4]<;>omega|fail) [a53r2, o5, hle, hfx]
   have hxm : fx ∈ fn.args := by simp [hfx]
   have h29x := ihb fn hfm fx hxm
   have hsf := small_arg hs hfm
   have hnB : needB (lookK (tbD p f)) fn = need (lookK (tbD p f)) fx := by rw [needB_eq, hfx]; rfl
   rw [hnB] at hfin
   have hxl := (need_len (lookK (tbD p f)) fx (hfwa fx hxm)).1
   have hxs := (small_arg hsf hxm).1
   have hxb := (need_bnd (lookK (tbD p f)) fx (hfwa fx hxm) (((rng_eq fn).1 (hr'.2.2.1 fn hfm)).2.2.1 fx hxm)).1
   have hxo := need_ok (lookK (tbD p f)) fx
   rw [hwn] at hfin
   simp only [C29, KR, rN] at h29x
   have hgx : ([fx.av][0]?).getD AV.any = fx.av := rfl
   simp -implicitDefEqProofs (disch:=first|omega|simp only[nx4]<;>omega|fail) [a53r3, hfx, hgx]
   refine pcV_intro h29x ?_
   simp -implicitDefEqProofs (disch:=first|omega|simp only[nx4]<;>omega|fail) []
   intro m1 hm1
   refine tA53 p f fn _ hxo wn (by omega) (by omega) hwn l (by omega) hll fin (by omega) hxb (fun x hx => ⟨ih x (by simp [hfl, hx]), ?_⟩) hfin s (s.nx + 1 + 1 + 1) m _ _ ?_ ?_ ?_ ?_ ?_ ?_ ?_ ?_ ?_ ?_ ?_ ?_ ?_
   ·have h1 := (need_len (lookK (tbD p f)) x (hwa x (by simp [hfl, hx]))).1
    have h2 := (small_arg hs (x := x) (by simp [hfl, hx])).1
    omega
   all_goals (try simp -implicitDefEqProofs (disch:=first|omega|simp only[nx4]<;>omega|fail) [hfx, o5])
   all_goals (try omega)
   done
  ·rw [if_neg (fun h => hle h.2), if_pos (by omega)] at hfin
   have hav5 : AV.agg [AV.int .i64 5, AV.int .i64 fn.n, AV.str fn.s, AV.list 5 .none (List.map Pl.av fn.args), AV.list 8 .none (List.map Pl.altv fn.alts)] = fn.av := by rw [← o5, Pl.av_fold]
   subst hfin
   simp only [KR, rN] at h29f
   simp -implicitDefEqProofs (disch:=first|omega|simp only[nx4]<;>omega|fail) [a53r2, o5, hle, a53r12, a53r13, hav5]
   refine go_pure h29f fun mm4 hm4 => ?_
   try simp only [nx4] at hm4
   simp -implicitDefEqProofs (disch:=first|omega|simp only[nx4]<;>omega|fail) [rN]
   done
 ·rw [if_neg (fun h => o5 h.1)] at hfin
  by_cases o2 : fn.op = 2
  ·rw [if_neg (by omega)] at hfin
   obtain ⟨j, hj, hjl, hjn⟩ := find_name (hg.arg hfm fn (pre_self fn) o2)
   have hpl := hf.gp.few
   have hjl' : (j : Int) < p.length := by omega
   have h23 := p23 p fn.s (by omega)
   have h13 := p13 p[j]
   have hlk := lookK_tb (f := f) hf.gp.nd _ (List.getElem_mem hjl)
   rw [hjn] at hlk
   have hkw := hf.w _ (List.getElem_mem hjl)
   obtain ⟨hkg, hks⟩ := hf.good _ (List.getElem_mem hjl)
   have hdl : (dmL p f).length = p.length := dmL_len
   have hdg := dmL_get (f := f) hjl
   rw [hlk] at hfin
   rw [hj] at h23
   generalize f p[j] = k at hdg hkw hkg hks hfin
   rw [← hkw] at h13
   obtain ⟨wn, hwn⟩ : ∃ wn : Nat, k.w = wn := ⟨k.w.toNat, by omega⟩
   rw [hwn] at h13 hfin hks hkg
   have hav2 : AV.agg [AV.int .i64 2, AV.int .i64 fn.n, AV.str fn.s, AV.list 5 .none (List.map Pl.av fn.args), AV.list 8 .none (List.map Pl.altv fn.alts)] = fn.av := by rw [← o2, Pl.av_fold]
   simp only [KR, rN] at h29f
   simp -implicitDefEqProofs (disch:=first|omega|simp only[nx4]<;>omega|fail) [a53r2, o5, o2, a53r12, a53r14]
   refine go_pure h23 fun mm5 hm5 => ?_
   try simp only [nx4] at hm5
   simp -implicitDefEqProofs (disch:=first|omega|simp only[nx4]<;>omega|fail) [a53r15, hjl]
   by_cases h0 : wn = 0
   ·subst h0
    rw [if_pos (show ((0 : Nat) : Int) = 0 from rfl)] at hfin
    subst hfin
    refine go_pure h13 fun mm6 hm6 => ?_
    try simp only [nx4] at hm6
    simp -implicitDefEqProofs (disch:=first|omega|simp only[nx4]<;>omega|fail) [a53r16, a53r17, hav2]
    refine go_pure h29f fun mm7 hm7 => ?_
    try simp only [nx4] at hm7
    simp -implicitDefEqProofs (disch:=first|omega|simp only[nx4]<;>omega|fail) [rN]
   ·have h0' : ¬ (wn : Int) = 0 := by omega
    rw [if_neg h0'] at hfin
    refine go_pure h13 fun mm8 hm8 => ?_
    try simp only [nx4] at hm8
    simp -implicitDefEqProofs (disch:=first|omega|simp only[nx4]<;>omega|fail) [a53r16, h0]
    by_cases hlw : l.length < wn
    ·have hlw' : (l.length : Int) < wn := by omega
     rw [if_pos hlw'] at hfin
     subst hfin
     simp -implicitDefEqProofs (disch:=first|omega|simp only[nx4]<;>omega|fail) [h0, a53r18, hlw, a53r19, rN]
     simp [wkL, ilist]
     done
    ·have hlw' : ¬ (l.length : Int) < wn := by omega
     rw [if_neg hlw'] at hfin
     cases hkf : k.fails with
     | true =>
      rw [hkf, if_pos rfl] at hfin
      subst hfin
      simp -implicitDefEqProofs (disch:=first|omega|simp only[nx4]<;>omega|fail) [h0, a53r18, hlw, hdl, hdg, hjl, hjl', hkf, a53r19, rN]
      simp [wkL, ilist]
      omega
     | false =>
      rw [hkf, if_neg (by simp)] at hfin
      simp -implicitDefEqProofs (disch:=first|omega|simp only[nx4]<;>omega|fail) [h0, a53r18, hlw, hdl, hdg, hjl, hjl', hkf]
      refine tB53 p f j hjl hpl k hdg wn (by omega) (by omega) l (by omega) hll fin (fun x hx => ⟨ih x (by simp [hfl, hx]), ?_⟩) hfin s _ _ ?_ ?_ ?_ ?_ ?_ ?_ ?_ ?_ ?_
      ·have h1 := (need_len (lookK (tbD p f)) x (hwa x (by simp [hfl, hx]))).1
       have h2 := (small_arg hs (x := x) (by simp [hfl, hx])).1
       omega
      all_goals (try simp -implicitDefEqProofs (disch:=first|omega|simp only[nx4]<;>omega|fail) [])
      all_goals (try omega)
      done
  ·rw [if_pos o2] at hfin
   subst hfin
   simp only [KR, rN] at h29f
   simp -implicitDefEqProofs (disch:=first|omega|simp only[nx4]<;>omega|fail) [a53r2, o5, o2, a53r12, a53r13]
   refine go_pure h29f fun mm9 hm9 => ?_
   try simp only [nx4] at hm9
   simp -implicitDefEqProofs (disch:=first|omega|simp only[nx4]<;>omega|fail) [rN]
   done
def cntF (l : List Bool) : Nat := (l.filter fun b => !b).length
theorem cntF_cons (b : Bool) (l : List Bool) : cntF (b :: l) = cntF l + (if b = true then 0 else 1) := by cases b <;> simp [cntF]
theorem cntF_set : ∀ {l : List Bool} {u : Nat} (h : u < l.length), l[u] = false → cntF (l.set u true) + 1 = cntF l
 | b :: l, 0, _, h => by simp at h; subst h; simp [cntF]
 | b :: l, u + 1, hl, h => by
  have ih := cntF_set (l := l) (u := u) (by simpa using hl) (by simpa using h)
  rw [List.set_cons_succ, cntF_cons, cntF_cons]
  omega
theorem rep_getD (n i : Nat) : (List.replicate n false).getD i false = false := by
 rw [List.getD_eq_getElem?_getD, List.getElem?_replicate]
 split <;> rfl
theorem cntF_rep (n : Nat) : cntF (List.replicate n false) = n := by simp [cntF]
structure LetR (vs : List ND) (body : ND) (out : ND) (sr : List Bool) : Prop where
 li : ∃ seen, LetI vs body out seen ∧ ∀ u : Nat, u < vs.length → sr.getD u false = seen.getD (vs.length - 1 - u) false
 len : sr.length = vs.length
 bnd : lenN out + 3000 * cntF sr ≤ 3000 * (vs.length + 1)
 nb : NB out
theorem LetR.start {vs : List ND} {body : ND} (hb : body.ok) (hl : lenN body ≤ 3000) (hnb : NB body) : LetR vs body body (List.replicate vs.length false) := by
 refine ⟨⟨_, LetI.start hb, fun u hu => ?_⟩, by simp, by rw [cntF_rep]; omega, hnb⟩
 rw [rep_getD, rep_getD]
theorem LetR.step {vs : List ND} {body : ND} {S : List Int} {sr : List Bool} (h : LetR vs body (some S) sr) (hv : ∀ x ∈ vs, x.ok ∧ lenN x ≤ 3000 ∧ NB x) {u : Nat} (hu : u < vs.length) (hk : (u : Int) ∈ S) (hs : sr.getD u false = false) (hi : vs.length - 1 - u < vs.length) :
  LetR vs body (nWith (some S) (vs[vs.length - 1 - u]'hi)) (sr.set u true) ∧ cntF (sr.set u true) + 1 = cntF sr := by
 obtain ⟨seen, h1, h2⟩ := h.li
 have hlen := h.len
 have hsl := h1.len
 have hul : u < sr.length := by omega
 have hc : cntF (sr.set u true) + 1 = cntF sr := cntF_set hul (by simpa [hul] using hs)
 have e1 : (vs.length : Int) - 1 - ((vs.length - 1 - u : Nat) : Int) = u := by omega
 refine ⟨⟨⟨_, h1.step (fun x hx => (hv x hx).1) hi (by rw [e1]; exact hk), fun v hvl => ?_⟩, by simp [hlen], ?_, nb_with h.nb (hv _ (List.getElem_mem hi)).2.2⟩, hc⟩
 ·by_cases e : u = v
  ·subst e
   simp [hul, hsl, hi]
  ·have e' : vs.length - 1 - u ≠ vs.length - 1 - v := by omega
   have := h2 v hvl
   simp only [List.getD_eq_getElem?_getD] at this ⊢
   rw [List.getElem?_set_ne e, List.getElem?_set_ne e']
   exact this
 ·have h3 := lenN_with (some S) (vs[vs.length - 1 - u]'hi)
  have h4 := (hv _ (List.getElem_mem hi)).2.1
  have h5 := h.bnd
  omega
theorem LetR.done {vs : List ND} {body : ND} {out : ND} {sr : List Bool} (h : LetR vs body out sr) (hc : ∀ S, out = some S → ∀ u : Nat, u < vs.length → (u : Int) ∈ S → sr.getD u false = true) : letC vs body = nOut vs.length out := by
 obtain ⟨seen, h1, h2⟩ := h.li
 have hsl := h1.len
 refine h1.done fun S hS i hi hm => ?_
 have hu : vs.length - 1 - i < vs.length := by omega
 have h3 := hc S hS (vs.length - 1 - i) hu (by
  have : ((vs.length - 1 - i : Nat) : Int) = (vs.length : Int) - 1 - i := by omega
  rw [this]; exact hm)
 rw [h2 _ hu] at h3
 have e : vs.length - 1 - (vs.length - 1 - i) = i := by omega
 rw [e] at h3
 simpa [hi] using h3
theorem LetR.ok {vs : List ND} {body : ND} {out : ND} {sr : List Bool} (h : LetR vs body out sr) : out.ok := by
 obtain ⟨seen, h1, _⟩ := h.li
 exact h1.ok
def IO54 (p : List Gl) (f : Tb) (t : Pl) (vs : List ND) (nb : ND) (b6 o : Nat) (s : St) (m : Nat) (g : Env) (s1 : St) : Prop :=
 ∃ (acc : ND) (sr : List Bool) (grew : Bool), LetR vs nb acc sr ∧ m = cntF sr + (if grew = true then 1 else 0) ∧ (grew = false → ∀ S, acc = some S → ∀ u : Nat, u < vs.length → (u : Int) ∈ S → sr.getD u false = true) ∧
  g.get 2 = .ptr s.nx 0 ∧ g.get 3 = .ptr (s.nx + 1) 0 ∧ g.get 4 = .ptr (s.nx + 1 + 1) 0 ∧ g.get 5 = .int .i64 vs.length ∧ g.get 6 = .ptr b6 0 ∧ g.get 7 = .mref 1 o 0 vs.length ∧ g.get 8 = .bool grew ∧
  s1.m s.nx = some (.box [.list 6 .none (p.map Gl.av), .list 3 .none (dmL p f)]) ∧ s1.m (s.nx + 1) = some (.box t.av.cells) ∧ s1.m (s.nx + 1 + 1) = some (.box [.bool false, .list 0 .full []]) ∧ s1.m b6 = some (.box [.bool acc.isNone, .list 1 .none (ilist (acc.getD []))]) ∧
  s1.m o = some (.box (blist sr)) ∧ Kept s s1 ∧ o < s1.nx
def II54 (p : List Gl) (f : Tb) (t : Pl) (vs : List ND) (nb : ND) (c b6 o : Nat) (s : St) (m : Nat) (g : Env) (s1 : St) : Prop :=
 ∃ (u : Nat) (acc : ND) (sr : List Bool) (grew : Bool), u ≤ vs.length ∧ m = vs.length - u ∧ LetR vs nb acc sr ∧ (grew = true → cntF sr < c) ∧ (grew = false → cntF sr = c ∧ acc.isNone = false ∧ ∀ S, acc = some S → ∀ v : Nat, v < u → (v : Int) ∈ S → sr.getD v false = true) ∧
  g.get 2 = .ptr s.nx 0 ∧ g.get 3 = .ptr (s.nx + 1) 0 ∧ g.get 4 = .ptr (s.nx + 1 + 1) 0 ∧ g.get 5 = .int .i64 vs.length ∧ g.get 6 = .ptr b6 0 ∧ g.get 7 = .mref 1 o 0 vs.length ∧ g.get 8 = .bool grew ∧ g.get 9 = .int .i64 u ∧
  s1.m s.nx = some (.box [.list 6 .none (p.map Gl.av), .list 3 .none (dmL p f)]) ∧ s1.m (s.nx + 1) = some (.box t.av.cells) ∧ s1.m (s.nx + 1 + 1) = some (.box [.bool false, .list 0 .full []]) ∧ s1.m b6 = some (.box [.bool acc.isNone, .list 1 .none (ilist (acc.getD []))]) ∧
  s1.m o = some (.box (blist sr)) ∧ Kept s s1 ∧ o < s1.nx
set_option maxHeartbeats 4000000 in
theorem p54 (p : List Gl) (f : Tb) (t : Pl) (hw : wf t = true) (hs : small t) (hr : rng t) (o7 : t.op = 7) (ih : ∀ x ∈ t.args, C29 p f x) :
  PureC Tryz.prog 54 [KR p f, t.av] (rN (need (lookK (tbD p f)) t)) := by
 refine PureC.intro fun s => fun_sound mixed Tryz.func54 Tryz.call54 c54 rfl (awpFun_go _ _ _ _ ?_)
 obtain ⟨hnd, hwa, hwb⟩ := wf_nd hw
 have hr' := (rng_eq t).1 hr
 have hlt := hnd.lt o7
 obtain ⟨vl, b, hvb⟩ := split_last (l := t.args) (by intro h; rw [h] at hlt; simp at hlt)
 have hargl : t.args.length = vl.length + 1 := by rw [hvb]; simp
 have hbm : b ∈ t.args := by simp [hvb]
 have hL : ∀ x ∈ t.args, PureC Tryz.prog 29 [.agg [.list 6 .none (p.map Gl.av), .list 3 .none (dmL p f)], x.av] (.agg [.bool (need (lookK (tbD p f)) x).isNone, .list 1 .none (ilist ((need (lookK (tbD p f)) x).getD []))]) ∧ lenN (need (lookK (tbD p f)) x) ≤ 3000 := by
  intro x hx
  have h1 := (need_len (lookK (tbD p f)) x (hwa x hx)).1
  have h2 := (small_arg hs hx).1
  exact ⟨ih x hx, by omega⟩
 obtain ⟨hb29, hbn⟩ := hL b hbm
 have hbo := need_ok (lookK (tbD p f)) b
 have hnbb := (need_bnd (lookK (tbD p f)) b (hwa b hbm) (hr'.2.2.1 b hbm)).1
 rw [need_let o7 hvb]
 have hvs : ∀ x ∈ vl.map (need (lookK (tbD p f))), x.ok ∧ lenN x ≤ 3000 ∧ NB x := by
  intro x hx
  obtain ⟨y, hy, rfl⟩ := List.mem_map.1 hx
  have hym : y ∈ t.args := by simp [hvb, hy]
  exact ⟨need_ok _ _, (hL y hym).2, (need_bnd _ y (hwa y hym) (hr'.2.2.1 y hym)).1⟩
 have hvl : (vl.map (need (lookK (tbD p f)))).length = vl.length := by simp
 have hvg : ∀ (i : Nat) (h1 : i < t.args.length) (h2 : i < (vl.map (need (lookK (tbD p f)))).length), PureC Tryz.prog 29 [.agg [.list 6 .none (p.map Gl.av), .list 3 .none (dmL p f)], (t.args[i]'h1).av] (.agg [.bool ((vl.map (need (lookK (tbD p f))))[i]'h2).isNone, .list 1 .none (ilist (((vl.map (need (lookK (tbD p f))))[i]'h2).getD []))]) := by
  intro i h1 h2
  have h : i < vl.length := by simpa using h2
  have e : t.args[i]'h1 = vl[i] := by simp [hvb, h]
  rw [e, List.getElem_map]
  exact (hL _ (by simp [hvb])).1
 generalize vl.map (need (lookK (tbD p f))) = vs at hvs hvl hvg ⊢
 generalize need (lookK (tbD p f)) b = nb at hb29 hbn hbo hnbb ⊢
 rw [← hvl] at hargl
 have hvl12 : vs.length ≤ 12 := by omega
 have w1 : IntKind.i64.wrap (vs.length : Int) = (vs.length : Int) := wrap64 (by omega) (by omega)
 have hg : t.args[vs.length]'(by omega) = b := by simp [hvb, hvl]
 simp -implicitDefEqProofs (disch:=first|omega|simp only[nx4]<;>omega|fail) [a54, a54b, a54r0, KR, a54r1, hargl, w1, a54r2, hg]
 refine pcV_intro hb29 ?_
 simp -implicitDefEqProofs (disch:=first|omega|simp only[nx4]<;>omega|fail) []
 intro m hm
 simp -implicitDefEqProofs (disch:=first|omega|simp only[nx4]<;>omega|fail) [a54r3, a54r4]
 refine go_loop (IO54 p f t vs nb (s.nx + 1 + 1 + 1) m s) (vs.length + 1) ?h0 ?_
 case h0 =>
  refine ⟨nb, List.replicate vs.length false, true, LetR.start hbo hbn hnbb, by rw [cntF_rep]; rfl, by simp, ?_, ?_, ?_, ?_, ?_, ?_, ?_, ?_, ?_, ?_, ?_, ?_, ?_, ?_⟩
  all_goals (try simp -implicitDefEqProofs (disch:=first|omega|simp only[nx4]<;>omega|fail) [blist])
 have hbm6 : s.nx + 1 + 1 + 1 < m := by omega
 clear hm hb29 hg
 generalize hb6 : s.nx + 1 + 1 + 1 = b6 at hbm6 ⊢
 rintro k g S ⟨acc, sr, grew, hR, rfl, hcl, e2, e3, e4, e5, e6, e7, e8, j2, j3, j4, j6, jO, hk, hnx⟩
 have hfinish : ∀ (g : Env) (S : St), (∀ S, acc = some S → ∀ u : Nat, u < vs.length → (u : Int) ∈ S → sr.getD u false = true) → g.get 4 = .ptr (s.nx + 1 + 1) 0 → g.get 5 = .int .i64 vs.length → g.get 6 = .ptr b6 0 → S.m (s.nx + 1 + 1) = some (.box [.bool false, .list 0 .full []]) → S.m b6 = some (.box [.bool acc.isNone, .list 1 .none (ilist (acc.getD []))]) → Kept s S → s.nx + 1 + 1 < S.nx →
   go (aops Tryz.prog a54r16 (regQ (seqQ Tryz.prog ACode.ret (finQ [ARes.cell (true, 4) 2 true] fun r' s' => wk r' (rN (letC vs nb)) ∧ Kept s s'))) g [] S) := by
  intro g S hcl e4 e5 e6 j4 j6 hk hnx
  have hb := hR.bnd
  have h94 := p94 acc vs.length (by omega) (by omega) hR.nb
  rw [hR.done hcl]
  simp only [rN] at h94
  simp -implicitDefEqProofs (disch:=first|omega|simp only[nx4]<;>omega|fail) [a54r16, e4, e5, e6, j6]
  refine go_pure h94 fun mm1 hm1 => ?_
  try simp only [nx4] at hm1
  simp -implicitDefEqProofs (disch:=first|omega|simp only[nx4]<;>omega|fail) [e4, j4, hk, rN]
 cases grew with
 | false =>
  simp -implicitDefEqProofs (disch:=first|omega|simp only[nx4]<;>omega|fail) [a54l15, a54r5, e8]
  exact hfinish _ _ (hcl rfl) (by simp -implicitDefEqProofs (disch:=first|omega|simp only[nx4]<;>omega|fail) [e4]) (by simp -implicitDefEqProofs (disch:=first|omega|simp only[nx4]<;>omega|fail) [e5]) (by simp -implicitDefEqProofs (disch:=first|omega|simp only[nx4]<;>omega|fail) [e6]) j4 j6 hk (by omega)
 | true =>
  cases hno : acc.isNone with
  | true =>
   rw [hno] at j6
   simp -implicitDefEqProofs (disch:=first|omega|simp only[nx4]<;>omega|fail) [a54l15, a54r5, e6, e8, j6]
   exact hfinish _ _ (fun S hS => by rw [hS] at hno; simp at hno) (by simp -implicitDefEqProofs (disch:=first|omega|simp only[nx4]<;>omega|fail) [e4]) (by simp -implicitDefEqProofs (disch:=first|omega|simp only[nx4]<;>omega|fail) [e5]) (by simp -implicitDefEqProofs (disch:=first|omega|simp only[nx4]<;>omega|fail) [e6]) j4 (by rw [hno]; exact j6) hk (by omega)
  | false =>
   have j6' := j6
   rw [hno] at j6'
   simp -implicitDefEqProofs (disch:=first|omega|simp only[nx4]<;>omega|fail) [a54l15, a54r5, e6, e8, j6', a54r6, a54r7]
   refine go_loop (II54 p f t vs nb (cntF sr) b6 m s) vs.length ?h1 ?_
   case h1 =>
    refine ⟨0, acc, sr, false, by omega, by omega, hR, by simp, fun _ => ⟨rfl, hno, fun _ _ v hv => by omega⟩, ?_, ?_, ?_, ?_, ?_, ?_, ?_, ?_, ?_, ?_, ?_, ?_, ?_, ?_, ?_⟩
    all_goals (try simp -implicitDefEqProofs (disch:=first|omega|simp only[nx4]<;>omega|fail) [e2, e3, e4, e5, e6, e7, j2, j3, j4, j6, jO, hk])
    all_goals (try omega)
   clear e2 e3 e4 e5 e6 e7 e8 j2 j3 j4 j6 j6' jO hk hnx hfinish
   generalize cntF sr = c
   clear hR hcl hno
   rintro k g S ⟨u, acc, sr, grew, hu, rfl, hR, hg1, hg0, e2, e3, e4, e5, e6, e7, e8, e9, j2, j3, j4, j6, jO, hk, hnx⟩
   have hsl := hR.len
   cases grew with
   | true =>
    by_cases hlt' : (u : Int) < vs.length
    all_goals simp -implicitDefEqProofs (disch:=first|omega|simp only[nx4]<;>omega|fail) [a54l14, a54r8, e5, e8, e9, hlt']
    all_goals refine go_next (cntF sr + 1) (by have := hg1 rfl; omega) ⟨acc, sr, true, hR, by simp, by simp, ?_, ?_, ?_, ?_, ?_, ?_, ?_, ?_, ?_, ?_, ?_, ?_, ?_, ?_⟩
    all_goals (try simp -implicitDefEqProofs (disch:=first|omega|simp only[nx4]<;>omega|fail) [e2, e3, e4, e5, e6, e7, e8, j2, j3, j4, j6, jO, hk])
    all_goals (try omega)
   | false =>
    obtain ⟨hc, hno, hcl⟩ := hg0 rfl
    by_cases hlt : u < vs.length
    ·have hlt' : (u : Int) < vs.length := by omega
     have hsu : u < sr.length := by omega
     have w3 := wrapS (i := u) (by omega)
     have hbd := blist_drop hsu
     have hgd : sr.getD u false = sr[u] := by simp [hsu]
     cases hb : sr[u] with
     | true =>
      rw [hb] at hbd hgd
      simp -implicitDefEqProofs (disch:=first|omega|simp only[nx4]<;>omega|fail) [a54l14, a54r8, a54r9, e5, e7, e8, e9, hlt', hlt, jO, hsl, hbd, a54r13, w3]
      refine go_next (vs.length - (u + 1)) (by omega) ⟨u + 1, acc, sr, false, by omega, rfl, hR, by simp, fun _ => ⟨hc, hno, fun S hS v hv hm => ?_⟩, ?_, ?_, ?_, ?_, ?_, ?_, ?_, ?_, ?_, ?_, ?_, ?_, ?_, ?_, ?_⟩
      ·by_cases e : v = u
       ·subst e; exact hgd
       ·exact hcl S hS v (by omega) hm
      all_goals (try simp -implicitDefEqProofs (disch:=first|omega|simp only[nx4]<;>omega|fail) [e2, e3, e4, e5, e6, e7, e8, j2, j3, j4, j6, jO, hk])
      all_goals (try omega)
     | false =>
      rw [hb] at hbd hgd
      have hbnd := hR.bnd
      have h81 := p81 acc u (by omega)
      simp only [rN] at h81
      by_cases hmem : (u : Int) ∈ acc.getD []
      ·rw [decide_eq_true hmem] at h81
       have hi : vs.length - 1 - u < vs.length := by omega
       have hi2 : vs.length - 1 - u < t.args.length := by omega
       have hi3 : ((vs.length - 1 - u : Nat) : Int) < t.args.length := by omega
       have w4 : IntKind.i64.wrap ((vs.length : Int) - 1) = (vs.length : Int) - 1 := wrap64 (by omega) (by omega)
       have w5 : IntKind.i64.wrap ((vs.length : Int) - 1 - u) = ((vs.length - 1 - u : Nat) : Int) := by rw [wrap64 (by omega) (by omega)]; omega
       have hx29 := hvg _ hi2 hi
       have hstep := fun S0 (h : LetR vs nb (some S0) sr) (hm : (u : Int) ∈ S0) => h.step hvs hlt hm hgd hi
       obtain ⟨hxo, hxn, _⟩ := hvs _ (List.getElem_mem hi)
       have hset := blist_set hsu true
       generalize vs[vs.length - 1 - u] = nx at hx29 hstep hxo hxn
       generalize hxx : t.args[vs.length - 1 - u] = x at hx29
       generalize vs.length - 1 - u = v at hi hi2 hi3 w5 hxx
       have h57 := p57 acc nx (by omega) (by omega) hR.ok hxo
       simp only [rN] at h57
       simp -implicitDefEqProofs (disch:=first|omega|simp only[nx4]<;>omega|fail) [a54l14, a54r8, a54r9, e5, e6, e7, e8, e9, hlt', hlt, jO, hsl, hbd, j6]
       refine go_pure h81 fun mm2 hm2 => ?_
       try simp only [nx4] at hm2
       simp -implicitDefEqProofs (disch:=first|omega|simp only[nx4]<;>omega|fail) [a54r10, e7, e9, hlt', hlt, jO, hsl, a54r11, e2, e3, e5, e6, j2, j3, j6, w4, w5, hi2, hi3, hxx]
       refine pcV_intro hx29 ?_
       simp -implicitDefEqProofs (disch:=first|omega|simp only[nx4]<;>omega|fail) []
       refine pcV_intro h57 ?_
       simp -implicitDefEqProofs (disch:=first|omega|simp only[nx4]<;>omega|fail) [e6, j6]
       intro m1 hm1
       simp -implicitDefEqProofs (disch:=first|omega|simp only[nx4]<;>omega|fail) [a54r12, a54r13, e9, w3]
       cases acc with
       | none => simp at hno
       | some S0 =>
        obtain ⟨hR', hcc⟩ := hstep S0 hR hmem
        refine go_next (vs.length - (u + 1)) (by omega) ⟨u + 1, nWith (some S0) nx, sr.set u true, true, by omega, rfl, hR', fun _ => by omega, by simp, ?_, ?_, ?_, ?_, ?_, ?_, ?_, ?_, ?_, ?_, ?_, ?_, ?_, ?_, ?_⟩
        all_goals (try simp -implicitDefEqProofs (disch:=first|omega|simp only[nx4]<;>omega|fail) [e2, e3, e4, e5, e6, e7, j2, j3, j4, hset, hk])
        all_goals (try omega)
      ·rw [decide_eq_false hmem] at h81
       simp -implicitDefEqProofs (disch:=first|omega|simp only[nx4]<;>omega|fail) [a54l14, a54r8, a54r9, e5, e6, e7, e8, e9, hlt', hlt, jO, hsl, hbd, j6]
       refine go_pure h81 fun mm3 hm3 => ?_
       try simp only [nx4] at hm3
       simp -implicitDefEqProofs (disch:=first|omega|simp only[nx4]<;>omega|fail) [a54r13, e9, w3]
       refine go_next (vs.length - (u + 1)) (by omega) ⟨u + 1, acc, sr, false, by omega, rfl, hR, by simp, fun _ => ⟨hc, hno, fun S hS v hv hm => ?_⟩, ?_, ?_, ?_, ?_, ?_, ?_, ?_, ?_, ?_, ?_, ?_, ?_, ?_, ?_, ?_⟩
       ·by_cases e : v = u
        ·subst e; rw [hS] at hmem; exact absurd hm hmem
        ·exact hcl S hS v (by omega) hm
       all_goals (try simp -implicitDefEqProofs (disch:=first|omega|simp only[nx4]<;>omega|fail) [e2, e3, e4, e5, e6, e7, e8, j2, j3, j4, j6, jO, hk])
       all_goals (try omega)
    ·have hlt' : ¬ (u : Int) < vs.length := by omega
     simp -implicitDefEqProofs (disch:=first|omega|simp only[nx4]<;>omega|fail) [a54l14, a54r8, e5, e8, e9, hlt']
     refine go_next c (by omega) ⟨acc, sr, false, hR, by simp [hc], fun _ S hS v hv hm => hcl S hS v (by omega) hm, ?_, ?_, ?_, ?_, ?_, ?_, ?_, ?_, ?_, ?_, ?_, ?_, ?_, ?_⟩
     all_goals (try simp -implicitDefEqProofs (disch:=first|omega|simp only[nx4]<;>omega|fail) [e2, e3, e4, e5, e6, e7, e8, j2, j3, j4, j6, jO, hk])
     all_goals (try omega)
def I55 (p : List Gl) (f : Tb) (t : Pl) (fin : ND) (b5 : Nat) (s : St) (m : Nat) (g : Env) (s1 : St) : Prop :=
 ∃ (i : Nat) (acc : ND), i ≤ t.alts.length ∧ m = t.alts.length - i ∧ ((t.alts.drop i).map fun a => nOut (bnd a.1) (need (lookK (tbD p f)) a.2)).foldl nBoth acc = fin ∧ acc.ok ∧ lenN acc ≤ 3000 ∧
  g.get 2 = .ptr s.nx 0 ∧ g.get 3 = .ptr (s.nx + 1) 0 ∧ g.get 4 = .ptr (s.nx + 1 + 1) 0 ∧ g.get 5 = .ptr b5 0 ∧ g.get 6 = .bool acc.isSome ∧ g.get 7 = .int .i64 i ∧
  s1.m s.nx = some (.box [.list 6 .none (p.map Gl.av), .list 3 .none (dmL p f)]) ∧ s1.m (s.nx + 1) = some (.box t.av.cells) ∧ s1.m (s.nx + 1 + 1) = some (.box [.bool false, .list 0 .full []]) ∧
  (∃ tk, s1.m b5 = some (.box [.bool false, tk]) ∧ ∀ l, acc = some l → tk = .list 1 .none (ilist l)) ∧ Kept s s1 ∧ b5 < s1.nx
set_option maxHeartbeats 4000000 in
theorem p55 (p : List Gl) (f : Tb) (t : Pl) (hw : wf t = true) (hs : small t) (hr : rng t) (o8 : t.op = 8) (ih : ∀ x ∈ t.args, C29 p f x) (ih2 : ∀ a ∈ t.alts, C29 p f a.2) :
  PureC Tryz.prog 55 [KR p f, t.av] (rN (need (lookK (tbD p f)) t)) := by
 refine PureC.intro fun s => fun_sound mixed Tryz.func55 Tryz.call55 c55 rfl (awpFun_go _ _ _ _ ?_)
 obtain ⟨hnd, hwa, hwb⟩ := wf_nd hw
 have hr' := (rng_eq t).1 hr
 obtain ⟨x, hx⟩ : ∃ x, t.args = [x] := List.length_eq_one_iff.1 (hnd.cas o8).1
 have hal := (hnd.cas o8).2.2
 have hxm : x ∈ t.args := by simp [hx]
 have hx29 := ih x hxm
 have hxl := (need_len (lookK (tbD p f)) x (hwa x hxm)).1
 have hxs := (small_arg hs hxm).1
 have hxo := need_ok (lookK (tbD p f)) x
 rw [need_cas o8 hx]
 simp only [C29, KR, rN] at hx29
 generalize need (lookK (tbD p f)) x = nx at hx29 hxl hxo ⊢
 generalize hfin : (t.alts.map fun a => nOut (bnd a.1) (need (lookK (tbD p f)) a.2)).foldl nBoth none = fin
 simp -implicitDefEqProofs (disch:=first|omega|simp only[nx4]<;>omega|fail) [a55, a55b, a55r0, KR, a55r1, a55r2, a55r3]
 refine go_loop (I55 p f t fin (s.nx + 1 + 1 + 1) s) t.alts.length ?h0 ?_
 case h0 =>
  refine ⟨0, none, by omega, by omega, by simpa using hfin, trivial, by simp [lenN], ?_, ?_, ?_, ?_, ?_, ?_, ?_, ?_, ?_, ⟨.list 0 .full [], ?_, by simp⟩, ?_, ?_⟩
  all_goals (try simp -implicitDefEqProofs (disch:=first|omega|simp only[nx4]<;>omega|fail))
 rintro m g S ⟨i, acc, hi, rfl, hf, hao, hacl, e2, e3, e4, e5, e6, e7, j2, j3, j4, ⟨tk, j5, htk⟩, hk, hnx⟩
 by_cases hlt : i < t.alts.length
 ·have hlt' : (i : Int) < t.alts.length := by omega
  have w3 := wrapS (i := i) (by omega)
  rw [List.drop_eq_getElem_cons hlt, List.map_cons, List.foldl_cons] at hf
  have hmem := List.getElem_mem hlt
  have hb := hnd.bnd hmem
  have h95 := p95 t.alts[i] (fun h2 => by have := hnd.hd _ hmem h2; omega)
  have iha := ih2 _ hmem
  have hno := need_ok (lookK (tbD p f)) t.alts[i].2
  have hnb := (need_bnd (lookK (tbD p f)) t.alts[i].2 (hwb _ hmem) (hr'.2.2.2 _ hmem).2.2).1
  have hnl := (need_len (lookK (tbD p f)) t.alts[i].2 (hwb _ hmem)).1
  have hns := (small_alt hs hmem).1
  simp only [C29, KR, rN] at iha
  generalize hxx : t.alts[i] = a at hf hb h95 iha hno hnb hnl hns
  generalize need (lookK (tbD p f)) a.2 = na at hf iha hno hnb hnl
  have h94 := p94 na (bnd a.1) (by omega) (by omega) hnb
  have hoo := nOut_ok hno (bnd a.1)
  have hol := lenN_out (bnd a.1) na
  generalize nOut (bnd a.1) na = no at hf h94 hoo hol
  simp only [rN] at h94
  simp -implicitDefEqProofs (disch:=first|omega|simp only[nx4]<;>omega|fail) [a55l12, a55r4, a55r5, e2, e3, e7, j2, j3, hlt', hlt, hxx]
  refine pcV_intro iha ?_
  simp -implicitDefEqProofs (disch:=first|omega|simp only[nx4]<;>omega|fail) [e3, e7, j3, hlt', hlt, hxx]
  refine pcV_intro h95 ?_
  simp -implicitDefEqProofs (disch:=first|omega|simp only[nx4]<;>omega|fail) []
  refine pcV_intro h94 ?_
  simp -implicitDefEqProofs (disch:=first|omega|simp only[nx4]<;>omega|fail) []
  intro m hm
  cases no with
  | none =>
   have hb1 : nBoth acc none = acc := by cases acc <;> rfl
   rw [hb1] at hf
   simp -implicitDefEqProofs (disch:=first|omega|simp only[nx4]<;>omega|fail) [a55r6, a55r11, e7, w3]
   refine go_next (t.alts.length - (i + 1)) (by omega) ⟨i + 1, acc, by omega, rfl, hf, hao, hacl, ?_, ?_, ?_, ?_, ?_, ?_, ?_, ?_, ?_, ⟨tk, ?_, htk⟩, ?_, ?_⟩
   all_goals (try simp -implicitDefEqProofs (disch:=first|omega|simp only[nx4]<;>omega|fail) [e2, e3, e4, e5, e6, j2, j3, j4, j5, hk])
   all_goals (try omega)
  | some l2 =>
   cases acc with
   | none =>
    simp -implicitDefEqProofs (disch:=first|omega|simp only[nx4]<;>omega|fail) [a55r6, a55r7, e6, a55r9, e5, j5, a55r10, a55r11, e7, w3]
    refine go_next (t.alts.length - (i + 1)) (by omega) ⟨i + 1, some l2, by omega, rfl, hf, hoo, by omega, ?_, ?_, ?_, ?_, ?_, ?_, ?_, ?_, ?_, ⟨.list 1 .none (ilist l2), ?_, fun l e => by cases e; rfl⟩, ?_, ?_⟩
    all_goals (try simp -implicitDefEqProofs (disch:=first|omega|simp only[nx4]<;>omega|fail) [e2, e3, e4, e5, e6, j2, j3, j4, hk])
    all_goals (try omega)
   | some l1 =>
    obtain rfl := htk l1 rfl
    have hl1 : l1.length ≤ 3000 := hacl
    have hl2 : l2.length ≤ lenN na := hol
    have h96 := p96 l1 l2 (by omega) (by omega)
    simp only [rN, Option.isNone_some, Option.getD_some] at h96
    have hml : lenN (some (nMeet l1 l2)) ≤ 3000 := Nat.le_trans (List.length_filter_le _ _) hacl
    simp -implicitDefEqProofs (disch:=first|omega|simp only[nx4]<;>omega|fail) [a55r6, a55r7, e6, a55r8, e5, j5]
    refine go_pure h96 fun mm1 hm1 => ?_
    try simp only [nx4] at hm1
    simp -implicitDefEqProofs (disch:=first|omega|simp only[nx4]<;>omega|fail) [a55r9, e5, j5, a55r10, a55r11, e7, w3]
    refine go_next (t.alts.length - (i + 1)) (by omega) ⟨i + 1, some (nMeet l1 l2), by omega, rfl, hf, nMeet_asc hao, hml, ?_, ?_, ?_, ?_, ?_, ?_, ?_, ?_, ?_, ⟨.list 1 .none (ilist (nMeet l1 l2)), ?_, fun l e => by cases e; rfl⟩, ?_, ?_⟩
    all_goals (try simp -implicitDefEqProofs (disch:=first|omega|simp only[nx4]<;>omega|fail) [e2, e3, e4, e5, e6, j2, j3, j4, hk])
    all_goals (try omega)
 ·have hlt' : ¬ (i : Int) < t.alts.length := by omega
  obtain rfl : i = t.alts.length := by omega
  rw [List.drop_length, List.map_nil, List.foldl_nil] at hf
  subst hf
  cases acc with
  | none =>
   have e : nWith nx none = none := by cases nx <;> rfl
   rw [e]
   simp -implicitDefEqProofs (disch:=first|omega|simp only[nx4]<;>omega|fail) [a55l12, a55r4, e3, e6, e7, j3, hlt', a55r13, a55r14, e4, j4, hk, rN, wkL]
   simp [ilist, wkL]
   done
  | some l1 =>
   obtain rfl := htk l1 rfl
   have h57 := p57 nx (some l1) (by omega) (by omega) hxo hao
   simp only [rN, Option.isNone_some, Option.getD_some] at h57
   have hgx : ([x.av][0]?).getD AV.any = x.av := rfl
   simp -implicitDefEqProofs (disch:=first|omega|simp only[nx4]<;>omega|fail) [a55l12, a55r4, e3, e6, e7, j3, hlt', a55r13, a55r15, e2, j2, hx, hgx, e5, j5]
   refine pcV_intro hx29 ?_
   simp -implicitDefEqProofs (disch:=first|omega|simp only[nx4]<;>omega|fail) [e5, j5]
   refine pcV_intro h57 ?_
   simp -implicitDefEqProofs (disch:=first|omega|simp only[nx4]<;>omega|fail) [e4, j4, hk, rN]
   done
set_option maxHeartbeats 4000000 in
theorem step29 (p : List Gl) (f : Tb) (hf : RT p f) (t : Pl) (hw : wf t = true) (hs : small t) (hr : rng t) (hg : Gin p t) (ih : ∀ x, wf x = true → small x → rng x → Gin p x → sz x < sz t → C29 p f x) : C29 p f t := by
 obtain ⟨hnd, hwa, hwb⟩ := wf_nd hw
 have hr' := (rng_eq t).1 hr
 have iha : ∀ x ∈ t.args, C29 p f x := fun x hx => ih x (hwa x hx) (small_arg hs hx) (hr'.2.2.1 x hx) (hg.arg hx) (arg_lt hx).1
 have ihb : ∀ a ∈ t.alts, C29 p f a.2 := fun a ha => ih a.2 (hwb a ha) (small_alt hs ha) (hr'.2.2.2 a ha).2.2 (hg.alt ha) (by have := (alt_lt ha).1; omega)
 have ihc : ∀ x ∈ t.args, ∀ y ∈ x.args, C29 p f y := fun x hx y hy => by
  obtain ⟨_, hwx, _⟩ := wf_nd (hwa x hx)
  have hrx := (rng_eq x).1 (hr'.2.2.1 x hx)
  have h1 := (arg_lt hx).1
  have h2 := (arg_lt hy).1
  exact ih y (hwx y hy) (small_arg (small_arg hs hx) hy) (hrx.2.2.1 y hy) ((hg.arg hx).arg hy) (by omega)
 have ho := hnd.op
 by_cases o2 : t.op = 2
 ·exact p29g p f hf t o2 hg
 refine PureC.intro fun s => fun_sound mixed Tryz.func29 Tryz.call29 c29 rfl (awpFun_go _ _ _ _ ?_)
 by_cases o1 : t.op = 1
 ·rw [need_var o1]
  simp -implicitDefEqProofs (disch:=first|omega|simp only[nx4]<;>omega|fail) [a29, a29b, a29r0, a29r1, a29r2, KR, o1, a29r3, rN, ilist]
 by_cases om : t.op = 3 ∨ t.op = 4 ∨ t.op = 5
 ·rw [need_made om]
  rcases om with o | o | o
  all_goals simp -implicitDefEqProofs (disch:=first|omega|simp only[nx4]<;>omega|fail) [a29, a29b, a29r0, a29r1, a29r2, a29r4, a29r7, a29r9, a29r11, a29r13, a29r18, KR, o, rN, ilist, wkL]
  all_goals done
 by_cases o6 : t.op = 6
 ·have h53 := p53 p f hf t hw hs hr hg o6 iha ihc
  generalize need (lookK (tbD p f)) t = x at h53 ⊢
  have hav : AV.agg [AV.int .i64 6, AV.int .i64 t.n, AV.str t.s, AV.list 5 .none (List.map Pl.av t.args), AV.list 8 .none (List.map Pl.altv t.alts)] = t.av := by rw [← o6, Pl.av_fold]
  simp only [KR, rN] at h53
  simp -implicitDefEqProofs (disch:=first|omega|simp only[nx4]<;>omega|fail) [a29, a29b, a29r0, a29r1, a29r2, a29r4, a29r7, KR, o6, a29r8, hav]
  refine go_pure h53 fun mm1 hm1 => ?_
  try simp only [nx4] at hm1
  simp -implicitDefEqProofs (disch:=first|omega|simp only[nx4]<;>omega|fail) [rN]
  done
 by_cases o7 : t.op = 7
 ·have h54 := p54 p f t hw hs hr o7 iha
  generalize need (lookK (tbD p f)) t = x at h54 ⊢
  have hav : AV.agg [AV.int .i64 7, AV.int .i64 t.n, AV.str t.s, AV.list 5 .none (List.map Pl.av t.args), AV.list 8 .none (List.map Pl.altv t.alts)] = t.av := by rw [← o7, Pl.av_fold]
  simp only [KR, rN] at h54
  simp -implicitDefEqProofs (disch:=first|omega|simp only[nx4]<;>omega|fail) [a29, a29b, a29r0, a29r1, a29r2, a29r4, a29r7, a29r9, KR, o7, a29r10, hav]
  refine go_pure h54 fun mm2 hm2 => ?_
  try simp only [nx4] at hm2
  simp -implicitDefEqProofs (disch:=first|omega|simp only[nx4]<;>omega|fail) [rN]
  done
 by_cases o8 : t.op = 8
 ·have h55 := p55 p f t hw hs hr o8 iha ihb
  generalize need (lookK (tbD p f)) t = x at h55 ⊢
  have hav : AV.agg [AV.int .i64 8, AV.int .i64 t.n, AV.str t.s, AV.list 5 .none (List.map Pl.av t.args), AV.list 8 .none (List.map Pl.altv t.alts)] = t.av := by rw [← o8, Pl.av_fold]
  simp only [KR, rN] at h55
  simp -implicitDefEqProofs (disch:=first|omega|simp only[nx4]<;>omega|fail) [a29, a29b, a29r0, a29r1, a29r2, a29r4, a29r7, a29r9, a29r11, KR, o8, a29r12, hav]
  refine go_pure h55 fun mm3 hm3 => ?_
  try simp only [nx4] at hm3
  simp -implicitDefEqProofs (disch:=first|omega|simp only[nx4]<;>omega|fail) [rN]
  done
 have o9 : t.op = 9 := by omega
 obtain ⟨k, hk, hlen⟩ := hnd.prm o9
 have h56 := p56 t.s
 have h56t := p56 throwS
 rw [throwS_eq] at h56t
 have hth : throwS = ⟨#[116, 104, 114, 111, 119]⟩ := rfl
 rw [hth] at h56t
 by_cases hp : primI t.s < 9
 ·have h2 := ar_two hk hp
  have ht : ¬ t.s = throwS := by rintro e; rw [e, throwS_eq] at hp; omega
  obtain ⟨x, y, hxy⟩ := len_two (show t.args.length = 2 by omega)
  rw [need_prim o9 ht hp hxy]
  have hx : x ∈ t.args := by rw [hxy]; simp
  have hy : y ∈ t.args := by rw [hxy]; simp
  have hx29 := iha x hx
  have hy29 := iha y hy
  have h57 := p57 (need (lookK (tbD p f)) x) (need (lookK (tbD p f)) y)
   (by have := (need_len (lookK (tbD p f)) x (hwa x hx)).1; have := (small_arg hs hx).1; omega) (by have := (need_len (lookK (tbD p f)) y (hwa y hy)).1; have := (small_arg hs hy).1; omega) (need_ok _ _) (need_ok _ _)
  simp only [C29, KR, rN] at hx29 hy29 h57
  generalize need (lookK (tbD p f)) x = nx at hx29 h57 ⊢
  generalize need (lookK (tbD p f)) y = ny at hy29 h57 ⊢
  have hgx : ([x.av, y.av][0]?).getD AV.any = x.av := rfl
  have hgy : ([y.av][0]?).getD AV.any = y.av := rfl
  simp -implicitDefEqProofs (disch:=first|omega|simp only[nx4]<;>omega|fail) [a29, a29b, a29r0, a29r1, a29r2, a29r4, a29r7, a29r9, a29r11, a29r13, KR, o9, a29r14, hxy]
  refine go_pure h56 fun mm4 hm4 => ?_
  try simp only [nx4] at hm4
  simp -implicitDefEqProofs (disch:=first|omega|simp only[nx4]<;>omega|fail) [a29r15]
  refine go_pure h56t fun mm5 hm5 => ?_
  try simp only [nx4] at hm5
  simp -implicitDefEqProofs (disch:=first|omega|simp only[nx4]<;>omega|fail) [hp, a29r16, hgx, hgy]
  refine pcV_intro hx29 ?_
  simp -implicitDefEqProofs (disch:=first|omega|simp only[nx4]<;>omega|fail) [hgx, hgy]
  refine pcV_intro hy29 ?_
  simp -implicitDefEqProofs (disch:=first|omega|simp only[nx4]<;>omega|fail) []
  refine pcV_intro h57 ?_
  simp -implicitDefEqProofs (disch:=first|omega|simp only[nx4]<;>omega|fail) [rN]
  done
 ·simp -implicitDefEqProofs (disch:=first|omega|simp only[nx4]<;>omega|fail) [a29, a29b, a29r0, a29r1, a29r2, a29r4, a29r7, a29r9, a29r11, a29r13, KR, o9, a29r14]
  refine go_pure h56 fun mm6 hm6 => ?_
  try simp only [nx4] at hm6
  simp -implicitDefEqProofs (disch:=first|omega|simp only[nx4]<;>omega|fail) [a29r15]
  refine go_pure h56t fun mm7 hm7 => ?_
  try simp only [nx4] at hm7
  simp -implicitDefEqProofs (disch:=first|omega|simp only[nx4]<;>omega|fail) [hp, a29r17]
  by_cases ht : t.s = throwS
  ·rw [need_throw o9 ht]
   rw [hth] at ht
   simp -implicitDefEqProofs (disch:=first|omega|simp only[nx4]<;>omega|fail) [ht, rN, ilist, wkL]
   done
  ·rw [need_act o9 ht hp]
   rw [hth] at ht
   simp -implicitDefEqProofs (disch:=first|omega|simp only[nx4]<;>omega|fail) [ht, rN, ilist, wkL]
   done
theorem p29 (p : List Gl) (f : Tb) (hf : RT p f) (t : Pl) (hw : wf t = true) (hs : small t) (hr : rng t) (hg : Gin p t) : C29 p f t := by
 obtain ⟨n, hn⟩ : ∃ n : Nat, sz t ≤ n := ⟨(sz t).toNat, by omega⟩
 induction n generalizing t with
 | zero => have := sz_pos t; omega
 | succ n ih => exact step29 p f hf t hw hs hr hg fun x h1 h2 h3 h4 h5 => ih x h1 h2 h3 h4 (by omega)
def sameK (a b : Kn) : Bool := decide (a.fails = b.fails) && decide (a.st = b.st)
def sameT (f f' : Tb) (l : List Gl) : Bool := l.all fun g => sameK (f g) (f' g)
def I22 (p : List Gl) (f f' : Tb) (s : St) (m : Nat) (g : Env) (s1 : St) : Prop :=
 ∃ i : Nat, i ≤ p.length ∧ m = p.length - i ∧ sameT f f' (p.drop i) = sameT f f' p ∧ g.get 0 = .list 3 .none (dmL p f) ∧ g.get 1 = .list 3 .none (dmL p f') ∧ g.get 5 = .int .i64 i ∧ Kept s s1 ∧ s.nx ≤ s1.nx
def J22 (p : List Gl) (f f' : Tb) (i : Nat) (a b : List Bool) (n : ByteArray) (fl : Bool) (b6 b7 : Nat) (s : St) (m : Nat) (g : Env) (s1 : St) : Prop :=
 ∃ j : Nat, j ≤ a.length ∧ m = a.length - j ∧ (a = b ↔ a.drop j = b.drop j) ∧ g.get 0 = .list 3 .none (dmL p f) ∧ g.get 1 = .list 3 .none (dmL p f') ∧ g.get 5 = .int .i64 i ∧ g.get 6 = .ptr b6 0 ∧ g.get 7 = .ptr b7 0 ∧ g.get 8 = .int .i64 j ∧
  s1.m b6 = some (.box [.str n, .list 1 .none (a.map .bool), .bool fl]) ∧ s1.m b7 = some (.box [.str n, .list 1 .none (b.map .bool), .bool fl]) ∧ Kept s s1 ∧ s.nx ≤ s1.nx
set_option maxHeartbeats 4000000 in
theorem p22 (p : List Gl) (f f' : Tb) (hpl : p.length ≤ 400) (hf : ∀ g ∈ p, (f g).st.length ≤ 8) (hf' : ∀ g ∈ p, (f' g).st.length ≤ 8) : PureC Tryz.prog 22 [.list 3 .none (dmL p f), .list 3 .none (dmL p f')] (.bool (sameT f f' p)) := by
 refine PureC.intro fun s => fun_sound mixed Tryz.func22 Tryz.call22 c22 rfl (awpFun_go _ _ _ _ ?_)
 have hdl : (dmL p f).length = p.length := dmL_len
 have hdl' : (dmL p f').length = p.length := dmL_len
 simp -implicitDefEqProofs (disch:=first|omega|simp only[nx4]<;>omega|fail) [a22, a22b, a22r0, a22r1, hdl, hdl', a22r3]
 refine go_loop (I22 p f f' s) p.length ⟨0, by omega, by omega, rfl, ?_, ?_, ?_, ?_, ?_⟩ ?_
 iterate 5 (simp -implicitDefEqProofs (disch:=first|omega|simp only[nx4]<;>omega|fail))
 rintro m g S ⟨i, hi, rfl, hw, e0, e1, e5, hk, hnx⟩
 by_cases hlt : i < p.length
 ·have hlt' : (i : Int) < p.length := by omega
  have w3 := wrapS (i := i) (by omega)
  have hmem := List.getElem_mem hlt
  have hdg := dmL_get (f := f) hlt
  have hdg' := dmL_get (f := f') hlt
  have h1 := hf _ hmem
  have h2 := hf' _ hmem
  rw [List.drop_eq_getElem_cons hlt, sameT, List.all_cons] at hw
  have hw2 : (sameK (f p[i]) (f' p[i]) && sameT f f' (p.drop (i + 1))) = sameT f f' p := hw
  clear hw
  generalize p[i] = x at hdg hdg' h1 h2 hw2
  generalize f x = ka at hdg h1 hw2
  generalize f' x = kb at hdg' h2 hw2
  by_cases hfl : ka.fails = kb.fails
  ·by_cases hsl : ka.st.length = kb.st.length
   ·have hsl' : (ka.st.length : Int) = kb.st.length := by omega
    simp -implicitDefEqProofs (disch:=first|omega|simp only[nx4]<;>omega|fail) [a22l15, a22r4, a22r5, e0, e1, e5, hdl, hdl', hlt', hlt, hdg, hdg']
    intro m hm
    simp -implicitDefEqProofs (disch:=first|omega|simp only[nx4]<;>omega|fail) [a22r6, hfl, hsl, a22r8]
    refine go_loop (J22 p f f' i ka.st kb.st x.name kb.fails S.nx (S.nx + 1) s) ka.st.length ?h0 ?_
    case h0 =>
     refine ⟨0, by omega, by omega, by simp, ?_, ?_, ?_, ?_, ?_, ?_, ?_, ?_, ?_, ?_⟩
     all_goals (try simp -implicitDefEqProofs (disch:=first|omega|simp only[nx4]<;>omega|fail) [e0, e1, e5, hk])
     all_goals (try omega)
    clear e0 e1 e5 hk hnx
    generalize S.nx = b6
    generalize b6 + 1 = b7
    rintro m2 g S ⟨j, hj, rfl, hw3, e0, e1, e5, e6, e7, e8, j6, j7, hk, hnx⟩
    by_cases hjl : j < ka.st.length
    ·have hjl2 : j < kb.st.length := by omega
     have hjl' : (j : Int) < ka.st.length := by omega
     have hjl2' : (j : Int) < kb.st.length := by omega
     have w4 := wrapS (i := j) (by omega)
     rw [List.drop_eq_getElem_cons hjl, List.drop_eq_getElem_cons hjl2] at hw3
     by_cases hab : ka.st[j] = kb.st[j]
     ·have hw4 : ka.st = kb.st ↔ ka.st.drop (j + 1) = kb.st.drop (j + 1) := by rw [hw3, hab]; exact ⟨fun h => (List.cons.inj h).2, fun h => by rw [h]⟩
      simp -implicitDefEqProofs (disch:=first|omega|simp only[nx4]<;>omega|fail) [a22l13, a22r9, a22r10, e6, e7, e8, j6, j7, hjl, hjl', hjl2, hjl2', hab]
      intro m1 hm1
      simp -implicitDefEqProofs (disch:=first|omega|simp only[nx4]<;>omega|fail) [a22r12, e8, w4]
      refine go_next (ka.st.length - (j + 1)) (by omega) ⟨j + 1, by omega, rfl, hw4, ?_, ?_, ?_, ?_, ?_, ?_, ?_, ?_, ?_, ?_⟩
      all_goals (try simp -implicitDefEqProofs (disch:=first|omega|simp only[nx4]<;>omega|fail) [e0, e1, e5, e6, e7, j6, j7, hk])
      all_goals (try omega)
     ·have hne : ¬ ka.st = kb.st := fun e => hab (by simp [e])
      have hres : sameT f f' p = false := by rw [← hw2]; simp [sameK, hne]
      simp -implicitDefEqProofs (disch:=first|omega|simp only[nx4]<;>omega|fail) [a22l13, a22r9, a22r10, e6, e7, e8, j6, j7, hjl, hjl', hjl2, hjl2', hab]
      intro m1 hm1
      simp -implicitDefEqProofs (disch:=first|omega|simp only[nx4]<;>omega|fail) [a22r11, hres, hk]
    ·have hjl' : ¬ (j : Int) < ka.st.length := by omega
     obtain rfl : j = ka.st.length := by omega
     have heq : ka.st = kb.st := hw3.2 (by rw [List.drop_eq_nil_of_le (by omega), List.drop_eq_nil_of_le (by omega)])
     have hw5 : sameT f f' (p.drop (i + 1)) = sameT f f' p := by rw [← hw2]; simp [sameK, hfl, heq]
     simp -implicitDefEqProofs (disch:=first|omega|simp only[nx4]<;>omega|fail) [a22l13, a22r9, e6, e8, j6, hjl', a22r14, e5, w3]
     refine go_next (p.length - (i + 1)) (by omega) ⟨i + 1, by omega, rfl, hw5, ?_, ?_, ?_, ?_, ?_⟩
     all_goals (try simp -implicitDefEqProofs (disch:=first|omega|simp only[nx4]<;>omega|fail) [e0, e1, hk])
     all_goals (try omega)
   ·have hne : ¬ ka.st = kb.st := fun e => hsl (by rw [e])
    have hsl' : ¬ (ka.st.length : Int) = kb.st.length := by omega
    have hres : sameT f f' p = false := by rw [← hw2]; simp [sameK, hne]
    simp -implicitDefEqProofs (disch:=first|omega|simp only[nx4]<;>omega|fail) [a22l15, a22r4, a22r5, e0, e1, e5, hdl, hdl', hlt', hlt, hdg, hdg']
    intro m hm
    simp -implicitDefEqProofs (disch:=first|omega|simp only[nx4]<;>omega|fail) [a22r6, hfl, hsl, hsl', a22r7, hres, hk]
  ·have hres : sameT f f' p = false := by rw [← hw2]; simp [sameK, hfl]
   simp -implicitDefEqProofs (disch:=first|omega|simp only[nx4]<;>omega|fail) [a22l15, a22r4, a22r5, e0, e1, e5, hdl, hdl', hlt', hlt, hdg, hdg']
   intro m hm
   simp -implicitDefEqProofs (disch:=first|omega|simp only[nx4]<;>omega|fail) [a22r6, hfl, a22r7, hres, hk]
 ·have hlt' : ¬ (i : Int) < p.length := by omega
  obtain rfl : i = p.length := by omega
  rw [List.drop_length, sameT, List.all_nil] at hw
  simp -implicitDefEqProofs (disch:=first|omega|simp only[nx4]<;>omega|fail) [a22l15, a22r4, e0, e5, hdl, hlt', a22r16, ← hw, hk]
theorem wkL_snoc : ∀ {a b : List AV} {x y : AV}, wkL a b → wk x y → wkL (a ++ [x]) (b ++ [y])
 | [], [], x, y, _, h => by simp [wkL, h]
 | a :: la, b :: lb, x, y, h, k => by
  simp only [List.cons_append, wkL] at h ⊢
  exact ⟨h.1, wkL_snoc h.2 k⟩
 | [], _ :: _, _, _, h, _ => h.elim
 | _ :: _, [], _, _, h, _ => h.elim
def I43 (p : List Gl) (f : Tb) (f' : Tb) (s : St) (m : Nat) (g : Env) (s1 : St) : Prop :=
 ∃ (i : Nat) (v : AV) (L : List AV), i ≤ p.length ∧ m = p.length - i ∧ wkL L (dmL (p.take i) f') ∧ L.length = i ∧ (∀ x ∈ L, x.cells.length = 3) ∧ g.get 0 = .list 6 .none (p.map Gl.av) ∧ g.get 5 = .ptr s.nx 0 ∧ g.get 6 = v ∧ TokS s1 3 (s.nx + 1) v L ∧ g.get 7 = .int .i64 i ∧
  s1.m s.nx = some (.box [.list 6 .none (p.map Gl.av), .list 3 .none (dmL p f)]) ∧ Kept s s1 ∧ s.nx + 1 ≤ s1.nx
def J43 (p : List Gl) (n : ByteArray) (nd : ND) (vf : Nat → Bool) (wn i : Nat) (v : AV) (b10 b11 : Nat) (s S0 : St) (m : Nat) (g : Env) (s1 : St) : Prop :=
 ∃ (j : Nat) (fv : AV), j ≤ wn ∧ m = wn - j ∧ TokS s1 1 (b11 + 1) fv (((List.range j).map vf).map AV.bool) ∧ g.get 0 = .list 6 .none (p.map Gl.av) ∧ g.get 5 = .ptr s.nx 0 ∧ g.get 6 = v ∧ g.get 7 = .int .i64 i ∧ g.get 8 = .int .i64 wn ∧ g.get 10 = .ptr b10 0 ∧ g.get 11 = .ptr b11 0 ∧ g.get 12 = .int .i64 j ∧
  s1.m b10 = some (.box [.bool nd.isNone, .list 1 .none (ilist (nd.getD []))]) ∧ s1.m b11 = some (.box [.str n, fv, .bool nd.isNone]) ∧ Kept S0 s1 ∧ b11 < s1.nx
set_option maxHeartbeats 4000000 in
theorem t43 (p : List Gl) (f : Tb) (i : Nat) (x : Gl) (hlt : i < p.length) (hpl : p.length ≤ 400) (hxx : p[i] = x) (c : Pl) (nd : ND) (h29 : PureC Tryz.prog 29 [.agg [.list 6 .none (p.map Gl.av), .list 3 .none (dmL p f)], c.av] (.agg [.bool nd.isNone, .list 1 .none (ilist (nd.getD []))])) (hnl : lenN nd ≤ 3000)
  (wn : Nat) (hw8 : wn ≤ 8) (vf : Nat → Bool) (hvf : ∀ i, vf i = (nd.isNone || decide ((wn : Int) - 1 - (i : Int) ∈ nd.getD []))) (f' : Tb) (hf' : f' x = ⟨wn, (List.range wn).map vf, nd.isNone⟩) (s S0 : St) (v : AV) (L : List AV) (Q : AExit → Env → St → Prop)
  (hwL : wkL L (dmL (p.take i) f')) (hLl : L.length = i) (hL3 : ∀ x ∈ L, x.cells.length = 3) (ht : TokS S0 3 (s.nx + 1) v L) (j5 : S0.m s.nx = some (.box [.list 6 .none (p.map Gl.av), .list 3 .none (dmL p f)])) (hk : Kept s S0) (hnx : s.nx + 1 ≤ S0.nx)
  (b9 : Nat) (g : Env) (S : St) (e0 : g.get 0 = .list 6 .none (p.map Gl.av)) (e5 : g.get 5 = .ptr s.nx 0) (e6 : g.get 6 = v) (e7 : g.get 7 = .int .i64 i) (e8 : g.get 8 = .int .i64 wn) (e9 : g.get 9 = .ptr b9 0) (j9 : S.m b9 = some (.box c.av.cells)) (hS : Kept S0 S) (hb9 : S0.nx ≤ b9) (hn9 : b9 < S.nx) :
  go (aops Tryz.prog a43r9
   (regQ
    (seqQ Tryz.prog
     ((ACode.reg true a43r10).seq
      (((ACode.reg false a43r11).seq (ACode.block 2 a43l15.loop)).seq (ACode.reg false a43r16)))
     (blockQ 1
      (seqQ Tryz.prog (ACode.reg false a43r17)
       (loopQ (p.length - i) (I43 p f f' s) Q))))) g [] S) := by
 have hlt' : (i : Int) < p.length := by omega
 have w3 := wrapS (i := i) (by omega)
 have q5 : S.m s.nx = some (.box [.list 6 .none (p.map Gl.av), .list 3 .none (dmL p f)]) := (hS _ (by omega)).trans j5
 simp -implicitDefEqProofs (disch:=first|omega|simp only[nx4]<;>omega|fail) [a43r9, e5, e9, j9, q5]
 refine go_pure h29 fun mm1 hm1 => ?_
 try simp only [nx4] at hm1
 simp -implicitDefEqProofs (disch:=first|omega|simp only[nx4]<;>omega|fail) [a43r10, e0, e7, hlt, hlt', hxx]
 intro m hm
 simp -implicitDefEqProofs (disch:=first|omega|simp only[nx4]<;>omega|fail) [a43r11]
 refine go_loop (J43 p x.name nd vf wn i v mm1 (mm1 + 1) s S0) wn ?h0 ?_
 case h0 =>
  refine ⟨0, .list 0 .full [], by omega, by omega, .inl ⟨rfl, by simp⟩, ?_, ?_, ?_, ?_, ?_, ?_, ?_, ?_, ?_, ?_, ?_, ?_⟩
  all_goals (try simp -implicitDefEqProofs (disch:=first|omega|simp only[nx4]<;>omega|fail) [e0, e5, e6, e7, e8])
  all_goals (try omega)
 have hb10 : S0.nx < mm1 := by omega
 clear e0 e5 e6 e7 e8 e9 j9 hS hb9 hn9 q5 hm
 generalize hb11 : mm1 + 1 = b11
 rintro k g S ⟨j, fv, hj, rfl, htf, e0, e5, e6, e7, e8, e10, e11, e12, j10, j11, hS, hn⟩
 by_cases hjl : j < wn
 ·have hjl' : (j : Int) < wn := by omega
  have w4 := wrapS (i := j) (by omega)
  have w1 : IntKind.i64.wrap ((wn : Int) - 1) = (wn : Int) - 1 := wrap64 (by omega) (by omega)
  have w2 : IntKind.i64.wrap ((wn : Int) - 1 - j) = (wn : Int) - 1 - j := wrap64 (by omega) (by omega)
  have h81 := p81 nd ((wn : Int) - 1 - j) (by omega)
  simp only [rN] at h81
  have hvj := hvf j
  have hrj : ((List.range (j + 1)).map vf).map AV.bool = ((List.range j).map vf).map AV.bool ++ [.bool (vf j)] := by rw [List.range_succ]; simp
  have hrl : (((List.range j).map vf).map AV.bool).length = j := by simp
  generalize ((List.range j).map vf).map AV.bool = xs at htf hrj hrl
  have hj20 : j < 20 := by omega
  cases hno : nd.isNone with
  | true =>
   rw [hno] at j10 j11 hvj
   simp only [Bool.true_or] at hvj
   rcases htf with ⟨rfl, hxs⟩ | ⟨o, rfl, ho, ho1, ho2⟩
   ·subst hxs
    simp -implicitDefEqProofs (disch:=first|omega|simp only[nx4]<;>omega|fail) [a43l15, a43r12, a43r13, e8, e10, e11, e12, j10, j11, hjl']
    intro m hm
    simp -implicitDefEqProofs (disch:=first|omega|simp only[nx4]<;>omega|fail) [a43r14, e12, w4]
    refine go_next (wn - (j + 1)) (by omega) ⟨j + 1, _, by omega, rfl, by rw [hrj, hvj]; exact .inr ⟨S.nx, rfl, by first | (simp -implicitDefEqProofs (disch:=first|omega|simp only[nx4]<;>omega|fail) [hrl]; done) | (simp -implicitDefEqProofs (disch:=first|omega|simp only[nx4]<;>omega|fail); done), by omega, by simp -implicitDefEqProofs (disch:=first|omega|simp only[nx4]<;>omega|fail); omega⟩, ?_, ?_, ?_, ?_, ?_, ?_, ?_, ?_, ?_, ?_, ?_, ?_⟩
    all_goals (try simp -implicitDefEqProofs (disch:=first|omega|simp only[nx4]<;>omega|fail) [e0, e5, e6, e7, e8, e10, e11, j10, hno, hS])
    all_goals (try omega)
   ·simp -implicitDefEqProofs (disch:=first|omega|simp only[nx4]<;>omega|fail) [a43l15, a43r12, a43r13, e8, e10, e11, e12, j10, j11, hjl', ho, hrl]
    intro m hm
    simp -implicitDefEqProofs (disch:=first|omega|simp only[nx4]<;>omega|fail) [a43r14, e12, w4]
    refine go_next (wn - (j + 1)) (by omega) ⟨j + 1, _, by omega, rfl, by rw [hrj, hvj]; exact .inr ⟨S.nx, rfl, by first | (simp -implicitDefEqProofs (disch:=first|omega|simp only[nx4]<;>omega|fail) [hrl]; done) | (simp -implicitDefEqProofs (disch:=first|omega|simp only[nx4]<;>omega|fail); done), by omega, by simp -implicitDefEqProofs (disch:=first|omega|simp only[nx4]<;>omega|fail); omega⟩, ?_, ?_, ?_, ?_, ?_, ?_, ?_, ?_, ?_, ?_, ?_, ?_⟩
    all_goals (try simp -implicitDefEqProofs (disch:=first|omega|simp only[nx4]<;>omega|fail) [e0, e5, e6, e7, e8, e10, e11, j10, hno, hS])
    all_goals (try omega)
  | false =>
   rw [hno] at j10 j11 hvj h81
   simp only [Bool.false_or] at hvj
   rw [← hvj] at h81
   rcases htf with ⟨rfl, hxs⟩ | ⟨o, rfl, ho, ho1, ho2⟩
   ·subst hxs
    simp -implicitDefEqProofs (disch:=first|omega|simp only[nx4]<;>omega|fail) [a43l15, a43r12, a43r13, e8, e10, e11, e12, j10, j11, hjl', w1, w2]
    refine pcV_intro h81 ?_
    simp -implicitDefEqProofs (disch:=first|omega|simp only[nx4]<;>omega|fail) [e11, j11]
    intro m hm
    simp -implicitDefEqProofs (disch:=first|omega|simp only[nx4]<;>omega|fail) [a43r14, e12, w4]
    refine go_next (wn - (j + 1)) (by omega) ⟨j + 1, _, by omega, rfl, by rw [hrj]; exact .inr ⟨S.nx, rfl, by first | (simp -implicitDefEqProofs (disch:=first|omega|simp only[nx4]<;>omega|fail) [hrl]; done) | (simp -implicitDefEqProofs (disch:=first|omega|simp only[nx4]<;>omega|fail); done), by omega, by simp -implicitDefEqProofs (disch:=first|omega|simp only[nx4]<;>omega|fail); omega⟩, ?_, ?_, ?_, ?_, ?_, ?_, ?_, ?_, ?_, ?_, ?_, ?_⟩
    all_goals (try simp -implicitDefEqProofs (disch:=first|omega|simp only[nx4]<;>omega|fail) [e0, e5, e6, e7, e8, e10, e11, j10, hno, hS])
    all_goals (try omega)
   ·simp -implicitDefEqProofs (disch:=first|omega|simp only[nx4]<;>omega|fail) [a43l15, a43r12, a43r13, e8, e10, e11, e12, j10, j11, hjl', ho, hrl, w1, w2]
    refine pcV_intro h81 ?_
    simp -implicitDefEqProofs (disch:=first|omega|simp only[nx4]<;>omega|fail) [e11, j11, ho, hrl]
    intro m hm
    simp -implicitDefEqProofs (disch:=first|omega|simp only[nx4]<;>omega|fail) [a43r14, e12, w4]
    refine go_next (wn - (j + 1)) (by omega) ⟨j + 1, _, by omega, rfl, by rw [hrj]; exact .inr ⟨S.nx, rfl, by first | (simp -implicitDefEqProofs (disch:=first|omega|simp only[nx4]<;>omega|fail) [hrl]; done) | (simp -implicitDefEqProofs (disch:=first|omega|simp only[nx4]<;>omega|fail); done), by omega, by simp -implicitDefEqProofs (disch:=first|omega|simp only[nx4]<;>omega|fail); omega⟩, ?_, ?_, ?_, ?_, ?_, ?_, ?_, ?_, ?_, ?_, ?_, ?_⟩
    all_goals (try simp -implicitDefEqProofs (disch:=first|omega|simp only[nx4]<;>omega|fail) [e0, e5, e6, e7, e8, e10, e11, j10, hno, hS])
    all_goals (try omega)
 ·have hjl' : ¬ (j : Int) < wn := by omega
  obtain rfl : j = wn := by omega
  simp -implicitDefEqProofs (disch:=first|omega|simp only[nx4]<;>omega|fail) [a43l15, a43r12, e8, e12, hjl', a43r16, e6, e11, j11]
  refine ap_tok (ht.move (by omega) fun q _ hq _ => hS q hq) (by simp [hLl]; omega) (by simp [hLl]; omega) (by omega) fun v' s' ht' hn' hk' => ?_
  have r5 : s'.m s.nx = some (.box [.list 6 .none (p.map Gl.av), .list 3 .none (dmL p f)]) := (hk' _ (by omega) (.inl (by omega))).trans ((hS _ (by omega)).trans j5)
  have rk : Kept s s' := fun q hq => (hk' q (by omega) (.inl (by omega))).trans ((hS q (by omega)).trans (hk q hq))
  have hrow : wkL (L ++ [AV.agg [AV.str x.name, fv, AV.bool nd.isNone]]) (dmL (p.take (i + 1)) f') := by
   rw [dmL_take hlt, hxx]
   refine wkL_snoc hwL ?_
   have h1 := htf.wk (ys := ((List.range j).map vf).map AV.bool) (by simp)
   rw [dm, hf']
   simp only [wk_agg, wkL]
   exact ⟨by simp, h1, by simp, trivial⟩
  simp -implicitDefEqProofs (disch:=first|omega|simp only[nx4]<;>omega|fail) [a43r17, e7, w3]
  refine go_next (p.length - (i + 1)) (by omega) ⟨i + 1, v', L ++ [AV.agg [AV.str x.name, fv, AV.bool nd.isNone]], by omega, rfl, hrow, by simp [hLl], ?_, ?_, ?_, ?_, ht', ?_, ?_, ?_, ?_⟩
  ·intro y hy
   rcases List.mem_append.1 hy with h | h
   ·exact hL3 y h
   ·simp at h; subst h; rfl
  all_goals (try simp -implicitDefEqProofs (disch:=first|omega|simp only[nx4]<;>omega|fail) [e0, e5, r5, rk])
  all_goals (try omega)
set_option maxHeartbeats 4000000 in
theorem p43 (p : List Gl) (f : Tb) (hf : RT p f) (hg : ∀ g ∈ p, Gin p g.body) : PureC Tryz.prog 43 [.list 6 .none (p.map Gl.av), .list 3 .none (dmL p f)] (.list 3 .none (dmL p (stp p f))) := by
 refine PureC.intro fun s => fun_sound mixed Tryz.func43 Tryz.call43 c43 rfl (awpFun_go _ _ _ _ ?_)
 have hpl := hf.gp.few
 simp -implicitDefEqProofs (disch:=first|omega|simp only[nx4]<;>omega|fail) [a43, a43b, a43r0, a43r1, a43r2, a43r3]
 refine go_loop (I43 p f (stp p f) s) p.length ⟨0, .list 0 .full [], [], by omega, by omega, by simp [dmL, wkL], rfl, by simp, ?_, ?_, ?_, .inl ⟨rfl, rfl⟩, ?_, ?_, ?_, ?_⟩ ?_
 iterate 7 (simp -implicitDefEqProofs (disch:=first|omega|simp only[nx4]<;>omega|fail))
 rintro m g S ⟨i, v, L, hi, rfl, hwL, hLl, hL3, e0, e5, e6, ht, e7, j5, hk, hnx⟩
 by_cases hlt : i < p.length
 ·have hlt' : (i : Int) < p.length := by omega
  have w3 := wrapS (i := i) (by omega)
  have hmem := List.getElem_mem hlt
  have htk := dmL_take (f := stp p f) hlt
  have hgi := hg _ hmem
  have hwf := hf.gp.wf _ hmem
  obtain ⟨hsm, hrg⟩ := hf.gp.sm _ hmem
  have hst : stp p f p[i] = knOf (lookK (tbD p f)) p[i].body := rfl
  have h13 := p13 p[i]
  generalize hxx : p[i] = x at htk hgi hwf hsm hrg hst h13
  rw [hst] at htk
  have hwb := wnt_bnd hwf
  obtain ⟨hnd, hwa, _⟩ := wf_nd hwf
  by_cases o5 : x.body.op = 5
  ·obtain ⟨n1, n8, nl⟩ := hnd.lam o5
   obtain ⟨fx, hfx⟩ : ∃ y, x.body.args = [y] := List.length_eq_one_iff.1 nl
   have hfm : fx ∈ x.body.args := by simp [hfx]
   have h29 := p29 p f hf fx (hwa fx hfm) (small_arg hsm hfm) (((rng_eq x.body).1 hrg).2.2.1 fx hfm) (hgi.arg hfm)
   have hw : wnt x.body = x.body.n := if_pos o5
   have hpos : 0 < wnt x.body := by omega
   simp -implicitDefEqProofs (disch:=first|omega|simp only[nx4]<;>omega|fail) [a43l18, a43r4, a43r5, e0, e7, hlt', hlt, hxx]
   have hgx : ([fx.av][0]?).getD AV.any = fx.av := rfl
   refine go_pure h13 fun mm2 hm2 => ?_
   try simp only [nx4] at hm2
   simp -implicitDefEqProofs (disch:=first|omega|simp only[nx4]<;>omega|fail) [a43r6, e0, e7, hlt', hlt, hxx, a43r7, hpos, a43r8, hfx, hgx]
   have hcd : cde x.body = fx := by rw [cde, if_pos o5, hfx]; rfl
   obtain ⟨wn, hwn⟩ : ∃ wn : Nat, wnt x.body = wn := ⟨(wnt x.body).toNat, by omega⟩
   have hnl := (need_len (lookK (tbD p f)) fx (hwa fx hfm)).1
   have hsf := (small_arg hsm hfm).1
   simp only [C29, KR, rN] at h29
   rw [hwn]
   refine t43 p f i x hlt hpl hxx fx _ h29 (by omega) wn (by omega) (fun i => (need (lookK (tbD p f)) fx).isNone || decide ((wn : Int) - 1 - (i : Int) ∈ (need (lookK (tbD p f)) fx).getD [])) (fun _ => rfl) (stp p f) ?_ s S v L _ hwL hLl hL3 ht j5 hk hnx mm2 _ _ ?_ ?_ ?_ ?_ ?_ ?_ ?_ ?_ ?_ ?_
   ·rw [hst, knOf, hwn, hcd]
    generalize need (lookK (tbD p f)) fx = nd
    cases nd <;> rfl
   all_goals (try simp -implicitDefEqProofs (disch:=first|omega|simp only[nx4]<;>omega|fail) [e0, e5, e6, e7])
   all_goals (try omega)
   done
  ·have h29 := p29 p f hf x.body hwf hsm hrg hgi
   have hw : wnt x.body = 0 := if_neg o5
   simp -implicitDefEqProofs (disch:=first|omega|simp only[nx4]<;>omega|fail) [a43l18, a43r4, a43r5, e0, e7, hlt', hlt, hxx]
   refine go_pure h13 fun mm3 hm3 => ?_
   try simp only [nx4] at hm3
   simp -implicitDefEqProofs (disch:=first|omega|simp only[nx4]<;>omega|fail) [a43r6, e0, e7, hlt', hlt, hxx, a43r7, hw]
   have hcd : cde x.body = x.body := by rw [cde, if_neg o5]
   have hnl := (need_len (lookK (tbD p f)) x.body hwf).1
   have hsf := hsm.1
   simp only [C29, KR, rN] at h29
   refine t43 p f i x hlt hpl hxx x.body _ h29 (by omega) 0 (by omega) (fun i => (need (lookK (tbD p f)) x.body).isNone || decide (((0 : Nat) : Int) - 1 - (i : Int) ∈ (need (lookK (tbD p f)) x.body).getD [])) (fun _ => rfl) (stp p f) ?_ s S v L _ hwL hLl hL3 ht j5 hk hnx mm3 _ _ ?_ ?_ ?_ ?_ ?_ ?_ ?_ ?_ ?_ ?_
   ·rw [hst, knOf, hw, hcd]
    rfl
   all_goals (try simp -implicitDefEqProofs (disch:=first|omega|simp only[nx4]<;>omega|fail) [e0, e5, e6, e7])
   all_goals (try omega)
   done
 ·have hlt' : ¬ (i : Int) < p.length := by omega
  obtain rfl : i = p.length := by omega
  rw [List.take_length] at hwL
  have hwk := ht.wk hwL
  simp -implicitDefEqProofs (disch:=first|omega|simp only[nx4]<;>omega|fail) [a43l18, a43r4, e0, e7, hlt', a43r19, e6, hwk, hk]
theorem rt_0 {p : List Gl} (hp : GoodP p) : RT p tb0 := ⟨hp, goodT_0 hp, fun _ _ => rfl⟩
theorem RT.stp {p : List Gl} {f : Tb} (h : RT p f) : RT p (stp p f) := ⟨h.gp, goodT_stp h.gp f, fun _ _ => rfl⟩
theorem same_chgs {p : List Gl} {n : Nat} {f : Tb} {c : Nat} (h : Way p n f c) : sameT f (stp p f) p = !chgs p f p := by
 have key : ∀ g ∈ p, sameK (f g) (stp p f g) = !kch (stp p f g) (f g) := by
  intro g hg
  have h8 := h.good g hg
  cases hk : kch (stp p f g) (f g) with
  | false =>
   rw [kch_eq (h.desc g) (by omega) hk]
   simp [sameK]
  | true =>
   simp only [kch, Bool.or_eq_true, Bool.not_eq_true', decide_eq_false_iff_not] at hk
   simp only [Bool.not_true, sameK, Bool.and_eq_false_iff, decide_eq_false_iff_not]
   rcases hk with h | h
   ·exact .inl fun e => h e.symm
   ·exact .inr fun e => h (by simp [st8, e])
 have : ∀ l : List Gl, (∀ g ∈ l, g ∈ p) → (l.all fun g => sameK (f g) (stp p f g)) = !(l.any fun g => kch (stp p f g) (f g)) := by
  intro l
  induction l with
  | nil => intro _; rfl
  | cons a l ih =>
   intro hl
   rw [List.all_cons, List.any_cons, ih fun g hg => hl g (by simp [hg]), key a (hl a (by simp))]
   cases kch (stp p f a) (f a) <;> rfl
 exact this p fun _ h => h
def IA21 (p : List Gl) (s : St) (m : Nat) (g : Env) (s1 : St) : Prop :=
 ∃ (i : Nat) (v : AV) (L : List AV), i ≤ p.length ∧ m = p.length - i ∧ wkL L (dmL (p.take i) tb0) ∧ L.length = i ∧ (∀ x ∈ L, x.cells.length = 3) ∧ g.get 0 = .list 6 .none (p.map Gl.av) ∧ g.get 4 = v ∧ TokS s1 3 s.nx v L ∧ g.get 5 = .int .i64 i ∧ Kept s s1 ∧ s.nx ≤ s1.nx
def IB21 (p : List Gl) (n : ByteArray) (wn i : Nat) (v : AV) (b6 : Nat) (S0 : St) (m : Nat) (g : Env) (s1 : St) : Prop :=
 ∃ (j : Nat) (fv : AV), j ≤ wn ∧ m = wn - j ∧ TokS s1 1 (b6 + 1) fv ((List.replicate j true).map AV.bool) ∧ g.get 0 = .list 6 .none (p.map Gl.av) ∧ g.get 4 = v ∧ g.get 5 = .int .i64 i ∧ g.get 6 = .ptr b6 0 ∧ g.get 7 = .int .i64 j ∧
  s1.m b6 = some (.box [.str n, fv, .bool true]) ∧ Kept S0 s1 ∧ b6 < s1.nx
def IC21 (p : List Gl) (s : St) (m : Nat) (g : Env) (s1 : St) : Prop :=
 ∃ (f : Tb) (c : Nat) (v : AV), Way p m f c ∧ RT p f ∧ wk v (.list 3 .none (dmL p f)) ∧ g.get 0 = .list 6 .none (p.map Gl.av) ∧ g.get 4 = v ∧ g.get 8 = .int .i64 c ∧ Kept s s1 ∧ s.nx ≤ s1.nx
set_option maxHeartbeats 4000000 in
theorem p21 (p : List Gl) (hp : GoodP p) (hg : ∀ g ∈ p, Gin p g.body) : PureC Tryz.prog 21 [.list 6 .none (p.map Gl.av)] (.tup [.list 3 .none (dmL p (fin p).1), .int .i64 (fin p).2]) := by
 refine PureC.intro fun s => fun_sound mixed Tryz.func21 Tryz.call21 c21 rfl (awpFun_go _ _ _ _ ?_)
 have hpl := hp.few
 simp -implicitDefEqProofs (disch:=first|omega|simp only[nx4]<;>omega|fail) [a21, a21b, a21r0, a21r1, a21r2]
 refine go_loop (IA21 p s) p.length ⟨0, .list 0 .full [], [], by omega, by omega, by simp [dmL, wkL], rfl, by simp, ?_, ?_, .inl ⟨rfl, rfl⟩, ?_, ?_, ?_⟩ ?_
 iterate 5 (simp -implicitDefEqProofs (disch:=first|omega|simp only[nx4]<;>omega|fail))
 rintro m g S ⟨i, v, L, hi, rfl, hwL, hLl, hL3, e0, e4, ht, e5, hk, hnx⟩
 by_cases hlt : i < p.length
 ·have hlt' : (i : Int) < p.length := by omega
  have w3 := wrapS (i := i) (by omega)
  have hmem := List.getElem_mem hlt
  have htk := dmL_take (f := tb0) hlt
  have hwf := hp.wf _ hmem
  have h13 := p13 p[i]
  generalize hxx : p[i] = x at htk hwf h13
  have hwb := wnt_bnd hwf
  obtain ⟨wn, hwn⟩ : ∃ wn : Nat, wnt x.body = wn := ⟨(wnt x.body).toNat, by omega⟩
  rw [hwn] at h13
  simp -implicitDefEqProofs (disch:=first|omega|simp only[nx4]<;>omega|fail) [a21l12, a21r3, a21r4, e0, e5, hlt', hlt, hxx, a21r5]
  refine go_loop (IB21 p x.name wn i v S.nx S) wn ?h0 ?_
  case h0 =>
   refine ⟨0, .list 0 .full [], by omega, by omega, .inl ⟨rfl, rfl⟩, ?_, ?_, ?_, ?_, ?_, ?_, ?_, ?_⟩
   all_goals (try simp -implicitDefEqProofs (disch:=first|omega|simp only[nx4]<;>omega|fail) [e0, e4, e5])
   all_goals (try omega)
  have hb6 : S.nx ≤ S.nx := by omega
  generalize hS0 : S = S0 at hk hnx ht hb6
  have hb6' : S0.nx = S.nx := by rw [hS0]
  generalize S.nx = b6 at hb6 hb6'
  clear e0 e4 e5 hS0
  rintro k g S1 ⟨j, fv, hj, rfl, htf, e0, e4, e5, e6, e7, j6, hS, hn⟩
  by_cases hjl : j < wn
  ·have hjl' : (j : Int) < wn := by omega
   have w4 := wrapS (i := j) (by omega)
   have hrj : (List.replicate (j + 1) true).map AV.bool = (List.replicate j true).map AV.bool ++ [.bool true] := by rw [List.replicate_succ']; simp
   simp -implicitDefEqProofs (disch:=first|omega|simp only[nx4]<;>omega|fail) [a21l9, a21r6, e0, e5, e7, hlt', hlt, hxx]
   refine go_pure h13 fun mm1 hm1 => ?_
   try simp only [nx4] at hm1
   simp -implicitDefEqProofs (disch:=first|omega|simp only[nx4]<;>omega|fail) [hjl', hjl, a21r7, e6, j6]
   refine ap_tok (s := S1.bump mm1) (htf.move (by simp -implicitDefEqProofs (disch:=first|omega|simp only[nx4]<;>omega|fail); omega) fun q _ _ _ => rfl) (by simp; omega) (by simp; omega) (by simp -implicitDefEqProofs (disch:=first|omega|simp only[nx4]<;>omega|fail); omega) fun v' s' ht' hn' hk' => ?_
   simp -implicitDefEqProofs (disch:=first|omega|simp only[nx4]<;>omega|fail) at hn'
   have q6 : s'.m S0.nx = some (.box [.str x.name, fv, .bool true]) := (hk' _ (by simp -implicitDefEqProofs (disch:=first|omega|simp only[nx4]<;>omega|fail); omega) (.inl (by omega))).trans (by simp -implicitDefEqProofs (disch:=first|omega|simp only[nx4]<;>omega|fail) [j6])
   have qS : Kept S0 s' := fun q hq => (hk' q (by simp -implicitDefEqProofs (disch:=first|omega|simp only[nx4]<;>omega|fail); omega) (.inl (by omega))).trans (by simp -implicitDefEqProofs (disch:=first|omega|simp only[nx4]<;>omega|fail) [hS q hq])
   rw [← hrj] at ht'
   obtain ⟨tv1, tv2⟩ := ht'.val
   simp -implicitDefEqProofs (disch:=first|omega|simp only[nx4]<;>omega|fail) [e6, q6, a21r8, e7, w4, tv1, tv2]
   refine go_next (wn - (j + 1)) (by omega) ⟨j + 1, v', by omega, rfl, ht'.move (by simp -implicitDefEqProofs (disch:=first|omega|simp only[nx4]<;>omega|fail)) (fun q hq _ _ => by simp -implicitDefEqProofs (disch:=first|omega|simp only[nx4]<;>omega|fail)), ?_, ?_, ?_, ?_, ?_, ?_, ?_, ?_⟩
   all_goals (try simp -implicitDefEqProofs (disch:=first|omega|simp only[nx4]<;>omega|fail) [e0, e4, e5, e6, qS])
   all_goals (try omega)
  ·have hjl' : ¬ (j : Int) < wn := by omega
   obtain rfl : j = wn := by omega
   simp -implicitDefEqProofs (disch:=first|omega|simp only[nx4]<;>omega|fail) [a21l9, a21r6, e0, e5, e7, hlt', hlt, hxx]
   refine go_pure h13 fun mm2 hm2 => ?_
   try simp only [nx4] at hm2
   simp -implicitDefEqProofs (disch:=first|omega|simp only[nx4]<;>omega|fail) [hjl', a21r10, e4, e6, j6]
   refine ap_tok (s := S1.bump mm2) (ht.move (by simp -implicitDefEqProofs (disch:=first|omega|simp only[nx4]<;>omega|fail); omega) fun q _ hq _ => by simp -implicitDefEqProofs (disch:=first|omega|simp only[nx4]<;>omega|fail) [hS q hq]) (by simp [hLl]; omega) (by simp [hLl]; omega) (by simp -implicitDefEqProofs (disch:=first|omega|simp only[nx4]<;>omega|fail); omega) fun v' s' ht' hn' hk' => ?_
   simp -implicitDefEqProofs (disch:=first|omega|simp only[nx4]<;>omega|fail) at hn'
   have rk : Kept s s' := fun q hq => (hk' q (by simp -implicitDefEqProofs (disch:=first|omega|simp only[nx4]<;>omega|fail); omega) (.inl (by omega))).trans (by simp -implicitDefEqProofs (disch:=first|omega|simp only[nx4]<;>omega|fail) [hS q (by omega), hk q hq])
   have hrow : wkL (L ++ [AV.agg [AV.str x.name, fv, AV.bool true]]) (dmL (p.take (i + 1)) tb0) := by
    rw [htk]
    refine wkL_snoc hwL ?_
    have h1 := htf.wk (ys := (List.replicate j true).map AV.bool) (by simp)
    have h2 : tb0 x = ⟨j, List.replicate j true, true⟩ := by rw [tb0, top, hwn]; rfl
    rw [dm, h2]
    simp only [wk_agg, wkL]
    exact ⟨by simp, h1, by simp, trivial⟩
   simp -implicitDefEqProofs (disch:=first|omega|simp only[nx4]<;>omega|fail) [a21r11, e5, w3]
   refine go_next (p.length - (i + 1)) (by omega) ⟨i + 1, v', L ++ [AV.agg [AV.str x.name, fv, AV.bool true]], by omega, rfl, hrow, by simp [hLl], ?_, ?_, ?_, ht', ?_, ?_, ?_⟩
   ·intro y hy
    rcases List.mem_append.1 hy with h | h
    ·exact hL3 y h
    ·simp at h; subst h; rfl
   all_goals (try simp -implicitDefEqProofs (disch:=first|omega|simp only[nx4]<;>omega|fail) [e0, rk])
   all_goals (try omega)
 ·have hlt' : ¬ (i : Int) < p.length := by omega
  obtain rfl : i = p.length := by omega
  rw [List.take_length] at hwL
  have hwk := ht.wk hwL
  simp -implicitDefEqProofs (disch:=first|omega|simp only[nx4]<;>omega|fail) [a21l12, a21r3, e0, e5, hlt', a21r13]
  refine go_loop (IC21 p s) (ms p tb0 + 1) ?h1 ?_
  case h1 =>
   refine ⟨tb0, 1, v, way_0 hp, rt_0 hp, hwk, ?_, ?_, ?_, ?_, ?_⟩
   all_goals (try simp -implicitDefEqProofs (disch:=first|omega|simp only[nx4]<;>omega|fail) [e0, e4, hk])
   all_goals (try omega)
  clear e0 e4 e5 hk hnx hwk ht hwL
  rintro m g S ⟨f, c, v, hway, hrt, hwk, e0, e4, e8, hk, hnx⟩
  have h43 := (p43 p f hrt hg).argw (args := [.list 6 .none (p.map Gl.av), v]) (by simp [wkL, hwk])
  have h22 := (p22 p f (stp p f) hpl (fun g hg => by have := hway.good g hg; omega) (fun g hg => by have := goodT_stp hp f g hg; omega)).argw (args := [v, .list 3 .none (dmL p (stp p f))]) (by simp [wkL, hwk])
  rw [same_chgs hway] at h22
  simp -implicitDefEqProofs (disch:=first|omega|simp only[nx4]<;>omega|fail) [a21l19, a21r14, e0, e4]
  refine go_pure h43 fun mm3 hm3 => ?_
  try simp only [nx4] at hm3
  simp -implicitDefEqProofs (disch:=first|omega|simp only[nx4]<;>omega|fail) [a21r15, e4]
  cases hc : chgs p f p with
  | true =>
   rw [hc] at h22
   obtain ⟨n', rfl, hw'⟩ := hway.go hp hc
   have hcb := hw'.bnd
   have w3 := wrapS (i := c) (by omega)
   refine go_pure h22 fun mm4 hm4 => ?_
   try simp only [nx4] at hm4
   simp -implicitDefEqProofs (disch:=first|omega|simp only[nx4]<;>omega|fail) [a21r17, a21r18, e8, w3]
   refine go_next n' (by omega) ⟨stp p f, c + 1, _, hw', hrt.stp, wk_refl _, ?_, ?_, ?_, ?_, ?_⟩
   all_goals (try simp -implicitDefEqProofs (disch:=first|omega|simp only[nx4]<;>omega|fail) [e0, hk])
   all_goals (try omega)
   done
  | false =>
   rw [hc] at h22
   obtain ⟨d1, d2⟩ := hway.done hc
   rw [d1]
   refine go_pure h22 fun mm5 hm5 => ?_
   try simp only [nx4] at hm5
   simp -implicitDefEqProofs (disch:=first|omega|simp only[nx4]<;>omega|fail) [a21r16, e4, e8, hwk, hk]
   done
def nH : ByteArray := ⟨#[104]⟩
def nK : ByteArray := ⟨#[107]⟩
def e0 : ByteArray := ⟨#[]⟩
def hC : Pl := .mk 6 0 e0 [.mk 2 0 nH [] [], .mk 1 0 e0 [] []] []
def hB : Pl := .mk 5 1 e0 [hC] []
def kC : Pl := .mk 8 0 e0 [.mk 1 0 e0 [] []] [(⟨3, e0, 1⟩, .mk 1 2 e0 [] []), (⟨1, e0, 0⟩, .mk 3 0 e0 [] [])]
def kB : Pl := .mk 5 2 e0 [kC] []
def smp : List Gl := [⟨nH, hB⟩, ⟨nK, kB⟩]
set_option maxHeartbeats 4000000 in
theorem p35 : PureC Tryz.prog 35 [] (.list 6 .none (smp.map Gl.av)) := by
 refine PureC.intro fun s => fun_sound mixed Tryz.func35 Tryz.call35 c35 rfl (awpFun_go _ _ _ _ ?_)
 simp -implicitDefEqProofs (disch:=first|omega|simp only[nx4]<;>omega|fail) [a35, a35b, a35r0, a35r1, a35r2, a35r3, a35r4, fillAV]
 simp [smp, Gl.av, Pl.av, Pl.avs, Pl.avAlts, hB, hC, kB, kC, nH, nK, e0, wkL, Pl.altv]
theorem wf_h : wf hB = true := by kernel_rfl
theorem wf_k : wf kB = true := by kernel_rfl
theorem nm_h : nm nH = true := by kernel_rfl
theorem nm_k : nm nK = true := by kernel_rfl
theorem fv_h : fv hB 0 = [] := by kernel_rfl
theorem fv_k : fv kB 0 = [] := by kernel_rfl
theorem pre_h : pre hB = [hB, hC, .mk 2 0 nH [] [], .mk 1 0 e0 [] []] := rfl
theorem pre_k : pre kB = [kB, kC, .mk 1 0 e0 [] [], .mk 1 2 e0 [] [], .mk 3 0 e0 [] []] := rfl
theorem mem_bs {x : List UInt8} {b : ByteArray} (h : b.data.toList = x) : ba x = b := by subst h; rfl
theorem clo_h : clo (nms smp) hB = true := by
 rw [clo, fv_h, Bool.and_eq_true]
 refine ⟨rfl, List.all_eq_true.2 fun x hx => ?_⟩
 obtain ⟨e, he, ho, hs⟩ := mem_gls.1 hx
 rw [pre_h] at he
 rw [mem_bs hs]
 simp only [List.mem_cons, List.not_mem_nil, or_false] at he
 rcases he with rfl | rfl | rfl | rfl
 ·exact absurd ho (by decide)
 ·exact absurd ho (by decide)
 ·simp [nms, smp]
 ·exact absurd ho (by decide)
theorem clo_k : clo (nms smp) kB = true := by
 rw [clo, fv_k, Bool.and_eq_true]
 refine ⟨rfl, List.all_eq_true.2 fun x hx => ?_⟩
 obtain ⟨e, he, ho, hs⟩ := mem_gls.1 hx
 rw [pre_k] at he
 simp only [List.mem_cons, List.not_mem_nil, or_false] at he
 rcases he with rfl | rfl | rfl | rfl | rfl <;> exact absurd ho (by decide)
theorem isP_smp : isP smp = true := by
 have h : namesOK [] smp = true := by simp [namesOK, smp, wf_h, wf_k, nm_h, nm_k, show ¬ nK = nH from by decide]
 rw [isP, h]
 simp [smp, show clo (nms smp) hB = true from clo_h, show clo (nms smp) kB = true from clo_k]
 exact ⟨clo_h, clo_k⟩
theorem few_smp : Few smp := by
 refine ⟨by decide, fun g hg => ?_⟩
 simp only [smp, List.mem_cons, List.not_mem_nil, or_false] at hg
 rcases hg with rfl | rfl
 ·exact ⟨⟨by decide, by decide⟩, by simp [hB, hC, rng, rngs, rnga, i64]⟩
 ·exact ⟨⟨by decide, by decide⟩, by simp [kB, kC, rng, rngs, rnga, i64]⟩
theorem need_hC (K : ByteArray → Kn) (h1 : (K nH).w = 1) (h2 : (K nH).fails = true) : need K hC = none := by
 rw [need_app (t := hC) rfl (f := .mk 2 0 nH [] []) (l := [.mk 1 0 e0 [] []]) rfl]
 simp [h1, h2]
theorem need_kC (K : ByteArray → Kn) : need K kC = some [0] := by
 rw [need_cas (t := kC) rfl (x := .mk 1 0 e0 [] []) rfl, need_var rfl]
 simp [kC, need_var (K := K) (t := .mk 1 2 e0 [] []) rfl, need_made (K := K) (t := .mk 3 0 e0 [] []) (.inl rfl)]
 decide
theorem knOf_h (K : ByteArray → Kn) (h1 : (K nH).w = 1) (h2 : (K nH).fails = true) : knOf K hB = ⟨1, [true], true⟩ := by
 have e : need K (cde hB) = none := need_hC K h1 h2
 have e2 : wnt hB = 1 := rfl
 rw [knOf, e, e2]; rfl
theorem knOf_k (K : ByteArray → Kn) : knOf K kB = ⟨2, [false, true], false⟩ := by
 have e : need K (cde kB) = some [0] := need_kC K
 have e2 : wnt kB = 2 := rfl
 rw [knOf, e, e2]; rfl
noncomputable def fS : Tb := stp smp tb0
def gH : Gl := ⟨nH, hB⟩
def gK : Gl := ⟨nK, kB⟩
theorem smp_eq : smp = [gH, gK] := rfl
theorem gp_smp : GoodP smp := goodP few_smp isP_smp
theorem stp_h (f : Tb) (h1 : (f gH).w = 1) (h2 : (f gH).fails = true) : stp smp f gH = ⟨1, [true], true⟩ := by
 have e := lookK_tb (f := f) gp_smp.nd gH (by rw [smp_eq]; simp)
 exact knOf_h _ (by rw [show nH = gH.name from rfl, e]; exact h1) (by rw [show nH = gH.name from rfl, e]; exact h2)
theorem stp_k (f : Tb) : stp smp f gK = ⟨2, [false, true], false⟩ := knOf_k _
theorem tb0_h : tb0 gH = ⟨1, [true], true⟩ := rfl
theorem tb0_k : tb0 gK = ⟨2, [true, true], true⟩ := rfl
theorem fS_h : fS gH = ⟨1, [true], true⟩ := stp_h _ rfl rfl
theorem fS_k : fS gK = ⟨2, [false, true], false⟩ := stp_k _
theorem fin_smp : fin smp = (fS, 2) := by
 have h1 : chgs smp tb0 smp = true := by
  rw [chgs, smp_eq, List.any_cons, List.any_cons, ← smp_eq, stp_k, tb0_k]
  have : kch ⟨2, [false, true], false⟩ ⟨2, [true, true], true⟩ = true := by decide
  rw [this]; simp
 obtain ⟨n', _, hw⟩ := (way_0 gp_smp).go gp_smp h1
 have h2 : chgs smp fS smp = false := by
  rw [chgs, smp_eq, List.any_cons, List.any_cons, ← smp_eq, stp_k, fS_k, stp_h fS (by rw [fS_h]) (by rw [fS_h]), fS_h, kch_same, kch_same]
  rfl
 exact (hw.done h2).1
theorem resP_smp : resP smp = [dm nH ⟨1, [true], true⟩, dm nK ⟨2, [false, true], false⟩] := by
 rw [resP, if_pos isP_smp, fin_smp]
 show dmL smp fS = _
 rw [smp_eq, dmL, List.map_cons, List.map_cons, List.map_nil, fS_h, fS_k]
 rfl
theorem findI_k : findI smp nK = 1 := by kernel_rfl
theorem findI_x : findI smp ⟨#[120]⟩ = -1 := by kernel_rfl
theorem want_k : (((smp[1]?).map (fin smp).1).getD Kn.zero) = ⟨2, [false, true], false⟩ := by
 rw [fin_smp]
 show fS gK = _
 exact fS_k
theorem strP_1 : strP smp nK 1 = (true, 0) := by
 rw [strP, if_neg (by rw [isP_smp]; simp), findI_k, if_neg (by omega)]
 rw [show ((1 : Int).toNat) = 1 from rfl, want_k]
 decide
theorem strP_2 : strP smp nK 2 = (false, 2) := by
 rw [strP, if_neg (by rw [isP_smp]; simp), findI_k, if_neg (by omega)]
 rw [show ((1 : Int).toNat) = 1 from rfl, want_k]
 decide
theorem strP_x : strP smp ⟨#[120]⟩ 0 = (false, 6) := by
 rw [strP, if_neg (by rw [isP_smp]; simp), findI_x, if_pos (by omega)]
set_option maxHeartbeats 4000000 in
theorem p10 : PureC Tryz.prog 10 [] (.bool true) := by
 refine PureC.intro fun s => fun_sound mixed Tryz.func10 Tryz.call10 c10 rfl (awpFun_go _ _ _ _ ?_)
 have h11 := p11 smp few_smp
 rw [resP_smp, errP, if_pos isP_smp] at h11
 have h1 := p20 smp few_smp nK 1
 have h2 := p20 smp few_smp nK 2
 have h3 := p20 smp few_smp ⟨#[120]⟩ 0
 rw [strP_1] at h1
 rw [strP_2] at h2
 rw [strP_x] at h3
 simp only [nK, nH, dm, List.map_cons, List.map_nil] at h1 h2 h11
 have hc0 : ∀ (a : AV) (l : List AV), ((a :: l)[0]?).getD AV.any = a := fun _ _ => rfl
 have hc1 : ∀ (a b : AV) (l : List AV), ((a :: b :: l)[1]?).getD AV.any = b := fun _ _ _ => rfl
 simp -implicitDefEqProofs (disch:=first|omega|simp only[nx4]<;>omega|fail) [a10, a10b, a10r0, a10r1]
 refine go_pure p35 fun mm1 hm1 => ?_
 try simp only [nx4] at hm1
 simp -implicitDefEqProofs (disch:=first|omega|simp only[nx4]<;>omega|fail) []
 refine go_pure h11 fun mm2 hm2 => ?_
 try simp only [nx4] at hm2
 simp -implicitDefEqProofs (disch:=first|omega|simp only[nx4]<;>omega|fail) [a10r2]
 refine go_pure p35 fun mm3 hm3 => ?_
 try simp only [nx4] at hm3
 simp -implicitDefEqProofs (disch:=first|omega|simp only[nx4]<;>omega|fail) []
 refine go_pure h1 fun mm4 hm4 => ?_
 try simp only [nx4] at hm4
 simp -implicitDefEqProofs (disch:=first|omega|simp only[nx4]<;>omega|fail) [a10r3]
 refine go_pure p35 fun mm5 hm5 => ?_
 try simp only [nx4] at hm5
 simp -implicitDefEqProofs (disch:=first|omega|simp only[nx4]<;>omega|fail) []
 refine go_pure h2 fun mm6 hm6 => ?_
 try simp only [nx4] at hm6
 simp -implicitDefEqProofs (disch:=first|omega|simp only[nx4]<;>omega|fail) [a10r4]
 refine go_pure p35 fun mm7 hm7 => ?_
 try simp only [nx4] at hm7
 simp -implicitDefEqProofs (disch:=first|omega|simp only[nx4]<;>omega|fail) []
 refine go_pure h3 fun mm8 hm8 => ?_
 try simp only [nx4] at hm8
 simp -implicitDefEqProofs (disch:=first|omega|simp only[nx4]<;>omega|fail) [a10r5, a10r6, a10r7, hc0, hc1]
 done
theorem gin_of {p : List Gl} (h : isP p = true) : ∀ g ∈ p, Gin p g.body := by
 intro g hg e he ho
 simp only [isP, Bool.and_eq_true, decide_eq_true_eq, List.all_eq_true] at h
 have hc := h.2.2 g hg
 simp only [clo, Bool.and_eq_true, decide_eq_true_eq, List.all_eq_true] at hc
 have hm : e.s.data.toList ∈ gls g.body := mem_gls.2 ⟨e, he, ho, rfl⟩
 have := hc.2 _ hm
 rw [mem_bs rfl] at this
 simpa using this
theorem sameT_refl (f : Tb) (p : List Gl) : sameT f f p = true := by simp [sameT, sameK]
theorem wgs_few (most : Int) (hm : 0 ≤ most) : ∀ (p : List Gl) (n : Int), 0 ≤ n → wgs p most n ≤ most → n ≤ most ∧ ∀ g ∈ p, wt g.body most 100 ≤ most
 | [], n, hn, h => by simpa [wgs] using h
 | g :: p, n, hn, h => by
  rw [wgs] at h
  split at h
  ·rename_i hle
   have hb := wt_bound g.body most 100 hm (by omega)
   obtain ⟨h1, h2⟩ := wgs_few most hm p _ (by omega) h
   refine ⟨hle, fun x hx => ?_⟩
   rcases List.mem_cons.1 hx with rfl | hx
   ·omega
   ·exact h2 x hx
  ·omega
theorem few_of {p : List Gl} {t : Pl} (h : fewD p t = true) (hr : ∀ g ∈ p, rng g.body) : Few p := by
 simp only [fewD, Bool.and_eq_true, decide_eq_true_eq] at h
 obtain ⟨h1, h2⟩ := wgs_few 3000 (by omega) p p.length (by omega) h.1
 refine ⟨by omega, fun g hg => ⟨?_, hr g hg⟩⟩
 have h3 := h2 g hg
 obtain ⟨h4, h5⟩ := wt_spec g.body 3000 100 (by omega) (by omega) h3
 exact ⟨by omega, by omega⟩
set_option maxHeartbeats 4000000 in
theorem p4 (p : List Gl) (n : ByteArray) (i : Int) (hr : ∀ g ∈ p, rng g.body) : PureC Tryz.prog 4 [.list 6 .none (p.map Gl.av), .str n, .int .i64 i] (.bool true) := by
 refine PureC.intro fun s => fun_sound mixed Tryz.func4 Tryz.call4 c4 rfl (awpFun_go _ _ _ _ ?_)
 have h8 := p8 p (.mk 0 0 ⟨#[]⟩ [] [])
 have hz : (Pl.mk 0 0 ⟨#[]⟩ [] []).av = AV.agg [.int .i64 0, .int .i64 0, .str ⟨#[]⟩, .list 5 .none [], .list 8 .none []] := by simp [Pl.av, Pl.avs, Pl.avAlts]
 rw [hz] at h8
 replace h8 := h8.argw (args := [.list 6 .none (p.map Gl.av), .agg [.int .i64 0, .int .i64 0, .str ⟨#[]⟩, .list 0 .full [], .list 0 .full []]]) (by simp [wkL])
 have h10 := p10
 cases hfw : fewD p (.mk 0 0 ⟨#[]⟩ [] []) with
 | false =>
  rw [hfw] at h8
  simp -implicitDefEqProofs (disch:=first|omega|simp only[nx4]<;>omega|fail) [a4, a4b, a4r0, a4r1, fillAV]
  refine go_pure h8 fun mm1 hm1 => ?_
  try simp only [nx4] at hm1
  simp -implicitDefEqProofs (disch:=first|omega|simp only[nx4]<;>omega|fail) [a4r2]
  refine go_pure h10 fun mm2 hm2 => ?_
  try simp only [nx4] at hm2
  simp -implicitDefEqProofs (disch:=first|omega|simp only[nx4]<;>omega|fail) []
  done
 | true =>
  rw [hfw] at h8
  have hp := few_of hfw hr
  have h11 := p11 p hp
  have h19 := p19 p hp
  have h20 := p20 p hp n i
  have h9 := p9 p hp
  cases hi : isP p with
  | false =>
   rw [hi] at h9
   have e1 : resP p = [] := by rw [resP, if_neg (by rw [hi]; simp)]
   have e2 : errP p = 40 := by rw [errP, if_neg (by rw [hi]; simp)]
   have e3 : rndP p = 0 := by rw [rndP, if_neg (by rw [hi]; simp)]
   have e4 : strP p n i = (false, 40) := by rw [strP, if_pos hi]
   rw [e1, e2] at h11
   rw [e2, e3] at h19
   rw [e4] at h20
   simp -implicitDefEqProofs (disch:=first|omega|simp only[nx4]<;>omega|fail) [a4, a4b, a4r0, a4r1, fillAV]
   refine go_pure h8 fun mm3 hm3 => ?_
   try simp only [nx4] at hm3
   simp -implicitDefEqProofs (disch:=first|omega|simp only[nx4]<;>omega|fail) [a4r3]
   refine go_pure h11 fun mm4 hm4 => ?_
   try simp only [nx4] at hm4
   simp -implicitDefEqProofs (disch:=first|omega|simp only[nx4]<;>omega|fail) [a4r4]
   refine go_pure h19 fun mm5 hm5 => ?_
   try simp only [nx4] at hm5
   simp -implicitDefEqProofs (disch:=first|omega|simp only[nx4]<;>omega|fail) [a4r5]
   refine go_pure h20 fun mm6 hm6 => ?_
   try simp only [nx4] at hm6
   simp -implicitDefEqProofs (disch:=first|omega|simp only[nx4]<;>omega|fail) [a4r6]
   refine go_pure h9 fun mm7 hm7 => ?_
   try simp only [nx4] at hm7
   simp -implicitDefEqProofs (disch:=first|omega|simp only[nx4]<;>omega|fail) [a4r7]
   refine go_pure h10 fun mm8 hm8 => ?_
   try simp only [nx4] at hm8
   simp -implicitDefEqProofs (disch:=first|omega|simp only[nx4]<;>omega|fail) []
   done
  | true =>
   rw [hi] at h9
   have hgp := goodP hp hi
   have hpl := hgp.few
   have h21 := p21 p hgp (gin_of hi)
   have h23 := p23 p n (by omega)
   obtain ⟨n0, hway, _⟩ := fin_way hgp
   have hgood := hway.good
   have h22 := p22 p (fin p).1 (fin p).1 hpl (fun g hg => by have := hgood g hg; omega) (fun g hg => by have := hgood g hg; omega)
   rw [sameT_refl] at h22
   have e1 : resP p = dmL p (fin p).1 := by rw [resP, if_pos hi]
   have e2 : errP p = 0 := by rw [errP, if_pos hi]
   have e3 : rndP p = (fin p).2 := by rw [rndP, if_pos hi]
   rw [e1, e2] at h11
   rw [e2, e3] at h19
   have hs : strP p n i = if findI p n < 0 then (false, 6) else if i < 0 ∨ ((((p[(findI p n).toNat]?).map (fin p).1).getD Kn.zero).st.length : Int) ≤ i then (false, 2) else ((((p[(findI p n).toNat]?).map (fin p).1).getD Kn.zero).st.getD i.toNat false, 0) := by
    rw [strP, if_neg (by rw [hi]; simp)]
   by_cases hneg : findI p n < 0
   ·rw [if_pos hneg] at hs
    rw [hs] at h20
    simp -implicitDefEqProofs (disch:=first|omega|simp only[nx4]<;>omega|fail) [a4, a4b, a4r0, a4r1, fillAV]
    refine go_pure h8 fun mm9 hm9 => ?_
    try simp only [nx4] at hm9
    simp -implicitDefEqProofs (disch:=first|omega|simp only[nx4]<;>omega|fail) [a4r3]
    refine go_pure h11 fun mm10 hm10 => ?_
    try simp only [nx4] at hm10
    simp -implicitDefEqProofs (disch:=first|omega|simp only[nx4]<;>omega|fail) [a4r4]
    refine go_pure h19 fun mm11 hm11 => ?_
    try simp only [nx4] at hm11
    simp -implicitDefEqProofs (disch:=first|omega|simp only[nx4]<;>omega|fail) [a4r5]
    refine go_pure h20 fun mm12 hm12 => ?_
    try simp only [nx4] at hm12
    simp -implicitDefEqProofs (disch:=first|omega|simp only[nx4]<;>omega|fail) [a4r6]
    refine go_pure h9 fun mm13 hm13 => ?_
    try simp only [nx4] at hm13
    simp -implicitDefEqProofs (disch:=first|omega|simp only[nx4]<;>omega|fail) [a4r8]
    refine go_pure h21 fun mm14 hm14 => ?_
    try simp only [nx4] at hm14
    simp -implicitDefEqProofs (disch:=first|omega|simp only[nx4]<;>omega|fail) [a4r9]
    refine go_pure h22 fun mm15 hm15 => ?_
    try simp only [nx4] at hm15
    simp -implicitDefEqProofs (disch:=first|omega|simp only[nx4]<;>omega|fail) [a4r11]
    refine go_pure h23 fun mm16 hm16 => ?_
    try simp only [nx4] at hm16
    simp -implicitDefEqProofs (disch:=first|omega|simp only[nx4]<;>omega|fail) [a4r12, hneg, a4r13]
    refine go_pure h10 fun mm17 hm17 => ?_
    try simp only [nx4] at hm17
    simp -implicitDefEqProofs (disch:=first|omega|simp only[nx4]<;>omega|fail) []
    done
   ·rw [if_neg hneg] at hs
    obtain ⟨j, hj, hjl⟩ := findI_some hneg
    have hjl' : (j : Int) < p.length := by omega
    have hneg' : ¬ (j : Int) < 0 := by omega
    have hdl : (dmL p (fin p).1).length = p.length := dmL_len
    have hdg := dmL_get (f := (fin p).1) hjl
    rw [hj] at hs h23
    rw [show ((j : Int)).toNat = j from rfl, List.getElem?_eq_getElem hjl, Option.map_some, Option.getD_some] at hs
    generalize (fin p).1 p[j] = k at hdg hs
    by_cases hout : i < 0 ∨ (k.st.length : Int) ≤ i
    ·rw [if_pos hout] at hs
     rw [hs] at h20
     simp -implicitDefEqProofs (disch:=first|omega|simp only[nx4]<;>omega|fail) [a4, a4b, a4r0, a4r1, fillAV]
     refine go_pure h8 fun mm18 hm18 => ?_
     try simp only [nx4] at hm18
     simp -implicitDefEqProofs (disch:=first|omega|simp only[nx4]<;>omega|fail) [a4r3]
     refine go_pure h11 fun mm19 hm19 => ?_
     try simp only [nx4] at hm19
     simp -implicitDefEqProofs (disch:=first|omega|simp only[nx4]<;>omega|fail) [a4r4]
     refine go_pure h19 fun mm20 hm20 => ?_
     try simp only [nx4] at hm20
     simp -implicitDefEqProofs (disch:=first|omega|simp only[nx4]<;>omega|fail) [a4r5]
     refine go_pure h20 fun mm21 hm21 => ?_
     try simp only [nx4] at hm21
     simp -implicitDefEqProofs (disch:=first|omega|simp only[nx4]<;>omega|fail) [a4r6]
     refine go_pure h9 fun mm22 hm22 => ?_
     try simp only [nx4] at hm22
     simp -implicitDefEqProofs (disch:=first|omega|simp only[nx4]<;>omega|fail) [a4r8]
     refine go_pure h21 fun mm23 hm23 => ?_
     try simp only [nx4] at hm23
     simp -implicitDefEqProofs (disch:=first|omega|simp only[nx4]<;>omega|fail) [a4r9]
     refine go_pure h22 fun mm24 hm24 => ?_
     try simp only [nx4] at hm24
     simp -implicitDefEqProofs (disch:=first|omega|simp only[nx4]<;>omega|fail) [a4r11]
     refine go_pure h23 fun mm25 hm25 => ?_
     try simp only [nx4] at hm25
     simp -implicitDefEqProofs (disch:=first|omega|simp only[nx4]<;>omega|fail) [a4r12, hneg']
     by_cases h0 : i < 0
     ·simp -implicitDefEqProofs (disch:=first|omega|simp only[nx4]<;>omega|fail) [a4r14, h0, a4r15]
      refine go_pure h10 fun mm26 hm26 => ?_
      try simp only [nx4] at hm26
      simp -implicitDefEqProofs (disch:=first|omega|simp only[nx4]<;>omega|fail) []
      done
     ·have h1 : (k.st.length : Int) ≤ i := by omega
      simp -implicitDefEqProofs (disch:=first|omega|simp only[nx4]<;>omega|fail) [a4r14, h0, hdl, hdg, hjl, hjl', h1, a4r15]
      refine go_pure h10 fun mm27 hm27 => ?_
      try simp only [nx4] at hm27
      simp -implicitDefEqProofs (disch:=first|omega|simp only[nx4]<;>omega|fail) []
      done
    ·rw [if_neg hout] at hs
     obtain ⟨m, rfl⟩ : ∃ m : Nat, i = m := ⟨i.toNat, by omega⟩
     have h2 : m < k.st.length := by omega
     have h2' : (m : Int) < k.st.length := by omega
     have h1' : ¬ k.st.length ≤ m := by omega
     have hm0 : ¬ (m : Int) < 0 := by omega
     rw [show ((m : Int)).toNat = m from rfl, show k.st.getD m false = k.st[m] by simp [h2]] at hs
     rw [hs] at h20
     cases hbb : k.st[m]
     all_goals
      rw [hbb] at h20
      simp -implicitDefEqProofs (disch:=first|omega|simp only[nx4]<;>omega|fail) [a4, a4b, a4r0, a4r1, fillAV]
      refine go_pure h8 fun mm28 hm28 => ?_
      try simp only [nx4] at hm28
      simp -implicitDefEqProofs (disch:=first|omega|simp only[nx4]<;>omega|fail) [a4r3]
      refine go_pure h11 fun mm29 hm29 => ?_
      try simp only [nx4] at hm29
      simp -implicitDefEqProofs (disch:=first|omega|simp only[nx4]<;>omega|fail) [a4r4]
      refine go_pure h19 fun mm30 hm30 => ?_
      try simp only [nx4] at hm30
      simp -implicitDefEqProofs (disch:=first|omega|simp only[nx4]<;>omega|fail) [a4r5]
      refine go_pure h20 fun mm31 hm31 => ?_
      try simp only [nx4] at hm31
      simp -implicitDefEqProofs (disch:=first|omega|simp only[nx4]<;>omega|fail) [a4r6]
      refine go_pure h9 fun mm32 hm32 => ?_
      try simp only [nx4] at hm32
      simp -implicitDefEqProofs (disch:=first|omega|simp only[nx4]<;>omega|fail) [a4r8]
      refine go_pure h21 fun mm33 hm33 => ?_
      try simp only [nx4] at hm33
      simp -implicitDefEqProofs (disch:=first|omega|simp only[nx4]<;>omega|fail) [a4r9]
      refine go_pure h22 fun mm34 hm34 => ?_
      try simp only [nx4] at hm34
      simp -implicitDefEqProofs (disch:=first|omega|simp only[nx4]<;>omega|fail) [a4r11]
      refine go_pure h23 fun mm35 hm35 => ?_
      try simp only [nx4] at hm35
      simp -implicitDefEqProofs (disch:=first|omega|simp only[nx4]<;>omega|fail) [a4r12, hneg', a4r14, hdl, hdg, hjl, hjl', h1', hm0, a4r16, h2, h2', hbb]
      refine go_pure h10 fun mm36 hm36 => ?_
      try simp only [nx4] at hm36
      simp -implicitDefEqProofs (disch:=first|omega|simp only[nx4]<;>omega|fail) []
      done
end Go.AL.Dm
