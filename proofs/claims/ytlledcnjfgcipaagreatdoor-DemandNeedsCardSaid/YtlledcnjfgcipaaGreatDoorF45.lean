/- The analysis: the program. -/
import Derived.Test.YtlledcnjfgcipaaGreatDoorP4
import Derived.Test.YtlledcnjfgcipaaGreatDoorP1
set_option linter.unusedVariables false
set_option linter.unusedSimpArgs false
namespace Go.AL.Dm
open Go Go.Proofs
theorem kr_top (b : Pl) (n : Nat) (h : wnt b = n) : kr (top b) = cR (fun _ => true) true n := by
 have e : top b = ⟨wnt b, (List.range n).map fun _ => true, true⟩ := by
  rw [top, h]
  simp [List.map_const']
 rw [e, cR_kr (w := wnt b)]
def IA40 (p : List Gl) (s : St) (m : Nat) (g : Env) (s1 : St) : Prop :=
 ∃ i : Nat, i ≤ p.length ∧ m = p.length - i ∧ g.get 0 = .list 6 .none (p.map Gl.av) ∧ g.get 4 = .ptr (s.nx + 1) 0 ∧ g.get 13 = .list 6 .none (p.map Gl.av) ∧ g.get 14 = .int .i64 p.length ∧ g.get 15 = .int .i64 i ∧
  s1.m s.nx = some (kobj (tbD (p.take i) tb0)) ∧ s1.m (s.nx + 1) = some (.box [.map s.nx]) ∧ Kept s s1 ∧ s.nx + 1 < s1.nx
def IB40 (p : List Gl) (i : Nat) (x : Gl) (wn : Nat) (b6 b7 : Nat) (s : St) (m : Nat) (g : Env) (s1 : St) : Prop :=
 ∃ j : Nat, j ≤ wn ∧ m = wn - j ∧ g.get 0 = .list 6 .none (p.map Gl.av) ∧ g.get 4 = .ptr (s.nx + 1) 0 ∧ g.get 6 = .ptr b6 0 ∧ g.get 7 = .ptr b7 0 ∧ g.get 13 = .list 6 .none (p.map Gl.av) ∧ g.get 14 = .int .i64 p.length ∧ g.get 15 = .int .i64 i ∧ g.get 29 = .int .i64 wn ∧ g.get 30 = .int .i64 j ∧
  s1.m s.nx = some (kobj (tbD (p.take i) tb0)) ∧ s1.m (s.nx + 1) = some (.box [.map s.nx]) ∧ s1.m b6 = some (.box x.av.cells) ∧ s1.m b7 = some (.box (.int .i64 wn :: cR (fun _ => true) true j)) ∧ Kept s s1 ∧ b7 < s1.nx
def IC40 (p : List Gl) (s : St) (m : Nat) (g : Env) (s1 : St) : Prop :=
 ∃ (f : Tb) (c og : Nat), Way p m f c ∧ g.get 0 = .list 6 .none (p.map Gl.av) ∧ g.get 4 = .ptr (s.nx + 1) 0 ∧ g.get 9 = .int .i64 c ∧ s.nx ≤ og ∧ og < s1.nx ∧
  s1.m (s.nx + 1) = some (.box [.map og]) ∧ s1.m og = some (kobj (tbD p f)) ∧ Kept s s1 ∧ s.nx + 1 < s1.nx
set_option maxHeartbeats 4000000 in
theorem t40 (p : List Gl) (i : Nat) (x : Gl) (wn : Nat) (s : St) (b6 b7 : Nat) (hlt : i < p.length) (hpl : p.length ≤ 400) (htt : tbD (p.take (i + 1)) tb0 = tbD (p.take i) tb0 ++ [(x.name, tb0 x)]) (hnot : x.name ∉ (tbD (p.take i) tb0).map (·.1)) (hwn : wnt x.body = wn) (hw8 : wn ≤ 8)
  (Q : AExit → Env → St → Prop) (g : Env) (S : St) (e0 : g.get 0 = .list 6 .none (p.map Gl.av)) (e4 : g.get 4 = .ptr (s.nx + 1) 0) (e6 : g.get 6 = .ptr b6 0) (e7 : g.get 7 = .ptr b7 0) (e13 : g.get 13 = .list 6 .none (p.map Gl.av)) (e14 : g.get 14 = .int .i64 p.length) (e15 : g.get 15 = .int .i64 i)
  (jn : S.m s.nx = some (kobj (tbD (p.take i) tb0))) (ja : S.m (s.nx + 1) = some (.box [.map s.nx])) (j6 : S.m b6 = some (.box x.av.cells)) (j7 : S.m b7 = some (.box (.int .i64 wn :: cR (fun _ => true) true 0))) (hk : Kept s S) (hb : b7 < S.nx) (hb2 : s.nx + 1 < b7) (hb3 : b6 < b7) (hb4 : s.nx + 1 < b6) :
  go (aops Tryz.prog a40r8 (regQ (seqQ Tryz.prog (ACode.block 2 a40l13.loop) (seqQ Tryz.prog (ACode.reg true a40r14) (blockQ 1 (seqQ Tryz.prog (ACode.reg false a40r15) (loopQ (p.length - i) (IA40 p s) Q)))))) g [] S) := by
 have w3 := wrapS (i := i) (by omega)
 simp -implicitDefEqProofs (disch:=first|omega|simp only[nx4]<;>omega|fail) [a40r8, e7, j7]
 refine go_loop (IB40 p i x wn b6 b7 s) wn ?h0 ?_
 case h0 =>
  refine ⟨0, by omega, by omega, ?_, ?_, ?_, ?_, ?_, ?_, ?_, ?_, ?_, ?_, ?_, ?_, ?_, ?_, ?_⟩
  all_goals (try simp -implicitDefEqProofs (disch:=first|omega|simp only[nx4]<;>omega|fail) [e0, e4, e6, e7, e13, e14, e15, jn, ja, j6, j7, hk])
  all_goals (try omega)
 clear e0 e4 e6 e7 e13 e14 e15 jn ja j6 j7 hk hb
 rintro m g S ⟨j, hj, rfl, e0, e4, e6, e7, e13, e14, e15, e29, e30, jn, ja, j6, j7, hk, hb⟩
 by_cases hjl : j < wn
 ·have hjl' : (j : Int) < wn := by omega
  have h8 : j < 8 := by omega
  have h8' : (j : Int) < 8 := by omega
  have w4 := wrapS (i := j) (by omega)
  have hst := cR_step (v := fun _ => true) (fl := true) h8
  have hst' : List.take (1 + j) (AV.int .i64 wn :: cR (fun _ => true) true j) ++ .bool true :: List.drop (1 + j) (cR (fun _ => true) true j) = .int .i64 wn :: cR (fun _ => true) true (j + 1) := by
   rw [Nat.add_comm 1 j, List.take_succ_cons]
   exact congrArg (AV.int .i64 wn :: ·) hst
  simp -implicitDefEqProofs (disch:=first|omega|simp only[nx4]<;>omega|fail) [a40l13, a40r9, a40r10, a40r11, a40r12, e7, e29, e30, j7, hjl', h8', w4]
  refine go_next (wn - (j + 1)) (by omega) ⟨j + 1, by omega, rfl, ?_, ?_, ?_, ?_, ?_, ?_, ?_, ?_, ?_, ?_, ?_, ?_, ?_, ?_, ?_⟩
  all_goals (try simp -implicitDefEqProofs (disch:=first|omega|simp only[nx4]<;>omega|fail) [e0, e4, e6, e7, e13, e14, e15, e29, jn, ja, j6, hst', hk])
  all_goals (try omega)
 ·have hjl' : ¬ (j : Int) < wn := by omega
  obtain rfl : j = wn := by omega
  have hkr := kr_top x.body j hwn
  have hu1 := fun S1 K => up_kobj (D := tbD (p.take i) tb0) s.nx x.name (tb0 x) hnot S1 K
  have hka : kAV (tb0 x) = .agg (.int .i64 j :: cR (fun _ => true) true j) := by rw [tb0, kAV, hkr, top, hwn]
  have ht9 : (cR (fun _ => true) true j).take 9 = cR (fun _ => true) true j := rfl
  rw [hka] at hu1
  simp -implicitDefEqProofs (disch:=first|omega|simp only[nx4]<;>omega|fail) [a40l13, a40r9, e29, e30, hjl', a40r14, e4, e6, e7, ja, j6, j7, jn, ht9, hu1]
  intro m hm
  simp -implicitDefEqProofs (disch:=first|omega|simp only[nx4]<;>omega|fail) [a40r15, e15, w3]
  refine go_next (p.length - (i + 1)) (by omega) ⟨i + 1, by omega, rfl, ?_, ?_, ?_, ?_, ?_, ?_, ?_, ?_, ?_⟩
  all_goals (try simp -implicitDefEqProofs (disch:=first|omega|simp only[nx4]<;>omega|fail) [e0, e4, e13, e14, htt, ja, hk])
  all_goals (try omega)
set_option maxHeartbeats 4000000 in
theorem p40 (p : List Gl) (hp : GoodP p) (s : St) :
  ACalls Tryz.prog 40 [.list 6 .none (p.map Gl.av)] s fun r s' => ∃ oa og, r = .tup [.ptr oa 0, .int .i64 (fin p).2] ∧ s.nx ≤ oa ∧ oa < s'.nx ∧ s.nx ≤ og ∧ og < s'.nx ∧ s'.m oa = some (.box [.map og]) ∧ s'.m og = some (kobj (tbD p (fin p).1)) ∧ Kept s s' := by
 refine fun_sound mixed Tryz.func40 Tryz.call40 c40 rfl (awpFun_go _ _ _ _ ?_)
 have hpl := hp.few
 simp -implicitDefEqProofs (disch:=first|omega|simp only[nx4]<;>omega|fail) [a40, a40b, a40r0, a40r1, a40r2]
 refine go_loop (IA40 p s) p.length ?h0 ?_
 case h0 =>
  refine ⟨0, by omega, by omega, ?_, ?_, ?_, ?_, ?_, ?_, ?_, ?_, ?_⟩
  all_goals (try simp -implicitDefEqProofs (disch:=first|omega|simp only[nx4]<;>omega|fail) [kobj, tbD, kes, inord])
 rintro m g S ⟨i, hi, rfl, e0, e4, e13, e14, e15, jn, ja, hk, hb⟩
 by_cases hlt : i < p.length
 ·have hlt' : (i : Int) < p.length := by omega
  have w3 := wrapS (i := i) (by omega)
  have hmem := List.getElem_mem hlt
  have htt := tbD_take (f := tb0) hlt
  have hnot : p[i].name ∉ (tbD (p.take i) tb0).map (·.1) := by
   rw [tbD_names]
   intro hm
   have := hp.nd
   rw [← List.take_append_drop i p, nms, List.map_append, List.drop_eq_getElem_cons hlt, List.map_cons] at this
   exact (List.nodup_append.1 this).2.2 _ hm _ (by simp) rfl
  have hwf := hp.wf _ hmem
  generalize hx : p[i] = x at htt hnot hwf
  have hwb := wnt_bnd hwf
  obtain ⟨wn, hwn⟩ : ∃ wn : Nat, wnt x.body = wn := ⟨(wnt x.body).toNat, by omega⟩
  have hw8 : wn ≤ 8 := by omega
  by_cases o5 : x.body.op = 5
  ·have hn5 : x.body.n = wn := by rw [← hwn, wnt, if_pos o5]
   simp -implicitDefEqProofs (disch:=first|omega|simp only[nx4]<;>omega|fail) [a40l16, a40r3, a40r4, a40r5, a40r6, a40r7, e13, e14, e15, hlt', hlt, hx, o5]
   refine t40 p i x wn s S.nx (S.nx + 1) hlt hpl htt hnot hwn hw8 _ _ _ ?_ ?_ ?_ ?_ ?_ ?_ ?_ ?_ ?_ ?_ ?_ ?_ ?_ ?_ ?_ ?_
   all_goals (try simp -implicitDefEqProofs (disch:=first|omega|simp only[nx4]<;>omega|fail) [e0, e4, e13, e14, e15, jn, ja, hk, cR_0, hn5])
   all_goals (try omega)
  ·have h0 : wn = 0 := by rw [← Int.natCast_inj, ← hwn, wnt, if_neg o5]; rfl
   subst h0
   simp -implicitDefEqProofs (disch:=first|omega|simp only[nx4]<;>omega|fail) [a40l16, a40r3, a40r4, a40r5, a40r6, e13, e14, e15, hlt', hlt, hx, o5]
   refine t40 p i x 0 s S.nx (S.nx + 1) hlt hpl htt hnot hwn hw8 _ _ _ ?_ ?_ ?_ ?_ ?_ ?_ ?_ ?_ ?_ ?_ ?_ ?_ ?_ ?_ ?_ ?_
   all_goals (try simp -implicitDefEqProofs (disch:=first|omega|simp only[nx4]<;>omega|fail) [e0, e4, e13, e14, e15, jn, ja, hk, cR_0])
   all_goals (try omega)
 ·have hlt' : ¬ (i : Int) < p.length := by omega
  obtain rfl : i = p.length := by omega
  rw [List.take_length] at jn
  simp -implicitDefEqProofs (disch:=first|omega|simp only[nx4]<;>omega|fail) [a40l16, a40r3, e14, e15, hlt', a40r17]
  refine go_loop (IC40 p s) (ms p tb0 + 1) ?h0 ?_
  case h0 =>
   refine ⟨tb0, 1, s.nx, way_0 hp, ?_, ?_, ?_, ?_, ?_, ?_, ?_, ?_, ?_⟩
   all_goals (try simp -implicitDefEqProofs (disch:=first|omega|simp only[nx4]<;>omega|fail) [e0, e4, jn, ja, hk])
   all_goals (try omega)
  clear e0 e4 e13 e14 e15 jn ja hk hb
  rintro m g S ⟨f, c, og, hway, e0, e4, e9, ho1, ho2, ja, jo, hk, hb⟩
  simp -implicitDefEqProofs (disch:=first|omega|simp only[nx4]<;>omega|fail) [a40l20, a40r18, e0, e4]
  refine go_calls (ACalls.mono (p80 p hp f hway.good (s.nx + 1) og S ja jo hb ho2) fun r s' hn' h => go_of ?_)
  obtain ⟨rfl, og', h1, h2, h3, h4, h5⟩ := h
  have hk' : Kept s s' := fun q hq => (h5 q (by omega) (by omega)).trans (hk q hq)
  cases hc : chgs p f p with
  | true =>
   obtain ⟨n', rfl, hw'⟩ := hway.go hp hc
   have hcb := hw'.bnd
   have w3 := wrapS (i := c) (by omega)
   simp -implicitDefEqProofs (disch:=first|omega|simp only[nx4]<;>omega|fail) [a40r19, e9, w3]
   refine go_next n' (by omega) ⟨stp p f, c + 1, og', hw', ?_, ?_, ?_, ?_, ?_, ?_, ?_, ?_, ?_⟩
   all_goals (try simp -implicitDefEqProofs (disch:=first|omega|simp only[nx4]<;>omega|fail) [e0, e4, h3, h4, hk'])
   all_goals (try omega)
  | false =>
   obtain ⟨d1, d2⟩ := hway.done hc
   have hsame := tbD_same d2
   rw [hsame] at h4
   simp -implicitDefEqProofs (disch:=first|omega|simp only[nx4]<;>omega|fail) [a40r21, e4, e9, d1]
   exact ⟨by omega, og', by omega, by omega, h3, h4, hk'⟩
def dm (n : ByteArray) (k : Kn) : AV := .agg [.str n, .list 1 .none (k.st.map .bool), .bool k.fails]
def dmL (p : List Gl) (f : Tb) : List AV := p.map fun g => dm g.name (f g)
theorem dmL_take {p : List Gl} {f : Tb} {i : Nat} (h : i < p.length) : dmL (p.take (i + 1)) f = dmL (p.take i) f ++ [dm p[i].name (f p[i])] := by
 rw [List.take_succ_eq_append_getElem h]; simp only [dmL, List.map_append, List.map_cons, List.map_nil]
theorem dmL_cells {p : List Gl} {f : Tb} : ∀ x ∈ dmL p f, x.cells.length = 3 := by
 intro x hx
 simp only [dmL, List.mem_map] at hx
 obtain ⟨g, _, rfl⟩ := hx
 rfl
theorem st8_take {k : Kn} {n : Nat} (h : k.st.length = n) (h8 : n ≤ 8) : (st8 k).take n = k.st := by
 apply List.ext_getElem?
 intro i
 by_cases hi : i < n
 ·have hi8 : i < 8 := by omega
  rw [List.getElem?_take, if_pos hi]
  have hs : (st8 k)[i]? = some (k.st.getD i false) := by
   match i, hi8 with
   | 0, _ | 1, _ | 2, _ | 3, _ | 4, _ | 5, _ | 6, _ | 7, _ => rfl
  rw [hs]
  have : i < k.st.length := by omega
  simp [this]
 ·rw [List.getElem?_take, if_neg hi, List.getElem?_eq_none (by omega)]
def I37 (p : List Gl) (f : Tb) (oa og : Nat) (s : St) (m : Nat) (g : Env) (s1 : St) : Prop :=
 ∃ (i o : Nat), i ≤ p.length ∧ m = p.length - i ∧ g.get 3 = .ptr oa 0 ∧ g.get 5 = .mref 3 o 0 i ∧ g.get 14 = .list 6 .none (p.map Gl.av) ∧ g.get 15 = .int .i64 p.length ∧ g.get 16 = .int .i64 i ∧
  s1.m o = some (.box (flat (dmL (p.take i) f))) ∧ s1.m oa = some (.box [.map og]) ∧ s1.m og = some (kobj (tbD p f)) ∧ s.nx ≤ o ∧ o < s1.nx ∧ o ≠ oa ∧ o ≠ og ∧ Kept s s1 ∧ oa < s1.nx ∧ og < s1.nx
set_option maxHeartbeats 4000000 in
theorem p37 (p : List Gl) (hp : GoodP p) : PureC Tryz.prog 37 [.list 6 .none (p.map Gl.av)] (.list 3 .none (dmL p (fin p).1)) := by
 refine PureC.intro fun s => freeze1 (fun_sound mixed Tryz.func37 Tryz.call37 c37 rfl (awpFun_go _ _ _ _ ?_))
 have hpl := hp.few
 obtain ⟨n0, hway, _⟩ := fin_way hp
 have hf := hway.good
 simp -implicitDefEqProofs (disch:=first|omega|simp only[nx4]<;>omega|fail) [a37, a37b, a37r0, a37r1]
 refine go_calls (ACalls.mono (p40 p hp s) fun r s' hn' h => go_of ?_)
 obtain ⟨oa, og, rfl, h1, h2, h3, h4, ja, jo, hk⟩ := h
 generalize (fin p).1 = f at jo hf ⊢
 simp -implicitDefEqProofs (disch:=first|omega|simp only[nx4]<;>omega|fail) [a37r2, a37r3]
 refine go_loop (I37 p f oa og s) p.length ?h0 ?_
 case h0 =>
  refine ⟨0, s'.nx, by omega, by omega, ?_, ?_, ?_, ?_, ?_, ?_, ?_, ?_, ?_, ?_, ?_, ?_, ?_, ?_, ?_⟩
  all_goals (try simp -implicitDefEqProofs (disch:=first|omega|simp only[nx4]<;>omega|fail) [ja, jo, hk, dmL])
  all_goals (try omega)
 clear ja jo hk h1 h2 h3 h4 hn'
 rintro m g S ⟨i, o, hi, rfl, e3, e5, e14, e15, e16, jO, ja, jo, ho1, ho2, ho3, ho4, hk, hb1, hb2⟩
 by_cases hlt : i < p.length
 ·have hlt' : (i : Int) < p.length := by omega
  have w3 := wrapS (i := i) (by omega)
  have hmem := List.getElem_mem hlt
  have htk := dmL_take (f := f) hlt
  have hlk := lookK_tb (f := f) hp.nd _ hmem
  have hgood := hf _ hmem
  generalize hx : p[i] = x at htk hlk hgood
  have hv1 := fun s K => lk_kobj (D := tbD p f) x.name s K
  rw [hlk] at hv1
  generalize f x = k at htk hgood hv1
  obtain ⟨⟨hw0, hw8⟩, hst⟩ := hgood
  obtain ⟨wn, hwn⟩ : ∃ wn : Nat, k.w = wn := ⟨k.w.toNat, by omega⟩
  have hka : ∀ k, kAV k = .agg (.int .i64 k.w :: kr k) := fun _ => rfl
  have hw8' : (wn : Int) ≤ 8 := by omega
  have h76 := p76 .none k.st (by omega)
  have hst8 : List.take wn ((st8 k).map AV.bool) = k.st.map AV.bool := by rw [← List.map_take, st8_take (by omega) (by omega)]
  have hdl : (dmL (p.take i) f).length = i := by simp [dmL]; omega
  have hfl : (flat (dmL (p.take i) f)).length = i * 3 := by rw [flat_length (sz := 3) dmL_cells, hdl]
  simp only [kz, hka, hwn] at hv1
  simp -implicitDefEqProofs (disch:=first|omega|simp only[nx4]<;>omega|fail) [a37l9, a37r4, a37r5, a37r6, e3, e5, e14, e15, e16, hlt', hlt, hx, ja, jo, hv1]
  intro m hm
  have hcell : ∀ y : AV, false ∈ st8 k ∧ AV.bool false = y ∨ true ∈ st8 k ∧ AV.bool true = y → y.cells = [y] := by
   rintro y (⟨_, rfl⟩ | ⟨_, rfl⟩) <;> rfl
  simp -implicitDefEqProofs (disch:=first|omega|simp only[nx4]<;>omega|fail) [a37r7, e5, kr_8', hst8, hw8', jO, hfl]
  refine pcV_intro h76 ?_
  simp -implicitDefEqProofs (disch:=first|omega|simp only[nx4]<;>omega|fail) [e5, jO, hfl]
  intro m1 hm1
  have hfl2 : flat (dmL (p.take (i + 1)) f) = flat (dmL (p.take i) f) ++ [AV.str x.name, AV.list 1 .none (k.st.map AV.bool), AV.bool k.fails] := by
   rw [htk]; simp [flat, dm]
  simp -implicitDefEqProofs (disch:=first|omega|simp only[nx4]<;>omega|fail) [a37r8, e16, w3]
  refine go_next (p.length - (i + 1)) (by omega) ⟨i + 1, m, by omega, rfl, ?_, ?_, ?_, ?_, ?_, ?_, ?_, ?_, ?_, ?_, ?_, ?_, ?_, ?_, ?_⟩
  all_goals (try simp -implicitDefEqProofs (disch:=first|omega|simp only[nx4]<;>omega|fail) [e3, e14, e15, hfl2, ja, jo, hk])
  all_goals (try omega)
 ·have hlt' : ¬ (i : Int) < p.length := by omega
  obtain rfl : i = p.length := by omega
  rw [List.take_length] at jO
  simp -implicitDefEqProofs (disch:=first|omega|simp only[nx4]<;>omega|fail) [a37l9, a37r4, e15, e16, hlt', a37r10, e5]
  refine ⟨3, o, p.length, ⟨rfl, rfl, rfl⟩, dmL p f, jO, dmL_cells, by simp [dmL], by simp, ?_⟩
  simp -implicitDefEqProofs (disch:=first|omega|simp only[nx4]<;>omega|fail) [hk]
noncomputable def resP (p : List Gl) : List AV := if isP p = true then dmL p (fin p).1 else []
def errP (p : List Gl) : Int := if isP p = true then 0 else 40
theorem p11 (p : List Gl) (hp : Few p) : PureC Tryz.prog 11 [.list 6 .none (p.map Gl.av)] (.tup [.list 3 .none (resP p), .int .i64 (errP p)]) := by
 refine PureC.intro fun s => fun_sound mixed Tryz.func11 Tryz.call11 c11 rfl (awpFun_go _ _ _ _ ?_)
 have h36 := p36 p hp
 unfold resP errP
 cases hi : isP p with
 | false =>
  rw [hi] at h36
  simp -implicitDefEqProofs (disch:=first|omega|simp only[nx4]<;>omega|fail) [a11, a11b, a11r0, a11r1]
  refine go_pure h36 fun mm1 hm1 => ?_
  try simp only [nx4] at hm1
  simp -implicitDefEqProofs (disch:=first|omega|simp only[nx4]<;>omega|fail) [a11r2, wkL]
  done
 | true =>
  rw [hi] at h36
  have h37 := p37 p (goodP hp hi)
  simp -implicitDefEqProofs (disch:=first|omega|simp only[nx4]<;>omega|fail) [a11, a11b, a11r0, a11r1]
  refine go_pure h36 fun mm2 hm2 => ?_
  try simp only [nx4] at hm2
  simp -implicitDefEqProofs (disch:=first|omega|simp only[nx4]<;>omega|fail) [a11r3]
  refine go_pure h37 fun mm3 hm3 => ?_
  try simp only [nx4] at hm3
  simp -implicitDefEqProofs (disch:=first|omega|simp only[nx4]<;>omega|fail) []
  done
theorem p42 (x : Gl) (n : ByteArray) (o : Nat) (s : St) (ho : s.m o = some (.box [.str n])) (ho2 : o < s.nx) : ACalls Tryz.prog 42 [x.av, .ptr o 0] s fun r s' => r = .bool (decide (x.name = n)) ∧ Kept s s' := by
 refine fun_sound mixed Tryz.func42 Tryz.call42 c42 rfl (awpFun_go _ _ _ _ ?_)
 simp -implicitDefEqProofs (disch:=first|omega|simp only[nx4]<;>omega|fail) [a42, a42b, a42r0, a42r1, ho]
 done
def I41 (p : List Gl) (n : ByteArray) (o : Nat) (s : St) (m : Nat) (g : Env) (s1 : St) : Prop :=
 ∃ i : Nat, i ≤ p.length ∧ m = p.length - i ∧ idxQ (fun g => decide (g.name = n)) (p.drop i) i = findI p n ∧ g.get 0 = .list 6 .none (p.map Gl.av) ∧ g.get 1 = .fn 42 [] [.ptr o 0] ∧ g.get 7 = .int .i64 p.length ∧ g.get 8 = .int .i64 i ∧ s1.m o = some (.box [.str n]) ∧ Kept s s1 ∧ s.nx ≤ s1.nx
theorem p41 (p : List Gl) (n : ByteArray) (o : Nat) (s : St) (hp : p.length ≤ 100000) (ho : s.m o = some (.box [.str n])) (ho2 : o < s.nx) :
  ACalls Tryz.prog 41 [.list 6 .none (p.map Gl.av), .fn 42 [] [.ptr o 0]] s fun r s' => r = .int .i64 (findI p n) ∧ Kept s s' := by
 refine fun_sound mixed Tryz.func41 Tryz.call41 c41 rfl (awpFun_go _ _ _ _ ?_)
 simp -implicitDefEqProofs (disch:=first|omega|simp only[nx4]<;>omega|fail) [a41, a41b, a41r0, a41r1]
 refine go_loop (I41 p n o s) p.length ⟨0, by omega, by omega, rfl, ?_, ?_, ?_, ?_, ?_, ?_, ?_⟩ ?_
 iterate 7 (simp -implicitDefEqProofs (disch:=first|omega|simp only[nx4]<;>omega|fail) [ho])
 rintro m g S ⟨i, hi, rfl, hw, e0, e1, e7, e8, jo, hk, hn0⟩
 by_cases hlt : i < p.length
 ·have hlt' : (i : Int) < p.length := by omega
  have w3 := wrapS (i := i) (by omega)
  rw [List.drop_eq_getElem_cons hlt, idxQ] at hw
  generalize hx : p[i] = x at hw
  simp -implicitDefEqProofs (disch:=first|omega|simp only[nx4]<;>omega|fail) [a41l7, a41r2, a41r3, a41r4, e0, e1, e7, e8, hlt', hlt, hx]
  refine go_calls (ACalls.mono (p42 x n o S jo (by omega)) fun r s' hn' h => go_of ?_)
  obtain ⟨rfl, hk'⟩ := h
  have q1 : s'.m o = some (.box [.str n]) := (hk' _ (by omega)).trans jo
  have q2 : Kept s s' := fun q hq => (hk' q (by omega)).trans (hk q hq)
  by_cases h : x.name = n
  ·rw [if_pos (by simp [h])] at hw
   simp -implicitDefEqProofs (disch:=first|omega|simp only[nx4]<;>omega|fail) [h, a41r5, ← hw, q2]
  ·rw [if_neg (by simp [h])] at hw
   simp -implicitDefEqProofs (disch:=first|omega|simp only[nx4]<;>omega|fail) [h, a41r6, e8, w3]
   refine go_next (p.length - (i + 1)) (by omega) ⟨i + 1, by omega, rfl, hw, ?_, ?_, ?_, ?_, ?_, ?_, ?_⟩
   all_goals (try simp -implicitDefEqProofs (disch:=first|omega|simp only[nx4]<;>omega|fail) [e0, e1, e7, q1, q2])
   all_goals (try omega)
 ·have hlt' : ¬ (i : Int) < p.length := by omega
  obtain rfl : i = p.length := by omega
  rw [List.drop_length, idxQ] at hw
  simp -implicitDefEqProofs (disch:=first|omega|simp only[nx4]<;>omega|fail) [a41l7, a41r2, e7, e8, hlt', a41r8, hw, hk]
theorem findI_some {p : List Gl} {n : ByteArray} (h : ¬ findI p n < 0) : ∃ j : Nat, findI p n = j ∧ j < p.length := by
 have : ∀ (l : List Gl) (i : Int), 0 ≤ i → 0 ≤ idxQ (fun g => decide (g.name = n)) l i → ∃ j : Nat, idxQ (fun g => decide (g.name = n)) l i = i + j ∧ j < l.length := by
  intro l
  induction l with
  | nil => intro i hi h; simp [idxQ] at h
  | cons x l ih =>
   intro i hi h
   rw [idxQ] at h ⊢
   split
   ·exact ⟨0, by omega, by simp⟩
   ·rename_i hq
    rw [if_neg hq] at h
    obtain ⟨j, h1, h2⟩ := ih (i + 1) (by omega) h
    exact ⟨j + 1, by omega, by simpa using h2⟩
 obtain ⟨j, h1, h2⟩ := this p 0 (by omega) (by rw [findI] at h; omega)
 exact ⟨j, by rw [findI]; omega, h2⟩
noncomputable def strP (p : List Gl) (n : ByteArray) (i : Int) : Bool × Int :=
 if isP p = false then (false, 40)
 else if findI p n < 0 then (false, 6)
 else if i < 0 ∨ ((((p[(findI p n).toNat]?).map (fin p).1).getD Kn.zero).st.length : Int) ≤ i then (false, 2)
 else ((((p[(findI p n).toNat]?).map (fin p).1).getD Kn.zero).st.getD i.toNat false, 0)
theorem p20 (p : List Gl) (hp : Few p) (n : ByteArray) (i : Int) : PureC Tryz.prog 20 [.list 6 .none (p.map Gl.av), .str n, .int .i64 i] (.tup [.bool (strP p n i).1, .int .i64 (strP p n i).2]) := by
 refine PureC.intro fun s => fun_sound mixed Tryz.func20 Tryz.call20 c20 rfl (awpFun_go _ _ _ _ ?_)
 have h36 := p36 p hp
 unfold strP
 cases hi : isP p with
 | false =>
  rw [hi] at h36
  simp -implicitDefEqProofs (disch:=first|omega|simp only[nx4]<;>omega|fail) [a20, a20b, a20r0, a20r1]
  refine go_pure h36 fun mm1 hm1 => ?_
  try simp only [nx4] at hm1
  simp -implicitDefEqProofs (disch:=first|omega|simp only[nx4]<;>omega|fail) [a20r2]
 | true =>
  rw [hi] at h36
  have hgp := goodP hp hi
  have h37 := p37 p hgp
  have hpl := hgp.few
  simp -implicitDefEqProofs (disch:=first|omega|simp only[nx4]<;>omega|fail) [a20, a20b, a20r0, a20r1]
  refine go_pure h36 fun mm2 hm2 => ?_
  try simp only [nx4] at hm2
  simp -implicitDefEqProofs (disch:=first|omega|simp only[nx4]<;>omega|fail) [a20r3]
  refine go_calls (ACalls.mono (p41 p n s.nx _ (by omega) (by simp -implicitDefEqProofs (disch:=first|omega|simp only[nx4]<;>omega|fail)) (by simp -implicitDefEqProofs (disch:=first|omega|simp only[nx4]<;>omega|fail); omega)) fun r s' hn' h => go_of ?_)
  obtain ⟨rfl, hk'⟩ := h
  have hk2 : Kept s s' := fun q hq => (hk' q (by simp -implicitDefEqProofs (disch:=first|omega|simp only[nx4]<;>omega|fail); omega)).trans (by simp -implicitDefEqProofs (disch:=first|omega|simp only[nx4]<;>omega|fail))
  simp -implicitDefEqProofs (disch:=first|omega|simp only[nx4]<;>omega|fail) at hn'
  by_cases hneg : findI p n < 0
  ·simp -implicitDefEqProofs (disch:=first|omega|simp only[nx4]<;>omega|fail) [a20r4, hneg, a20r5, hk2]
  ·obtain ⟨j, hj, hjl⟩ := findI_some hneg
   have hjl' : (j : Int) < p.length := by omega
   have hneg' : ¬ (j : Int) < 0 := by omega
   have hlen : (dmL p (fin p).1).length = p.length := by simp [dmL]
   have hget : (dmL p (fin p).1)[j]?.getD AV.any = .agg [.str p[j].name, .list 1 .none (((fin p).1 p[j]).st.map AV.bool), .bool ((fin p).1 p[j]).fails] := by simp [dmL, dm, hjl]
   have hget' : ∀ h : j < (dmL p (fin p).1).length, (dmL p (fin p).1)[j]'h = .agg [.str p[j].name, .list 1 .none (((fin p).1 p[j]).st.map AV.bool), .bool ((fin p).1 p[j]).fails] := by intro h; simp [dmL, dm]
   rw [hj]
   simp -implicitDefEqProofs (disch:=first|omega|simp only[nx4]<;>omega|fail) [a20r4, hneg', a20r6, hjl]
   generalize (fin p).1 p[j] = k at hget hget' ⊢
   refine go_pure h37 fun mm3 hm3 => ?_
   try simp only [nx4] at hm3
   simp -implicitDefEqProofs (disch:=first|omega|simp only[nx4]<;>omega|fail) [hlen, hget, hget', hjl', hjl]
   by_cases h0 : i < 0
   ·simp -implicitDefEqProofs (disch:=first|omega|simp only[nx4]<;>omega|fail) [a20r7, h0, a20r8, hk2]
   ·by_cases h1 : (k.st.length : Int) ≤ i
    ·simp -implicitDefEqProofs (disch:=first|omega|simp only[nx4]<;>omega|fail) [a20r7, h0, h1, a20r8, hk2]
    ·obtain ⟨m, rfl⟩ : ∃ m : Nat, i = m := ⟨i.toNat, by omega⟩
     have h2 : m < k.st.length := by omega
     have h2' : (m : Int) < k.st.length := by omega
     have h1' : ¬ k.st.length ≤ m := by omega
     simp -implicitDefEqProofs (disch:=first|omega|simp only[nx4]<;>omega|fail) [a20r7, h0, h1, h1', h2, h2', a20r9, hk2]
     done
end Go.AL.Dm
namespace Go.AL.Dm
def lenN (x : ND) : Nat := (x.getD []).length
def sumN : List ND → Nat
 | [] => 0
 | x :: l => lenN x + sumN l
theorem ladd_len (n : Int) : ∀ l : List Int, (ladd n l).length ≤ l.length + 1
 | [] => by simp [ladd]
 | a :: r => by
  have := ladd_len n r
  unfold ladd
  split
  ·simp; omega
  ·split <;> simp
theorem lun_len : ∀ (b a : List Int), (lun a b).length ≤ a.length + b.length
 | [], a => by simp [lun]
 | n :: b, a => by
  have h1 := lun_len b (ladd n a)
  have h2 := ladd_len n a
  simp only [lun, List.foldl_cons, List.length_cons] at *
  omega
theorem lenN_with (x y : ND) : lenN (nWith x y) ≤ lenN x + lenN y := by
 cases x <;> cases y <;> simp [nWith, lenN]
 exact lun_len _ _
theorem lenN_both (x y : ND) : lenN (nBoth x y) ≤ lenN x + lenN y := by
 cases x <;> cases y <;> simp [nBoth, lenN, nMeet]
 have := List.length_filter_le (fun k => decide (k ∈ (‹List Int› : List Int))) ‹List Int›
 rename_i a b
 exact Nat.le_trans (List.length_filter_le _ a) (Nat.le_add_right _ _)
theorem lenN_out (n : Int) (x : ND) : lenN (nOut n x) ≤ lenN x := by
 cases x <;> simp [nOut, lenN]
 exact List.length_filter_le _ _
theorem lenN_unionIf : ∀ (bs : List Bool) (xs : List ND) (acc : ND), lenN (unionIf bs xs acc) ≤ lenN acc + sumN xs
 | [], xs, acc => by cases xs <;> simp [unionIf, sumN]
 | b :: bs, [], acc => by simp [unionIf, sumN]
 | b :: bs, x :: xs, acc => by
  rw [unionIf, sumN]
  have h := lenN_unionIf bs xs (if b = true then nWith acc x else acc)
  have h2 := lenN_with acc x
  split at h <;> simp_all <;> omega
theorem lenN_lam (fb : ND) (n : Int) : ∀ (xs : List ND) (i : Int) (acc : ND), lenN (lamArgs fb n i xs acc) ≤ lenN acc + sumN xs
 | [], i, acc => by simp [lamArgs, sumN]
 | x :: xs, i, acc => by
  rw [lamArgs, sumN]
  split
  ·have h := lenN_lam fb n xs (i + 1) (if fb.has (n - 1 - i) then nWith acc x else acc)
   have h2 := lenN_with acc x
   by_cases hh : fb.has (n - 1 - i)
   ·rw [if_pos hh] at h ⊢; omega
   ·rw [if_neg hh] at h ⊢; omega
  ·omega
theorem lenN_fold : ∀ (l : List ND) (acc : ND), lenN (l.foldl nBoth acc) ≤ lenN acc + sumN l
 | [], acc => by simp [sumN]
 | x :: l, acc => by
  rw [List.foldl_cons, sumN]
  have h := lenN_fold l (nBoth acc x)
  have h2 := lenN_both acc x
  omega
theorem flat_len : ∀ vs : List ND, (vs.flatMap fun v => v.getD []).length = sumN vs
 | [] => rfl
 | v :: vs => by rw [List.flatMap_cons, List.length_append, flat_len vs, sumN, lenN]
theorem lenN_let (vs : List ND) (b : ND) : lenN (letC vs b) ≤ lenN b + sumN vs := by
 unfold letC
 split
 ·simp [lenN]
 ·refine Nat.le_trans (lenN_out _ _) ?_
  show (lun _ _).length ≤ _
  refine Nat.le_trans (lun_len _ _) ?_
  simp only [List.length_nil, Nat.zero_add]
  refine Nat.le_trans (List.length_filter_le _ _) ?_
  rw [List.length_append, flat_len]
  exact Nat.le_refl _
theorem sumN_le (K : ByteArray → Kn) : ∀ l : List Pl, (∀ x ∈ l, (lenN (need K x) : Int) ≤ sz x) → (sumN (l.map (need K)) : Int) ≤ szs l
 | [], _ => by simp [sumN, szs]
 | x :: l, h => by
  have h1 := h x (by simp)
  have h2 := sumN_le K l fun y hy => h y (by simp [hy])
  simp only [List.map_cons, sumN, szs]
  omega
theorem sumA_le (K : ByteArray → Kn) : ∀ l : List (Hd × Pl), (∀ x ∈ l, (lenN (need K x.2) : Int) ≤ sz x.2) → (sumN (l.map fun a => nOut (bnd a.1) (need K a.2)) : Int) ≤ sza l
 | [], _ => by simp [sumN, sza]
 | x :: l, h => by
  have h1 := h x (by simp)
  have h2 := sumA_le K l fun y hy => h y (by simp [hy])
  have h3 := lenN_out (bnd x.1) (need K x.2)
  obtain ⟨a, b⟩ := x
  simp only [List.map_cons, sumN, sza] at *
  omega
theorem need_len (K : ByteArray → Kn) (t : Pl) : wf t = true → (lenN (need K t) : Int) ≤ sz t ∧ (lenN (needB K t) : Int) ≤ sz t := by
 induction t using Pl.ind with
 | h t ih1 ih2 =>
  intro hw
  obtain ⟨hnd, hwa, hwb⟩ := wf_nd hw
  have i1 : ∀ x ∈ t.args, (lenN (need K x) : Int) ≤ sz x := fun x hx => (ih1 x hx (hwa x hx)).1
  have i2 : ∀ x ∈ t.alts, (lenN (need K x.2) : Int) ≤ sz x.2 := fun x hx => (ih2 x hx (hwb x hx)).1
  have hs := sz_eq t
  have hs1 := szs_pos t.args fun x _ => sz_pos x
  have hs2 := sza_pos t.alts fun x _ => sz_pos x.2
  have hsum := sumN_le K t.args i1
  have hsa := sumA_le K t.alts i2
  have ho := hnd.op
  have h0 : lenN (some []) = 0 := rfl
  have h00 : lenN none = 0 := rfl
  refine ⟨?_, ?_⟩
  ·by_cases o1 : t.op = 1
   ·rw [need_var o1]; simp [lenN]; omega
   by_cases o2 : t.op = 2
   ·rw [need_glob o2]; split <;> simp [lenN] <;> omega
   by_cases o3 : t.op = 3 ∨ t.op = 4 ∨ t.op = 5
   ·rw [need_made o3, h0]; omega
   by_cases o6 : t.op = 6
   ·obtain ⟨f, l, hfl⟩ : ∃ f l, t.args = f :: l := by
     cases h : t.args with
     | nil => have := hnd.app o6; rw [h] at this; simp at this
     | cons f l => exact ⟨f, l, rfl⟩
    have hf1 := i1 f (by simp [hfl])
    have hf2 := (ih1 f (by simp [hfl]) (hwa f (by simp [hfl]))).2
    have hl := sumN_le K l fun x hx => i1 x (by simp [hfl, hx])
    rw [hfl, szs] at hs
    have hl0 := szs_pos l fun x _ => sz_pos x
    rw [need_app o6 hfl]
    split
    ·have h1 := lenN_lam (needB K f) f.n (l.map (need K)) 0 (nOut f.n (needB K f))
     have h2 := lenN_out f.n (needB K f)
     omega
    split
    ·omega
    split
    ·omega
    split
    ·rw [h0]; omega
    split
    ·rw [h00]; omega
    ·have h1 := lenN_unionIf (K f.s).st (l.map (need K)) (some [])
     omega
   by_cases o7 : t.op = 7
   ·have hl := hnd.lt o7
    obtain ⟨vs, b, hvb⟩ := split_last (l := t.args) (by intro h; rw [h] at hl; simp at hl)
    have h1 := lenN_let (vs.map (need K)) (need K b)
    have hb := i1 b (by simp [hvb])
    have hv := sumN_le K vs fun x hx => i1 x (by simp [hvb, hx])
    have hap : ∀ l : List Pl, szs (l ++ [b]) = szs l + sz b := by
     intro l
     induction l with
     | nil => simp [szs]
     | cons x l ih => simp only [List.cons_append, szs, ih]; omega
    rw [hvb, hap] at hs
    rw [need_let o7 hvb]
    omega
   by_cases o8 : t.op = 8
   ·obtain ⟨x, hx⟩ : ∃ x, t.args = [x] := List.length_eq_one_iff.1 (hnd.cas o8).1
    rw [need_cas o8 hx]
    have h1 := lenN_with (need K x) ((t.alts.map fun a => nOut (bnd a.1) (need K a.2)).foldl nBoth none)
    have h2 := lenN_fold (t.alts.map fun a => nOut (bnd a.1) (need K a.2)) none
    have h3 := i1 x (by simp [hx])
    rw [hx] at hs
    simp only [szs] at hs
    omega
   ·have o9 : t.op = 9 := by omega
    by_cases ht : t.s = throwS
    ·rw [need_throw o9 ht, h00]; omega
    by_cases hp : primI t.s < 9
    ·obtain ⟨k, hk1, hk2⟩ := hnd.prm o9
     have hk3 := ar_two hk1 hp
     obtain ⟨x, y, hxy⟩ : ∃ x y, t.args = [x, y] := by
      match h : t.args, (show t.args.length = 2 by omega) with
      | [x, y], _ => exact ⟨x, y, rfl⟩
     rw [need_prim o9 ht hp hxy]
     have h1 := lenN_with (need K x) (need K y)
     have h2 := i1 x (by simp [hxy])
     have h3 := i1 y (by simp [hxy])
     rw [hxy] at hs
     simp only [szs] at hs
     omega
    ·rw [need_act o9 ht hp, h0]; omega
  ·rw [needB_eq]
   cases h : t.args with
   | nil => simp [lenN]; omega
   | cons x l =>
    have h1 := i1 x (by simp [h])
    have h2 := szs_mem (l := t.args) (x := x) (by simp [h])
    simp
    omega
end Go.AL.Dm
namespace Go.AL.Dm
open Go Go.Proofs
def TokS (s : St) (sz b : Nat) (v : AV) (xs : List AV) : Prop := (v = .list 0 .full [] ∧ xs = []) ∨ ∃ o, v = .list sz (.own o) xs ∧ s.m o = some (.spare (xs.length * sz)) ∧ b ≤ o ∧ o < s.nx
theorem ap_tok {sz bytes b : Nat} {v : AV} {xs ys : List AV} {t : Tok} {s : St} {K : KS} (h : TokS s sz b v xs) (hl : (xs.length + ys.length) * bytes ≤ 140737488355328) (hl2 : xs.length + ys.length ≤ 9223372036854775807) (hb : b ≤ s.nx)
  (hk : ∀ v' s', TokS s' sz b v' (xs ++ ys) → s.nx < s'.nx → (∀ q, q < s.nx → (q < b ∨ ∀ n, s.m q ≠ some (.spare n)) → s'.m q = s.m q) → go (K v' s')) : go (apV sz bytes v (.list sz t ys) s K) := by
 rcases h with ⟨rfl, rfl⟩ | ⟨o, rfl, ho, h1, h2⟩
 ·rw [go_apV_full]
  refine ok_intro ?_ (hk _ _ (.inr ⟨s.nx, rfl, ?_, hb, ?_⟩) ?_ ?_)
  ·simp [apS] at *
   omega
  ·simp [St.new]
  ·simp [St.new]
  ·simp [St.new]
  ·intro q hq _
   have : q ≠ s.nx := by omega
   simp [St.new, this]
 ·rw [go_apV_own, ho]
  refine ok_intro ?_ ?_
  ·simp [apS] at *
   omega
  ·show go (apO _ _ _ _ _ _ _)
   unfold apO
   refine ⟨rfl, hk _ _ (.inr ⟨s.nx, rfl, ?_, hb, ?_⟩) ?_ ?_⟩
   ·simp [St.new, St.del]
   ·simp [St.new, St.del]
   ·simp [St.new, St.del]
   ·intro q hq hne
    have h1 : q ≠ s.nx := by omega
    have h2 : q ≠ o := by
     rintro rfl
     rcases hne with h | h
     ·omega
     ·exact h _ ho
    simp [St.new, St.del, h1, h2]
theorem TokS.wk {s : St} {sz b : Nat} {v : AV} {xs ys : List AV} (h : TokS s sz b v xs) (hw : wkL xs ys) : wk v (.list sz .none ys) := by
 rcases h with ⟨rfl, rfl⟩ | ⟨o, rfl, _⟩
 ·simp [hw]
 ·simp [hw]
theorem TokS.move {s s' : St} {sz b : Nat} {v : AV} {xs : List AV} (h : TokS s sz b v xs) (hn : s.nx ≤ s'.nx) (hk : ∀ q, b ≤ q → q < s.nx → (∃ n, s.m q = some (.spare n)) → s'.m q = s.m q) : TokS s' sz b v xs := by
 rcases h with h | ⟨o, h1, h2, h3, h4⟩
 ·exact .inl h
 ·exact .inr ⟨o, h1, (hk o h3 h4 ⟨_, h2⟩).trans h2, h3, by omega⟩
theorem TokS.val {s : St} {sz b : Nat} {v : AV} {xs : List AV} (h : TokS s sz b v xs) : v.isVal = true ∧ v.cells = [v] := by
 rcases h with ⟨rfl, rfl⟩ | ⟨o, rfl, _⟩ <;> exact ⟨rfl, rfl⟩
def rN (x : ND) : AV := .agg [.bool x.isNone, .list 1 .none (ilist (x.getD []))]
def I81 (x : ND) (n : Int) (s : St) (m : Nat) (g : Env) (s1 : St) : Prop :=
 ∃ i : Nat, i ≤ (x.getD []).length ∧ m = (x.getD []).length - i ∧ (n ∈ (x.getD []).drop i ↔ n ∈ x.getD []) ∧ g.get 1 = .int .i64 n ∧ g.get 2 = .ptr s.nx 0 ∧ g.get 5 = .int .i64 i ∧ s1.m s.nx = some (.box [.bool x.isNone, .list 1 .none (ilist (x.getD []))]) ∧ Kept s s1
theorem p81 (x : ND) (n : Int) (hx : lenN x ≤ 1000000) : PureC Tryz.prog 81 [rN x, .int .i64 n] (.bool (decide (n ∈ x.getD []))) := by
 refine PureC.intro fun s => fun_sound mixed Tryz.func81 Tryz.call81 c81 rfl (awpFun_go _ _ _ _ ?_)
 unfold lenN at hx
 have hil : (ilist (x.getD [])).length = (x.getD []).length := by simp [ilist]
 simp -implicitDefEqProofs (disch:=first|omega|simp only[nx4]<;>omega|fail) [a81, a81b, a81r0, a81r1, rN]
 refine go_loop (I81 x n s) (x.getD []).length ⟨0, by omega, by omega, by simp, ?_, ?_, ?_, ?_, ?_⟩ ?_
 iterate 5 (simp -implicitDefEqProofs (disch:=first|omega|simp only[nx4]<;>omega|fail))
 rintro m g S ⟨i, hi, rfl, hw, e1, e2, e5, jo, hk⟩
 generalize hl : x.getD [] = l at hx hil hi hw jo ⊢
 by_cases hlt : i < l.length
 ·have hlt' : (i : Int) < l.length := by omega
  have w3 := wrapS (i := i) (by omega)
  have hget : ∀ h : i < (ilist l).length, (ilist l)[i]'h = .int .i64 l[i] := by intro h; simp [ilist]
  rw [List.drop_eq_getElem_cons hlt, List.mem_cons] at hw
  generalize l[i] = y at hw hget
  simp -implicitDefEqProofs (disch:=first|omega|simp only[nx4]<;>omega|fail) [a81l6, a81r2, a81r3, e1, e2, e5, jo, hil, hlt', hlt, hget]
  refine ⟨fun h => ?_, fun h => ?_⟩
  ·have hm : n ∈ l := hw.1 (.inl h.symm)
   simp -implicitDefEqProofs (disch:=first|omega|simp only[nx4]<;>omega|fail) [a81r4, hk, hm]
  ·have h' : ¬ n = y := fun e => h e.symm
   simp only [h', false_or] at hw
   simp -implicitDefEqProofs (disch:=first|omega|simp only[nx4]<;>omega|fail) [a81r5, e5, w3]
   refine go_next (l.length - (i + 1)) (by omega) ⟨i + 1, by rw [hl]; omega, by rw [hl], by rw [hl]; exact hw, ?_, ?_, ?_, ?_, ?_⟩
   all_goals (try simp -implicitDefEqProofs (disch:=first|omega|simp only[nx4]<;>omega|fail) [e1, e2, jo, hk, hl])
 ·have hlt' : ¬ (i : Int) < l.length := by omega
  obtain rfl : i = l.length := by omega
  rw [List.drop_length] at hw
  simp -implicitDefEqProofs (disch:=first|omega|simp only[nx4]<;>omega|fail) [a81l6, a81r2, e2, e5, jo, hil, hlt', a81r7, hk]
  exact fun h => by simpa using hw.2 h
def outL (n : Int) (l : List Int) : List Int := (l.filter fun k => decide (n ≤ k)).map (· - n)
def I94 (x : ND) (l : List Int) (n : Int) (s : St) (m : Nat) (g : Env) (s1 : St) : Prop :=
 ∃ (i : Nat) (acc : List Int) (v : AV), i ≤ l.length ∧ m = l.length - i ∧ acc ++ outL n (l.drop i) = outL n l ∧ acc.length ≤ i ∧ g.get 1 = .int .i64 n ∧ g.get 2 = .ptr s.nx 0 ∧ g.get 4 = .ptr (s.nx + 1) 0 ∧ g.get 5 = v ∧ TokS s1 1 (s.nx + 1 + 1) v (ilist acc) ∧ g.get 6 = .int .i64 i ∧
  s1.m s.nx = some (.box [.bool false, .list 1 .none (ilist l)]) ∧ s1.m (s.nx + 1) = some (.box [.bool false, .list 0 .full []]) ∧ Kept s s1 ∧ s.nx + 1 + 1 ≤ s1.nx
theorem p94 (x : ND) (n : Int) (hx : lenN x ≤ 1000000) (hn : 0 ≤ n) (hb : NB x) : PureC Tryz.prog 94 [rN x, .int .i64 n] (rN (nOut n x)) := by
 refine PureC.intro fun s => fun_sound mixed Tryz.func94 Tryz.call94 c94 rfl (awpFun_go _ _ _ _ ?_)
 cases x with
 | none =>
  simp -implicitDefEqProofs (disch:=first|omega|simp only[nx4]<;>omega|fail) [a94, a94b, a94r0, a94r1, a94r2, rN, nOut, ilist]
  done
 | some l =>
  simp only [lenN, Option.getD_some] at hx
  have hil : (ilist l).length = l.length := by simp [ilist]
  simp -implicitDefEqProofs (disch:=first|omega|simp only[nx4]<;>omega|fail) [a94, a94b, a94r0, a94r1, a94r3, a94r4, rN, nOut]
  refine go_loop (I94 (some l) l n s) l.length ⟨0, [], .list 0 .full [], by omega, by omega, by simp, by simp, ?_, ?_, ?_, ?_, .inl ⟨rfl, rfl⟩, ?_, ?_, ?_, ?_, ?_⟩ ?_
  iterate 9 (simp -implicitDefEqProofs (disch:=first|omega|simp only[nx4]<;>omega|fail))
  rintro m g S ⟨i, acc, v, hi, rfl, hw, hal, e1, e2, e4, e5, ht, e6, jo, j4, hk, hnx⟩
  by_cases hlt : i < l.length
  ·have hlt' : (i : Int) < l.length := by omega
   have w3 := wrapS (i := i) (by omega)
   have hget : ∀ h : i < (ilist l).length, (ilist l)[i]'h = .int .i64 l[i] := by intro h; simp [ilist]
   have hyb := hb l[i] (List.getElem_mem hlt)
   rw [List.drop_eq_getElem_cons hlt] at hw
   generalize l[i] = y at hw hget hyb
   by_cases hny : n ≤ y
   ·have w4 : IntKind.i64.wrap (y - n) = y - n := wrap64 (by omega) (by omega)
    have hw' : (acc ++ [y - n]) ++ outL n (l.drop (i + 1)) = outL n l := by
     rw [← hw]; simp [outL, hny]
    simp -implicitDefEqProofs (disch:=first|omega|simp only[nx4]<;>omega|fail) [a94l9, a94r5, a94r6, a94r7, e1, e2, e5, e6, jo, hil, hlt', hlt, hget, hny, w4]
    refine ap_tok ht ?_ ?_ hnx fun v' s' ht' hn' hk' => ?_
    ·simp [ilist]; omega
    ·simp [ilist]; omega
    have q1 : s'.m s.nx = some (.box [.bool false, .list 1 .none (ilist l)]) := (hk' _ (by omega) (.inl (by omega))).trans jo
    have q2 : s'.m (s.nx + 1) = some (.box [.bool false, .list 0 .full []]) := (hk' _ (by omega) (.inl (by omega))).trans j4
    have q3 : Kept s s' := fun q hq => (hk' q (by omega) (.inl (by omega))).trans (hk q hq)
    have e9 : ilist acc ++ [.int .i64 (y - n)] = ilist (acc ++ [y - n]) := by simp [ilist]
    rw [e9] at ht'
    simp -implicitDefEqProofs (disch:=first|omega|simp only[nx4]<;>omega|fail) [a94r8, e6, w3]
    refine go_next (l.length - (i + 1)) (by omega) ⟨i + 1, acc ++ [y - n], v', by omega, rfl, hw', by simp; omega, ?_, ?_, ?_, ?_, ht', ?_, ?_, ?_, ?_, ?_⟩
    all_goals (try simp -implicitDefEqProofs (disch:=first|omega|simp only[nx4]<;>omega|fail) [e1, e2, e4, q1, q2, q3])
    all_goals (try omega)
   ·have hw' : acc ++ outL n (l.drop (i + 1)) = outL n l := by
     rw [← hw]; simp [outL, hny]
    simp -implicitDefEqProofs (disch:=first|omega|simp only[nx4]<;>omega|fail) [a94l9, a94r5, a94r6, e1, e2, e5, e6, jo, hil, hlt', hlt, hget, hny, a94r8, w3]
    refine go_next (l.length - (i + 1)) (by omega) ⟨i + 1, acc, v, by omega, rfl, hw', by omega, ?_, ?_, ?_, ?_, ht, ?_, ?_, ?_, ?_, ?_⟩
    all_goals (try simp -implicitDefEqProofs (disch:=first|omega|simp only[nx4]<;>omega|fail) [e1, e2, e4, e5, jo, j4, hk, hnx])
  ·have hlt' : ¬ (i : Int) < l.length := by omega
   obtain rfl : i = l.length := by omega
   rw [List.drop_length] at hw
   obtain ⟨hv1, hv2⟩ := ht.val
   have hwk := ht.wk (ys := ilist (outL n l)) (by rw [← hw]; simp [outL])
   simp only [outL] at hwk
   simp -implicitDefEqProofs (disch:=first|omega|simp only[nx4]<;>omega|fail) [a94l9, a94r5, e2, e4, e5, e6, jo, j4, hil, hlt', a94r10, hk, hv1, hv2, wkL, hwk]
   done
theorem p13 (x : Gl) : PureC Tryz.prog 13 [x.av] (.int .i64 (wnt x.body)) := by
 refine PureC.intro fun s => fun_sound mixed Tryz.func13 Tryz.call13 c13 rfl (awpFun_go _ _ _ _ ?_)
 unfold wnt
 by_cases h : x.body.op = 5
 ·simp -implicitDefEqProofs (disch:=first|omega|simp only[nx4]<;>omega|fail) [a13, a13b, a13r0, a13r1, a13r2, h]
 ·simp -implicitDefEqProofs (disch:=first|omega|simp only[nx4]<;>omega|fail) [a13, a13b, a13r0, a13r1, a13r3, h]
def I96 (l r : List Int) (s : St) (m : Nat) (g : Env) (s1 : St) : Prop :=
 ∃ (i : Nat) (acc : List Int) (v : AV), i ≤ l.length ∧ m = l.length - i ∧ acc ++ nMeet (l.drop i) r = nMeet l r ∧ acc.length ≤ i ∧ g.get 2 = .ptr s.nx 0 ∧ g.get 3 = .ptr (s.nx + 1) 0 ∧ g.get 4 = .ptr (s.nx + 1 + 1) 0 ∧ g.get 5 = v ∧ TokS s1 1 (s.nx + 1 + 1 + 1) v (ilist acc) ∧ g.get 6 = .int .i64 i ∧
  s1.m s.nx = some (.box [.bool false, .list 1 .none (ilist l)]) ∧ s1.m (s.nx + 1) = some (.box [.bool false, .list 1 .none (ilist r)]) ∧ s1.m (s.nx + 1 + 1) = some (.box [.bool false, .list 0 .full []]) ∧ Kept s s1 ∧ s.nx + 1 + 1 + 1 ≤ s1.nx
theorem p96 (l r : List Int) (hl : l.length ≤ 1000000) (hr : r.length ≤ 1000000) : PureC Tryz.prog 96 [rN (some l), rN (some r)] (rN (some (nMeet l r))) := by
 refine PureC.intro fun s => fun_sound mixed Tryz.func96 Tryz.call96 c96 rfl (awpFun_go _ _ _ _ ?_)
 have hil : (ilist l).length = l.length := by simp [ilist]
 simp -implicitDefEqProofs (disch:=first|omega|simp only[nx4]<;>omega|fail) [a96, a96b, a96r0, a96r1, a96r2, rN]
 refine go_loop (I96 l r s) l.length ⟨0, [], .list 0 .full [], by omega, by omega, by simp, by simp, ?_, ?_, ?_, ?_, .inl ⟨rfl, rfl⟩, ?_, ?_, ?_, ?_, ?_, ?_⟩ ?_
 iterate 10 (simp -implicitDefEqProofs (disch:=first|omega|simp only[nx4]<;>omega|fail))
 rintro m g S ⟨i, acc, v, hi, rfl, hw, hal, e2, e3, e4, e5, ht, e6, jo, j3, j4, hk, hnx⟩
 by_cases hlt : i < l.length
 ·have hlt' : (i : Int) < l.length := by omega
  have w3 := wrapS (i := i) (by omega)
  have hget : ∀ h : i < (ilist l).length, (ilist l)[i]'h = .int .i64 l[i] := by intro h; simp [ilist]
  rw [List.drop_eq_getElem_cons hlt] at hw
  generalize l[i] = y at hw hget
  have h81 := p81 (some r) y (by simpa [lenN] using hr)
  have hrn : rN (some r) = .agg [.bool false, .list 1 .none (ilist r)] := rfl
  rw [hrn] at h81
  by_cases hny : y ∈ r
  ·have hw' : (acc ++ [y]) ++ nMeet (l.drop (i + 1)) r = nMeet l r := by
    rw [← hw]; simp [nMeet, hny]
   simp -implicitDefEqProofs (disch:=first|omega|simp only[nx4]<;>omega|fail) [a96l7, a96r3, a96r4, e2, e3, e6, jo, j3, hil, hlt', hlt, hget]
   refine pcV_intro h81 ?_
   simp -implicitDefEqProofs (disch:=first|omega|simp only[nx4]<;>omega|fail) [hny]
   intro m hm
   simp -implicitDefEqProofs (disch:=first|omega|simp only[nx4]<;>omega|fail) [a96r5, e2, e5, e6, jo, hil, hlt', hlt, hget]
   refine ap_tok (s := S.bump m) (ht.move (by simp -implicitDefEqProofs (disch:=first|omega|simp only[nx4]<;>omega|fail); omega) fun q _ _ _ => rfl) ?_ ?_ (by simp -implicitDefEqProofs (disch:=first|omega|simp only[nx4]<;>omega|fail); omega) fun v' s' ht' hn' hk' => ?_
   ·simp [ilist]; omega
   ·simp [ilist]; omega
   simp -implicitDefEqProofs (disch:=first|omega|simp only[nx4]<;>omega|fail) at hn'
   have q1 : s'.m s.nx = some (.box [.bool false, .list 1 .none (ilist l)]) := (hk' _ (by simp -implicitDefEqProofs (disch:=first|omega|simp only[nx4]<;>omega|fail); omega) (.inl (by omega))).trans (by simp -implicitDefEqProofs (disch:=first|omega|simp only[nx4]<;>omega|fail) [jo])
   have q0 : s'.m (s.nx + 1) = some (.box [.bool false, .list 1 .none (ilist r)]) := (hk' _ (by simp -implicitDefEqProofs (disch:=first|omega|simp only[nx4]<;>omega|fail); omega) (.inl (by omega))).trans (by simp -implicitDefEqProofs (disch:=first|omega|simp only[nx4]<;>omega|fail) [j3])
   have q2 : s'.m (s.nx + 1 + 1) = some (.box [.bool false, .list 0 .full []]) := (hk' _ (by simp -implicitDefEqProofs (disch:=first|omega|simp only[nx4]<;>omega|fail); omega) (.inl (by omega))).trans (by simp -implicitDefEqProofs (disch:=first|omega|simp only[nx4]<;>omega|fail) [j4])
   have q3 : Kept s s' := fun q hq => (hk' q (by simp -implicitDefEqProofs (disch:=first|omega|simp only[nx4]<;>omega|fail); omega) (.inl (by omega))).trans (by simp -implicitDefEqProofs (disch:=first|omega|simp only[nx4]<;>omega|fail) [hk q hq])
   have e9 : ilist acc ++ [.int .i64 y] = ilist (acc ++ [y]) := by simp [ilist]
   rw [e9] at ht'
   simp -implicitDefEqProofs (disch:=first|omega|simp only[nx4]<;>omega|fail) [a96r6, e6, w3]
   refine go_next (l.length - (i + 1)) (by omega) ⟨i + 1, acc ++ [y], v', by omega, rfl, hw', by simp; omega, ?_, ?_, ?_, ?_, ht', ?_, ?_, ?_, ?_, ?_, ?_⟩
   all_goals (try simp -implicitDefEqProofs (disch:=first|omega|simp only[nx4]<;>omega|fail) [e2, e3, e4, q0, q1, q2, q3])
   all_goals (try omega)
  ·have hw' : acc ++ nMeet (l.drop (i + 1)) r = nMeet l r := by
    rw [← hw]; simp [nMeet, hny]
   simp -implicitDefEqProofs (disch:=first|omega|simp only[nx4]<;>omega|fail) [a96l7, a96r3, a96r4, e2, e3, e6, jo, j3, hil, hlt', hlt, hget]
   refine pcV_intro h81 ?_
   simp -implicitDefEqProofs (disch:=first|omega|simp only[nx4]<;>omega|fail) [hny]
   intro m hm
   simp -implicitDefEqProofs (disch:=first|omega|simp only[nx4]<;>omega|fail) [a96r6, e6, w3]
   refine go_next (l.length - (i + 1)) (by omega) ⟨i + 1, acc, v, by omega, rfl, hw', by omega, ?_, ?_, ?_, ?_, ht.move (by simp -implicitDefEqProofs (disch:=first|omega|simp only[nx4]<;>omega|fail); omega) fun q _ _ _ => by simp -implicitDefEqProofs (disch:=first|omega|simp only[nx4]<;>omega|fail), ?_, ?_, ?_, ?_, ?_, ?_⟩
   all_goals (try simp -implicitDefEqProofs (disch:=first|omega|simp only[nx4]<;>omega|fail) [e2, e3, e4, e5, jo, j3, j4, hk, hnx])
   all_goals (try omega)
 ·have hlt' : ¬ (i : Int) < l.length := by omega
  obtain rfl : i = l.length := by omega
  rw [List.drop_length] at hw
  obtain ⟨hv1, hv2⟩ := ht.val
  have hwk := ht.wk (ys := ilist (nMeet l r)) (by rw [← hw]; simp [nMeet])
  simp -implicitDefEqProofs (disch:=first|omega|simp only[nx4]<;>omega|fail) [a96l7, a96r3, e2, e4, e5, e6, jo, j4, hil, hlt', a96r8, hk, hv1, hv2, wkL, hwk]
  done
def FrzS (K : AV → St → Prop) (r : AV) (s' : St) : Prop := K r s' ∨ ∃ b sz o len xs, r = .agg [.bool b, .mref sz o 0 len] ∧ s'.m o = some (.box (flat xs)) ∧ (∀ x ∈ xs, x.cells.length = sz) ∧ xs.length = len ∧ K (.agg [.bool b, .list sz .none xs]) (s'.del o)
theorem frzS {P : Program} {f : FuncId} {args : List AV} {s : St} {K : AV → St → Prop} (h : ACalls P f args s (FrzS K)) : ACalls P f args s K := by
 refine ⟨h.1, fun ι w ws h1 h2 h3 => Calls.mono (h.2 ι w ws h1 h2 h3) ?_⟩
 rintro e w' ⟨v, r, s', ι', k1, k2, k3, k4, k5, k6, hk | ⟨b, sz, o, len, xs, rfl, ho, hsz, hlen, hk⟩⟩
 ·exact ⟨v, r, s', ι', k1, k2, k3, k4, k5, k6, hk⟩
 ·have hst : Step ι' s'.m w' ι' (s'.del o).m w' := drop_step s'.m (delS s'.m o) (delS_sub s'.m o) ι' w'
  refine ⟨v, _, _, ι', k1, k2.trans hst, k3.drop (delS_sub s'.m o), ⟨fun q ob hq => k4.lt q ob (delS_sub s'.m o q ob hq), k4.ilt⟩, k5, ?_, hk⟩
  cases k6 with
  | agg hl hc hr =>
   refine .agg hl hc fun j u y hu hy => ?_
   match j with
   | 0 =>
    simp at hy; subst hy
    exact plain_bool _ _ _ _ _ _ _ (hr 0 u _ hu rfl)
   | 1 =>
    simp at hy; subst hy
    exact (hr 1 u _ hu rfl).freeze k3 ho hsz hlen
   | j + 2 => simp at hy
theorem p98 (zs : List Int) (o : Nat) (s : St) (hlen : zs.length ≤ 1000000) (ho : s.m o = some (.box (ilist zs))) (hon : o < s.nx) : ACalls Tryz.prog 98 [.mref 1 o 0 zs.length] s fun r s' => r = .tup [] ∧ s'.m o = some (.box (ilist (isort zs))) ∧ KeptX s o s' := by
 refine fun_sound mixed Tryz.func98 Tryz.call98 c98 rfl (awpFun_go _ _ _ _ ?_)
 simp -implicitDefEqProofs (disch:=first|omega|simp only[nx4]<;>omega|fail) [a98, a98b, a98r0]
 refine go_calls (p50 zs o _ _ (by omega) (by simp -implicitDefEqProofs (disch:=first|omega|simp only[nx4]<;>omega|fail) [ho]) (go_of ?_))
 simp -implicitDefEqProofs (disch:=first|omega|simp only[nx4]<;>omega|fail)
 rfl
def withL (a b : List Int) : List Int := b.filter fun k => decide (k ∉ a)
theorem withL_sort {a b : List Int} (ha : Asc a) (hb : Asc b) : isort (a ++ withL a b) = lun a b := by
 have hnd : (a ++ withL a b).Nodup := by
  rw [List.nodup_append]
  refine ⟨ha.nodup, List.Pairwise.filter _ hb.nodup, ?_⟩
  rintro x hx y hy rfl
  simp [withL] at hy
  exact hy.2 hx
 refine asc_ext (isort_asc hnd) (lun_asc ha) fun k => ?_
 rw [mem_isort, mem_lun, List.mem_append]
 simp only [withL, List.mem_filter, decide_eq_true_eq]
 constructor
 ·rintro (h | h)
  ·exact .inl h
  ·exact .inr h.1
 ·rintro (h | h)
  ·exact .inl h
  ·by_cases hk : k ∈ a
   ·exact .inl hk
   ·exact .inr ⟨h, hk⟩
def I57 (a b : List Int) (s : St) (m : Nat) (g : Env) (s1 : St) : Prop :=
 ∃ (i o : Nat) (acc : List Int), i ≤ b.length ∧ m = b.length - i ∧ acc ++ withL a (b.drop i) = a ++ withL a b ∧ acc.length ≤ a.length + i ∧ g.get 2 = .ptr s.nx 0 ∧ g.get 3 = .ptr (s.nx + 1) 0 ∧ g.get 4 = .ptr (s.nx + 1 + 1) 0 ∧ g.get 5 = .mref 1 o 0 acc.length ∧ s1.m o = some (.box (ilist acc)) ∧ s.nx + 1 + 1 < o ∧ o < s1.nx ∧ g.get 6 = .int .i64 i ∧
  s1.m s.nx = some (.box [.bool false, .list 1 .none (ilist a)]) ∧ s1.m (s.nx + 1) = some (.box [.bool false, .list 1 .none (ilist b)]) ∧ s1.m (s.nx + 1 + 1) = some (.box [.bool false, .list 0 .full []]) ∧ Kept s s1
theorem p57 (x y : ND) (hx : lenN x ≤ 400000) (hy : lenN y ≤ 400000) (hxo : x.ok) (hyo : y.ok) : PureC Tryz.prog 57 [rN x, rN y] (rN (nWith x y)) := by
 refine PureC.intro fun s => frzS (fun_sound mixed Tryz.func57 Tryz.call57 c57 rfl (awpFun_go _ _ _ _ ?_))
 cases x with
 | none =>
  simp -implicitDefEqProofs (disch:=first|omega|simp only[nx4]<;>omega|fail) [a57, a57b, a57r0, a57r1, a57r2, rN, nWith]
  refine .inl ?_
  refine ⟨by simp [wk, wkL, ilist], ?_⟩
  simp -implicitDefEqProofs (disch:=first|omega|simp only[nx4]<;>omega|fail)
 | some a =>
 cases y with
 | none =>
  simp -implicitDefEqProofs (disch:=first|omega|simp only[nx4]<;>omega|fail) [a57, a57b, a57r0, a57r1, a57r2, rN, nWith]
  refine .inl ?_
  refine ⟨by simp [wk, wkL, ilist], ?_⟩
  simp -implicitDefEqProofs (disch:=first|omega|simp only[nx4]<;>omega|fail)
 | some b =>
 simp only [lenN, Option.getD_some] at hx hy
 have hila : (ilist a).length = a.length := by simp [ilist]
 have hil : (ilist b).length = b.length := by simp [ilist]
 have hfa : flat (ilist a) = ilist a := flat_il a
 simp -implicitDefEqProofs (disch:=first|omega|simp only[nx4]<;>omega|fail) [a57, a57b, a57r0, a57r1, a57r3, a57r4, rN, nWith, hila, hfa, a57r5]
 refine go_loop (I57 a b s) b.length ⟨0, s.nx + 1 + 1 + 1 + 1, a, by omega, by omega, by simp, by simp, ?_, ?_, ?_, ?_, ?_, by omega, ?_, ?_, ?_, ?_, ?_, ?_⟩ ?_
 iterate 11 (simp -implicitDefEqProofs (disch:=first|omega|simp only[nx4]<;>omega|fail))
 rintro m g S ⟨i, o, acc, hi, rfl, hw, hal, e2, e3, e4, e5, jO, ho1, ho2, e6, jo, j3, j4, hk⟩
 have hia : (ilist acc).length = acc.length := by simp [ilist]
 by_cases hlt : i < b.length
 ·have hlt' : (i : Int) < b.length := by omega
  have w3 := wrapS (i := i) (by omega)
  have hget : ∀ h : i < (ilist b).length, (ilist b)[i]'h = .int .i64 b[i] := by intro h; simp [ilist]
  rw [List.drop_eq_getElem_cons hlt] at hw
  generalize b[i] = z at hw hget
  have h81 := p81 (some a) z (by simp [lenN]; omega)
  have hrn : rN (some a) = .agg [.bool false, .list 1 .none (ilist a)] := rfl
  rw [hrn] at h81
  by_cases hny : z ∈ a
  ·have hw' : acc ++ withL a (b.drop (i + 1)) = a ++ withL a b := by
    rw [← hw]; simp [withL, hny]
   simp -implicitDefEqProofs (disch:=first|omega|simp only[nx4]<;>omega|fail) [a57l10, a57r6, a57r7, e2, e3, e6, jo, j3, hil, hlt', hlt, hget]
   refine pcV_intro h81 ?_
   simp -implicitDefEqProofs (disch:=first|omega|simp only[nx4]<;>omega|fail) [hny]
   intro m hm
   simp -implicitDefEqProofs (disch:=first|omega|simp only[nx4]<;>omega|fail) [a57r9, e6, w3]
   refine go_next (b.length - (i + 1)) (by omega) ⟨i + 1, o, acc, by omega, rfl, hw', by omega, ?_, ?_, ?_, ?_, ?_, by omega, ?_, ?_, ?_, ?_, ?_, ?_⟩
   all_goals (try simp -implicitDefEqProofs (disch:=first|omega|simp only[nx4]<;>omega|fail) [e2, e3, e4, e5, jO, jo, j3, j4, hk])
   all_goals (try omega)
  ·have hw' : (acc ++ [z]) ++ withL a (b.drop (i + 1)) = a ++ withL a b := by
    rw [← hw]; simp [withL, hny]
   have e9 : ilist (acc ++ [z]) = ilist acc ++ [.int .i64 z] := by simp [ilist]
   simp -implicitDefEqProofs (disch:=first|omega|simp only[nx4]<;>omega|fail) [a57l10, a57r6, a57r7, e2, e3, e6, jo, j3, hil, hlt', hlt, hget]
   refine pcV_intro h81 ?_
   simp -implicitDefEqProofs (disch:=first|omega|simp only[nx4]<;>omega|fail) [hny]
   intro m hm
   simp -implicitDefEqProofs (disch:=first|omega|simp only[nx4]<;>omega|fail) [a57r8, e3, e5, e6, j3, jO, hil, hia, hlt', hlt, hget, a57r9, w3]
   refine go_next (b.length - (i + 1)) (by omega) ⟨i + 1, m, acc ++ [z], by omega, rfl, hw', by simp; omega, ?_, ?_, ?_, ?_, ?_, ?_, ?_, ?_, ?_, ?_, ?_, ?_⟩
   all_goals (try simp -implicitDefEqProofs (disch:=first|omega|simp only[nx4]<;>omega|fail) [e2, e3, e4, jo, j3, j4, hk, e9])
   all_goals (try omega)
 ·have hlt' : ¬ (i : Int) < b.length := by omega
  obtain rfl : i = b.length := by omega
  rw [List.drop_length] at hw
  have hacc : acc = a ++ withL a b := by rw [← hw]; simp [withL]
  simp -implicitDefEqProofs (disch:=first|omega|simp only[nx4]<;>omega|fail) [a57l10, a57r6, e3, e5, e6, j3, hil, hlt', a57r11]
  refine go_calls (ACalls.mono (p98 acc o S (by omega) jO ho2) fun r s' hn' h => go_of ?_)
  obtain ⟨rfl, q0, hk'⟩ := h
  have q4 : s'.m (s.nx + 1 + 1) = some (.box [.bool false, .list 0 .full []]) := (hk' _ (by omega) (by omega)).trans j4
  have q3 : Kept s s' := fun q hq => (hk' q (by omega) (by omega)).trans (hk q hq)
  simp -implicitDefEqProofs (disch:=first|omega|simp only[nx4]<;>omega|fail) [a57r12, e4, e5, q4]
  refine .inr ⟨false, 1, o, acc.length, ilist (isort acc), rfl, ?_, ?_, ?_, ?_, ?_⟩
  ·rw [flat_il]
   simp -implicitDefEqProofs (disch:=first|omega|simp only[nx4]<;>omega|fail) [q0]
  ·intro x hx
   simp only [ilist, List.mem_map] at hx
   obtain ⟨y, _, rfl⟩ := hx
   rfl
  ·simp [ilist, isort_length]
  ·rw [hacc, withL_sort hxo hyo]
   simp
  ·simp -implicitDefEqProofs (disch:=first|omega|simp only[nx4]<;>omega|fail) [q3]
def Gin (p : List Gl) (t : Pl) : Prop := ∀ e ∈ pre t, e.op = 2 → e.s ∈ nms p
theorem pres_mem : ∀ {l : List Pl} {x e : Pl}, x ∈ l → e ∈ pre x → e ∈ pres l
 | y :: l, x, e, h, he => by
  rw [pres, List.mem_append]
  rcases List.mem_cons.1 h with rfl | h
  ·exact .inl he
  ·exact .inr (pres_mem h he)
theorem prea_mem : ∀ {l : List (Hd × Pl)} {x : Hd × Pl} {e : Pl}, x ∈ l → e ∈ pre x.2 → e ∈ prea l
 | (h0, y) :: l, x, e, h, he => by
  rw [prea, List.mem_append]
  rcases List.mem_cons.1 h with rfl | h
  ·exact .inl he
  ·exact .inr (prea_mem h he)
theorem pre_self (t : Pl) : t ∈ pre t := by cases t; simp [pre]
theorem Gin.arg {p : List Gl} {t x : Pl} (h : Gin p t) (hx : x ∈ t.args) : Gin p x := fun e he ho => h e (by
 cases t
 rw [pre]
 exact List.mem_cons_of_mem _ (List.mem_append_left _ (pres_mem hx he))) ho
theorem Gin.alt {p : List Gl} {t : Pl} {x : Hd × Pl} (h : Gin p t) (hx : x ∈ t.alts) : Gin p x.2 := fun e he ho => h e (by
 cases t
 rw [pre]
 exact List.mem_cons_of_mem _ (List.mem_append_right _ (prea_mem hx he))) ho
theorem idxQ_at {α : Type} (q : α → Bool) : ∀ (l : List α) (i : Int) (j : Nat), 0 ≤ i → idxQ q l i = i + j → ∃ h : j < l.length, q l[j] = true
 | [], i, j, hi, h => by simp [idxQ] at h; omega
 | x :: l, i, j, hi, h => by
  rw [idxQ] at h
  split at h
  ·rename_i hq
   have : j = 0 := by omega
   subst this
   exact ⟨by simp, hq⟩
  ·cases j with
   | zero =>
    exfalso
    have : ∀ (l : List α) (k : Int), 0 ≤ k → idxQ q l k = -1 ∨ k ≤ idxQ q l k := by
     intro l
     induction l with
     | nil => intro k _; simp [idxQ]
     | cons y l ih =>
      intro k hk
      rw [idxQ]
      split
      ·exact .inr (by omega)
      ·rcases ih (k + 1) (by omega) with h | h
       ·exact .inl h
       ·exact .inr (by omega)
    rcases this l (i + 1) (by omega) with h' | h' <;> omega
   | succ j =>
    obtain ⟨h1, h2⟩ := idxQ_at q l (i + 1) j (by omega) (by omega)
    exact ⟨by simpa using h1, by simpa using h2⟩
theorem find_name {p : List Gl} {s : ByteArray} (h : s ∈ nms p) : ∃ j : Nat, findI p s = j ∧ ∃ h : j < p.length, p[j].name = s := by
 have hn : 0 ≤ findI p s := (idxQ_neg _ p 0 (by omega)).2 (by
  simp only [nms, List.mem_map] at h
  obtain ⟨g, hg, e⟩ := h
  exact ⟨g, hg, by simp [e]⟩)
 obtain ⟨j, hj⟩ : ∃ j : Nat, findI p s = j := ⟨(findI p s).toNat, by omega⟩
 obtain ⟨h1, h2⟩ := idxQ_at (fun g : Gl => decide (g.name = s)) p 0 j (by omega) (by rw [findI] at hj; omega)
 exact ⟨j, hj, h1, by simpa using h2⟩
structure RT (p : List Gl) (f : Tb) : Prop where
 gp : GoodP p
 good : GoodT p f
 w : ∀ g ∈ p, (f g).w = wnt g.body
def KR (p : List Gl) (f : Tb) : AV := .agg [.list 6 .none (p.map Gl.av), .list 3 .none (dmL p f)]
def C29 (p : List Gl) (f : Tb) (t : Pl) : Prop := PureC Tryz.prog 29 [KR p f, t.av] (rN (need (lookK (tbD p f)) t))
theorem dmL_get {p : List Gl} {f : Tb} {j : Nat} (hj : j < p.length) : ∀ h : j < (dmL p f).length, (dmL p f)[j]'h = .agg [.str p[j].name, .list 1 .none ((f p[j]).st.map .bool), .bool (f p[j]).fails] := by
 intro h; simp [dmL, dm]
theorem dmL_len {p : List Gl} {f : Tb} : (dmL p f).length = p.length := by simp [dmL]
theorem p29g (p : List Gl) (f : Tb) (hf : RT p f) (t : Pl) (o2 : t.op = 2) (hg : Gin p t) : C29 p f t := by
 refine PureC.intro fun s => fun_sound mixed Tryz.func29 Tryz.call29 c29 rfl (awpFun_go _ _ _ _ ?_)
 have hpl := hf.gp.few
 obtain ⟨j, hj, hjl, hjn⟩ := find_name (hg t (pre_self t) o2)
 have hjl' : (j : Int) < p.length := by omega
 have h23 := p23 p t.s (by omega)
 have h13 := p13 p[j]
 have hlk := lookK_tb (f := f) hf.gp.nd _ (List.getElem_mem hjl)
 rw [hjn] at hlk
 have hw := hf.w _ (List.getElem_mem hjl)
 have hdl : (dmL p f).length = p.length := dmL_len
 have hdg := dmL_get (f := f) hjl
 rw [need_glob o2, hlk, hw]
 rw [hj] at h23
 generalize hx : p[j] = x at h13 hdg hw
 generalize f x = k at hdg hw
 simp -implicitDefEqProofs (disch:=first|omega|simp only[nx4]<;>omega|fail) [a29, a29b, a29r0, a29r1, a29r2, a29r4, KR, o2, a29r5]
 refine go_pure h23 fun mm1 hm1 => ?_
 try simp only [nx4] at hm1
 simp -implicitDefEqProofs (disch:=first|omega|simp only[nx4]<;>omega|fail) [a29r6, hjl, hx]
 by_cases h0 : wnt x.body = 0
 ·refine go_pure h13 fun mm2 hm2 => ?_
  try simp only [nx4] at hm2
  simp -implicitDefEqProofs (disch:=first|omega|simp only[nx4]<;>omega|fail) [h0, hdl, hdg, hjl, hjl']
  cases k.fails <;> simp [rN, wk, wkL, ilist]
 ·refine go_pure h13 fun mm3 hm3 => ?_
  try simp only [nx4] at hm3
  simp -implicitDefEqProofs (disch:=first|omega|simp only[nx4]<;>omega|fail) [h0]
  simp [rN, wk, wkL, ilist]
theorem has_getD {x : ND} (h : x.isNone = false) (k : Int) : k ∈ x.getD [] ↔ x.has k := by cases x <;> simp [ND.has] at *
theorem isNone_eq {x : ND} (h : x.isNone = true) : x = none := by cases x <;> simp at *
def IA53 (p : List Gl) (f : Tb) (fn : Pl) (fb : ND) (wn : Nat) (l : List Pl) (fin : ND) (b5 b7 b8 : Nat) (s : St) (m : Nat) (g : Env) (s1 : St) : Prop :=
 ∃ (i : Nat) (acc : ND), i ≤ wn ∧ m = wn - i ∧ lamArgs fb wn i ((l.drop i).map (need (lookK (tbD p f)))) acc = fin ∧ acc.ok ∧ lenN acc ≤ 3000 * (i + 1) ∧
  g.get 2 = .ptr s.nx 0 ∧ g.get 4 = .ptr (s.nx + 1 + 1) 0 ∧ g.get 5 = .ptr b5 0 ∧ g.get 6 = .list 5 .none (l.map Pl.av) ∧ g.get 7 = .ptr b7 0 ∧ g.get 8 = .ptr b8 0 ∧ g.get 9 = .int .i64 i ∧
  s1.m s.nx = some (.box [.list 6 .none (p.map Gl.av), .list 3 .none (dmL p f)]) ∧ s1.m (s.nx + 1 + 1) = some (.box [.bool false, .list 0 .full []]) ∧ s1.m b5 = some (.box fn.av.cells) ∧
  s1.m b7 = some (.box [.bool fb.isNone, .list 1 .none (ilist (fb.getD []))]) ∧ s1.m b8 = some (.box [.bool acc.isNone, .list 1 .none (ilist (acc.getD []))]) ∧ Kept s s1 ∧ b8 < s1.nx
set_option maxHeartbeats 4000000 in
theorem tA53 (p : List Gl) (f : Tb) (fn : Pl) (fb : ND) (hfo : fb.ok) (wn : Nat) (hw1 : 1 ≤ wn) (hw8 : wn ≤ 8) (hwn : fn.n = wn) (l : List Pl) (hle : wn ≤ l.length) (hll : l.length ≤ 8) (fin : ND) (hfl : lenN fb ≤ 3000) (hfb : NB fb)
  (hL : ∀ x ∈ l, PureC Tryz.prog 29 [.agg [.list 6 .none (p.map Gl.av), .list 3 .none (dmL p f)], x.av] (rN (need (lookK (tbD p f)) x)) ∧ lenN (need (lookK (tbD p f)) x) ≤ 3000) (hfin : lamArgs fb wn 0 (l.map (need (lookK (tbD p f)))) (nOut wn fb) = fin)
  (s : St) (b5 b7 : Nat) (g : Env) (S : St) (e2 : g.get 2 = .ptr s.nx 0) (e4 : g.get 4 = .ptr (s.nx + 1 + 1) 0) (e5 : g.get 5 = .ptr b5 0) (e6 : g.get 6 = .list 5 .none (l.map Pl.av)) (e7 : g.get 7 = .ptr b7 0)
  (j2 : S.m s.nx = some (.box [.list 6 .none (p.map Gl.av), .list 3 .none (dmL p f)])) (j4 : S.m (s.nx + 1 + 1) = some (.box [.bool false, .list 0 .full []])) (j5 : S.m b5 = some (.box fn.av.cells)) (j7 : S.m b7 = some (.box [.bool fb.isNone, .list 1 .none (ilist (fb.getD []))]))
  (hk : Kept s S) (h45 : s.nx + 1 + 1 < b5) (h57 : b5 < b7) (h7 : b7 < S.nx) :
  go (aops Tryz.prog a53r4 (regQ (seqQ Tryz.prog (((ACode.reg false a53r5).seq (ACode.block 0 a53l10.loop)).seq ((ACode.reg false a53r11).seq ACode.ret)) (seqQ Tryz.prog
    (((ACode.reg false a53r12).seq
              (ACode.cond (AOpd.g 70) ((ACode.reg false a53r13).seq ACode.ret) ACode.skip)).seq
       ((ACode.reg false a53r14).seq
        ((ACode.reg false a53r15).seq
         (((ACode.reg false a53r16).seq
               (ACode.cond (AOpd.g 86) ((ACode.reg false a53r17).seq ACode.ret) ACode.skip)).seq
          (((ACode.reg false a53r18).seq
                (ACode.cond (AOpd.g 101) ((ACode.reg false a53r19).seq ACode.ret) ACode.skip)).seq
           ((ACode.reg false a53r20).seq
            (((ACode.reg false a53r21).seq (ACode.block 2 a53l26.loop)).seq
             ((ACode.reg false a53r27).seq ACode.ret))))))))
    (finQ [ARes.cell (true, 4) 2 true] fun r' s' => wk r' (rN fin) ∧ Kept s s')))) g [] S) := by
 have h94 := p94 fb wn (by omega) (by omega) hfb
 simp only [rN] at h94
 simp -implicitDefEqProofs (disch:=first|omega|simp only[nx4]<;>omega|fail) [a53r4, e7, j7, e5, j5, hwn]
 refine go_pure h94 fun mm1 hm1 => ?_
 try simp only [nx4] at hm1
 simp -implicitDefEqProofs (disch:=first|omega|simp only[nx4]<;>omega|fail) [a53r5]
 refine go_loop (IA53 p f fn fb wn l fin b5 b7 mm1 s) wn ?h0 ?_
 case h0 =>
  have hno := lenN_out wn fb
  refine ⟨0, nOut wn fb, by omega, by omega, by simpa using hfin, nOut_ok hfo _, by omega, ?_, ?_, ?_, ?_, ?_, ?_, ?_, ?_, ?_, ?_, ?_, ?_, ?_, ?_⟩
  all_goals (try simp -implicitDefEqProofs (disch:=first|omega|simp only[nx4]<;>omega|fail) [e2, e4, e5, e6, e7, j2, j4, j5, j7, hk])
  all_goals (try omega)
 have hb8 : b7 < mm1 := by omega
 clear e2 e4 e5 e6 e7 j2 j4 j5 j7 hk h7 h94 hfin
 rintro m g S ⟨i, acc, hi, rfl, hu, hao, hal, e2, e4, e5, e6, e7, e8, e9, j2, j4, j5, j7, j8, hk, hnx⟩
 by_cases hlt : i < wn
 ·have hlt' : (i : Int) < wn := by omega
  have hil : i < l.length := by omega
  have hil' : (i : Int) < l.length := by omega
  have w1 : IntKind.i64.wrap ((wn : Int) - 1) = (wn : Int) - 1 := wrap64 (by omega) (by omega)
  have w2 : IntKind.i64.wrap ((wn : Int) - 1 - i) = (wn : Int) - 1 - i := wrap64 (by omega) (by omega)
  have w3 := wrapS (i := i) (by omega)
  rw [List.drop_eq_getElem_cons hil, List.map_cons, lamArgs, if_pos (by omega)] at hu
  obtain ⟨hxl, hxn⟩ := hL _ (List.getElem_mem hil)
  have hxo := need_ok (lookK (tbD p f)) l[i]
  generalize hxx : l[i] = x at hu hxl hxo hxn
  generalize need (lookK (tbD p f)) x = nx at hu hxl hxo hxn
  have h57 := p57 acc nx (by omega) (by omega) hao hxo
  have h81 := p81 fb ((wn : Int) - 1 - i) (by omega)
  simp only [rN] at h57 hxl h81
  have hnw := lenN_with acc nx
  cases hfbn : fb.isNone with
  | true =>
   have hno : ¬ fb.has ((wn : Int) - 1 - i) := by rw [isNone_eq hfbn]; simp [ND.has]
   rw [if_neg hno] at hu
   rw [hfbn] at j7
   simp -implicitDefEqProofs (disch:=first|omega|simp only[nx4]<;>omega|fail) [a53l10, a53r6, a53r7, e2, e5, e7, e9, j5, j7, hwn, hlt', a53r9, w3]
   refine go_next (wn - (i + 1)) (by omega) ⟨i + 1, acc, by omega, rfl, hu, hao, by omega, ?_, ?_, ?_, ?_, ?_, ?_, ?_, ?_, ?_, ?_, ?_, ?_, ?_, ?_⟩
   all_goals (try simp -implicitDefEqProofs (disch:=first|omega|simp only[nx4]<;>omega|fail) [e2, e4, e5, e6, e7, e8, j2, j4, j5, j7, j8, hk, hfbn])
   all_goals (try omega)
  | false =>
   rw [hfbn] at j7 h81
   by_cases hh : fb.has ((wn : Int) - 1 - i)
   ·rw [if_pos hh] at hu
    have hm := (has_getD hfbn _).2 hh
    rw [decide_eq_true hm] at h81
    simp -implicitDefEqProofs (disch:=first|omega|simp only[nx4]<;>omega|fail) [a53l10, a53r6, a53r7, e2, e5, e7, e9, j5, j7, hwn, hlt', w1, w2]
    refine go_pure h81 fun mm2 hm2 => ?_
    try simp only [nx4] at hm2
    simp -implicitDefEqProofs (disch:=first|omega|simp only[nx4]<;>omega|fail) [a53r8, e2, e6, e8, e9, j2, j8, hil, hil', hxx]
    refine pcV_intro hxl ?_
    simp -implicitDefEqProofs (disch:=first|omega|simp only[nx4]<;>omega|fail) []
    refine pcV_intro h57 ?_
    simp -implicitDefEqProofs (disch:=first|omega|simp only[nx4]<;>omega|fail) [e8, j8]
    intro m hm
    simp -implicitDefEqProofs (disch:=first|omega|simp only[nx4]<;>omega|fail) [a53r9, e9, w3]
    refine go_next (wn - (i + 1)) (by omega) ⟨i + 1, nWith acc nx, by omega, rfl, hu, nWith_ok hao hxo, by omega, ?_, ?_, ?_, ?_, ?_, ?_, ?_, ?_, ?_, ?_, ?_, ?_, ?_, ?_⟩
    all_goals (try simp -implicitDefEqProofs (disch:=first|omega|simp only[nx4]<;>omega|fail) [e2, e4, e5, e6, e7, e8, j2, j4, j5, j7, hk, hfbn])
    all_goals (try omega)
   ·rw [if_neg hh] at hu
    have hm : ¬ (wn : Int) - 1 - i ∈ fb.getD [] := fun h => hh ((has_getD hfbn _).1 h)
    rw [decide_eq_false hm] at h81
    simp -implicitDefEqProofs (disch:=first|omega|simp only[nx4]<;>omega|fail) [a53l10, a53r6, a53r7, e2, e5, e7, e9, j5, j7, hwn, hlt', w1, w2]
    refine go_pure h81 fun mm3 hm3 => ?_
    try simp only [nx4] at hm3
    simp -implicitDefEqProofs (disch:=first|omega|simp only[nx4]<;>omega|fail) [a53r9, e9, w3]
    refine go_next (wn - (i + 1)) (by omega) ⟨i + 1, acc, by omega, rfl, hu, hao, by omega, ?_, ?_, ?_, ?_, ?_, ?_, ?_, ?_, ?_, ?_, ?_, ?_, ?_, ?_⟩
    all_goals (try simp -implicitDefEqProofs (disch:=first|omega|simp only[nx4]<;>omega|fail) [e2, e4, e5, e6, e7, e8, j2, j4, j5, j7, j8, hk, hfbn])
    all_goals (try omega)
 ·have hlt' : ¬ (i : Int) < wn := by omega
  obtain rfl : i = wn := by omega
  rw [lamArgs_end] at hu
  subst hu
  simp -implicitDefEqProofs (disch:=first|omega|simp only[nx4]<;>omega|fail) [a53l10, a53r6, e5, e9, j5, hwn, hlt', a53r11, e4, e8, j4, j8, hk, rN]
  done
def IB53 (p : List Gl) (f : Tb) (k : Kn) (j wn : Nat) (l : List Pl) (fin : ND) (b12 : Nat) (s : St) (m : Nat) (g : Env) (s1 : St) : Prop :=
 ∃ (i : Nat) (acc : ND), i ≤ wn ∧ m = wn - i ∧ unionIf (k.st.drop i) ((l.drop i).map (need (lookK (tbD p f)))) acc = fin ∧ acc.ok ∧ lenN acc ≤ 3000 * i ∧
  g.get 2 = .ptr s.nx 0 ∧ g.get 4 = .ptr (s.nx + 1 + 1) 0 ∧ g.get 6 = .list 5 .none (l.map Pl.av) ∧ g.get 10 = .int .i64 j ∧ g.get 11 = .int .i64 wn ∧ g.get 12 = .ptr b12 0 ∧ g.get 13 = .int .i64 i ∧
  s1.m s.nx = some (.box [.list 6 .none (p.map Gl.av), .list 3 .none (dmL p f)]) ∧ s1.m (s.nx + 1 + 1) = some (.box [.bool false, .list 0 .full []]) ∧
  (∃ tk, s1.m b12 = some (.box [.bool acc.isNone, tk]) ∧ (tk = .list 1 .none (ilist (acc.getD [])) ∨ (tk = .list 0 .full [] ∧ acc = some []))) ∧ Kept s s1 ∧ b12 < s1.nx
set_option maxHeartbeats 4000000 in
theorem tB53 (p : List Gl) (f : Tb) (j : Nat) (hjl : j < p.length) (hpl : p.length ≤ 400) (k : Kn) (hdg : ∀ h : j < (dmL p f).length, (dmL p f)[j]'h = .agg [.str p[j].name, .list 1 .none (k.st.map .bool), .bool k.fails]) (wn : Nat) (hw8 : wn ≤ 8) (hst : k.st.length = wn) (l : List Pl) (hle : wn ≤ l.length) (hll : l.length ≤ 8) (fin : ND)
  (hL : ∀ x ∈ l, PureC Tryz.prog 29 [.agg [.list 6 .none (p.map Gl.av), .list 3 .none (dmL p f)], x.av] (rN (need (lookK (tbD p f)) x)) ∧ lenN (need (lookK (tbD p f)) x) ≤ 3000) (hfin : unionIf k.st (l.map (need (lookK (tbD p f)))) (some []) = fin)
  (s : St) (g : Env) (S : St) (e2 : g.get 2 = .ptr s.nx 0) (e4 : g.get 4 = .ptr (s.nx + 1 + 1) 0) (e6 : g.get 6 = .list 5 .none (l.map Pl.av)) (e10 : g.get 10 = .int .i64 j) (e11 : g.get 11 = .int .i64 wn)
  (j2 : S.m s.nx = some (.box [.list 6 .none (p.map Gl.av), .list 3 .none (dmL p f)])) (j4 : S.m (s.nx + 1 + 1) = some (.box [.bool false, .list 0 .full []])) (hk : Kept s S) (h7 : s.nx + 1 + 1 < S.nx) :
  go (aops Tryz.prog a53r20 (regQ (seqQ Tryz.prog (((ACode.reg false a53r21).seq (ACode.block 2 a53l26.loop)).seq ((ACode.reg false a53r27).seq ACode.ret)) (finQ [ARes.cell (true, 4) 2 true] fun r' s' => wk r' (rN fin) ∧ Kept s s'))) g [] S) := by
 simp -implicitDefEqProofs (disch:=first|omega|simp only[nx4]<;>omega|fail) [a53r20, a53r21]
 refine go_loop (IB53 p f k j wn l fin S.nx s) wn ?h0 ?_
 case h0 =>
  refine ⟨0, some [], by omega, by omega, by simpa using hfin, asc_nil, by simp [lenN], ?_, ?_, ?_, ?_, ?_, ?_, ?_, ?_, ?_, ⟨.list 0 .full [], ?_, .inr ⟨rfl, rfl⟩⟩, ?_, ?_⟩
  all_goals (try simp -implicitDefEqProofs (disch:=first|omega|simp only[nx4]<;>omega|fail) [e2, e4, e6, e10, e11, j2, j4, hk])
  all_goals (try omega)
 have hb12 : s.nx + 1 + 1 < S.nx := h7
 generalize S.nx = b12 at hb12
 clear e2 e4 e6 e10 e11 j2 j4 hk hfin h7
 rintro m g S ⟨i, acc, hi, rfl, hu, hao, hal, e2, e4, e6, e10, e11, e12, e13, j2, j4, ⟨tk, j12, htk⟩, hk, hnx⟩
 have hdl : (dmL p f).length = p.length := dmL_len
 have hjl' : (j : Int) < p.length := by omega
 by_cases hlt : i < wn
 ·have hlt' : (i : Int) < wn := by omega
  have hil : i < l.length := by omega
  have hil' : (i : Int) < l.length := by omega
  have his : i < k.st.length := by omega
  have w3 := wrapS (i := i) (by omega)
  rw [List.drop_eq_getElem_cons hil, List.map_cons, List.drop_eq_getElem_cons his, unionIf] at hu
  obtain ⟨hxl, hxn⟩ := hL _ (List.getElem_mem hil)
  have hxo := need_ok (lookK (tbD p f)) l[i]
  generalize hxx : l[i] = x at hu hxl hxo hxn
  generalize need (lookK (tbD p f)) x = nx at hu hxl hxo hxn
  have h57 := p57 acc nx (by omega) (by omega) hao hxo
  simp only [rN] at h57 hxl
  have hnw := lenN_with acc nx
  cases hb : k.st[i] with
  | false =>
   rw [if_neg (by rw [hb]; simp)] at hu
   simp -implicitDefEqProofs (disch:=first|omega|simp only[nx4]<;>omega|fail) [a53l26, a53r22, a53r23, e2, e10, e11, e13, j2, hlt', hdl, hdg, hjl, hjl', hst, hlt, hb, a53r25, w3]
   refine go_next (wn - (i + 1)) (by omega) ⟨i + 1, acc, by omega, rfl, hu, hao, by omega, ?_, ?_, ?_, ?_, ?_, ?_, ?_, ?_, ?_, ⟨tk, ?_, htk⟩, ?_, ?_⟩
   all_goals (try simp -implicitDefEqProofs (disch:=first|omega|simp only[nx4]<;>omega|fail) [e2, e4, e6, e10, e11, e12, j2, j4, j12, hk])
   all_goals (try omega)
  | true =>
   rw [if_pos hb] at hu
   have h57' : PureC Tryz.prog 57 [.agg [.bool acc.isNone, tk], .agg [.bool nx.isNone, .list 1 .none (ilist (nx.getD []))]] (.agg [.bool (nWith acc nx).isNone, .list 1 .none (ilist ((nWith acc nx).getD []))]) := by
    rcases htk with rfl | ⟨rfl, rfl⟩
    ·exact h57
    ·exact h57.argw (by simp [wkL, wk, ilist])
   simp -implicitDefEqProofs (disch:=first|omega|simp only[nx4]<;>omega|fail) [a53l26, a53r22, a53r23, e2, e10, e11, e13, j2, hlt', hdl, hdg, hjl, hjl', hst, hlt, hb, a53r24, e6, e12, j12, hil, hil', hxx]
   refine pcV_intro hxl ?_
   simp -implicitDefEqProofs (disch:=first|omega|simp only[nx4]<;>omega|fail) []
   refine pcV_intro h57' ?_
   simp -implicitDefEqProofs (disch:=first|omega|simp only[nx4]<;>omega|fail) [e12, j12]
   intro m hm
   simp -implicitDefEqProofs (disch:=first|omega|simp only[nx4]<;>omega|fail) [a53r25, e13, w3]
   refine go_next (wn - (i + 1)) (by omega) ⟨i + 1, nWith acc nx, by omega, rfl, hu, nWith_ok hao hxo, by omega, ?_, ?_, ?_, ?_, ?_, ?_, ?_, ?_, ?_, ⟨_, ?_, .inl rfl⟩, ?_, ?_⟩
   all_goals (try simp -implicitDefEqProofs (disch:=first|omega|simp only[nx4]<;>omega|fail) [e2, e4, e6, e10, e11, e12, j2, j4, hk])
   all_goals (try omega)
 ·have hlt' : ¬ (i : Int) < wn := by omega
  obtain rfl : i = wn := by omega
  rw [List.drop_eq_nil_of_le (by omega), unionIf_nil] at hu
  subst hu
  have htv : tk.isVal = true ∧ tk.cells = [tk] ∧ wk tk (.list 1 .none (ilist (acc.getD []))) := by
   rcases htk with rfl | ⟨rfl, rfl⟩
   ·simp
   ·simp [ilist, wkL]
  obtain ⟨tv1, tv2, tv3⟩ := htv
  simp -implicitDefEqProofs (disch:=first|omega|simp only[nx4]<;>omega|fail) [a53l26, a53r22, e11, e13, hlt', a53r27, e4, e12, j4, j12, hk, rN, wkL, tv1, tv2, tv3]
  done
set_option maxHeartbeats 4000000 in
theorem p53 (p : List Gl) (f : Tb) (hf : RT p f) (t : Pl) (hw : wf t = true) (hs : small t) (hr : rng t) (hg : Gin p t) (o6 : t.op = 6) (ih : ∀ x ∈ t.args, C29 p f x) (ihb : ∀ x ∈ t.args, ∀ y ∈ x.args, C29 p f y) :
  PureC Tryz.prog 53 [KR p f, t.av] (rN (need (lookK (tbD p f)) t)) := by
 refine PureC.intro fun s => fun_sound mixed Tryz.func53 Tryz.call53 c53 rfl (awpFun_go _ _ _ _ ?_)
 obtain ⟨hnd, hwa, hwb⟩ := wf_nd hw
 have hr' := (rng_eq t).1 hr
 obtain ⟨fn, l, hfl⟩ : ∃ fn l, t.args = fn :: l := by
  cases h : t.args with
  | nil => have := hnd.app o6; rw [h] at this; simp at this
  | cons f l => exact ⟨f, l, rfl⟩
 have hal := hnd.app o6
 have hll : l.length ≤ 8 := by rw [hfl] at hal; simp at hal; omega
 obtain ⟨fin, hfin⟩ : ∃ fin, need (lookK (tbD p f)) t = fin := ⟨_, rfl⟩
 rw [hfin]
 rw [need_app o6 hfl] at hfin
 have hfm : fn ∈ t.args := by simp [hfl]
 have hfw := hwa fn hfm
 obtain ⟨hfnd, hfwa, _⟩ := wf_nd hfw
 have h29f := ih fn hfm
 unfold C29 at h29f
 have hg0 : ((fn.av :: List.map Pl.av l)[0]?).getD AV.any = fn.av := rfl
 simp -implicitDefEqProofs (disch:=first|omega|simp only[nx4]<;>omega|fail) [a53, a53b, a53r0, KR, a53r1, hfl, hg0]
 intro m hm
 by_cases o5 : fn.op = 5
 ·obtain ⟨n1, n8, nl⟩ := hfnd.lam o5
  obtain ⟨fx, hfx⟩ : ∃ x, fn.args = [x] := List.length_eq_one_iff.1 nl
  obtain ⟨wn, hwn⟩ : ∃ wn : Nat, fn.n = wn := ⟨fn.n.toNat, by omega⟩
  by_cases hle : fn.n ≤ (l.length : Int)
  ·rw [if_pos ⟨o5, hle⟩] at hfin
   simp -implicitDefEqProofs (disch:=first|omega|simp only[nx4]<;>omega|fail) [a53r2, o5, hle, hfx]
   have hxm : fx ∈ fn.args := by simp [hfx]
   have h29x := ihb fn hfm fx hxm
   have hsf := small_arg hs hfm
   have hnB : needB (lookK (tbD p f)) fn = need (lookK (tbD p f)) fx := by rw [needB_eq, hfx]; rfl
   rw [hnB] at hfin
   have hxl := (need_len (lookK (tbD p f)) fx (hfwa fx hxm)).1
   have hxs := (small_arg hsf hxm).1
   have hxb := (need_bnd (lookK (tbD p f)) fx (hfwa fx hxm) (((rng_eq fn).1 (hr'.2.2.1 fn hfm)).2.2.1 fx hxm)).1
   have hxo := need_ok (lookK (tbD p f)) fx
   rw [hwn] at hfin
   simp only [C29, KR, rN] at h29x
   have hgx : ([fx.av][0]?).getD AV.any = fx.av := rfl
   simp -implicitDefEqProofs (disch:=first|omega|simp only[nx4]<;>omega|fail) [a53r3, hfx, hgx]
   refine pcV_intro h29x ?_
   simp -implicitDefEqProofs (disch:=first|omega|simp only[nx4]<;>omega|fail) []
   intro m1 hm1
   refine tA53 p f fn _ hxo wn (by omega) (by omega) hwn l (by omega) hll fin (by omega) hxb (fun x hx => ⟨ih x (by simp [hfl, hx]), ?_⟩) hfin s (s.nx + 1 + 1 + 1) m _ _ ?_ ?_ ?_ ?_ ?_ ?_ ?_ ?_ ?_ ?_ ?_ ?_ ?_
   ·have h1 := (need_len (lookK (tbD p f)) x (hwa x (by simp [hfl, hx]))).1
    have h2 := (small_arg hs (x := x) (by simp [hfl, hx])).1
    omega
   all_goals (try simp -implicitDefEqProofs (disch:=first|omega|simp only[nx4]<;>omega|fail) [hfx, o5])
   all_goals (try omega)
   done
  ·rw [if_neg (fun h => hle h.2), if_pos (by omega)] at hfin
   have hav5 : AV.agg [AV.int .i64 5, AV.int .i64 fn.n, AV.str fn.s, AV.list 5 .none (List.map Pl.av fn.args), AV.list 8 .none (List.map Pl.altv fn.alts)] = fn.av := by rw [← o5, Pl.av_fold]
   subst hfin
   simp only [KR, rN] at h29f
   simp -implicitDefEqProofs (disch:=first|omega|simp only[nx4]<;>omega|fail) [a53r2, o5, hle, a53r12, a53r13, hav5]
   refine go_pure h29f fun mm4 hm4 => ?_
   try simp only [nx4] at hm4
   simp -implicitDefEqProofs (disch:=first|omega|simp only[nx4]<;>omega|fail) [rN]
   done
 ·rw [if_neg (fun h => o5 h.1)] at hfin
  by_cases o2 : fn.op = 2
  ·rw [if_neg (by omega)] at hfin
   obtain ⟨j, hj, hjl, hjn⟩ := find_name (hg.arg hfm fn (pre_self fn) o2)
   have hpl := hf.gp.few
   have hjl' : (j : Int) < p.length := by omega
   have h23 := p23 p fn.s (by omega)
   have h13 := p13 p[j]
   have hlk := lookK_tb (f := f) hf.gp.nd _ (List.getElem_mem hjl)
   rw [hjn] at hlk
   have hkw := hf.w _ (List.getElem_mem hjl)
   obtain ⟨hkg, hks⟩ := hf.good _ (List.getElem_mem hjl)
   have hdl : (dmL p f).length = p.length := dmL_len
   have hdg := dmL_get (f := f) hjl
   rw [hlk] at hfin
   rw [hj] at h23
   generalize f p[j] = k at hdg hkw hkg hks hfin
   rw [← hkw] at h13
   obtain ⟨wn, hwn⟩ : ∃ wn : Nat, k.w = wn := ⟨k.w.toNat, by omega⟩
   rw [hwn] at h13 hfin hks hkg
   have hav2 : AV.agg [AV.int .i64 2, AV.int .i64 fn.n, AV.str fn.s, AV.list 5 .none (List.map Pl.av fn.args), AV.list 8 .none (List.map Pl.altv fn.alts)] = fn.av := by rw [← o2, Pl.av_fold]
   simp only [KR, rN] at h29f
   simp -implicitDefEqProofs (disch:=first|omega|simp only[nx4]<;>omega|fail) [a53r2, o5, o2, a53r12, a53r14]
   refine go_pure h23 fun mm5 hm5 => ?_
   try simp only [nx4] at hm5
   simp -implicitDefEqProofs (disch:=first|omega|simp only[nx4]<;>omega|fail) [a53r15, hjl]
   by_cases h0 : wn = 0
   ·subst h0
    rw [if_pos (show ((0 : Nat) : Int) = 0 from rfl)] at hfin
    subst hfin
    refine go_pure h13 fun mm6 hm6 => ?_
    try simp only [nx4] at hm6
    simp -implicitDefEqProofs (disch:=first|omega|simp only[nx4]<;>omega|fail) [a53r16, a53r17, hav2]
    refine go_pure h29f fun mm7 hm7 => ?_
    try simp only [nx4] at hm7
    simp -implicitDefEqProofs (disch:=first|omega|simp only[nx4]<;>omega|fail) [rN]
   ·have h0' : ¬ (wn : Int) = 0 := by omega
    rw [if_neg h0'] at hfin
    refine go_pure h13 fun mm8 hm8 => ?_
    try simp only [nx4] at hm8
    simp -implicitDefEqProofs (disch:=first|omega|simp only[nx4]<;>omega|fail) [a53r16, h0]
    by_cases hlw : l.length < wn
    ·have hlw' : (l.length : Int) < wn := by omega
     rw [if_pos hlw'] at hfin
     subst hfin
     simp -implicitDefEqProofs (disch:=first|omega|simp only[nx4]<;>omega|fail) [h0, a53r18, hlw, a53r19, rN]
     simp [wkL, ilist]
     done
    ·have hlw' : ¬ (l.length : Int) < wn := by omega
     rw [if_neg hlw'] at hfin
     cases hkf : k.fails with
     | true =>
      rw [hkf, if_pos rfl] at hfin
      subst hfin
      simp -implicitDefEqProofs (disch:=first|omega|simp only[nx4]<;>omega|fail) [h0, a53r18, hlw, hdl, hdg, hjl, hjl', hkf, a53r19, rN]
      simp [wkL, ilist]
      omega
     | false =>
      rw [hkf, if_neg (by simp)] at hfin
      simp -implicitDefEqProofs (disch:=first|omega|simp only[nx4]<;>omega|fail) [h0, a53r18, hlw, hdl, hdg, hjl, hjl', hkf]
      refine tB53 p f j hjl hpl k hdg wn (by omega) (by omega) l (by omega) hll fin (fun x hx => ⟨ih x (by simp [hfl, hx]), ?_⟩) hfin s _ _ ?_ ?_ ?_ ?_ ?_ ?_ ?_ ?_ ?_
      ·have h1 := (need_len (lookK (tbD p f)) x (hwa x (by simp [hfl, hx]))).1
       have h2 := (small_arg hs (x := x) (by simp [hfl, hx])).1
       omega
      all_goals (try simp -implicitDefEqProofs (disch:=first|omega|simp only[nx4]<;>omega|fail) [])
      all_goals (try omega)
      done
  ·rw [if_pos o2] at hfin
   subst hfin
   simp only [KR, rN] at h29f
   simp -implicitDefEqProofs (disch:=first|omega|simp only[nx4]<;>omega|fail) [a53r2, o5, o2, a53r12, a53r13]
   refine go_pure h29f fun mm9 hm9 => ?_
   try simp only [nx4] at hm9
   simp -implicitDefEqProofs (disch:=first|omega|simp only[nx4]<;>omega|fail) [rN]
   done
end Go.AL.Dm
