/- Strict: the program. -/
import Derived.Test.YtlledcnjfgcipaaGreatDoorF39
set_option linter.unusedVariables false
set_option linter.unusedSimpArgs false
namespace Go.AL.Dm
open Go Go.Proofs
def I41 (p : List Gl) (n : ByteArray) (o : Nat) (s : St) (m : Nat) (g : Env) (s1 : St) : Prop :=
 ∃ i : Nat, i ≤ p.length ∧ m = p.length - i ∧ idxQ (fun g => decide (g.name = n)) (p.drop i) i = findI p n ∧ g.get 0 = .list 6 .none (p.map Gl.av) ∧ g.get 1 = .fn 42 [] [.ptr o 0] ∧ g.get 7 = .int .i64 p.length ∧ g.get 8 = .int .i64 i ∧ s1.m o = some (.box [.str n]) ∧ Kept s s1 ∧ s.nx ≤ s1.nx
theorem p41 (p : List Gl) (n : ByteArray) (o : Nat) (s : St) (hp : p.length ≤ 100000) (ho : s.m o = some (.box [.str n])) (ho2 : o < s.nx) :
  ACalls Tryz.prog 41 [.list 6 .none (p.map Gl.av), .fn 42 [] [.ptr o 0]] s fun r s' => r = .int .i64 (findI p n) ∧ Kept s s' := by
 refine fun_sound mixed Tryz.func41 Tryz.call41 c41 rfl (awpFun_go _ _ _ _ ?_)
 simp -implicitDefEqProofs (disch:=first|omega|simp only[nx4]<;>omega|fail) [a41, a41b, a41r0, a41r1]
 refine go_loop (I41 p n o s) p.length ⟨0, by omega, by omega, rfl, ?_, ?_, ?_, ?_, ?_, ?_, ?_⟩ ?_
 iterate 7 (simp -implicitDefEqProofs (disch:=first|omega|simp only[nx4]<;>omega|fail) [ho])
 rintro m g S ⟨i, hi, rfl, hw, e0, e1, e7, e8, jo, hk, hn0⟩
 by_cases hlt : i < p.length
 ·have hlt' : (i : Int) < p.length := by omega
  have w3 := wrapS (i := i) (by omega)
  rw [List.drop_eq_getElem_cons hlt, idxQ] at hw
  generalize hx : p[i] = x at hw
  simp -implicitDefEqProofs (disch:=first|omega|simp only[nx4]<;>omega|fail) [a41l7, a41r2, a41r3, a41r4, e0, e1, e7, e8, hlt', hlt, hx]
  refine go_calls (ACalls.mono (p42 x n o S jo (by omega)) fun r s' hn' h => go_of ?_)
  obtain ⟨rfl, hk'⟩ := h
  have q1 : s'.m o = some (.box [.str n]) := (hk' _ (by omega)).trans jo
  have q2 : Kept s s' := fun q hq => (hk' q (by omega)).trans (hk q hq)
  by_cases h : x.name = n
  ·rw [if_pos (by simp [h])] at hw
   simp -implicitDefEqProofs (disch:=first|omega|simp only[nx4]<;>omega|fail) [h, a41r5, ← hw, q2]
  ·rw [if_neg (by simp [h])] at hw
   simp -implicitDefEqProofs (disch:=first|omega|simp only[nx4]<;>omega|fail) [h, a41r6, e8, w3]
   refine go_next (p.length - (i + 1)) (by omega) ⟨i + 1, by omega, rfl, hw, ?_, ?_, ?_, ?_, ?_, ?_, ?_⟩
   all_goals (try simp -implicitDefEqProofs (disch:=first|omega|simp only[nx4]<;>omega|fail) [e0, e1, e7, q1, q2])
   all_goals (try omega)
 ·have hlt' : ¬ (i : Int) < p.length := by omega
  obtain rfl : i = p.length := by omega
  rw [List.drop_length, idxQ] at hw
  simp -implicitDefEqProofs (disch:=first|omega|simp only[nx4]<;>omega|fail) [a41l7, a41r2, e7, e8, hlt', a41r8, hw, hk]
theorem findI_some {p : List Gl} {n : ByteArray} (h : ¬ findI p n < 0) : ∃ j : Nat, findI p n = j ∧ j < p.length := by
 have : ∀ (l : List Gl) (i : Int), 0 ≤ i → 0 ≤ idxQ (fun g => decide (g.name = n)) l i → ∃ j : Nat, idxQ (fun g => decide (g.name = n)) l i = i + j ∧ j < l.length := by
  intro l
  induction l with
  | nil => intro i hi h; simp [idxQ] at h
  | cons x l ih =>
   intro i hi h
   rw [idxQ] at h ⊢
   split
   ·exact ⟨0, by omega, by simp⟩
   ·rename_i hq
    rw [if_neg hq] at h
    obtain ⟨j, h1, h2⟩ := ih (i + 1) (by omega) h
    exact ⟨j + 1, by omega, by simpa using h2⟩
 obtain ⟨j, h1, h2⟩ := this p 0 (by omega) (by rw [findI] at h; omega)
 exact ⟨j, by rw [findI]; omega, h2⟩
noncomputable def strP (p : List Gl) (n : ByteArray) (i : Int) : Bool × Int :=
 if isP p = false then (false, 40)
 else if findI p n < 0 then (false, 6)
 else if i < 0 ∨ ((((p[(findI p n).toNat]?).map (fin p).1).getD Kn.zero).st.length : Int) ≤ i then (false, 2)
 else ((((p[(findI p n).toNat]?).map (fin p).1).getD Kn.zero).st.getD i.toNat false, 0)
theorem p20 (p : List Gl) (hp : Few p) (n : ByteArray) (i : Int) : PureC Tryz.prog 20 [.list 6 .none (p.map Gl.av), .str n, .int .i64 i] (.tup [.bool (strP p n i).1, .int .i64 (strP p n i).2]) := by
 refine PureC.intro fun s => fun_sound mixed Tryz.func20 Tryz.call20 c20 rfl (awpFun_go _ _ _ _ ?_)
 have h36 := p36 p hp
 unfold strP
 cases hi : isP p with
 | false =>
  rw [hi] at h36
  simp -implicitDefEqProofs (disch:=first|omega|simp only[nx4]<;>omega|fail) [a20, a20b, a20r0, a20r1]
  refine go_pure h36 fun mm1 hm1 => ?_
  try simp only [nx4] at hm1
  simp -implicitDefEqProofs (disch:=first|omega|simp only[nx4]<;>omega|fail) [a20r2]
 | true =>
  rw [hi] at h36
  have hgp := goodP hp hi
  have h37 := p37 p hgp
  have hpl := hgp.few
  simp -implicitDefEqProofs (disch:=first|omega|simp only[nx4]<;>omega|fail) [a20, a20b, a20r0, a20r1]
  refine go_pure h36 fun mm2 hm2 => ?_
  try simp only [nx4] at hm2
  simp -implicitDefEqProofs (disch:=first|omega|simp only[nx4]<;>omega|fail) [a20r3]
  refine go_calls (ACalls.mono (p41 p n s.nx _ (by omega) (by simp -implicitDefEqProofs (disch:=first|omega|simp only[nx4]<;>omega|fail)) (by simp -implicitDefEqProofs (disch:=first|omega|simp only[nx4]<;>omega|fail); omega)) fun r s' hn' h => go_of ?_)
  obtain ⟨rfl, hk'⟩ := h
  have hk2 : Kept s s' := fun q hq => (hk' q (by simp -implicitDefEqProofs (disch:=first|omega|simp only[nx4]<;>omega|fail); omega)).trans (by simp -implicitDefEqProofs (disch:=first|omega|simp only[nx4]<;>omega|fail))
  simp -implicitDefEqProofs (disch:=first|omega|simp only[nx4]<;>omega|fail) at hn'
  by_cases hneg : findI p n < 0
  ·simp -implicitDefEqProofs (disch:=first|omega|simp only[nx4]<;>omega|fail) [a20r4, hneg, a20r5, hk2]
  ·obtain ⟨j, hj, hjl⟩ := findI_some hneg
   have hjl' : (j : Int) < p.length := by omega
   have hneg' : ¬ (j : Int) < 0 := by omega
   have hlen : (dmL p (fin p).1).length = p.length := by simp [dmL]
   have hget : (dmL p (fin p).1)[j]?.getD AV.any = .agg [.str p[j].name, .list 1 .none (((fin p).1 p[j]).st.map AV.bool), .bool ((fin p).1 p[j]).fails] := by simp [dmL, dm, hjl]
   have hget' : ∀ h : j < (dmL p (fin p).1).length, (dmL p (fin p).1)[j]'h = .agg [.str p[j].name, .list 1 .none (((fin p).1 p[j]).st.map AV.bool), .bool ((fin p).1 p[j]).fails] := by intro h; simp [dmL, dm]
   rw [hj]
   simp -implicitDefEqProofs (disch:=first|omega|simp only[nx4]<;>omega|fail) [a20r4, hneg', a20r6, hjl]
   generalize (fin p).1 p[j] = k at hget hget' ⊢
   refine go_pure h37 fun mm3 hm3 => ?_
   try simp only [nx4] at hm3
   simp -implicitDefEqProofs (disch:=first|omega|simp only[nx4]<;>omega|fail) [hlen, hget, hget', hjl', hjl]
   by_cases h0 : i < 0
   ·simp -implicitDefEqProofs (disch:=first|omega|simp only[nx4]<;>omega|fail) [a20r7, h0, a20r8, hk2]
   ·by_cases h1 : (k.st.length : Int) ≤ i
    ·simp -implicitDefEqProofs (disch:=first|omega|simp only[nx4]<;>omega|fail) [a20r7, h0, h1, a20r8, hk2]
    ·obtain ⟨m, rfl⟩ : ∃ m : Nat, i = m := ⟨i.toNat, by omega⟩
     have h2 : m < k.st.length := by omega
     have h2' : (m : Int) < k.st.length := by omega
     have h1' : ¬ k.st.length ≤ m := by omega
     simp -implicitDefEqProofs (disch:=first|omega|simp only[nx4]<;>omega|fail) [a20r7, h0, h1, h1', h2, h2', a20r9, hk2]
     done
end Go.AL.Dm
namespace Go.AL.Dm
def lenN (x : ND) : Nat := (x.getD []).length
end Go.AL.Dm
namespace Go.AL.Dm
open Go Go.Proofs
def TokS (s : St) (sz b : Nat) (v : AV) (xs : List AV) : Prop := (v = .list 0 .full [] ∧ xs = []) ∨ ∃ o, v = .list sz (.own o) xs ∧ s.m o = some (.spare (xs.length * sz)) ∧ b ≤ o ∧ o < s.nx
theorem ap_tok {sz bytes b : Nat} {v : AV} {xs ys : List AV} {t : Tok} {s : St} {K : KS} (h : TokS s sz b v xs) (hl : (xs.length + ys.length) * bytes ≤ 140737488355328) (hl2 : xs.length + ys.length ≤ 9223372036854775807) (hb : b ≤ s.nx)
  (hk : ∀ v' s', TokS s' sz b v' (xs ++ ys) → s.nx < s'.nx → (∀ q, q < s.nx → (q < b ∨ ∀ n, s.m q ≠ some (.spare n)) → s'.m q = s.m q) → go (K v' s')) : go (apV sz bytes v (.list sz t ys) s K) := by
 rcases h with ⟨rfl, rfl⟩ | ⟨o, rfl, ho, h1, h2⟩
 ·rw [go_apV_full]
  refine ok_intro ?_ (hk _ _ (.inr ⟨s.nx, rfl, ?_, hb, ?_⟩) ?_ ?_)
  ·simp [apS] at *
   omega
  ·simp [St.new]
  ·simp [St.new]
  ·simp [St.new]
  ·intro q hq _
   have : q ≠ s.nx := by omega
   simp [St.new, this]
 ·rw [go_apV_own, ho]
  refine ok_intro ?_ ?_
  ·simp [apS] at *
   omega
  ·show go (apO _ _ _ _ _ _ _)
   unfold apO
   refine ⟨rfl, hk _ _ (.inr ⟨s.nx, rfl, ?_, hb, ?_⟩) ?_ ?_⟩
   ·simp [St.new, St.del]
   ·simp [St.new, St.del]
   ·simp [St.new, St.del]
   ·intro q hq hne
    have h1 : q ≠ s.nx := by omega
    have h2 : q ≠ o := by
     rintro rfl
     rcases hne with h | h
     ·omega
     ·exact h _ ho
    simp [St.new, St.del, h1, h2]
theorem TokS.wk {s : St} {sz b : Nat} {v : AV} {xs ys : List AV} (h : TokS s sz b v xs) (hw : wkL xs ys) : wk v (.list sz .none ys) := by
 rcases h with ⟨rfl, rfl⟩ | ⟨o, rfl, _⟩
 ·simp [hw]
 ·simp [hw]
theorem TokS.move {s s' : St} {sz b : Nat} {v : AV} {xs : List AV} (h : TokS s sz b v xs) (hn : s.nx ≤ s'.nx) (hk : ∀ q, b ≤ q → q < s.nx → (∃ n, s.m q = some (.spare n)) → s'.m q = s.m q) : TokS s' sz b v xs := by
 rcases h with h | ⟨o, h1, h2, h3, h4⟩
 ·exact .inl h
 ·exact .inr ⟨o, h1, (hk o h3 h4 ⟨_, h2⟩).trans h2, h3, by omega⟩
theorem TokS.val {s : St} {sz b : Nat} {v : AV} {xs : List AV} (h : TokS s sz b v xs) : v.isVal = true ∧ v.cells = [v] := by
 rcases h with ⟨rfl, rfl⟩ | ⟨o, rfl, _⟩ <;> exact ⟨rfl, rfl⟩
def Gin (p : List Gl) (t : Pl) : Prop := ∀ e ∈ pre t, e.op = 2 → e.s ∈ nms p
theorem pres_mem : ∀ {l : List Pl} {x e : Pl}, x ∈ l → e ∈ pre x → e ∈ pres l
 | y :: l, x, e, h, he => by
  rw [pres, List.mem_append]
  rcases List.mem_cons.1 h with rfl | h
  ·exact .inl he
  ·exact .inr (pres_mem h he)
theorem prea_mem : ∀ {l : List (Hd × Pl)} {x : Hd × Pl} {e : Pl}, x ∈ l → e ∈ pre x.2 → e ∈ prea l
 | (h0, y) :: l, x, e, h, he => by
  rw [prea, List.mem_append]
  rcases List.mem_cons.1 h with rfl | h
  ·exact .inl he
  ·exact .inr (prea_mem h he)
theorem pre_self (t : Pl) : t ∈ pre t := by cases t; simp [pre]
theorem idxQ_at {α : Type} (q : α → Bool) : ∀ (l : List α) (i : Int) (j : Nat), 0 ≤ i → idxQ q l i = i + j → ∃ h : j < l.length, q l[j] = true
 | [], i, j, hi, h => by simp [idxQ] at h; omega
 | x :: l, i, j, hi, h => by
  rw [idxQ] at h
  split at h
  ·rename_i hq
   have : j = 0 := by omega
   subst this
   exact ⟨by simp, hq⟩
  ·cases j with
   | zero =>
    exfalso
    have : ∀ (l : List α) (k : Int), 0 ≤ k → idxQ q l k = -1 ∨ k ≤ idxQ q l k := by
     intro l
     induction l with
     | nil => intro k _; simp [idxQ]
     | cons y l ih =>
      intro k hk
      rw [idxQ]
      split
      ·exact .inr (by omega)
      ·rcases ih (k + 1) (by omega) with h | h
       ·exact .inl h
       ·exact .inr (by omega)
    rcases this l (i + 1) (by omega) with h' | h' <;> omega
   | succ j =>
    obtain ⟨h1, h2⟩ := idxQ_at q l (i + 1) j (by omega) (by omega)
    exact ⟨by simpa using h1, by simpa using h2⟩
theorem find_name {p : List Gl} {s : ByteArray} (h : s ∈ nms p) : ∃ j : Nat, findI p s = j ∧ ∃ h : j < p.length, p[j].name = s := by
 have hn : 0 ≤ findI p s := (idxQ_neg _ p 0 (by omega)).2 (by
  simp only [nms, List.mem_map] at h
  obtain ⟨g, hg, e⟩ := h
  exact ⟨g, hg, by simp [e]⟩)
 obtain ⟨j, hj⟩ : ∃ j : Nat, findI p s = j := ⟨(findI p s).toNat, by omega⟩
 obtain ⟨h1, h2⟩ := idxQ_at (fun g : Gl => decide (g.name = s)) p 0 j (by omega) (by rw [findI] at hj; omega)
 exact ⟨j, hj, h1, by simpa using h2⟩
structure RT (p : List Gl) (f : Tb) : Prop where
 gp : GoodP p
 good : GoodT p f
 w : ∀ g ∈ p, (f g).w = wnt g.body
theorem dmL_get {p : List Gl} {f : Tb} {j : Nat} (hj : j < p.length) : ∀ h : j < (dmL p f).length, (dmL p f)[j]'h = .agg [.str p[j].name, .list 1 .none ((f p[j]).st.map .bool), .bool (f p[j]).fails] := by
 intro h; simp [dmL, dm]
theorem dmL_len {p : List Gl} {f : Tb} : (dmL p f).length = p.length := by simp [dmL]
def cntF (l : List Bool) : Nat := (l.filter fun b => !b).length
structure LetR (vs : List ND) (body : ND) (out : ND) (sr : List Bool) : Prop where
 li : ∃ seen, LetI vs body out seen ∧ ∀ u : Nat, u < vs.length → sr.getD u false = seen.getD (vs.length - 1 - u) false
 len : sr.length = vs.length
 bnd : lenN out + 3000 * cntF sr ≤ 3000 * (vs.length + 1)
def sameK (a b : Kn) : Bool := decide (a.fails = b.fails) && decide (a.st = b.st)
def sameT (f f' : Tb) (l : List Gl) : Bool := l.all fun g => sameK (f g) (f' g)
def I22 (p : List Gl) (f f' : Tb) (s : St) (m : Nat) (g : Env) (s1 : St) : Prop :=
 ∃ i : Nat, i ≤ p.length ∧ m = p.length - i ∧ sameT f f' (p.drop i) = sameT f f' p ∧ g.get 0 = .list 3 .none (dmL p f) ∧ g.get 1 = .list 3 .none (dmL p f') ∧ g.get 5 = .int .i64 i ∧ Kept s s1 ∧ s.nx ≤ s1.nx
def J22 (p : List Gl) (f f' : Tb) (i : Nat) (a b : List Bool) (n : ByteArray) (fl : Bool) (b6 b7 : Nat) (s : St) (m : Nat) (g : Env) (s1 : St) : Prop :=
 ∃ j : Nat, j ≤ a.length ∧ m = a.length - j ∧ (a = b ↔ a.drop j = b.drop j) ∧ g.get 0 = .list 3 .none (dmL p f) ∧ g.get 1 = .list 3 .none (dmL p f') ∧ g.get 5 = .int .i64 i ∧ g.get 6 = .ptr b6 0 ∧ g.get 7 = .ptr b7 0 ∧ g.get 8 = .int .i64 j ∧
  s1.m b6 = some (.box [.str n, .list 1 .none (a.map .bool), .bool fl]) ∧ s1.m b7 = some (.box [.str n, .list 1 .none (b.map .bool), .bool fl]) ∧ Kept s s1 ∧ s.nx ≤ s1.nx
set_option maxHeartbeats 4000000 in
theorem p22 (p : List Gl) (f f' : Tb) (hpl : p.length ≤ 400) (hf : ∀ g ∈ p, (f g).st.length ≤ 8) (hf' : ∀ g ∈ p, (f' g).st.length ≤ 8) : PureC Tryz.prog 22 [.list 3 .none (dmL p f), .list 3 .none (dmL p f')] (.bool (sameT f f' p)) := by
 refine PureC.intro fun s => fun_sound mixed Tryz.func22 Tryz.call22 c22 rfl (awpFun_go _ _ _ _ ?_)
 have hdl : (dmL p f).length = p.length := dmL_len
 have hdl' : (dmL p f').length = p.length := dmL_len
 simp -implicitDefEqProofs (disch:=first|omega|simp only[nx4]<;>omega|fail) [a22, a22b, a22r0, a22r1, hdl, hdl', a22r3]
 refine go_loop (I22 p f f' s) p.length ⟨0, by omega, by omega, rfl, ?_, ?_, ?_, ?_, ?_⟩ ?_
 iterate 5 (simp -implicitDefEqProofs (disch:=first|omega|simp only[nx4]<;>omega|fail))
 rintro m g S ⟨i, hi, rfl, hw, e0, e1, e5, hk, hnx⟩
 by_cases hlt : i < p.length
 ·have hlt' : (i : Int) < p.length := by omega
  have w3 := wrapS (i := i) (by omega)
  have hmem := List.getElem_mem hlt
  have hdg := dmL_get (f := f) hlt
  have hdg' := dmL_get (f := f') hlt
  have h1 := hf _ hmem
  have h2 := hf' _ hmem
  rw [List.drop_eq_getElem_cons hlt, sameT, List.all_cons] at hw
  have hw2 : (sameK (f p[i]) (f' p[i]) && sameT f f' (p.drop (i + 1))) = sameT f f' p := hw
  clear hw
  generalize p[i] = x at hdg hdg' h1 h2 hw2
  generalize f x = ka at hdg h1 hw2
  generalize f' x = kb at hdg' h2 hw2
  by_cases hfl : ka.fails = kb.fails
  ·by_cases hsl : ka.st.length = kb.st.length
   ·have hsl' : (ka.st.length : Int) = kb.st.length := by omega
    simp -implicitDefEqProofs (disch:=first|omega|simp only[nx4]<;>omega|fail) [a22l15, a22r4, a22r5, e0, e1, e5, hdl, hdl', hlt', hlt, hdg, hdg']
    intro m hm
    simp -implicitDefEqProofs (disch:=first|omega|simp only[nx4]<;>omega|fail) [a22r6, hfl, hsl, a22r8]
    refine go_loop (J22 p f f' i ka.st kb.st x.name kb.fails S.nx (S.nx + 1) s) ka.st.length ?h0 ?_
    case h0 =>
     refine ⟨0, by omega, by omega, by simp, ?_, ?_, ?_, ?_, ?_, ?_, ?_, ?_, ?_, ?_⟩
     all_goals (try simp -implicitDefEqProofs (disch:=first|omega|simp only[nx4]<;>omega|fail) [e0, e1, e5, hk])
     all_goals (try omega)
    clear e0 e1 e5 hk hnx
    generalize S.nx = b6
    generalize b6 + 1 = b7
    rintro m2 g S ⟨j, hj, rfl, hw3, e0, e1, e5, e6, e7, e8, j6, j7, hk, hnx⟩
    by_cases hjl : j < ka.st.length
    ·have hjl2 : j < kb.st.length := by omega
     have hjl' : (j : Int) < ka.st.length := by omega
     have hjl2' : (j : Int) < kb.st.length := by omega
     have w4 := wrapS (i := j) (by omega)
     rw [List.drop_eq_getElem_cons hjl, List.drop_eq_getElem_cons hjl2] at hw3
     by_cases hab : ka.st[j] = kb.st[j]
     ·have hw4 : ka.st = kb.st ↔ ka.st.drop (j + 1) = kb.st.drop (j + 1) := by rw [hw3, hab]; exact ⟨fun h => (List.cons.inj h).2, fun h => by rw [h]⟩
      simp -implicitDefEqProofs (disch:=first|omega|simp only[nx4]<;>omega|fail) [a22l13, a22r9, a22r10, e6, e7, e8, j6, j7, hjl, hjl', hjl2, hjl2', hab]
      intro m1 hm1
      simp -implicitDefEqProofs (disch:=first|omega|simp only[nx4]<;>omega|fail) [a22r12, e8, w4]
      refine go_next (ka.st.length - (j + 1)) (by omega) ⟨j + 1, by omega, rfl, hw4, ?_, ?_, ?_, ?_, ?_, ?_, ?_, ?_, ?_, ?_⟩
      all_goals (try simp -implicitDefEqProofs (disch:=first|omega|simp only[nx4]<;>omega|fail) [e0, e1, e5, e6, e7, j6, j7, hk])
      all_goals (try omega)
     ·have hne : ¬ ka.st = kb.st := fun e => hab (by simp [e])
      have hres : sameT f f' p = false := by rw [← hw2]; simp [sameK, hne]
      simp -implicitDefEqProofs (disch:=first|omega|simp only[nx4]<;>omega|fail) [a22l13, a22r9, a22r10, e6, e7, e8, j6, j7, hjl, hjl', hjl2, hjl2', hab]
      intro m1 hm1
      simp -implicitDefEqProofs (disch:=first|omega|simp only[nx4]<;>omega|fail) [a22r11, hres, hk]
    ·have hjl' : ¬ (j : Int) < ka.st.length := by omega
     obtain rfl : j = ka.st.length := by omega
     have heq : ka.st = kb.st := hw3.2 (by rw [List.drop_eq_nil_of_le (by omega), List.drop_eq_nil_of_le (by omega)])
     have hw5 : sameT f f' (p.drop (i + 1)) = sameT f f' p := by rw [← hw2]; simp [sameK, hfl, heq]
     simp -implicitDefEqProofs (disch:=first|omega|simp only[nx4]<;>omega|fail) [a22l13, a22r9, e6, e8, j6, hjl', a22r14, e5, w3]
     refine go_next (p.length - (i + 1)) (by omega) ⟨i + 1, by omega, rfl, hw5, ?_, ?_, ?_, ?_, ?_⟩
     all_goals (try simp -implicitDefEqProofs (disch:=first|omega|simp only[nx4]<;>omega|fail) [e0, e1, hk])
     all_goals (try omega)
   ·have hne : ¬ ka.st = kb.st := fun e => hsl (by rw [e])
    have hsl' : ¬ (ka.st.length : Int) = kb.st.length := by omega
    have hres : sameT f f' p = false := by rw [← hw2]; simp [sameK, hne]
    simp -implicitDefEqProofs (disch:=first|omega|simp only[nx4]<;>omega|fail) [a22l15, a22r4, a22r5, e0, e1, e5, hdl, hdl', hlt', hlt, hdg, hdg']
    intro m hm
    simp -implicitDefEqProofs (disch:=first|omega|simp only[nx4]<;>omega|fail) [a22r6, hfl, hsl, hsl', a22r7, hres, hk]
  ·have hres : sameT f f' p = false := by rw [← hw2]; simp [sameK, hfl]
   simp -implicitDefEqProofs (disch:=first|omega|simp only[nx4]<;>omega|fail) [a22l15, a22r4, a22r5, e0, e1, e5, hdl, hdl', hlt', hlt, hdg, hdg']
   intro m hm
   simp -implicitDefEqProofs (disch:=first|omega|simp only[nx4]<;>omega|fail) [a22r6, hfl, a22r7, hres, hk]
 ·have hlt' : ¬ (i : Int) < p.length := by omega
  obtain rfl : i = p.length := by omega
  rw [List.drop_length, sameT, List.all_nil] at hw
  simp -implicitDefEqProofs (disch:=first|omega|simp only[nx4]<;>omega|fail) [a22l15, a22r4, e0, e5, hdl, hlt', a22r16, ← hw, hk]
def nH : ByteArray := ⟨#[104]⟩
def nK : ByteArray := ⟨#[107]⟩
def e0 : ByteArray := ⟨#[]⟩
def hC : Pl := .mk 6 0 e0 [.mk 2 0 nH [] [], .mk 1 0 e0 [] []] []
def hB : Pl := .mk 5 1 e0 [hC] []
def kC : Pl := .mk 8 0 e0 [.mk 1 0 e0 [] []] [(⟨3, e0, 1⟩, .mk 1 2 e0 [] []), (⟨1, e0, 0⟩, .mk 3 0 e0 [] [])]
def kB : Pl := .mk 5 2 e0 [kC] []
def smp : List Gl := [⟨nH, hB⟩, ⟨nK, kB⟩]
set_option maxHeartbeats 4000000 in
theorem p35 : PureC Tryz.prog 35 [] (.list 6 .none (smp.map Gl.av)) := by
 refine PureC.intro fun s => fun_sound mixed Tryz.func35 Tryz.call35 c35 rfl (awpFun_go _ _ _ _ ?_)
 simp -implicitDefEqProofs (maxSteps:=999999) (disch:=first|omega|simp only[nx4]<;>omega|fail) [a35, a35b, a35r0, a35r1, a35r2, a35r3, a35r4, fillAV]
 simp [smp, Gl.av, Pl.av, Pl.avs, Pl.avAlts, hB, hC, kB, kC, nH, nK, e0, wkL, Pl.altv]
theorem wf_h : wf hB = true := by kernel_rfl
theorem wf_k : wf kB = true := by kernel_rfl
theorem nm_h : nm nH = true := by kernel_rfl
theorem nm_k : nm nK = true := by kernel_rfl
theorem fv_h : fv hB 0 = [] := by kernel_rfl
theorem fv_k : fv kB 0 = [] := by kernel_rfl
theorem pre_h : pre hB = [hB, hC, .mk 2 0 nH [] [], .mk 1 0 e0 [] []] := rfl
theorem pre_k : pre kB = [kB, kC, .mk 1 0 e0 [] [], .mk 1 2 e0 [] [], .mk 3 0 e0 [] []] := rfl
theorem mem_bs {x : List UInt8} {b : ByteArray} (h : b.data.toList = x) : ba x = b := by subst h; rfl
theorem clo_h : clo (nms smp) hB = true := by
 rw [clo, fv_h, Bool.and_eq_true]
 refine ⟨rfl, List.all_eq_true.2 fun x hx => ?_⟩
 obtain ⟨e, he, ho, hs⟩ := mem_gls.1 hx
 rw [pre_h] at he
 rw [mem_bs hs]
 simp only [List.mem_cons, List.not_mem_nil, or_false] at he
 rcases he with rfl | rfl | rfl | rfl
 ·exact absurd ho (by decide)
 ·exact absurd ho (by decide)
 ·simp [nms, smp]
 ·exact absurd ho (by decide)
theorem clo_k : clo (nms smp) kB = true := by
 rw [clo, fv_k, Bool.and_eq_true]
 refine ⟨rfl, List.all_eq_true.2 fun x hx => ?_⟩
 obtain ⟨e, he, ho, hs⟩ := mem_gls.1 hx
 rw [pre_k] at he
 simp only [List.mem_cons, List.not_mem_nil, or_false] at he
 rcases he with rfl | rfl | rfl | rfl | rfl <;> exact absurd ho (by decide)
theorem isP_smp : isP smp = true := by
 have h : namesOK [] smp = true := by simp [namesOK, smp, wf_h, wf_k, nm_h, nm_k, show ¬ nK = nH from by decide]
 rw [isP, h]
 simp [smp, show clo (nms smp) hB = true from clo_h, show clo (nms smp) kB = true from clo_k]
 exact ⟨clo_h, clo_k⟩
theorem few_smp : Few smp := by
 refine ⟨by decide, fun g hg => ?_⟩
 simp only [smp, List.mem_cons, List.not_mem_nil, or_false] at hg
 rcases hg with rfl | rfl
 ·exact ⟨⟨by decide, by decide⟩, by simp [hB, hC, rng, rngs, rnga, i64]⟩
 ·exact ⟨⟨by decide, by decide⟩, by simp [kB, kC, rng, rngs, rnga, i64]⟩
theorem need_hC (K : ByteArray → Kn) (h1 : (K nH).w = 1) (h2 : (K nH).fails = true) : need K hC = none := by
 rw [need_app (t := hC) rfl (f := .mk 2 0 nH [] []) (l := [.mk 1 0 e0 [] []]) rfl]
 simp [h1, h2]
theorem need_kC (K : ByteArray → Kn) : need K kC = some [0] := by
 rw [need_cas (t := kC) rfl (x := .mk 1 0 e0 [] []) rfl, need_var rfl]
 simp [kC, need_var (K := K) (t := .mk 1 2 e0 [] []) rfl, need_made (K := K) (t := .mk 3 0 e0 [] []) (.inl rfl)]
 decide
theorem knOf_h (K : ByteArray → Kn) (h1 : (K nH).w = 1) (h2 : (K nH).fails = true) : knOf K hB = ⟨1, [true], true⟩ := by
 have e : need K (cde hB) = none := need_hC K h1 h2
 have e2 : wnt hB = 1 := rfl
 rw [knOf, e, e2]; rfl
theorem knOf_k (K : ByteArray → Kn) : knOf K kB = ⟨2, [false, true], false⟩ := by
 have e : need K (cde kB) = some [0] := need_kC K
 have e2 : wnt kB = 2 := rfl
 rw [knOf, e, e2]; rfl
noncomputable def fS : Tb := stp smp tb0
def gH : Gl := ⟨nH, hB⟩
def gK : Gl := ⟨nK, kB⟩
theorem smp_eq : smp = [gH, gK] := rfl
theorem gp_smp : GoodP smp := goodP few_smp isP_smp
theorem stp_h (f : Tb) (h1 : (f gH).w = 1) (h2 : (f gH).fails = true) : stp smp f gH = ⟨1, [true], true⟩ := by
 have e := lookK_tb (f := f) gp_smp.nd gH (by rw [smp_eq]; simp)
 exact knOf_h _ (by rw [show nH = gH.name from rfl, e]; exact h1) (by rw [show nH = gH.name from rfl, e]; exact h2)
theorem stp_k (f : Tb) : stp smp f gK = ⟨2, [false, true], false⟩ := knOf_k _
theorem tb0_k : tb0 gK = ⟨2, [true, true], true⟩ := rfl
theorem fS_h : fS gH = ⟨1, [true], true⟩ := stp_h _ rfl rfl
theorem fS_k : fS gK = ⟨2, [false, true], false⟩ := stp_k _
theorem fin_smp : fin smp = (fS, 2) := by
 have h1 : chgs smp tb0 smp = true := by
  rw [chgs, smp_eq, List.any_cons, List.any_cons, ← smp_eq, stp_k, tb0_k]
  have : kch ⟨2, [false, true], false⟩ ⟨2, [true, true], true⟩ = true := by decide
  rw [this]; simp
 obtain ⟨n', _, hw⟩ := (way_0 gp_smp).go gp_smp h1
 have h2 : chgs smp fS smp = false := by
  rw [chgs, smp_eq, List.any_cons, List.any_cons, ← smp_eq, stp_k, fS_k, stp_h fS (by rw [fS_h]) (by rw [fS_h]), fS_h, kch_same, kch_same]
  rfl
 exact (hw.done h2).1
theorem resP_smp : resP smp = [dm nH ⟨1, [true], true⟩, dm nK ⟨2, [false, true], false⟩] := by
 rw [resP, if_pos isP_smp, fin_smp]
 show dmL smp fS = _
 rw [smp_eq, dmL, List.map_cons, List.map_cons, List.map_nil, fS_h, fS_k]
 rfl
theorem findI_k : findI smp nK = 1 := by kernel_rfl
theorem findI_x : findI smp ⟨#[120]⟩ = -1 := by kernel_rfl
theorem want_k : (((smp[1]?).map (fin smp).1).getD Kn.zero) = ⟨2, [false, true], false⟩ := by
 rw [fin_smp]
 show fS gK = _
 exact fS_k
theorem strP_1 : strP smp nK 1 = (true, 0) := by
 rw [strP, if_neg (by rw [isP_smp]; simp), findI_k, if_neg (by omega)]
 rw [show ((1 : Int).toNat) = 1 from rfl, want_k]
 decide
theorem strP_2 : strP smp nK 2 = (false, 2) := by
 rw [strP, if_neg (by rw [isP_smp]; simp), findI_k, if_neg (by omega)]
 rw [show ((1 : Int).toNat) = 1 from rfl, want_k]
 decide
theorem strP_x : strP smp ⟨#[120]⟩ 0 = (false, 6) := by
 rw [strP, if_neg (by rw [isP_smp]; simp), findI_x, if_pos (by omega)]
set_option maxHeartbeats 4000000 in
theorem p10 : PureC Tryz.prog 10 [] (.bool true) := by
 refine PureC.intro fun s => fun_sound mixed Tryz.func10 Tryz.call10 c10 rfl (awpFun_go _ _ _ _ ?_)
 have h11 := p11 smp few_smp
 rw [resP_smp, errP, if_pos isP_smp] at h11
 have h1 := p20 smp few_smp nK 1
 have h2 := p20 smp few_smp nK 2
 have h3 := p20 smp few_smp ⟨#[120]⟩ 0
 rw [strP_1] at h1
 rw [strP_2] at h2
 rw [strP_x] at h3
 simp only [nK, nH, dm, List.map_cons, List.map_nil] at h1 h2 h11
 have hc0 : ∀ (a : AV) (l : List AV), ((a :: l)[0]?).getD AV.any = a := fun _ _ => rfl
 have hc1 : ∀ (a b : AV) (l : List AV), ((a :: b :: l)[1]?).getD AV.any = b := fun _ _ _ => rfl
 simp -implicitDefEqProofs (maxSteps:=999999) (disch:=first|omega|simp only[nx4]<;>omega|fail) [a10, a10b, a10r0, a10r1]
 refine go_pure p35 fun mm1 hm1 => ?_
 try simp only [nx4] at hm1
 simp -implicitDefEqProofs (maxSteps:=999999) (disch:=first|omega|simp only[nx4]<;>omega|fail) []
 refine go_pure h11 fun mm2 hm2 => ?_
 try simp only [nx4] at hm2
 simp -implicitDefEqProofs (maxSteps:=999999) (disch:=first|omega|simp only[nx4]<;>omega|fail) [a10r2]
 refine go_pure p35 fun mm3 hm3 => ?_
 try simp only [nx4] at hm3
 simp -implicitDefEqProofs (maxSteps:=999999) (disch:=first|omega|simp only[nx4]<;>omega|fail) []
 refine go_pure h1 fun mm4 hm4 => ?_
 try simp only [nx4] at hm4
 simp -implicitDefEqProofs (maxSteps:=999999) (disch:=first|omega|simp only[nx4]<;>omega|fail) [a10r3]
 refine go_pure p35 fun mm5 hm5 => ?_
 try simp only [nx4] at hm5
 simp -implicitDefEqProofs (maxSteps:=999999) (disch:=first|omega|simp only[nx4]<;>omega|fail) []
 refine go_pure h2 fun mm6 hm6 => ?_
 try simp only [nx4] at hm6
 simp -implicitDefEqProofs (maxSteps:=999999) (disch:=first|omega|simp only[nx4]<;>omega|fail) [a10r4]
 refine go_pure p35 fun mm7 hm7 => ?_
 try simp only [nx4] at hm7
 simp -implicitDefEqProofs (maxSteps:=999999) (disch:=first|omega|simp only[nx4]<;>omega|fail) []
 refine go_pure h3 fun mm8 hm8 => ?_
 try simp only [nx4] at hm8
 simp -implicitDefEqProofs (maxSteps:=999999) (disch:=first|omega|simp only[nx4]<;>omega|fail) [a10r5, a10r6, a10r7, hc0, hc1]
 done
theorem gin_of {p : List Gl} (h : isP p = true) : ∀ g ∈ p, Gin p g.body := by
 intro g hg e he ho
 simp only [isP, Bool.and_eq_true, decide_eq_true_eq, List.all_eq_true] at h
 have hc := h.2.2 g hg
 simp only [clo, Bool.and_eq_true, decide_eq_true_eq, List.all_eq_true] at hc
 have hm : e.s.data.toList ∈ gls g.body := mem_gls.2 ⟨e, he, ho, rfl⟩
 have := hc.2 _ hm
 rw [mem_bs rfl] at this
 simpa using this
theorem sameT_refl (f : Tb) (p : List Gl) : sameT f f p = true := by simp [sameT, sameK]
theorem wgs_few (most : Int) (hm : 0 ≤ most) : ∀ (p : List Gl) (n : Int), 0 ≤ n → wgs p most n ≤ most → n ≤ most ∧ ∀ g ∈ p, wt g.body most 100 ≤ most
 | [], n, hn, h => by simpa [wgs] using h
 | g :: p, n, hn, h => by
  rw [wgs] at h
  split at h
  ·rename_i hle
   have hb := wt_bound g.body most 100 hm (by omega)
   obtain ⟨h1, h2⟩ := wgs_few most hm p _ (by omega) h
   refine ⟨hle, fun x hx => ?_⟩
   rcases List.mem_cons.1 hx with rfl | hx
   ·omega
   ·exact h2 x hx
  ·omega
theorem few_of {p : List Gl} {t : Pl} (h : fewD p t = true) (hr : ∀ g ∈ p, rng g.body) : Few p := by
 simp only [fewD, Bool.and_eq_true, decide_eq_true_eq] at h
 obtain ⟨h1, h2⟩ := wgs_few 3000 (by omega) p p.length (by omega) h.1
 refine ⟨by omega, fun g hg => ⟨?_, hr g hg⟩⟩
 have h3 := h2 g hg
 obtain ⟨h4, h5⟩ := wt_spec g.body 3000 100 (by omega) (by omega) h3
 exact ⟨by omega, by omega⟩
end Go.AL.Dm
set_option maxRecDepth 100000
namespace Go.AL.Dm
open Go Go.Proofs
abbrev CF (gs : List Nat) (f : Func) := {x : AFun // compileFun Tryz.prog gs f = some x}
-- damask/plain.Reached
def k30 : CF [0, 1, 4, 5, 6, 7, 9, 10, 11, 12, 13, 14, 15, 16, 18, 22, 25, 26, 27, 28, 43, 57, 61, 68, 69, 70, 71, 77] Tryz.f30 := by
 refine ⟨?_, ?_⟩; rotate_left; cbv; rfl
-- damask/plain.Check
def k58 : CF [0, 2, 5] Tryz.f58 := by
 refine ⟨?_, ?_⟩; rotate_left; cbv; rfl
-- slices.Clone[[]string,string]
def k59 : CF [0, 2, 4] Tryz.f59 := by
 refine ⟨?_, ?_⟩; rotate_left; cbv; rfl
-- damask/term.Copy
def k60 : CF [0, 1, 2] Tryz.f60 := by
 refine ⟨?_, ?_⟩; rotate_left; cbv; rfl
-- damask/term.Map
def k99 : CF [0, 1, 2, 4, 5, 6, 8, 9, 11, 22, 23, 24, 25, 40, 41, 42, 43] Tryz.f99 := by
 refine ⟨?_, ?_⟩; rotate_left; cbv; rfl
-- damask/term.Copy$1
def k100 : CF [0, 1, 3, 4] Tryz.f100 := by
 refine ⟨?_, ?_⟩; rotate_left; cbv; rfl
-- damask/damasklaw18.DemandOther
def k6 : CF [0, 1, 4, 5, 6, 7, 8, 9, 10, 11, 12, 26, 75, 79, 104] Tryz.f6 := by
 refine ⟨?_, ?_⟩; rotate_left; cbv; rfl
-- damask/damasklaw18.mod
def k12 : CF [0, 1, 4] Tryz.f12 := by
 refine ⟨?_, ?_⟩; rotate_left; cbv; rfl
def mapP (φ : Int → Pl → Pl) (t : Pl) : Pl := .mk t.op t.n t.s (t.args.map (φ (inn t))) (t.alts.map fun a => (a.1, φ (bnd a.1) a.2))
def zP : List AV := [.int .i64 0, .int .i64 0, .str ⟨⟨[]⟩⟩, .list 0 .full [], .list 0 .full []]
def IA99 (t : Pl) (fid : FuncId) (cap : List AV) (ys : List Pl) (s : St) (m : Nat) (g : Env) (s1 : St) : Prop :=
 ∃ (i : Nat) (v : AV), i ≤ t.args.length ∧ m = t.args.length - i ∧ TokS s1 5 (s.nx + 1 + 1 + 1) v ((ys.take i).map Pl.av) ∧ g.get 1 = .fn fid [] cap ∧ g.get 2 = .ptr s.nx 0 ∧ g.get 4 = .ptr (s.nx + 1) 0 ∧ g.get 5 = .ptr (s.nx + 1 + 1) 0 ∧
  g.get 6 = .int .i64 (inn t) ∧ g.get 22 = .list 5 .none (t.args.map Pl.av) ∧ g.get 23 = .int .i64 t.args.length ∧ g.get 24 = .int .i64 i ∧ s1.m s.nx = some (.box t.av.cells) ∧ s1.m (s.nx + 1) = some (.box zP) ∧
  s1.m (s.nx + 1 + 1) = some (.box [.int .i64 t.op, .int .i64 t.n, .str t.s, v, .list 0 .full []]) ∧ Kept s s1 ∧ s.nx + 1 + 1 + 1 ≤ s1.nx
def IB99 (t : Pl) (fid : FuncId) (cap : List AV) (ys : List (Hd × Pl)) (v : AV) (s : St) (m : Nat) (g : Env) (s1 : St) : Prop :=
 ∃ (i : Nat) (u : AV), i ≤ t.alts.length ∧ m = t.alts.length - i ∧ TokS s1 8 (s.nx + 1 + 1 + 1) u ((ys.take i).map Pl.altv) ∧ g.get 1 = .fn fid [] cap ∧ g.get 2 = .ptr s.nx 0 ∧ g.get 4 = .ptr (s.nx + 1) 0 ∧ g.get 5 = .ptr (s.nx + 1 + 1) 0 ∧
  g.get 40 = .list 8 .none (t.alts.map Pl.altv) ∧ g.get 41 = .int .i64 t.alts.length ∧ g.get 42 = .int .i64 i ∧ s1.m s.nx = some (.box t.av.cells) ∧ s1.m (s.nx + 1) = some (.box zP) ∧
  s1.m (s.nx + 1 + 1) = some (.box [.int .i64 t.op, .int .i64 t.n, .str t.s, v, u]) ∧ Kept s s1 ∧ s.nx + 1 + 1 + 1 ≤ s1.nx
theorem p99 (t : Pl) (fid : FuncId) (cap : List AV) (φ : Int → Pl → Pl) (hla : t.args.length ≤ 100000) (hlb : t.alts.length ≤ 100000) (hbn : ∀ a ∈ t.alts, a.1.op = 2 → 0 ≤ a.1.n ∧ a.1.n ≤ 100000)
  (hA : ∀ x ∈ t.args, PureC Tryz.prog fid (.int .i64 (inn t) :: x.av :: cap) (φ (inn t) x).av) (hB : ∀ a ∈ t.alts, PureC Tryz.prog fid (.int .i64 (bnd a.1) :: a.2.av :: cap) (φ (bnd a.1) a.2).av) :
  PureC Tryz.prog 99 [t.av, .fn fid [] cap] (mapP φ t).av := by
 refine PureC.intro fun s => fun_sound mixed Tryz.func99 Tryz.call99 k99.2 rfl (awpFun_go _ _ _ _ ?_)
 have h141 := p141 t hla
 have hys : ∀ i : Nat, (h : i < t.args.length) → (t.args.map (φ (inn t))).take (i + 1) = (t.args.map (φ (inn t))).take i ++ [φ (inn t) t.args[i]] := fun i h => by
  rw [List.take_succ_eq_append_getElem (by simpa using h)]; simp
 have hzs : ∀ i : Nat, (h : i < t.alts.length) → (t.alts.map fun a => (a.1, φ (bnd a.1) a.2)).take (i + 1) = (t.alts.map fun a => (a.1, φ (bnd a.1) a.2)).take i ++ [(t.alts[i].1, φ (bnd t.alts[i].1) t.alts[i].2)] := fun i h => by
  rw [List.take_succ_eq_append_getElem (by simpa using h)]; simp
 simp -implicitDefEqProofs (maxSteps:=999999) (disch:=first|omega|simp only[nx4]<;>omega|fail) [k99]
 refine go_pure h141 fun mm1 hm1 => ?_
 try simp only [nx4] at hm1
 simp -implicitDefEqProofs (maxSteps:=999999) (disch:=first|omega|simp only[nx4]<;>omega|fail)
 refine go_loop (IA99 t fid cap (t.args.map (φ (inn t))) s) t.args.length ⟨0, .list 0 .full [], by omega, by omega, .inl ⟨rfl, by simp⟩, ?_, ?_, ?_, ?_, ?_, ?_, ?_, ?_, ?_, ?_, ?_, ?_, ?_⟩ ?_
 all_goals (try simp -implicitDefEqProofs (maxSteps:=999999) (disch:=first|omega|simp only[nx4]<;>omega|fail) [zP])
 all_goals (try omega)
 clear hm1 mm1
 rintro m g S ⟨i, v, hi, rfl, ht, e1, e2, e4, e5, e6, e22, e23, e24, j0, j1, j2, hk, hn⟩
 rw [Pl.av_cells] at j0
 obtain ⟨hvv, hvc⟩ := ht.val
 by_cases hlt : i < t.args.length
 ·have hlt' : (i : Int) < t.args.length := by omega
  have w3 := wrapS (i := i) (by omega)
  have hA1 := hA _ (List.getElem_mem hlt)
  have hys1 := hys i hlt
  generalize hx : t.args[i] = x at hA1 hys1
  simp -implicitDefEqProofs (maxSteps:=999999) (disch:=first|omega|simp only[nx4]<;>omega|fail) [e1, e2, e4, e5, e6, e22, e23, e24, hlt', hlt, hx]
  refine go_pure hA1 fun mm2 hm2 => ?_
  try simp only [nx4] at hm2
  simp -implicitDefEqProofs (maxSteps:=999999) (disch:=first|omega|simp only[nx4]<;>omega|fail) [e5, j2]
  have hne : ∀ q, q < S.nx → q ≠ S.nx ∧ q ≠ mm2 := fun q hq => ⟨by omega, by omega⟩
  refine ap_tok (ht.move (by simp -implicitDefEqProofs (maxSteps:=999999) (disch:=first|omega|simp only[nx4]<;>omega|fail); omega) fun q hq1 hq2 hq3 => by simp -implicitDefEqProofs (maxSteps:=999999) (disch:=first|omega|simp only[nx4]<;>omega|fail) [(hne q hq2).1, (hne q hq2).2]) (by simp; omega) (by simp; omega) (by simp -implicitDefEqProofs (maxSteps:=999999) (disch:=first|omega|simp only[nx4]<;>omega|fail); omega) fun v' s' ht' hn' hk' => ?_
  obtain ⟨hvv', hvc'⟩ := ht'.val
  have kk : ∀ q, q < S.nx → (∀ n, S.m q ≠ some (.spare n)) → s'.m q = S.m q := fun q hq1 hq2 => by
   rw [hk' q (by simp -implicitDefEqProofs (maxSteps:=999999) (disch:=first|omega|simp only[nx4]<;>omega|fail); omega) (.inr fun n => by simp -implicitDefEqProofs (maxSteps:=999999) (disch:=first|omega|simp only[nx4]<;>omega|fail) [(hne q hq1).1, (hne q hq1).2]; exact hq2 n)]
   simp -implicitDefEqProofs (maxSteps:=999999) (disch:=first|omega|simp only[nx4]<;>omega|fail) [(hne q hq1).1, (hne q hq1).2]
  have k0 := kk s.nx (by omega) (by simp [j0])
  have k1 := kk (s.nx + 1) (by omega) (by simp [j1])
  have k2 := kk (s.nx + 1 + 1) (by omega) (by simp [j2])
  rw [j0] at k0; rw [j1] at k1; rw [j2] at k2
  simp -implicitDefEqProofs (maxSteps:=999999) (disch:=first|omega|simp only[nx4]<;>omega|fail) [e5, k2, hvv', hvc', e24, w3]
  refine go_next (t.args.length - (i + 1)) (by omega) ⟨i + 1, v', by omega, rfl, ?_, ?_, ?_, ?_, ?_, ?_, ?_, ?_, ?_, ?_, ?_, ?_, ?_, ?_⟩
  ·rw [hys1, List.map_append]
   exact ht'.move (by simp -implicitDefEqProofs (maxSteps:=999999) (disch:=first|omega|simp only[nx4]<;>omega|fail)) fun q hq1 hq2 hq3 => by
    have : q ≠ s.nx + 1 + 1 := by omega
    simp -implicitDefEqProofs (maxSteps:=999999) (disch:=first|omega|simp only[nx4]<;>omega|fail) [this]
  ·simp -implicitDefEqProofs (maxSteps:=999999) (disch:=first|omega|simp only[nx4]<;>omega|fail) [e1]
  ·simp -implicitDefEqProofs (maxSteps:=999999) (disch:=first|omega|simp only[nx4]<;>omega|fail) [e2]
  ·simp -implicitDefEqProofs (maxSteps:=999999) (disch:=first|omega|simp only[nx4]<;>omega|fail) [e4]
  ·simp -implicitDefEqProofs (maxSteps:=999999) (disch:=first|omega|simp only[nx4]<;>omega|fail) [e5]
  ·simp -implicitDefEqProofs (maxSteps:=999999) (disch:=first|omega|simp only[nx4]<;>omega|fail) [e6]
  ·simp -implicitDefEqProofs (maxSteps:=999999) (disch:=first|omega|simp only[nx4]<;>omega|fail) [e22]
  ·simp -implicitDefEqProofs (maxSteps:=999999) (disch:=first|omega|simp only[nx4]<;>omega|fail) [e23]
  ·simp -implicitDefEqProofs (maxSteps:=999999) (disch:=first|omega|simp only[nx4]<;>omega|fail)
  ·simp -implicitDefEqProofs (maxSteps:=999999) (disch:=first|omega|simp only[nx4]<;>omega|fail) [k0]
  ·simp -implicitDefEqProofs (maxSteps:=999999) (disch:=first|omega|simp only[nx4]<;>omega|fail) [k1]
  ·simp -implicitDefEqProofs (maxSteps:=999999) (disch:=first|omega|simp only[nx4]<;>omega|fail)
  ·intro q hq
   have h1 : q ≠ s.nx + 1 + 1 := by omega
   simp -implicitDefEqProofs (maxSteps:=999999) (disch:=first|omega|simp only[nx4]<;>omega|fail) [h1]
   rw [hk' q (by simp -implicitDefEqProofs (maxSteps:=999999) (disch:=first|omega|simp only[nx4]<;>omega|fail); omega) (.inl (by omega))]
   simp -implicitDefEqProofs (maxSteps:=999999) (disch:=first|omega|simp only[nx4]<;>omega|fail) [(hne q (by omega)).1, (hne q (by omega)).2, hk q hq]
  ·simp -implicitDefEqProofs (maxSteps:=999999) (disch:=first|omega|simp only[nx4]<;>omega|fail)
   simp -implicitDefEqProofs (maxSteps:=999999) (disch:=first|omega|simp only[nx4]<;>omega|fail) at hn'
   omega
 ·have hlt' : ¬ (i : Int) < t.args.length := by omega
  obtain rfl : i = t.args.length := by omega
  rw [List.take_of_length_le (by simp)] at ht
  simp -implicitDefEqProofs (maxSteps:=999999) (disch:=first|omega|simp only[nx4]<;>omega|fail) [e2, e23, e24, hlt', j0]
  refine go_loop (IB99 t fid cap (t.alts.map fun a => (a.1, φ (bnd a.1) a.2)) v s) t.alts.length ⟨0, .list 0 .full [], by omega, by omega, .inl ⟨rfl, by simp⟩, ?_, ?_, ?_, ?_, ?_, ?_, ?_, ?_, ?_, ?_, ?_, ?_⟩ ?_
  all_goals (try simp -implicitDefEqProofs (maxSteps:=999999) (disch:=first|omega|simp only[nx4]<;>omega|fail) [e1, e2, e4, e5, j0, j1, j2, hk])
  all_goals (try omega)
  have hw := ht.wk (wkL_refl _)
  clear e1 e2 e4 e5 e6 e22 e23 e24 j0 j1 j2 hk hn ht hlt
  rintro m g S ⟨i, u, hi, rfl, ht, e1, e2, e4, e5, e40, e41, e42, j0, j1, j2, hk, hn⟩
  rw [Pl.av_cells] at j0
  obtain ⟨huv, huc⟩ := ht.val
  by_cases hlt : i < t.alts.length
  ·have hlt' : (i : Int) < t.alts.length := by omega
   have w3 := wrapS (i := i) (by omega)
   have hB1 := hB _ (List.getElem_mem hlt)
   have hzs1 := hzs i hlt
   have h142 := p142 _ (hbn _ (List.getElem_mem hlt))
   generalize hx : t.alts[i] = x at hB1 hzs1 h142
   simp -implicitDefEqProofs (maxSteps:=999999) (disch:=first|omega|simp only[nx4]<;>omega|fail) [e1, e2, e4, e5, e40, e41, e42, hlt', hlt, hx]
   refine pcV_intro h142 ?_
   simp -implicitDefEqProofs (maxSteps:=999999) (disch:=first|omega|simp only[nx4]<;>omega|fail)
   refine pcV_intro hB1 ?_
   simp -implicitDefEqProofs (maxSteps:=999999) (disch:=first|omega|simp only[nx4]<;>omega|fail) [e5, j2]
   intro m1 hm1
   have fo := Pl.altv_fold (x.1, φ (bnd x.1) x.2)
   dsimp only at fo
   rw [fo]
   have hne : ∀ q, q < S.nx → q ≠ S.nx := fun q hq => by omega
   refine ap_tok (ht.move (by simp -implicitDefEqProofs (maxSteps:=999999) (disch:=first|omega|simp only[nx4]<;>omega|fail); omega) fun q hq1 hq2 hq3 => by simp -implicitDefEqProofs (maxSteps:=999999) (disch:=first|omega|simp only[nx4]<;>omega|fail) [hne q hq2]) (by simp; omega) (by simp; omega) (by simp -implicitDefEqProofs (maxSteps:=999999) (disch:=first|omega|simp only[nx4]<;>omega|fail); omega) fun u' s' ht' hn' hk' => ?_
   obtain ⟨huv', huc'⟩ := ht'.val
   have kk : ∀ q, q < S.nx → (∀ n, S.m q ≠ some (.spare n)) → s'.m q = S.m q := fun q hq1 hq2 => by
    rw [hk' q (by simp -implicitDefEqProofs (maxSteps:=999999) (disch:=first|omega|simp only[nx4]<;>omega|fail); omega) (.inr fun n => by simp -implicitDefEqProofs (maxSteps:=999999) (disch:=first|omega|simp only[nx4]<;>omega|fail) [hne q hq1]; exact hq2 n)]
    simp -implicitDefEqProofs (maxSteps:=999999) (disch:=first|omega|simp only[nx4]<;>omega|fail) [hne q hq1]
   have k0 := kk s.nx (by omega) (by simp [j0])
   have k1 := kk (s.nx + 1) (by omega) (by simp [j1])
   have k2 := kk (s.nx + 1 + 1) (by omega) (by simp [j2])
   rw [j0] at k0; rw [j1] at k1; rw [j2] at k2
   simp -implicitDefEqProofs (maxSteps:=999999) (disch:=first|omega|simp only[nx4]<;>omega|fail) [e5, k2, huv', huc', hvv, hvc, e42, w3]
   refine go_next (t.alts.length - (i + 1)) (by omega) ⟨i + 1, u', by omega, rfl, ?_, ?_, ?_, ?_, ?_, ?_, ?_, ?_, ?_, ?_, ?_, ?_, ?_⟩
   ·rw [hzs1, List.map_append]
    exact ht'.move (by simp -implicitDefEqProofs (maxSteps:=999999) (disch:=first|omega|simp only[nx4]<;>omega|fail)) fun q hq1 hq2 hq3 => by
     have : q ≠ s.nx + 1 + 1 := by omega
     simp -implicitDefEqProofs (maxSteps:=999999) (disch:=first|omega|simp only[nx4]<;>omega|fail) [this]
   all_goals (try simp -implicitDefEqProofs (maxSteps:=999999) (disch:=first|omega|simp only[nx4]<;>omega|fail) [e1, e2, e4, e5, e40, e41, k0, k1])
   ·intro q hq
    rw [hk' q (by simp -implicitDefEqProofs (maxSteps:=999999) (disch:=first|omega|simp only[nx4]<;>omega|fail); omega) (.inl (by omega))]
    simp -implicitDefEqProofs (maxSteps:=999999) (disch:=first|omega|simp only[nx4]<;>omega|fail) [hne q (by omega), hk q hq]
   ·simp -implicitDefEqProofs (maxSteps:=999999) (disch:=first|omega|simp only[nx4]<;>omega|fail) at hn'
    try simp -implicitDefEqProofs (maxSteps:=999999) (disch:=first|omega|simp only[nx4]<;>omega|fail)
    omega
  ·have hlt' : ¬ (i : Int) < t.alts.length := by omega
   obtain rfl : i = t.alts.length := by omega
   rw [List.take_of_length_le (by simp)] at ht
   have hw2 := ht.wk (wkL_refl _)
   simp -implicitDefEqProofs (maxSteps:=999999) (disch:=first|omega|simp only[nx4]<;>omega|fail) [e4, e5, e41, e42, hlt', j1, j2, zP, hvv, hvc, huv, huc]
   refine ⟨?_, hk⟩
   rw [mapP, Pl.av_mk]
   simp only [wk, wkL, and_true, true_and]
   exact ⟨hw, hw2⟩
def C60 (t : Pl) : Prop := wf t = true → small t → PureC Tryz.prog 60 [t.av] t.av
theorem mapP_id (t : Pl) : mapP (fun _ x => x) t = t := by
 cases t
 simp [mapP]
theorem p100 (n : Int) (x : Pl) (h : PureC Tryz.prog 60 [x.av] x.av) : PureC Tryz.prog 100 [.int .i64 n, x.av] x.av := by
 refine PureC.intro fun s => fun_sound mixed Tryz.func100 Tryz.call100 k100.2 rfl (awpFun_go _ _ _ _ ?_)
 simp -implicitDefEqProofs (maxSteps:=999999) (disch:=first|omega|simp only[nx4]<;>omega|fail) [k100]
 refine go_pure h fun mm3 hm3 => ?_
 try simp only [nx4] at hm3
 simp -implicitDefEqProofs (maxSteps:=999999) (disch:=first|omega|simp only[nx4]<;>omega|fail)
theorem p60 (t : Pl) : C60 t := by
 induction t using Pl.ind with
 | h t ih1 ih2 =>
 intro hw hs
 obtain ⟨hnd, hwa, hwb⟩ := wf_nd hw
 have hal : t.alts.length ≤ 40 := by
  by_cases o8 : t.op = 8
  ·exact (hnd.cas o8).2.2
  ·rw [hnd.noalts o8]; simp
 have hlena := hnd.len
 refine PureC.intro fun s => fun_sound mixed Tryz.func60 Tryz.call60 k60.2 rfl (awpFun_go _ _ _ _ ?_)
 have h99 := p99 t 100 [] (fun _ x => x) (by omega) (by omega) (fun a ha h2 => by have := hnd.hd a ha h2; omega) (fun x hx => p100 _ _ (ih1 x hx (hwa x hx) (small_arg hs hx))) (fun a ha => p100 _ _ (ih2 a ha (hwb a ha) (small_alt hs ha)))
 rw [mapP_id] at h99
 simp -implicitDefEqProofs (maxSteps:=999999) (disch:=first|omega|simp only[nx4]<;>omega|fail) [k60]
 refine go_pure h99 fun mm4 hm4 => ?_
 try simp only [nx4] at hm4
 simp -implicitDefEqProofs (maxSteps:=999999) (disch:=first|omega|simp only[nx4]<;>omega|fail)
def vobj (D : List (ByteArray × AV)) : AObj := .map (inord (D.map fun p => (AV.str p.1, p.2))) D.length
def lookD (D : List (ByteArray × AV)) (n : ByteArray) : Option AV := (D.find? fun p => decide (p.1 = n)).map (·.2)
theorem mfind_v (n : ByteArray) : ∀ {es : List (Nat × AV × AV)} {D : List (ByteArray × AV)} (_ : es.map (·.2) = D.map fun p => (AV.str p.1, p.2)) (i : Nat),
  ∃ r, mfind (.str n) es i = some r ∧ (n ∉ D.map (·.1) → r = none) ∧ (r.bind fun j => (es[j - i]?).map (·.2.2)) = lookD D n ∧ (∀ j, r = some j → i ≤ j)
 | [], D, h, i => by
  have : D = [] := by simpa using h.symm
  subst this
  exact ⟨none, rfl, fun _ => rfl, rfl, by simp⟩
 | e :: es, [], h, i => by simp at h
 | e :: es, p :: D, h, i => by
  simp only [List.map_cons, List.cons.injEq] at h
  obtain ⟨h1, h2⟩ := h
  by_cases hx : n = p.1
  ·refine ⟨some i, ?_, fun hn => absurd (by simp [hx]) hn, ?_, by simp⟩
   ·rw [mfind, h1]; simp [keq, hx]
   ·simp [h1, lookD, hx]
  ·obtain ⟨r, k1, k2, k3, k4⟩ := mfind_v n (es := es) (D := D) h2 (i + 1)
   refine ⟨r, ?_, fun hn => k2 fun hm => hn (by rw [List.map_cons]; exact List.mem_cons_of_mem _ hm), ?_, fun j hj => by have := k4 j hj; omega⟩
   ·rw [mfind, h1]; simp [keq, hx, k1]
   ·have hx' : ¬ p.1 = n := fun e => hx e.symm
    have e : lookD (p :: D) n = lookD D n := by simp [lookD, hx']
    rw [e, ← k3]
    cases r with
    | none => rfl
    | some j =>
     have := k4 j rfl
     have e2 : j - i = (j - (i + 1)) + 1 := by omega
     simp only [Option.bind_some, e2, List.getElem?_cons_succ]
theorem lk_vobj {D : List (ByteArray × AV)} {c agg : Bool} {zs : List AV} (n : ByteArray) (s : St) (K : KS) : go (lkO c zs agg (.str n) (some (vobj D)) s K) = go (K (lookAV c zs agg (lookD D n)) s) := by
 obtain ⟨r, h1, _, h3, _⟩ := mfind_v n (inord_snd (D.map fun p => (AV.str p.1, p.2))) 0
 rw [vobj, lkO_map, h1, ← h3]
 cases r with
 | none => rfl
 | some j => rfl
theorem up_vobj {D : List (ByteArray × AV)} (o : Nat) (n : ByteArray) (x : AV) (hn : n ∉ D.map (·.1)) (s : St) (K : KS) : go (upO o (.str n) x (some (vobj D)) s K) = go (K (.tup []) (s.set o (vobj (D ++ [(n, x)])))) := by
 obtain ⟨r, h1, h2, _⟩ := mfind_v n (inord_snd (D.map fun p => (AV.str p.1, p.2))) 0
 rw [h2 hn] at h1
 rw [vobj, upO_map, h1, upR_none, vobj, List.map_append, List.map_cons, List.map_nil, inord_snoc]
 simp
inductive Rch (p : List Gl) (ns : List ByteArray) : ByteArray → Prop
 | base {n : ByteArray} : n ∈ ns → Rch p ns n
 | step {g : Gl} {x : List UInt8} : g ∈ p → Rch p ns g.name → x ∈ gls g.body → Rch p ns (ba x)
def wsum (S : List ByteArray) : List Gl → Nat
 | [] => 0
 | g :: r => (if g.name ∈ S then 0 else (gls g.body).length) + wsum S r
theorem wsum_out {S : List ByteArray} {n : ByteArray} : ∀ {p : List Gl}, n ∉ nms p → wsum (S ++ [n]) p = wsum S p
 | [], _ => rfl
 | g :: r, h => by
  simp only [nms, List.map_cons, List.mem_cons, not_or] at h
  have h1 : ¬ g.name = n := fun e => h.1 e.symm
  rw [wsum, wsum, wsum_out (p := r) h.2]
  simp [h1]
theorem wsum_in {S : List ByteArray} {g : Gl} (hS : g.name ∉ S) : ∀ {p : List Gl}, (nms p).Nodup → g ∈ p → wsum (S ++ [g.name]) p + (gls g.body).length = wsum S p
 | [], _, h => by simp at h
 | x :: r, hn, h => by
  simp only [nms, List.map_cons, List.nodup_cons] at hn
  rcases List.mem_cons.1 h with rfl | h
  ·rw [wsum, wsum, wsum_out (p := r) hn.1]
   simp [hS]; omega
  ·have h1 : ¬ x.name = g.name := fun e => hn.1 (by rw [e]; exact List.mem_map_of_mem h)
   have := wsum_in hS hn.2 h
   rw [wsum, wsum]
   simp only [List.mem_append, List.mem_singleton, h1, or_false]
   omega
theorem wsum_le {p : List Gl} (hp : ∀ g ∈ p, small g.body) : wsum [] p ≤ p.length * 3000 := by
 induction p with
 | nil => simp [wsum]
 | cons g r ih =>
  have h1 := ih fun x hx => hp x (List.mem_cons_of_mem _ hx)
  have h2 := hp g (by simp)
  have h3 := gls_len g.body
  have h4 := pre_len g.body
  have h5 := h2.1
  rw [wsum, List.length_cons]
  simp only [List.not_mem_nil, if_false]
  omega
def errB (p : List Gl) : Int := if isP p = true then 0 else 40
theorem p58 (p : List Gl) (hp : Few p) : PureC Tryz.prog 58 [.list 6 .none (p.map Gl.av)] (.int .i64 (errB p)) := by
 refine PureC.intro fun s => fun_sound mixed Tryz.func58 Tryz.call58 k58.2 rfl (awpFun_go _ _ _ _ ?_)
 have h36 := p36 p hp
 unfold errB
 cases hi : isP p
 all_goals
  rw [hi] at h36
  simp -implicitDefEqProofs (maxSteps:=999999) (disch:=first|omega|simp only[nx4]<;>omega|fail) [k58]
  refine go_pure h36 fun mm1 hm1 => ?_
  try simp only [nx4] at hm1
  simp -implicitDefEqProofs (maxSteps:=999999) (disch:=first|omega|simp only[nx4]<;>omega|fail)
theorem p12 (a : Int) (n : Nat) (h0 : 0 < n) (h1 : n ≤ 100000) : ∃ j : Nat, j < n ∧ PureC Tryz.prog 12 [.int .i64 a, .int .i64 n] (.int .i64 j) := by
 have hw : IntKind.u64.wrap (n : Int) = n := by
  unfold IntKind.wrap
  simp [IntKind.bits, IntKind.signed]
  omega
 refine ⟨(IntKind.i64.wrap (IntKind.u64.wrap a % n)).toNat, ?_, PureC.intro fun s => fun_sound mixed Tryz.func12 Tryz.call12 k12.2 rfl (awpFun_go _ _ _ _ ?_)⟩
 all_goals
  have hu : 0 ≤ IntKind.u64.wrap a := by unfold IntKind.wrap; simp [IntKind.bits, IntKind.signed]; omega
  have hm0 : 0 ≤ IntKind.u64.wrap a % n := Int.emod_nonneg _ (by omega)
  have hm1 : IntKind.u64.wrap a % n < n := Int.emod_lt_of_pos _ (by omega)
  have hm2 : IntKind.i64.wrap (IntKind.u64.wrap a % n) = IntKind.u64.wrap a % n := wrap64 (by omega) (by omega)
  rw [hm2]
 ·omega
 ·simp -implicitDefEqProofs (maxSteps:=999999) (disch:=first|omega|simp only[nx4]<;>omega|fail) [k12, hw]
  rw [Int.tmod_eq_emod_of_nonneg hu, hm2]
  omega
theorem p59 (xs : List ByteArray) (t : Tok) (s : St) (hl : xs.length ≤ 10000000) : ACalls Tryz.prog 59 [.list 1 t (xs.map .str)] s fun r s' => TokS s' 1 s.nx r (xs.map .str) ∧ Kept s s' := by
 refine fun_sound mixed Tryz.func59 Tryz.call59 k59.2 rfl (awpFun_go _ _ _ _ ?_)
 simp -implicitDefEqProofs (maxSteps:=999999) (disch:=first|omega|simp only[nx4]<;>omega|fail) [k59]
 exact ⟨.inr ⟨s.nx, rfl, by simp -implicitDefEqProofs (maxSteps:=999999) (disch:=first|omega|simp only[nx4]<;>omega|fail), by omega, by simp -implicitDefEqProofs (maxSteps:=999999) (disch:=first|omega|simp only[nx4]<;>omega|fail)⟩, fun h => .inl ⟨rfl, by simp [h]⟩⟩
def bodD (p : List Gl) : List (ByteArray × AV) := p.map fun g => (g.name, g.body.av)
def IA30 (p : List Gl) (ns : List ByteArray) (b7 : Nat) (s : St) (m : Nat) (g : Env) (s1 : St) : Prop :=
 ∃ i : Nat, i ≤ p.length ∧ m = p.length - i ∧ g.get 0 = .list 6 .none (p.map Gl.av) ∧ g.get 1 = .list 1 .none (ns.map .str) ∧ g.get 7 = .map b7 ∧ g.get 25 = .list 6 .none (p.map Gl.av) ∧ g.get 26 = .int .i64 p.length ∧ g.get 27 = .int .i64 i ∧
  s1.m b7 = some (vobj ((bodD p).take i)) ∧ Kept s s1 ∧ s.nx ≤ b7 ∧ b7 < s1.nx
structure RI (p : List Gl) (ns Q S : List ByteArray) (i : Nat) : Prop where
 rch : ∀ x ∈ Q, Rch p ns x
 nd : S.Nodup
 sub : ∀ x ∈ S, x ∈ Q
 clo : ∀ x ∈ S, ∃ g ∈ p, g.name = x ∧ ∀ y ∈ gls g.body, ba y ∈ Q
 don : ∀ (j : Nat) x, j < i → Q[j]? = some x → x ∈ S
 all : ∀ x ∈ ns, x ∈ Q
theorem RI.init {p : List Gl} {ns : List ByteArray} : RI p ns ns [] 0 :=
 ⟨fun x hx => .base hx, by simp, by simp, by simp, fun j x h => by omega, fun x hx => hx⟩
theorem RI.skip {p : List Gl} {ns Q S : List ByteArray} {i : Nat} {x : ByteArray} (h : RI p ns Q S i) (hx : Q[i]? = some x) (hS : x ∈ S) : RI p ns Q S (i + 1) :=
 ⟨h.rch, h.nd, h.sub, h.clo, fun j y hj hy => by
  by_cases e : j = i
  ·subst e; rw [hx] at hy; cases hy; exact hS
  ·exact h.don j y (by omega) hy, h.all⟩
theorem RI.add {p : List Gl} {ns Q S : List ByteArray} {i : Nat} {g : Gl} (h : RI p ns Q S i) (hg : g ∈ p) (hx : Q[i]? = some g.name) (hS : g.name ∉ S) : RI p ns (Q ++ (gls g.body).map ba) (S ++ [g.name]) (i + 1) := by
 have hil := (List.getElem?_eq_some_iff.1 hx).1
 have hr := h.rch _ (List.mem_of_getElem? hx)
 refine ⟨fun x hm => ?_, ?_, fun x hm => ?_, fun x hm => ?_, fun j y hj hy => ?_, fun x hm => List.mem_append_left _ (h.all x hm)⟩
 ·rcases List.mem_append.1 hm with hm | hm
  ·exact h.rch x hm
  ·obtain ⟨y, hy, rfl⟩ := List.mem_map.1 hm
   exact .step hg hr hy
 ·rw [List.nodup_append]
  refine ⟨h.nd, by simp, fun a ha b hb => ?_⟩
  simp at hb; subst hb
  exact fun e => hS (e ▸ ha)
 ·rcases List.mem_append.1 hm with hm | hm
  ·exact List.mem_append_left _ (h.sub x hm)
  ·simp at hm; subst hm; exact List.mem_append_left _ (List.mem_of_getElem? hx)
 ·rcases List.mem_append.1 hm with hm | hm
  ·obtain ⟨g', h1, h2, h3⟩ := h.clo x hm
   exact ⟨g', h1, h2, fun y hy => List.mem_append_left _ (h3 y hy)⟩
  ·simp at hm; subst hm
   exact ⟨g, hg, rfl, fun y hy => List.mem_append_right _ (List.mem_map_of_mem hy)⟩
 ·rw [List.getElem?_append_left (by omega)] at hy
  by_cases e : j = i
  ·subst e; rw [hx] at hy; cases hy; simp
  ·exact List.mem_append_left _ (h.don j y (by omega) hy)
theorem RI.fin {p : List Gl} {ns Q S : List ByteArray} {i : Nat} (h : RI p ns Q S i) (hnd : (nms p).Nodup) (hi : Q.length ≤ i) (x : ByteArray) : x ∈ S ↔ Rch p ns x := by
 have hQ : ∀ x, x ∈ Q → x ∈ S := fun x hx => by
  obtain ⟨j, hj, rfl⟩ := List.mem_iff_getElem.1 hx
  exact h.don j _ (by omega) (by simp [hj])
 refine ⟨fun hx => h.rch x (h.sub x hx), fun hx => ?_⟩
 induction hx with
 | base hn => exact hQ _ (h.all _ hn)
 | @step g y hg _ hy ih =>
  obtain ⟨g', h1, h2, h3⟩ := h.clo _ ih
  have : g' = g := by
   obtain ⟨a, ha, rfl⟩ := List.mem_iff_getElem.1 h1
   obtain ⟨b, hb, rfl⟩ := List.mem_iff_getElem.1 hg
   have e1 : (nms p)[a]? = some p[a].name := by simp [nms, ha]
   have e2 : (nms p)[b]? = some p[a].name := by rw [h2]; simp [nms, hb]
   have : a = b := nodup_get hnd e1 e2
   subst this; rfl
  subst this
  exact hQ _ (h3 y hy)
theorem lookD_bod : ∀ {p : List Gl} (_ : (nms p).Nodup) {g : Gl} (_ : g ∈ p), lookD (bodD p) g.name = some g.body.av
 | [], _, _, h => by simp at h
 | x :: r, hn, g, h => by
  simp only [nms, List.map_cons, List.nodup_cons] at hn
  rcases List.mem_cons.1 h with rfl | h
  ·simp [lookD, bodD]
  ·have h1 : ¬ x.name = g.name := fun e => hn.1 (by rw [e]; exact List.mem_map_of_mem h)
   have := lookD_bod (p := r) hn.2 h
   simpa [lookD, bodD, h1] using this
def IB30 (p : List Gl) (ns : List ByteArray) (b7 b10 bq : Nat) (s : St) (m : Nat) (g : Env) (s1 : St) : Prop :=
 ∃ (i : Nat) (Q S : List ByteArray) (es : List (Nat × AV × AV)) (clock : Nat) (v : AV), i ≤ Q.length ∧ m = (Q.length - i) + wsum S p ∧ RI p ns Q S i ∧ Q.length + wsum S p ≤ 2300000 ∧ TokS s1 1 bq v (Q.map .str) ∧ kset .str es S ∧
  g.get 0 = .list 6 .none (p.map Gl.av) ∧ g.get 7 = .map b7 ∧ g.get 10 = .map b10 ∧ g.get 11 = v ∧ g.get 12 = .int .i64 i ∧ s1.m b7 = some (vobj (bodD p)) ∧ s1.m b10 = some (.map es clock) ∧ Kept s s1 ∧ s.nx ≤ b7 ∧ b7 < b10 ∧ b10 < bq ∧ bq ≤ s1.nx
def flt (L : List ByteArray) (l : List Gl) : List Gl := l.filter fun g => decide (g.name ∈ L)
def IC30 (p : List Gl) (L : List ByteArray) (es : List (Nat × AV × AV)) (clock b10 bq : Nat) (s : St) (m : Nat) (g : Env) (s1 : St) : Prop :=
 ∃ (i : Nat) (v : AV), i ≤ p.length ∧ m = p.length - i ∧ TokS s1 6 bq v ((flt L (p.take i)).map Gl.av) ∧ g.get 10 = .map b10 ∧ g.get 16 = v ∧ g.get 68 = .list 6 .none (p.map Gl.av) ∧ g.get 69 = .int .i64 p.length ∧ g.get 70 = .int .i64 i ∧
  s1.m b10 = some (.map es clock) ∧ Kept s s1 ∧ s.nx ≤ b10 ∧ b10 < bq ∧ bq ≤ s1.nx
theorem p30 (p : List Gl) (hp : Few p) (hi : isP p = true) (ns : List ByteArray) (hns : ns.length ≤ 1000000) (hd : ∀ x, Rch p ns x → x ∈ nms p) : ∃ q : List Gl, (∀ g, g ∈ q ↔ g ∈ p ∧ Rch p ns g.name) ∧ List.Sublist q p ∧
  PureC Tryz.prog 30 [.list 6 .none (p.map Gl.av), .list 1 .none (ns.map .str)] (.tup [.list 6 .none (q.map Gl.av), .int .i64 0]) := by
 have h58 := p58 p hp
 rw [errB, if_pos hi] at h58
 have hgp := goodP hp hi
 have hpl := hgp.few
 refine ⟨p.filter fun g => @decide (Rch p ns g.name) (Classical.propDecidable _), fun g => by simp, List.filter_sublist, ?_⟩
 generalize hqd : (p.filter fun g => @decide (Rch p ns g.name) (Classical.propDecidable _)) = q
 refine PureC.intro fun s => fun_sound mixed Tryz.func30 Tryz.call30 k30.2 rfl (awpFun_go _ _ _ _ ?_)
 simp -implicitDefEqProofs (maxSteps:=999999) (disch:=first|omega|simp only[nx4]<;>omega|fail) [k30]
 refine go_pure h58 fun mm2 hm2 => ?_
 try simp only [nx4] at hm2
 simp -implicitDefEqProofs (maxSteps:=999999) (disch:=first|omega|simp only[nx4]<;>omega|fail)
 refine go_loop (IA30 p ns mm2 s) p.length ⟨0, by omega, by omega, ?_, ?_, ?_, ?_, ?_, ?_, ?_, ?_, ?_, ?_⟩ ?_
 all_goals (try simp -implicitDefEqProofs (maxSteps:=999999) (disch:=first|omega|simp only[nx4]<;>omega|fail) [vobj, inord])
 all_goals (try omega)
 rintro m g S ⟨i, hil, rfl, e0, e1, e7, e25, e26, e27, j7, hk, hn1, hn2⟩
 by_cases hlt : i < p.length
 ·have hlt' : (i : Int) < p.length := by omega
  have w3 := wrapS (i := i) (by omega)
  have htk : (bodD p).take (i + 1) = (bodD p).take i ++ [(p[i].name, p[i].body.av)] := by
   rw [List.take_succ_eq_append_getElem (by simpa [bodD] using hlt)]; simp [bodD]
  have hnot : p[i].name ∉ ((bodD p).take i).map (·.1) := by
   intro hm
   rw [bodD, ← List.map_take] at hm
   have := hgp.nd
   rw [← List.take_append_drop i p, nms, List.map_append, List.drop_eq_getElem_cons hlt, List.map_cons] at this
   rw [List.map_map] at hm
   exact (List.nodup_append.1 this).2.2 _ hm _ (by simp) rfl
  generalize hx : p[i] = x at htk hnot
  have hu1 := fun S1 K => up_vobj mm2 x.name x.body.av hnot S1 K
  rw [← htk] at hu1
  simp -implicitDefEqProofs (maxSteps:=999999) (disch:=first|omega|simp only[nx4]<;>omega|fail) [e0, e1, e7, e25, e26, e27, hlt', hlt, hx, j7, hu1, w3]
  refine go_next (p.length - (i + 1)) (by omega) ⟨i + 1, by omega, rfl, ?_, ?_, ?_, ?_, ?_, ?_, ?_, ?_, ?_, ?_⟩
  all_goals (try simp -implicitDefEqProofs (maxSteps:=999999) (disch:=first|omega|simp only[nx4]<;>omega|fail) [e0, e1, e7, e25, e26, hk])
  all_goals (try omega)
 ·have hlt' : ¬ (i : Int) < p.length := by omega
  obtain rfl : i = p.length := by omega
  rw [List.take_of_length_le (by simp [bodD])] at j7
  simp -implicitDefEqProofs (maxSteps:=999999) (disch:=first|omega|simp only[nx4]<;>omega|fail) [e0, e1, e7, e25, e26, e27, hlt']
  refine go_calls (ACalls.mono (p59 ns .none _ (by omega)) fun r s' hn' h => go_of ?_)
  obtain ⟨ht, hk'⟩ := h
  simp -implicitDefEqProofs (maxSteps:=999999) (disch:=first|omega|simp only[nx4]<;>omega|fail) at hn'
  have q7 : s'.m mm2 = some (vobj (bodD p)) := (hk' _ (by simp -implicitDefEqProofs (maxSteps:=999999) (disch:=first|omega|simp only[nx4]<;>omega|fail); omega)).trans (by simp -implicitDefEqProofs (maxSteps:=999999) (disch:=first|omega|simp only[nx4]<;>omega|fail) [j7])
  have q10 : s'.m S.nx = some (.map [] 0) := (hk' _ (by simp -implicitDefEqProofs (maxSteps:=999999) (disch:=first|omega|simp only[nx4]<;>omega|fail))).trans (by simp -implicitDefEqProofs (maxSteps:=999999) (disch:=first|omega|simp only[nx4]<;>omega|fail))
  have hk2 : Kept s s' := fun q hq => (hk' q (by simp -implicitDefEqProofs (maxSteps:=999999) (disch:=first|omega|simp only[nx4]<;>omega|fail); omega)).trans (by simp -implicitDefEqProofs (maxSteps:=999999) (disch:=first|omega|simp only[nx4]<;>omega|fail) [hk q hq])
  simp -implicitDefEqProofs (maxSteps:=999999) (disch:=first|omega|simp only[nx4]<;>omega|fail) at ht
  simp -implicitDefEqProofs (maxSteps:=999999) (disch:=first|omega|simp only[nx4]<;>omega|fail)
  have hws := wsum_le (p := p) fun g hg => (hp.2 g hg).1
  refine go_loop (IB30 p ns mm2 S.nx (S.nx + 1) s) (ns.length + wsum [] p) ⟨0, ns, [], [], 0, r, by omega, by omega, RI.init, by omega, ht, kset_nil _, ?_, ?_, ?_, ?_, ?_, ?_, ?_, ?_, ?_, ?_, ?_, ?_⟩ ?_
  all_goals (try simp -implicitDefEqProofs (maxSteps:=999999) (disch:=first|omega|simp only[nx4]<;>omega|fail) [e0, e7, q7, q10, hk2])
  all_goals (try omega)
  clear e0 e1 e7 e25 e26 e27 j7 hk ht hk' q7 q10 hk2 hn'
  generalize S.nx = b10 at *
  rintro m g S1 ⟨i, Q, L, es, clock, v, hiq, rfl, hri, hQl, ht, hks, e0, e7, e10, e11, e12, j7, j10, hk, h1, h2, h3, h4⟩
  obtain ⟨z, t', hv, hz⟩ : ∃ z t', v = .list z t' (Q.map .str) ∧ (z = 1 ∨ Q = []) := by
   rcases ht with ⟨rfl, h⟩ | ⟨o, rfl, _⟩
   ·have : Q = [] := by simpa using h
    subst this
    exact ⟨0, .full, rfl, .inr rfl⟩
   ·exact ⟨1, _, rfl, .inl rfl⟩
  by_cases hlt : i < Q.length
  ·have hlt' : (i : Int) < Q.length := by omega
   have hz1 : z = 1 := by
    rcases hz with h | h
    ·exact h
    ·subst h; simp at hlt
   subst hz1
   have w3 := wrapS (i := i) (by omega)
   have hx : Q[i]? = some Q[i] := by simp [hlt]
   have hmem := hd _ (hri.rch _ (List.getElem_mem hlt))
   generalize hy : Q[i] = x at hx hmem
   obtain ⟨gl, hgl, rfl⟩ := List.mem_map.1 hmem
   have hlk := lookD_bod hgp.nd hgl
   have v1 := fun c zs agg s K => lk_vobj (D := bodD p) (c := c) (agg := agg) (zs := zs) gl.name s K
   rw [hlk] at v1
   have v2 := fun s K => kset_lk keq_str gl.name hks s K
   obtain ⟨es', clock', k1, u1⟩ := kset_up keq_str gl.name hks clock
   by_cases hS : gl.name ∈ L
   ·simp -implicitDefEqProofs (maxSteps:=999999) (disch:=first|omega|simp only[nx4]<;>omega|fail) [e0, e7, e10, e11, e12, hv, hlt', hlt, hy, j7, v1, lookAV, j10, v2, hS, w3]
    refine go_next (Q.length - (i + 1) + wsum L p) (by omega) ⟨i + 1, Q, L, es, clock, v, by omega, rfl, hri.skip hx hS, hQl, ht.move (by simp -implicitDefEqProofs (maxSteps:=999999) (disch:=first|omega|simp only[nx4]<;>omega|fail)) fun q hq1 hq2 hq3 => ?_, hks, ?_, ?_, ?_, ?_, ?_, ?_, ?_, ?_, ?_, ?_, ?_, ?_⟩
    ·have : q ≠ S1.nx := by omega
     simp -implicitDefEqProofs (maxSteps:=999999) (disch:=first|omega|simp only[nx4]<;>omega|fail) [this]
    all_goals (try simp -implicitDefEqProofs (maxSteps:=999999) (disch:=first|omega|simp only[nx4]<;>omega|fail) [e0, e7, e10, e11, hv, j7, j10, hk])
    all_goals (try omega)
   ·rw [if_neg hS] at k1
    have hwf := hgp.wf _ hgl
    obtain ⟨hsm, hrg⟩ := hgp.sm _ hgl
    have h47 := p47 gl.body hwf hsm
    have hws1 := wsum_in hS hgp.nd hgl
    simp -implicitDefEqProofs (maxSteps:=999999) (disch:=first|omega|simp only[nx4]<;>omega|fail) [e0, e7, e10, e11, e12, hv, hlt', hlt, hy, j7, v1, lookAV, j10, v2, hS, u1, w3]
    refine go_pure h47 fun mm3 hm3 => ?_
    try simp only [nx4] at hm3
    simp -implicitDefEqProofs (maxSteps:=999999) (disch:=first|omega|simp only[nx4]<;>omega|fail) [e11, hv]
    have hsl : slist (gls gl.body) = ((gls gl.body).map ba).map AV.str := by simp [slist, ba]
    rw [hsl]
    subst hv
    have hne : ∀ q, q < S1.nx → q ≠ S1.nx := fun q hq => by omega
    refine ap_tok (s := _) (ht.move (by simp -implicitDefEqProofs (maxSteps:=999999) (disch:=first|omega|simp only[nx4]<;>omega|fail); omega) fun q hq1 hq2 hq3 => by
     have : q ≠ b10 := by omega
     simp -implicitDefEqProofs (maxSteps:=999999) (disch:=first|omega|simp only[nx4]<;>omega|fail) [hne q hq2, this]) (by simp; omega) (by simp; omega) (by simp -implicitDefEqProofs (maxSteps:=999999) (disch:=first|omega|simp only[nx4]<;>omega|fail); omega) fun v' s' ht' hn' hk' => ?_
    have kk : ∀ q, q < S1.nx → q ≠ b10 → (∀ n, S1.m q ≠ some (.spare n)) → s'.m q = S1.m q := fun q hq1 hq2 hq3 => by
     rw [hk' q (by simp -implicitDefEqProofs (maxSteps:=999999) (disch:=first|omega|simp only[nx4]<;>omega|fail); omega) (.inr fun n => by simp -implicitDefEqProofs (maxSteps:=999999) (disch:=first|omega|simp only[nx4]<;>omega|fail) [hne q hq1, hq2]; exact hq3 n)]
     simp -implicitDefEqProofs (maxSteps:=999999) (disch:=first|omega|simp only[nx4]<;>omega|fail) [hne q hq1, hq2]
    have k7 := (kk mm2 (by omega) (by omega) (by simp [j7, vobj])).trans j7
    have k10 : s'.m b10 = some (.map es' clock') := by
     rw [hk' b10 (by simp -implicitDefEqProofs (maxSteps:=999999) (disch:=first|omega|simp only[nx4]<;>omega|fail); omega) (.inl (by omega))]
     simp -implicitDefEqProofs (maxSteps:=999999) (disch:=first|omega|simp only[nx4]<;>omega|fail)
    have kkp : Kept s s' := fun q hq => by
     rw [hk' q (by simp -implicitDefEqProofs (maxSteps:=999999) (disch:=first|omega|simp only[nx4]<;>omega|fail); omega) (.inl (by omega))]
     have : q ≠ b10 := by omega
     simp -implicitDefEqProofs (maxSteps:=999999) (disch:=first|omega|simp only[nx4]<;>omega|fail) [hne q (by omega), this, hk q hq]
    simp -implicitDefEqProofs (maxSteps:=999999) (disch:=first|omega|simp only[nx4]<;>omega|fail) [e12, w3]
    refine go_next ((Q ++ (gls gl.body).map ba).length - (i + 1) + wsum (L ++ [gl.name]) p) (by simp; omega) ⟨i + 1, Q ++ (gls gl.body).map ba, L ++ [gl.name], es', clock', v', by simp; omega, rfl, hri.add hgl hx hS, by simp; omega, by rw [List.map_append]; exact ht', k1, ?_, ?_, ?_, ?_, ?_, ?_, ?_, ?_, ?_, ?_, ?_, ?_⟩
    all_goals (try simp -implicitDefEqProofs (maxSteps:=999999) (disch:=first|omega|simp only[nx4]<;>omega|fail) [e0, e7, e10, k7, k10, kkp])
    all_goals (try simp -implicitDefEqProofs (maxSteps:=999999) (disch:=first|omega|simp only[nx4]<;>omega|fail) at hn')
    all_goals (try omega)
  ·have hlt' : ¬ (i : Int) < Q.length := by omega
   have hfin := hri.fin hgp.nd (by omega)
   simp -implicitDefEqProofs (maxSteps:=999999) (disch:=first|omega|simp only[nx4]<;>omega|fail) [e0, e11, e12, hv, hlt']
   have hqe : q = flt L p := by
    rw [← hqd, flt]
    exact List.filter_congr fun g _ => by simp [hfin]
   refine go_loop (IC30 p L es clock b10 S1.nx s) p.length ⟨0, .list 0 .full [], by omega, by omega, .inl ⟨rfl, by simp [flt]⟩, ?_, ?_, ?_, ?_, ?_, ?_, ?_, ?_, ?_, ?_⟩ ?_
   all_goals (try simp -implicitDefEqProofs (maxSteps:=999999) (disch:=first|omega|simp only[nx4]<;>omega|fail) [e10, j10, hk])
   all_goals (try omega)
   have hb : b10 < S1.nx := by omega
   clear e0 e7 e10 e11 e12 hv j7 j10 hk ht
   generalize S1.nx = bq at hb ⊢
   rintro m g S2 ⟨i, v, hil, rfl, ht, e10, e16, e68, e69, e70, j10, hk, h5, h6, h7⟩
   by_cases hlt : i < p.length
   ·have hlt' : (i : Int) < p.length := by omega
    have w3 := wrapS (i := i) (by omega)
    have hmem := List.getElem_mem hlt
    have hwf := hgp.wf _ hmem
    obtain ⟨hsm, hrg⟩ := hgp.sm _ hmem
    have hfl : flt L (p.take (i + 1)) = flt L (p.take i) ++ (if p[i].name ∈ L then [p[i]] else []) := by
     rw [List.take_succ_eq_append_getElem hlt, flt, flt, List.filter_append]
     by_cases h : p[i].name ∈ L <;> simp [h]
    have hfle : (flt L (p.take i)).length ≤ i := Nat.le_trans (List.length_filter_le _ _) (by simp; omega)
    generalize hx : p[i] = x at hwf hsm hrg hfl
    have h60 := p60 x.body hwf hsm
    have v2 := fun s K => kset_lk keq_str x.name hks s K
    by_cases hS : x.name ∈ L
    ·rw [if_pos hS] at hfl
     simp -implicitDefEqProofs (maxSteps:=999999) (disch:=first|omega|simp only[nx4]<;>omega|fail) [e10, e16, e68, e69, e70, hlt', hlt, hx, j10, v2, hS]
     have hown : ownOf v = none ∨ ∃ o, ownOf v = some o := by
      cases ownOf v <;> simp
     have hne : ∀ q, q < S2.nx → q ≠ S2.nx := fun q hq => by omega
     refine pcV_intro h60 ?_
     simp -implicitDefEqProofs (maxSteps:=999999) (disch:=first|omega|simp only[nx4]<;>omega|fail) [e16]
     refine ap_tok (ht.move (by simp -implicitDefEqProofs (maxSteps:=999999) (disch:=first|omega|simp only[nx4]<;>omega|fail)) fun q hq1 hq2 hq3 => by simp -implicitDefEqProofs (maxSteps:=999999) (disch:=first|omega|simp only[nx4]<;>omega|fail) [hne q hq2]) (by simp; omega) (by simp; omega) (by simp -implicitDefEqProofs (maxSteps:=999999) (disch:=first|omega|simp only[nx4]<;>omega|fail); omega) fun v' s' ht' hn' hk' => ?_
     have k10 : s'.m b10 = some (.map es clock) := by
      rw [hk' b10 (by simp -implicitDefEqProofs (maxSteps:=999999) (disch:=first|omega|simp only[nx4]<;>omega|fail); omega) (.inl (by omega))]
      simp -implicitDefEqProofs (maxSteps:=999999) (disch:=first|omega|simp only[nx4]<;>omega|fail) [hne b10 (by omega), j10]
     have kkp : Kept s s' := fun q hq => by
      rw [hk' q (by simp -implicitDefEqProofs (maxSteps:=999999) (disch:=first|omega|simp only[nx4]<;>omega|fail); omega) (.inl (by omega))]
      simp -implicitDefEqProofs (maxSteps:=999999) (disch:=first|omega|simp only[nx4]<;>omega|fail) [hne q (by omega), hk q hq]
     simp -implicitDefEqProofs (maxSteps:=999999) (disch:=first|omega|simp only[nx4]<;>omega|fail) at hn'
     rcases hown with ho | ⟨o, ho⟩
     all_goals
      simp -implicitDefEqProofs (maxSteps:=999999) (disch:=first|omega|simp only[nx4]<;>omega|fail) [ho]
      intro m2 hm2
      simp -implicitDefEqProofs (maxSteps:=999999) (disch:=first|omega|simp only[nx4]<;>omega|fail) [e70, w3]
      refine go_next (p.length - (i + 1)) (by omega) ⟨i + 1, v', by omega, rfl, ?_, ?_, ?_, ?_, ?_, ?_, ?_, ?_, ?_, ?_, ?_⟩
      ·rw [hfl, List.map_append]
       exact ht'.move (by simp -implicitDefEqProofs (maxSteps:=999999) (disch:=first|omega|simp only[nx4]<;>omega|fail); omega) fun q hq1 hq2 hq3 => rfl
      all_goals (try simp -implicitDefEqProofs (maxSteps:=999999) (disch:=first|omega|simp only[nx4]<;>omega|fail) [e10, e68, e69, k10, kkp])
      all_goals (try omega)
    ·rw [if_neg hS, List.append_nil] at hfl
     simp -implicitDefEqProofs (maxSteps:=999999) (disch:=first|omega|simp only[nx4]<;>omega|fail) [e10, e16, e68, e69, e70, hlt', hlt, hx, j10, v2, hS, w3]
     refine go_next (p.length - (i + 1)) (by omega) ⟨i + 1, v, by omega, rfl, ?_, ?_, ?_, ?_, ?_, ?_, ?_, ?_, ?_, ?_, ?_⟩
     ·rw [hfl]
      refine ht.move (by simp -implicitDefEqProofs (maxSteps:=999999) (disch:=first|omega|simp only[nx4]<;>omega|fail)) fun q hq1 hq2 hq3 => ?_
      have : q ≠ S2.nx := by omega
      simp -implicitDefEqProofs (maxSteps:=999999) (disch:=first|omega|simp only[nx4]<;>omega|fail) [this]
     all_goals (try simp -implicitDefEqProofs (maxSteps:=999999) (disch:=first|omega|simp only[nx4]<;>omega|fail) [e10, e16, e68, e69, j10, hk])
     all_goals (try omega)
   ·have hlt' : ¬ (i : Int) < p.length := by omega
    obtain rfl : i = p.length := by omega
    rw [List.take_length] at ht
    have hw := ht.wk (wkL_refl _)
    simp -implicitDefEqProofs (maxSteps:=999999) (disch:=first|omega|simp only[nx4]<;>omega|fail) [e16, e69, e70, hlt']
    rw [hqe]
    exact ⟨hw, hk⟩
theorem comb_congr {K K' : ByteArray → Kn} {op n : Int} {s : ByteArray} {args : List (Pl × ND × ND)} {alts : List (Hd × ND)} (hs : op = 2 → K s = K' s) (hf : ∀ f l, args = f :: l → f.1.op = 2 → K f.1.s = K' f.1.s) : comb K op n s args alts = comb K' op n s args alts := by
 rw [comb.eq_def, comb.eq_def]
 by_cases o1 : op = 1
 ·rw [if_pos o1, if_pos o1]
 rw [if_neg o1, if_neg o1]
 by_cases o2 : op = 2
 ·rw [if_pos o2, if_pos o2, hs o2]
 rw [if_neg o2, if_neg o2]
 by_cases o6 : op = 6
 ·rw [if_pos o6, if_pos o6]
  cases args with
  | nil => rfl
  | cons f l =>
   obtain ⟨f, fN, fB⟩ := f
   simp only
   by_cases h2 : f.op = 2
   ·rw [hf _ _ rfl h2]
   ·simp only [ne_eq, h2, not_false_eq_true, if_true]
 ·rw [if_neg o6, if_neg o6]
theorem need_congr {K K' : ByteArray → Kn} (t : Pl) (h : ∀ e ∈ pre t, e.op = 2 → K e.s = K' e.s) : need K t = need K' t ∧ needB K t = needB K' t := by
 induction t using Pl.ind with
 | h t ih1 ih2 =>
  have hpre : pre t = t :: (pres t.args ++ prea t.alts) := by cases t; rw [pre]; rfl
  have ha : ∀ x ∈ t.args, ∀ e ∈ pre x, e ∈ pre t := fun x hx e he => by
   rw [hpre]; exact List.mem_cons_of_mem _ (List.mem_append_left _ (pres_mem hx he))
  have hb : ∀ x ∈ t.alts, ∀ e ∈ pre x.2, e ∈ pre t := fun x hx e he => by
   rw [hpre]; exact List.mem_cons_of_mem _ (List.mem_append_right _ (prea_mem hx he))
  have i1 := fun x hx => ih1 x hx fun e he => h e (ha x hx e he)
  have i2 := fun x hx => ih2 x hx fun e he => h e (hb x hx e he)
  have e1 : (t.args.map fun x => (x, need K x, needB K x)) = t.args.map fun x => (x, need K' x, needB K' x) := List.map_congr_left fun x hx => by rw [(i1 x hx).1, (i1 x hx).2]
  have e2 : (t.alts.map fun a => (a.1, need K a.2)) = t.alts.map fun a => (a.1, need K' a.2) := List.map_congr_left fun x hx => by rw [(i2 x hx).1]
  refine ⟨?_, ?_⟩
  ·rw [need_eq, need_eq, e1, e2]
   refine comb_congr (fun o2 => h t (pre_self t) o2) fun f l hl o2 => ?_
   cases hta : t.args with
   | nil => rw [hta] at hl; simp at hl
   | cons y r =>
    rw [hta] at hl
    simp only [List.map_cons, List.cons.injEq] at hl
    obtain ⟨rfl, _⟩ := hl
    have hy : y ∈ t.args := by rw [hta]; simp
    exact h y (ha y hy y (pre_self y)) o2
  ·rw [needB_eq, needB_eq]
   cases hta : t.args with
   | nil => rfl
   | cons x l => simp [(i1 x (by rw [hta]; simp)).1]
theorem knOf_congr {K K' : ByteArray → Kn} (b : Pl) (h : ∀ e ∈ pre b, e.op = 2 → K e.s = K' e.s) : knOf K b = knOf K' b := by
 have hc : ∀ e ∈ pre (cde b), e ∈ pre b := by
  intro e he
  unfold cde at he
  split at he
  ·cases hb : b.args with
   | nil => rw [hb] at he; exact he
   | cons x l =>
    rw [hb, List.headD_cons] at he
    have hpre : pre b = b :: (pres b.args ++ prea b.alts) := by cases b; rw [pre]; rfl
    rw [hpre, hb]
    exact List.mem_cons_of_mem _ (List.mem_append_left _ (pres_mem (by simp) he))
  ·exact he
 have := (need_congr (cde b) fun e he => h e (hc e he)).1
 rw [knOf, knOf, this]
noncomputable def itr (p : List Gl) : Nat → Tb
 | 0 => tb0
 | n + 1 => stp p (itr p n)
theorem rnds_itr (p : List Gl) : ∀ (k n c : Nat), ∃ m, (rnds p k (itr p n) c).1 = itr p m
 | 0, n, c => ⟨n, rfl⟩
 | k + 1, n, c => by
  rw [rnds]
  split
  ·exact rnds_itr p k (n + 1) (c + 1)
  ·exact ⟨n, rfl⟩
theorem fin_itr {p : List Gl} (hp : GoodP p) : ∃ m, ∀ k, m ≤ k → ∀ g ∈ p, itr p k g = (fin p).1 g := by
 obtain ⟨m, hm⟩ := rnds_itr p (ms p tb0 + 1) 0 1
 have hf : (fin p).1 = itr p m := hm
 obtain ⟨n, hw, hc⟩ := fin_way hp
 have hst := (hw.done hc).2
 refine ⟨m, fun k hk => ?_⟩
 induction k with
 | zero =>
  obtain rfl : m = 0 := by omega
  intro g _; rw [hf]
 | succ k ih =>
  by_cases e : m = k + 1
  ·subst e; intro g _; rw [hf]
  ·have ih' := ih (by omega)
   intro g hg
   rw [← hst g hg]
   show knOf (lookK (tbD p (itr p k))) g.body = knOf (lookK (tbD p (fin p).1)) g.body
   rw [tbD_same ih']
theorem itr_sub {p q : List Gl} (hp : (nms p).Nodup) (hq : (nms q).Nodup) (hs : ∀ g ∈ q, g ∈ p) (hc : ∀ g ∈ q, Gin q g.body) : ∀ n, ∀ g ∈ q, itr p n g = itr q n g
 | 0, _, _ => rfl
 | n + 1, g, hg => by
  show knOf (lookK (tbD p (itr p n))) g.body = knOf (lookK (tbD q (itr q n))) g.body
  refine knOf_congr _ fun e he o2 => ?_
  obtain ⟨g', hg', hn⟩ := List.mem_map.1 (hc g hg e he o2)
  have hn : g'.name = e.s := hn
  rw [← hn, lookK_tb hp g' (hs g' hg'), lookK_tb hq g' hg']
  exact itr_sub hp hq hs hc n g' hg'
theorem fin_sub {p q : List Gl} (hp : GoodP p) (hq : GoodP q) (hs : ∀ g ∈ q, g ∈ p) (hc : ∀ g ∈ q, Gin q g.body) (g : Gl) (hg : g ∈ q) : (fin p).1 g = (fin q).1 g := by
 obtain ⟨a, ha⟩ := fin_itr hp
 obtain ⟨b, hb⟩ := fin_itr hq
 rw [← ha (a + b) (by omega) g (hs g hg), ← hb (a + b) (by omega) g hg]
 exact itr_sub hp.nd hq.nd hs hc _ g hg
theorem namesOK_sub : ∀ {q p : List Gl} (_ : List.Sublist q p) {pre pre' : List ByteArray} (_ : ∀ x ∈ pre', x ∈ pre), namesOK pre p = true → namesOK pre' q = true
 | _, _, .slnil, _, _, _, _ => rfl
 | q, x :: p, .cons _ h, pre, pre', hs, hn => by
  simp only [namesOK, Bool.and_eq_true] at hn
  exact namesOK_sub h (fun y hy => List.mem_append_left _ (hs y hy)) hn.2
 | x :: q, _ :: p, .cons_cons _ h, pre, pre', hs, hn => by
  simp only [namesOK, Bool.and_eq_true, Bool.not_eq_true', decide_eq_false_iff_not] at hn ⊢
  refine ⟨⟨⟨hn.1.1.1, fun hm => hn.1.1.2 (hs _ hm)⟩, hn.1.2⟩, namesOK_sub h (fun y hy => ?_) hn.2⟩
  rcases List.mem_append.1 hy with hy | hy
  ·exact List.mem_append_left _ (hs y hy)
  ·exact List.mem_append_right _ hy
theorem rch_isP {p q : List Gl} {ns : List ByteArray} (hi : isP p = true) (hq : ∀ g, g ∈ q ↔ g ∈ p ∧ Rch p ns g.name) (hs : List.Sublist q p) (hd : ∀ x, Rch p ns x → x ∈ nms p) : isP q = true := by
 simp only [isP, Bool.and_eq_true, decide_eq_true_eq, List.all_eq_true] at hi ⊢
 obtain ⟨h1, h2, h3⟩ := hi
 have hl := hs.length_le
 refine ⟨by omega, namesOK_sub hs (by simp) h2, fun g hg => ?_⟩
 have hgp := (hq g).1 hg
 have hc := h3 g hgp.1
 simp only [clo, Bool.and_eq_true, decide_eq_true_eq, List.all_eq_true] at hc ⊢
 refine ⟨hc.1, fun x hx => ?_⟩
 have hr : Rch p ns (ba x) := .step hgp.1 hgp.2 hx
 obtain ⟨g', hg', hn⟩ := List.mem_map.1 (hd _ hr)
 have hn : g'.name = ba x := hn
 have : g' ∈ q := (hq g').2 ⟨hg', by rw [hn]; exact hr⟩
 rw [← hn]
 exact List.mem_map_of_mem this
theorem rch_def {p : List Gl} {ns : List ByteArray} (hi : isP p = true) (hn : ∀ x ∈ ns, x ∈ nms p) : ∀ x, Rch p ns x → x ∈ nms p := by
 intro x hx
 induction hx with
 | base h => exact hn _ h
 | @step g y hg _ hy _ =>
  simp only [isP, Bool.and_eq_true, decide_eq_true_eq, List.all_eq_true] at hi
  have hc := hi.2.2 g hg
  simp only [clo, Bool.and_eq_true, decide_eq_true_eq, List.all_eq_true] at hc
  exact hc.2 y hy
theorem find_at {p : List Gl} (hn : (nms p).Nodup) {g : Gl} (hg : g ∈ p) : ∃ j : Nat, findI p g.name = j ∧ ∃ h : j < p.length, p[j] = g := by
 obtain ⟨j, h1, h2, h3⟩ := find_name (List.mem_map_of_mem (f := Gl.name) hg)
 refine ⟨j, h1, h2, ?_⟩
 obtain ⟨a, ha, rfl⟩ := List.mem_iff_getElem.1 hg
 have e1 : (nms p)[a]? = some p[a].name := by simp [nms, ha]
 have e2 : (nms p)[j]? = some p[a].name := by rw [← h3]; simp [nms, h2]
 have : a = j := nodup_get hn e1 e2
 subst this; rfl
theorem few_sub {p q : List Gl} (hp : Few p) (hs : List.Sublist q p) : Few q :=
 ⟨Nat.le_trans hs.length_le hp.1, fun g hg => hp.2 g (hs.subset hg)⟩
def I6 (p q : List Gl) (s : St) (m : Nat) (g : Env) (s1 : St) : Prop :=
 ∃ i : Nat, i ≤ q.length ∧ m = q.length - i ∧ g.get 0 = .list 6 .none (p.map Gl.av) ∧ g.get 5 = .list 6 .none (q.map Gl.av) ∧ g.get 7 = .list 3 .none (dmL p (fin p).1) ∧ g.get 9 = .list 3 .none (dmL q (fin q).1) ∧ g.get 11 = .int .i64 i ∧ Kept s s1 ∧ s.nx ≤ s1.nx
set_option maxHeartbeats 4000000 in
theorem p6 (p : List Gl) (at' : Int) (hr : ∀ g ∈ p, rng g.body) : PureC Tryz.prog 6 [.list 6 .none (p.map Gl.av), .int .i64 at'] (.bool true) := by
 refine PureC.intro fun s => fun_sound mixed Tryz.func6 Tryz.call6 k6.2 rfl (awpFun_go _ _ _ _ ?_)
 have h8 := p8 p (.mk 0 0 ⟨⟨[]⟩⟩ [] [])
 have hz : (Pl.mk 0 0 ⟨⟨[]⟩⟩ [] []).av = AV.agg [.int .i64 0, .int .i64 0, .str ⟨⟨[]⟩⟩, .list 5 .none [], .list 8 .none []] := by simp [Pl.av, Pl.avs, Pl.avAlts]
 rw [hz] at h8
 replace h8 := h8.argw (args := [.list 6 .none (p.map Gl.av), .agg [.int .i64 0, .int .i64 0, .str ⟨⟨[]⟩⟩, .list 0 .full [], .list 0 .full []]]) (by simp [wkL])
 have h10 := p10
 cases hfw : fewD p (.mk 0 0 ⟨⟨[]⟩⟩ [] []) with
 | false =>
  rw [hfw] at h8
  simp -implicitDefEqProofs (maxSteps:=999999) (disch:=first|omega|simp only[nx4]<;>omega|fail) [k6, fillAV]
  refine go_pure h8 fun mm1 hm1 => ?_
  try simp only [nx4] at hm1
  simp -implicitDefEqProofs (maxSteps:=999999) (disch:=first|omega|simp only[nx4]<;>omega|fail)
  refine go_pure h10 fun mm2 hm2 => ?_
  try simp only [nx4] at hm2
  simp -implicitDefEqProofs (maxSteps:=999999) (disch:=first|omega|simp only[nx4]<;>omega|fail)
  done
 | true =>
  rw [hfw] at h8
  have hp := few_of hfw hr
  have h9 := p9 p hp
  cases hi : isP p with
  | false =>
   rw [hi] at h9
   simp -implicitDefEqProofs (maxSteps:=999999) (disch:=first|omega|simp only[nx4]<;>omega|fail) [k6, fillAV]
   refine go_pure h8 fun mm3 hm3 => ?_
   try simp only [nx4] at hm3
   simp -implicitDefEqProofs (maxSteps:=999999) (disch:=first|omega|simp only[nx4]<;>omega|fail)
   refine go_pure h9 fun mm4 hm4 => ?_
   try simp only [nx4] at hm4
   simp -implicitDefEqProofs (maxSteps:=999999) (disch:=first|omega|simp only[nx4]<;>omega|fail)
   refine go_pure h10 fun mm5 hm5 => ?_
   try simp only [nx4] at hm5
   simp -implicitDefEqProofs (maxSteps:=999999) (disch:=first|omega|simp only[nx4]<;>omega|fail)
   done
  | true =>
   rw [hi] at h9
   by_cases h0 : p.length = 0
   ·have : p = [] := List.length_eq_zero_iff.1 h0
    subst this
    simp -implicitDefEqProofs (maxSteps:=999999) (disch:=first|omega|simp only[nx4]<;>omega|fail) [k6, fillAV]
    refine go_pure h8 fun mm6 hm6 => ?_
    try simp only [nx4] at hm6
    simp -implicitDefEqProofs (maxSteps:=999999) (disch:=first|omega|simp only[nx4]<;>omega|fail)
    refine go_pure h9 fun mm7 hm7 => ?_
    try simp only [nx4] at hm7
    simp -implicitDefEqProofs (maxSteps:=999999) (disch:=first|omega|simp only[nx4]<;>omega|fail)
    refine go_pure h10 fun mm8 hm8 => ?_
    try simp only [nx4] at hm8
    simp -implicitDefEqProofs (maxSteps:=999999) (disch:=first|omega|simp only[nx4]<;>omega|fail)
    done
   ·have hgp := goodP hp hi
    have hpl := hgp.few
    have h0' : ¬ p = [] := by rintro rfl; simp at h0
    obtain ⟨j, hj, h12⟩ := p12 at' p.length (by omega) (by omega)
    have hj' : (j : Int) < p.length := by omega
    have hd := rch_def (p := p) (ns := [p[j].name]) hi (fun x hx => by simp at hx; subst hx; exact List.mem_map_of_mem (List.getElem_mem hj))
    obtain ⟨q, hq, hs, h30⟩ := p30 p hp hi [p[j].name] (by simp) hd
    replace h30 := h30.argw (args := [.list 6 .none (p.map Gl.av), .list 1 .full [.str p[j].name]]) (by simp [wkL])
    have hiq := rch_isP hi hq hs hd
    have hfq := few_sub hp hs
    have hgq := goodP hfq hiq
    have hql := hgq.few
    have h11 := p11 p hp
    have h11q := p11 q hfq
    rw [show resP p = dmL p (fin p).1 by rw [resP, if_pos hi], show errP p = 0 by rw [errP, if_pos hi]] at h11
    rw [show resP q = dmL q (fin q).1 by rw [resP, if_pos hiq], show errP q = 0 by rw [errP, if_pos hiq]] at h11q
    have hlp : (dmL p (fin p).1).length = p.length := dmL_len
    have hlq : (dmL q (fin q).1).length = q.length := dmL_len
    generalize hxj : p[j] = xj at h30 hd hq
    simp -implicitDefEqProofs (maxSteps:=999999) (disch:=first|omega|simp only[nx4]<;>omega|fail) [k6, fillAV]
    refine go_pure h8 fun mm9 hm9 => ?_
    try simp only [nx4] at hm9
    simp -implicitDefEqProofs (maxSteps:=999999) (disch:=first|omega|simp only[nx4]<;>omega|fail)
    refine go_pure h9 fun mm10 hm10 => ?_
    try simp only [nx4] at hm10
    simp -implicitDefEqProofs (maxSteps:=999999) (disch:=first|omega|simp only[nx4]<;>omega|fail) [h0', hj, hj', hxj]
    refine go_pure h12 fun mm11 hm11 => ?_
    try simp only [nx4] at hm11
    simp -implicitDefEqProofs (maxSteps:=999999) (disch:=first|omega|simp only[nx4]<;>omega|fail) [h0', hj, hj', hxj]
    refine go_pure h30 fun mm12 hm12 => ?_
    try simp only [nx4] at hm12
    simp -implicitDefEqProofs (maxSteps:=999999) (disch:=first|omega|simp only[nx4]<;>omega|fail)
    refine go_pure h11 fun mm13 hm13 => ?_
    try simp only [nx4] at hm13
    simp -implicitDefEqProofs (maxSteps:=999999) (disch:=first|omega|simp only[nx4]<;>omega|fail)
    refine go_pure h11q fun mm14 hm14 => ?_
    try simp only [nx4] at hm14
    simp -implicitDefEqProofs (maxSteps:=999999) (disch:=first|omega|simp only[nx4]<;>omega|fail) [hlp, hlq]
    refine go_loop (I6 p q s) q.length ⟨0, by omega, by omega, ?_, ?_, ?_, ?_, ?_, ?_, ?_⟩ ?_
    all_goals (try simp -implicitDefEqProofs (maxSteps:=999999) (disch:=first|omega|simp only[nx4]<;>omega|fail))
    all_goals (try omega)
    clear h8 h9 h12 h30 h11 h11q
    rintro m g S ⟨i, hil, rfl, e0, e5, e7, e9, e11, hk, hn⟩
    by_cases hlt : i < q.length
    ·have hlt' : (i : Int) < q.length := by omega
     have w3 := wrapS (i := i) (by omega)
     have hgq1 : q[i] ∈ q := List.getElem_mem hlt
     have hgp1 : q[i] ∈ p := ((hq _).1 hgq1).1
     obtain ⟨k, hk1, hk2, hk3⟩ := find_at hgp.nd hgp1
     have hkl : (k : Int) < p.length := by omega
     have hkn : ¬ (k : Int) < 0 := by omega
     have h23 := p23 p q[i].name (by omega)
     rw [hk1] at h23
     have hdp := dmL_get (f := (fin p).1) hk2
     have hdq := dmL_get (f := (fin q).1) hlt
     rw [hk3, fin_sub hgp hgq (fun g hg => ((hq g).1 hg).1) (gin_of hiq) _ hgq1] at hdp
     obtain ⟨n0, hway, _⟩ := fin_way hgq
     have hgood := hway.good _ hgq1
     have h22 := p22 [q[i]] (fin q).1 (fin q).1 (by simp) (fun g hg => by simp at hg; subst hg; omega) (fun g hg => by simp at hg; subst hg; omega)
     rw [sameT_refl] at h22
     replace h22 := h22.argw (args := [.list 3 .full [dm q[i].name ((fin q).1 q[i])], .list 3 .full [dm q[i].name ((fin q).1 q[i])]]) (by simp [wkL, dmL])
     simp only [dm] at h22
     generalize hx : q[i] = x at h22 hdq hdp h23
     simp -implicitDefEqProofs (maxSteps:=999999) (disch:=first|omega|simp only[nx4]<;>omega|fail) [e0, e5, e7, e9, e11, hlt', hlt, hx]
     refine go_pure h23 fun mm15 hm15 => ?_
     try simp only [nx4] at hm15
     simp -implicitDefEqProofs (maxSteps:=999999) (disch:=first|omega|simp only[nx4]<;>omega|fail) [e7, e9, e11, hkn, hkl, hk2, hlt, hlt', hlp, hlq, hdp, hdq]
     refine pcV_intro h22 ?_
     simp -implicitDefEqProofs (maxSteps:=999999) (disch:=first|omega|simp only[nx4]<;>omega|fail) [e11, w3]
     intro m2 hm2
     refine go_next (q.length - (i + 1)) (by omega) ⟨i + 1, by omega, rfl, ?_, ?_, ?_, ?_, ?_, ?_, ?_⟩
     all_goals (try simp -implicitDefEqProofs (maxSteps:=999999) (disch:=first|omega|simp only[nx4]<;>omega|fail) [e0, e5, e7, e9, hk])
     all_goals (try omega)
    ·have hlt' : ¬ (i : Int) < q.length := by omega
     simp -implicitDefEqProofs (maxSteps:=999999) (disch:=first|omega|simp only[nx4]<;>omega|fail) [e5, e11, hlt']
     refine go_pure h10 fun mm16 hm16 => ?_
     try simp only [nx4] at hm16
     simp -implicitDefEqProofs (maxSteps:=999999) (disch:=first|omega|simp only[nx4]<;>omega|fail)
     exact hk
end Go.AL.Dm
