/- The reference's need of a let. -/
import Derived.Test.YtlledcnjfgcipaaGreatDoorF45
set_option linter.unusedVariables false
set_option linter.unusedSimpArgs false
namespace Go.AL.Dm
open Go Go.Proofs
def cntF (l : List Bool) : Nat := (l.filter fun b => !b).length
theorem cntF_cons (b : Bool) (l : List Bool) : cntF (b :: l) = cntF l + (if b = true then 0 else 1) := by cases b <;> simp [cntF]
theorem cntF_set : ∀ {l : List Bool} {u : Nat} (h : u < l.length), l[u] = false → cntF (l.set u true) + 1 = cntF l
 | b :: l, 0, _, h => by simp at h; subst h; simp [cntF]
 | b :: l, u + 1, hl, h => by
  have ih := cntF_set (l := l) (u := u) (by simpa using hl) (by simpa using h)
  rw [List.set_cons_succ, cntF_cons, cntF_cons]
  omega
theorem rep_getD (n i : Nat) : (List.replicate n false).getD i false = false := by
 rw [List.getD_eq_getElem?_getD, List.getElem?_replicate]
 split <;> rfl
theorem cntF_rep (n : Nat) : cntF (List.replicate n false) = n := by simp [cntF]
structure LetR (vs : List ND) (body : ND) (out : ND) (sr : List Bool) : Prop where
 li : ∃ seen, LetI vs body out seen ∧ ∀ u : Nat, u < vs.length → sr.getD u false = seen.getD (vs.length - 1 - u) false
 len : sr.length = vs.length
 bnd : lenN out + 3000 * cntF sr ≤ 3000 * (vs.length + 1)
 nb : NB out
theorem LetR.start {vs : List ND} {body : ND} (hb : body.ok) (hl : lenN body ≤ 3000) (hnb : NB body) : LetR vs body body (List.replicate vs.length false) := by
 refine ⟨⟨_, LetI.start hb, fun u hu => ?_⟩, by simp, by rw [cntF_rep]; omega, hnb⟩
 rw [rep_getD, rep_getD]
theorem LetR.step {vs : List ND} {body : ND} {S : List Int} {sr : List Bool} (h : LetR vs body (some S) sr) (hv : ∀ x ∈ vs, x.ok ∧ lenN x ≤ 3000 ∧ NB x) {u : Nat} (hu : u < vs.length) (hk : (u : Int) ∈ S) (hs : sr.getD u false = false) (hi : vs.length - 1 - u < vs.length) :
  LetR vs body (nWith (some S) (vs[vs.length - 1 - u]'hi)) (sr.set u true) ∧ cntF (sr.set u true) + 1 = cntF sr := by
 obtain ⟨seen, h1, h2⟩ := h.li
 have hlen := h.len
 have hsl := h1.len
 have hul : u < sr.length := by omega
 have hc : cntF (sr.set u true) + 1 = cntF sr := cntF_set hul (by simpa [hul] using hs)
 have e1 : (vs.length : Int) - 1 - ((vs.length - 1 - u : Nat) : Int) = u := by omega
 refine ⟨⟨⟨_, h1.step (fun x hx => (hv x hx).1) hi (by rw [e1]; exact hk), fun v hvl => ?_⟩, by simp [hlen], ?_, nb_with h.nb (hv _ (List.getElem_mem hi)).2.2⟩, hc⟩
 ·by_cases e : u = v
  ·subst e
   simp [hul, hsl, hi]
  ·have e' : vs.length - 1 - u ≠ vs.length - 1 - v := by omega
   have := h2 v hvl
   simp only [List.getD_eq_getElem?_getD] at this ⊢
   rw [List.getElem?_set_ne e, List.getElem?_set_ne e']
   exact this
 ·have h3 := lenN_with (some S) (vs[vs.length - 1 - u]'hi)
  have h4 := (hv _ (List.getElem_mem hi)).2.1
  have h5 := h.bnd
  omega
theorem LetR.done {vs : List ND} {body : ND} {out : ND} {sr : List Bool} (h : LetR vs body out sr) (hc : ∀ S, out = some S → ∀ u : Nat, u < vs.length → (u : Int) ∈ S → sr.getD u false = true) : letC vs body = nOut vs.length out := by
 obtain ⟨seen, h1, h2⟩ := h.li
 have hsl := h1.len
 refine h1.done fun S hS i hi hm => ?_
 have hu : vs.length - 1 - i < vs.length := by omega
 have h3 := hc S hS (vs.length - 1 - i) hu (by
  have : ((vs.length - 1 - i : Nat) : Int) = (vs.length : Int) - 1 - i := by omega
  rw [this]; exact hm)
 rw [h2 _ hu] at h3
 have e : vs.length - 1 - (vs.length - 1 - i) = i := by omega
 rw [e] at h3
 simpa [hi] using h3
theorem LetR.ok {vs : List ND} {body : ND} {out : ND} {sr : List Bool} (h : LetR vs body out sr) : out.ok := by
 obtain ⟨seen, h1, _⟩ := h.li
 exact h1.ok
def IO54 (p : List Gl) (f : Tb) (t : Pl) (vs : List ND) (nb : ND) (b6 o : Nat) (s : St) (m : Nat) (g : Env) (s1 : St) : Prop :=
 ∃ (acc : ND) (sr : List Bool) (grew : Bool), LetR vs nb acc sr ∧ m = cntF sr + (if grew = true then 1 else 0) ∧ (grew = false → ∀ S, acc = some S → ∀ u : Nat, u < vs.length → (u : Int) ∈ S → sr.getD u false = true) ∧
  g.get 2 = .ptr s.nx 0 ∧ g.get 3 = .ptr (s.nx + 1) 0 ∧ g.get 4 = .ptr (s.nx + 1 + 1) 0 ∧ g.get 5 = .int .i64 vs.length ∧ g.get 6 = .ptr b6 0 ∧ g.get 7 = .mref 1 o 0 vs.length ∧ g.get 8 = .bool grew ∧
  s1.m s.nx = some (.box [.list 6 .none (p.map Gl.av), .list 3 .none (dmL p f)]) ∧ s1.m (s.nx + 1) = some (.box t.av.cells) ∧ s1.m (s.nx + 1 + 1) = some (.box [.bool false, .list 0 .full []]) ∧ s1.m b6 = some (.box [.bool acc.isNone, .list 1 .none (ilist (acc.getD []))]) ∧
  s1.m o = some (.box (blist sr)) ∧ Kept s s1 ∧ o < s1.nx
def II54 (p : List Gl) (f : Tb) (t : Pl) (vs : List ND) (nb : ND) (c b6 o : Nat) (s : St) (m : Nat) (g : Env) (s1 : St) : Prop :=
 ∃ (u : Nat) (acc : ND) (sr : List Bool) (grew : Bool), u ≤ vs.length ∧ m = vs.length - u ∧ LetR vs nb acc sr ∧ (grew = true → cntF sr < c) ∧ (grew = false → cntF sr = c ∧ acc.isNone = false ∧ ∀ S, acc = some S → ∀ v : Nat, v < u → (v : Int) ∈ S → sr.getD v false = true) ∧
  g.get 2 = .ptr s.nx 0 ∧ g.get 3 = .ptr (s.nx + 1) 0 ∧ g.get 4 = .ptr (s.nx + 1 + 1) 0 ∧ g.get 5 = .int .i64 vs.length ∧ g.get 6 = .ptr b6 0 ∧ g.get 7 = .mref 1 o 0 vs.length ∧ g.get 8 = .bool grew ∧ g.get 9 = .int .i64 u ∧
  s1.m s.nx = some (.box [.list 6 .none (p.map Gl.av), .list 3 .none (dmL p f)]) ∧ s1.m (s.nx + 1) = some (.box t.av.cells) ∧ s1.m (s.nx + 1 + 1) = some (.box [.bool false, .list 0 .full []]) ∧ s1.m b6 = some (.box [.bool acc.isNone, .list 1 .none (ilist (acc.getD []))]) ∧
  s1.m o = some (.box (blist sr)) ∧ Kept s s1 ∧ o < s1.nx
set_option maxHeartbeats 4000000 in
theorem p54 (p : List Gl) (f : Tb) (t : Pl) (hw : wf t = true) (hs : small t) (hr : rng t) (o7 : t.op = 7) (ih : ∀ x ∈ t.args, C29 p f x) :
  PureC Tryz.prog 54 [KR p f, t.av] (rN (need (lookK (tbD p f)) t)) := by
 refine PureC.intro fun s => fun_sound mixed Tryz.func54 Tryz.call54 c54 rfl (awpFun_go _ _ _ _ ?_)
 obtain ⟨hnd, hwa, hwb⟩ := wf_nd hw
 have hr' := (rng_eq t).1 hr
 have hlt := hnd.lt o7
 obtain ⟨vl, b, hvb⟩ := split_last (l := t.args) (by intro h; rw [h] at hlt; simp at hlt)
 have hargl : t.args.length = vl.length + 1 := by rw [hvb]; simp
 have hbm : b ∈ t.args := by simp [hvb]
 have hL : ∀ x ∈ t.args, PureC Tryz.prog 29 [.agg [.list 6 .none (p.map Gl.av), .list 3 .none (dmL p f)], x.av] (.agg [.bool (need (lookK (tbD p f)) x).isNone, .list 1 .none (ilist ((need (lookK (tbD p f)) x).getD []))]) ∧ lenN (need (lookK (tbD p f)) x) ≤ 3000 := by
  intro x hx
  have h1 := (need_len (lookK (tbD p f)) x (hwa x hx)).1
  have h2 := (small_arg hs hx).1
  exact ⟨ih x hx, by omega⟩
 obtain ⟨hb29, hbn⟩ := hL b hbm
 have hbo := need_ok (lookK (tbD p f)) b
 have hnbb := (need_bnd (lookK (tbD p f)) b (hwa b hbm) (hr'.2.2.1 b hbm)).1
 rw [need_let o7 hvb]
 have hvs : ∀ x ∈ vl.map (need (lookK (tbD p f))), x.ok ∧ lenN x ≤ 3000 ∧ NB x := by
  intro x hx
  obtain ⟨y, hy, rfl⟩ := List.mem_map.1 hx
  have hym : y ∈ t.args := by simp [hvb, hy]
  exact ⟨need_ok _ _, (hL y hym).2, (need_bnd _ y (hwa y hym) (hr'.2.2.1 y hym)).1⟩
 have hvl : (vl.map (need (lookK (tbD p f)))).length = vl.length := by simp
 have hvg : ∀ (i : Nat) (h1 : i < t.args.length) (h2 : i < (vl.map (need (lookK (tbD p f)))).length), PureC Tryz.prog 29 [.agg [.list 6 .none (p.map Gl.av), .list 3 .none (dmL p f)], (t.args[i]'h1).av] (.agg [.bool ((vl.map (need (lookK (tbD p f))))[i]'h2).isNone, .list 1 .none (ilist (((vl.map (need (lookK (tbD p f))))[i]'h2).getD []))]) := by
  intro i h1 h2
  have h : i < vl.length := by simpa using h2
  have e : t.args[i]'h1 = vl[i] := by simp [hvb, h]
  rw [e, List.getElem_map]
  exact (hL _ (by simp [hvb])).1
 generalize vl.map (need (lookK (tbD p f))) = vs at hvs hvl hvg ⊢
 generalize need (lookK (tbD p f)) b = nb at hb29 hbn hbo hnbb ⊢
 rw [← hvl] at hargl
 have hvl12 : vs.length ≤ 12 := by omega
 have w1 : IntKind.i64.wrap (vs.length : Int) = (vs.length : Int) := wrap64 (by omega) (by omega)
 have hg : t.args[vs.length]'(by omega) = b := by simp [hvb, hvl]
 simp -implicitDefEqProofs (disch:=first|omega|simp only[nx4]<;>omega|fail) [a54, a54b, a54r0, KR, a54r1, hargl, w1, a54r2, hg]
 refine pcV_intro hb29 ?_
 simp -implicitDefEqProofs (disch:=first|omega|simp only[nx4]<;>omega|fail) []
 intro m hm
 simp -implicitDefEqProofs (disch:=first|omega|simp only[nx4]<;>omega|fail) [a54r3, a54r4]
 refine go_loop (IO54 p f t vs nb (s.nx + 1 + 1 + 1) m s) (vs.length + 1) ?h0 ?_
 case h0 =>
  refine ⟨nb, List.replicate vs.length false, true, LetR.start hbo hbn hnbb, by rw [cntF_rep]; rfl, by simp, ?_, ?_, ?_, ?_, ?_, ?_, ?_, ?_, ?_, ?_, ?_, ?_, ?_, ?_⟩
  all_goals (try simp -implicitDefEqProofs (disch:=first|omega|simp only[nx4]<;>omega|fail) [blist])
 have hbm6 : s.nx + 1 + 1 + 1 < m := by omega
 clear hm hb29 hg
 generalize hb6 : s.nx + 1 + 1 + 1 = b6 at hbm6 ⊢
 rintro k g S ⟨acc, sr, grew, hR, rfl, hcl, e2, e3, e4, e5, e6, e7, e8, j2, j3, j4, j6, jO, hk, hnx⟩
 have hfinish : ∀ (g : Env) (S : St), (∀ S, acc = some S → ∀ u : Nat, u < vs.length → (u : Int) ∈ S → sr.getD u false = true) → g.get 4 = .ptr (s.nx + 1 + 1) 0 → g.get 5 = .int .i64 vs.length → g.get 6 = .ptr b6 0 → S.m (s.nx + 1 + 1) = some (.box [.bool false, .list 0 .full []]) → S.m b6 = some (.box [.bool acc.isNone, .list 1 .none (ilist (acc.getD []))]) → Kept s S → s.nx + 1 + 1 < S.nx →
   go (aops Tryz.prog a54r16 (regQ (seqQ Tryz.prog ACode.ret (finQ [ARes.cell (true, 4) 2 true] fun r' s' => wk r' (rN (letC vs nb)) ∧ Kept s s'))) g [] S) := by
  intro g S hcl e4 e5 e6 j4 j6 hk hnx
  have hb := hR.bnd
  have h94 := p94 acc vs.length (by omega) (by omega) hR.nb
  rw [hR.done hcl]
  simp only [rN] at h94
  simp -implicitDefEqProofs (disch:=first|omega|simp only[nx4]<;>omega|fail) [a54r16, e4, e5, e6, j6]
  refine go_pure h94 fun mm1 hm1 => ?_
  try simp only [nx4] at hm1
  simp -implicitDefEqProofs (disch:=first|omega|simp only[nx4]<;>omega|fail) [e4, j4, hk, rN]
 cases grew with
 | false =>
  simp -implicitDefEqProofs (disch:=first|omega|simp only[nx4]<;>omega|fail) [a54l15, a54r5, e8]
  exact hfinish _ _ (hcl rfl) (by simp -implicitDefEqProofs (disch:=first|omega|simp only[nx4]<;>omega|fail) [e4]) (by simp -implicitDefEqProofs (disch:=first|omega|simp only[nx4]<;>omega|fail) [e5]) (by simp -implicitDefEqProofs (disch:=first|omega|simp only[nx4]<;>omega|fail) [e6]) j4 j6 hk (by omega)
 | true =>
  cases hno : acc.isNone with
  | true =>
   rw [hno] at j6
   simp -implicitDefEqProofs (disch:=first|omega|simp only[nx4]<;>omega|fail) [a54l15, a54r5, e6, e8, j6]
   exact hfinish _ _ (fun S hS => by rw [hS] at hno; simp at hno) (by simp -implicitDefEqProofs (disch:=first|omega|simp only[nx4]<;>omega|fail) [e4]) (by simp -implicitDefEqProofs (disch:=first|omega|simp only[nx4]<;>omega|fail) [e5]) (by simp -implicitDefEqProofs (disch:=first|omega|simp only[nx4]<;>omega|fail) [e6]) j4 (by rw [hno]; exact j6) hk (by omega)
  | false =>
   have j6' := j6
   rw [hno] at j6'
   simp -implicitDefEqProofs (disch:=first|omega|simp only[nx4]<;>omega|fail) [a54l15, a54r5, e6, e8, j6', a54r6, a54r7]
   refine go_loop (II54 p f t vs nb (cntF sr) b6 m s) vs.length ?h1 ?_
   case h1 =>
    refine ⟨0, acc, sr, false, by omega, by omega, hR, by simp, fun _ => ⟨rfl, hno, fun _ _ v hv => by omega⟩, ?_, ?_, ?_, ?_, ?_, ?_, ?_, ?_, ?_, ?_, ?_, ?_, ?_, ?_, ?_⟩
    all_goals (try simp -implicitDefEqProofs (disch:=first|omega|simp only[nx4]<;>omega|fail) [e2, e3, e4, e5, e6, e7, j2, j3, j4, j6, jO, hk])
    all_goals (try omega)
   clear e2 e3 e4 e5 e6 e7 e8 j2 j3 j4 j6 j6' jO hk hnx hfinish
   generalize cntF sr = c
   clear hR hcl hno
   rintro k g S ⟨u, acc, sr, grew, hu, rfl, hR, hg1, hg0, e2, e3, e4, e5, e6, e7, e8, e9, j2, j3, j4, j6, jO, hk, hnx⟩
   have hsl := hR.len
   cases grew with
   | true =>
    by_cases hlt' : (u : Int) < vs.length
    all_goals simp -implicitDefEqProofs (disch:=first|omega|simp only[nx4]<;>omega|fail) [a54l14, a54r8, e5, e8, e9, hlt']
    all_goals refine go_next (cntF sr + 1) (by have := hg1 rfl; omega) ⟨acc, sr, true, hR, by simp, by simp, ?_, ?_, ?_, ?_, ?_, ?_, ?_, ?_, ?_, ?_, ?_, ?_, ?_, ?_⟩
    all_goals (try simp -implicitDefEqProofs (disch:=first|omega|simp only[nx4]<;>omega|fail) [e2, e3, e4, e5, e6, e7, e8, j2, j3, j4, j6, jO, hk])
    all_goals (try omega)
   | false =>
    obtain ⟨hc, hno, hcl⟩ := hg0 rfl
    by_cases hlt : u < vs.length
    ·have hlt' : (u : Int) < vs.length := by omega
     have hsu : u < sr.length := by omega
     have w3 := wrapS (i := u) (by omega)
     have hbd := blist_drop hsu
     have hgd : sr.getD u false = sr[u] := by simp [hsu]
     cases hb : sr[u] with
     | true =>
      rw [hb] at hbd hgd
      simp -implicitDefEqProofs (disch:=first|omega|simp only[nx4]<;>omega|fail) [a54l14, a54r8, a54r9, e5, e7, e8, e9, hlt', hlt, jO, hsl, hbd, a54r13, w3]
      refine go_next (vs.length - (u + 1)) (by omega) ⟨u + 1, acc, sr, false, by omega, rfl, hR, by simp, fun _ => ⟨hc, hno, fun S hS v hv hm => ?_⟩, ?_, ?_, ?_, ?_, ?_, ?_, ?_, ?_, ?_, ?_, ?_, ?_, ?_, ?_, ?_⟩
      ·by_cases e : v = u
       ·subst e; exact hgd
       ·exact hcl S hS v (by omega) hm
      all_goals (try simp -implicitDefEqProofs (disch:=first|omega|simp only[nx4]<;>omega|fail) [e2, e3, e4, e5, e6, e7, e8, j2, j3, j4, j6, jO, hk])
      all_goals (try omega)
     | false =>
      rw [hb] at hbd hgd
      have hbnd := hR.bnd
      have h81 := p81 acc u (by omega)
      simp only [rN] at h81
      by_cases hmem : (u : Int) ∈ acc.getD []
      ·rw [decide_eq_true hmem] at h81
       have hi : vs.length - 1 - u < vs.length := by omega
       have hi2 : vs.length - 1 - u < t.args.length := by omega
       have hi3 : ((vs.length - 1 - u : Nat) : Int) < t.args.length := by omega
       have w4 : IntKind.i64.wrap ((vs.length : Int) - 1) = (vs.length : Int) - 1 := wrap64 (by omega) (by omega)
       have w5 : IntKind.i64.wrap ((vs.length : Int) - 1 - u) = ((vs.length - 1 - u : Nat) : Int) := by rw [wrap64 (by omega) (by omega)]; omega
       have hx29 := hvg _ hi2 hi
       have hstep := fun S0 (h : LetR vs nb (some S0) sr) (hm : (u : Int) ∈ S0) => h.step hvs hlt hm hgd hi
       obtain ⟨hxo, hxn, _⟩ := hvs _ (List.getElem_mem hi)
       have hset := blist_set hsu true
       generalize vs[vs.length - 1 - u] = nx at hx29 hstep hxo hxn
       generalize hxx : t.args[vs.length - 1 - u] = x at hx29
       generalize vs.length - 1 - u = v at hi hi2 hi3 w5 hxx
       have h57 := p57 acc nx (by omega) (by omega) hR.ok hxo
       simp only [rN] at h57
       simp -implicitDefEqProofs (disch:=first|omega|simp only[nx4]<;>omega|fail) [a54l14, a54r8, a54r9, e5, e6, e7, e8, e9, hlt', hlt, jO, hsl, hbd, j6]
       refine go_pure h81 fun mm2 hm2 => ?_
       try simp only [nx4] at hm2
       simp -implicitDefEqProofs (disch:=first|omega|simp only[nx4]<;>omega|fail) [a54r10, e7, e9, hlt', hlt, jO, hsl, a54r11, e2, e3, e5, e6, j2, j3, j6, w4, w5, hi2, hi3, hxx]
       refine pcV_intro hx29 ?_
       simp -implicitDefEqProofs (disch:=first|omega|simp only[nx4]<;>omega|fail) []
       refine pcV_intro h57 ?_
       simp -implicitDefEqProofs (disch:=first|omega|simp only[nx4]<;>omega|fail) [e6, j6]
       intro m1 hm1
       simp -implicitDefEqProofs (disch:=first|omega|simp only[nx4]<;>omega|fail) [a54r12, a54r13, e9, w3]
       cases acc with
       | none => simp at hno
       | some S0 =>
        obtain ⟨hR', hcc⟩ := hstep S0 hR hmem
        refine go_next (vs.length - (u + 1)) (by omega) ⟨u + 1, nWith (some S0) nx, sr.set u true, true, by omega, rfl, hR', fun _ => by omega, by simp, ?_, ?_, ?_, ?_, ?_, ?_, ?_, ?_, ?_, ?_, ?_, ?_, ?_, ?_, ?_⟩
        all_goals (try simp -implicitDefEqProofs (disch:=first|omega|simp only[nx4]<;>omega|fail) [e2, e3, e4, e5, e6, e7, j2, j3, j4, hset, hk])
        all_goals (try omega)
      ·rw [decide_eq_false hmem] at h81
       simp -implicitDefEqProofs (disch:=first|omega|simp only[nx4]<;>omega|fail) [a54l14, a54r8, a54r9, e5, e6, e7, e8, e9, hlt', hlt, jO, hsl, hbd, j6]
       refine go_pure h81 fun mm3 hm3 => ?_
       try simp only [nx4] at hm3
       simp -implicitDefEqProofs (disch:=first|omega|simp only[nx4]<;>omega|fail) [a54r13, e9, w3]
       refine go_next (vs.length - (u + 1)) (by omega) ⟨u + 1, acc, sr, false, by omega, rfl, hR, by simp, fun _ => ⟨hc, hno, fun S hS v hv hm => ?_⟩, ?_, ?_, ?_, ?_, ?_, ?_, ?_, ?_, ?_, ?_, ?_, ?_, ?_, ?_, ?_⟩
       ·by_cases e : v = u
        ·subst e; rw [hS] at hmem; exact absurd hm hmem
        ·exact hcl S hS v (by omega) hm
       all_goals (try simp -implicitDefEqProofs (disch:=first|omega|simp only[nx4]<;>omega|fail) [e2, e3, e4, e5, e6, e7, e8, j2, j3, j4, j6, jO, hk])
       all_goals (try omega)
    ·have hlt' : ¬ (u : Int) < vs.length := by omega
     simp -implicitDefEqProofs (disch:=first|omega|simp only[nx4]<;>omega|fail) [a54l14, a54r8, e5, e8, e9, hlt']
     refine go_next c (by omega) ⟨acc, sr, false, hR, by simp [hc], fun _ S hS v hv hm => hcl S hS v (by omega) hm, ?_, ?_, ?_, ?_, ?_, ?_, ?_, ?_, ?_, ?_, ?_, ?_, ?_, ?_⟩
     all_goals (try simp -implicitDefEqProofs (disch:=first|omega|simp only[nx4]<;>omega|fail) [e2, e3, e4, e5, e6, e7, e8, j2, j3, j4, j6, jO, hk])
     all_goals (try omega)
def I55 (p : List Gl) (f : Tb) (t : Pl) (fin : ND) (b5 : Nat) (s : St) (m : Nat) (g : Env) (s1 : St) : Prop :=
 ∃ (i : Nat) (acc : ND), i ≤ t.alts.length ∧ m = t.alts.length - i ∧ ((t.alts.drop i).map fun a => nOut (bnd a.1) (need (lookK (tbD p f)) a.2)).foldl nBoth acc = fin ∧ acc.ok ∧ lenN acc ≤ 3000 ∧
  g.get 2 = .ptr s.nx 0 ∧ g.get 3 = .ptr (s.nx + 1) 0 ∧ g.get 4 = .ptr (s.nx + 1 + 1) 0 ∧ g.get 5 = .ptr b5 0 ∧ g.get 6 = .bool acc.isSome ∧ g.get 7 = .int .i64 i ∧
  s1.m s.nx = some (.box [.list 6 .none (p.map Gl.av), .list 3 .none (dmL p f)]) ∧ s1.m (s.nx + 1) = some (.box t.av.cells) ∧ s1.m (s.nx + 1 + 1) = some (.box [.bool false, .list 0 .full []]) ∧
  (∃ tk, s1.m b5 = some (.box [.bool false, tk]) ∧ ∀ l, acc = some l → tk = .list 1 .none (ilist l)) ∧ Kept s s1 ∧ b5 < s1.nx
set_option maxHeartbeats 4000000 in
theorem p55 (p : List Gl) (f : Tb) (t : Pl) (hw : wf t = true) (hs : small t) (hr : rng t) (o8 : t.op = 8) (ih : ∀ x ∈ t.args, C29 p f x) (ih2 : ∀ a ∈ t.alts, C29 p f a.2) :
  PureC Tryz.prog 55 [KR p f, t.av] (rN (need (lookK (tbD p f)) t)) := by
 refine PureC.intro fun s => fun_sound mixed Tryz.func55 Tryz.call55 c55 rfl (awpFun_go _ _ _ _ ?_)
 obtain ⟨hnd, hwa, hwb⟩ := wf_nd hw
 have hr' := (rng_eq t).1 hr
 obtain ⟨x, hx⟩ : ∃ x, t.args = [x] := List.length_eq_one_iff.1 (hnd.cas o8).1
 have hal := (hnd.cas o8).2.2
 have hxm : x ∈ t.args := by simp [hx]
 have hx29 := ih x hxm
 have hxl := (need_len (lookK (tbD p f)) x (hwa x hxm)).1
 have hxs := (small_arg hs hxm).1
 have hxo := need_ok (lookK (tbD p f)) x
 rw [need_cas o8 hx]
 simp only [C29, KR, rN] at hx29
 generalize need (lookK (tbD p f)) x = nx at hx29 hxl hxo ⊢
 generalize hfin : (t.alts.map fun a => nOut (bnd a.1) (need (lookK (tbD p f)) a.2)).foldl nBoth none = fin
 simp -implicitDefEqProofs (disch:=first|omega|simp only[nx4]<;>omega|fail) [a55, a55b, a55r0, KR, a55r1, a55r2, a55r3]
 refine go_loop (I55 p f t fin (s.nx + 1 + 1 + 1) s) t.alts.length ?h0 ?_
 case h0 =>
  refine ⟨0, none, by omega, by omega, by simpa using hfin, trivial, by simp [lenN], ?_, ?_, ?_, ?_, ?_, ?_, ?_, ?_, ?_, ⟨.list 0 .full [], ?_, by simp⟩, ?_, ?_⟩
  all_goals (try simp -implicitDefEqProofs (disch:=first|omega|simp only[nx4]<;>omega|fail))
 rintro m g S ⟨i, acc, hi, rfl, hf, hao, hacl, e2, e3, e4, e5, e6, e7, j2, j3, j4, ⟨tk, j5, htk⟩, hk, hnx⟩
 by_cases hlt : i < t.alts.length
 ·have hlt' : (i : Int) < t.alts.length := by omega
  have w3 := wrapS (i := i) (by omega)
  rw [List.drop_eq_getElem_cons hlt, List.map_cons, List.foldl_cons] at hf
  have hmem := List.getElem_mem hlt
  have hb := hnd.bnd hmem
  have h95 := p95 t.alts[i] (fun h2 => by have := hnd.hd _ hmem h2; omega)
  have iha := ih2 _ hmem
  have hno := need_ok (lookK (tbD p f)) t.alts[i].2
  have hnb := (need_bnd (lookK (tbD p f)) t.alts[i].2 (hwb _ hmem) (hr'.2.2.2 _ hmem).2.2).1
  have hnl := (need_len (lookK (tbD p f)) t.alts[i].2 (hwb _ hmem)).1
  have hns := (small_alt hs hmem).1
  simp only [C29, KR, rN] at iha
  generalize hxx : t.alts[i] = a at hf hb h95 iha hno hnb hnl hns
  generalize need (lookK (tbD p f)) a.2 = na at hf iha hno hnb hnl
  have h94 := p94 na (bnd a.1) (by omega) (by omega) hnb
  have hoo := nOut_ok hno (bnd a.1)
  have hol := lenN_out (bnd a.1) na
  generalize nOut (bnd a.1) na = no at hf h94 hoo hol
  simp only [rN] at h94
  simp -implicitDefEqProofs (disch:=first|omega|simp only[nx4]<;>omega|fail) [a55l12, a55r4, a55r5, e2, e3, e7, j2, j3, hlt', hlt, hxx]
  refine pcV_intro iha ?_
  simp -implicitDefEqProofs (disch:=first|omega|simp only[nx4]<;>omega|fail) [e3, e7, j3, hlt', hlt, hxx]
  refine pcV_intro h95 ?_
  simp -implicitDefEqProofs (disch:=first|omega|simp only[nx4]<;>omega|fail) []
  refine pcV_intro h94 ?_
  simp -implicitDefEqProofs (disch:=first|omega|simp only[nx4]<;>omega|fail) []
  intro m hm
  cases no with
  | none =>
   have hb1 : nBoth acc none = acc := by cases acc <;> rfl
   rw [hb1] at hf
   simp -implicitDefEqProofs (disch:=first|omega|simp only[nx4]<;>omega|fail) [a55r6, a55r11, e7, w3]
   refine go_next (t.alts.length - (i + 1)) (by omega) ⟨i + 1, acc, by omega, rfl, hf, hao, hacl, ?_, ?_, ?_, ?_, ?_, ?_, ?_, ?_, ?_, ⟨tk, ?_, htk⟩, ?_, ?_⟩
   all_goals (try simp -implicitDefEqProofs (disch:=first|omega|simp only[nx4]<;>omega|fail) [e2, e3, e4, e5, e6, j2, j3, j4, j5, hk])
   all_goals (try omega)
  | some l2 =>
   cases acc with
   | none =>
    simp -implicitDefEqProofs (disch:=first|omega|simp only[nx4]<;>omega|fail) [a55r6, a55r7, e6, a55r9, e5, j5, a55r10, a55r11, e7, w3]
    refine go_next (t.alts.length - (i + 1)) (by omega) ⟨i + 1, some l2, by omega, rfl, hf, hoo, by omega, ?_, ?_, ?_, ?_, ?_, ?_, ?_, ?_, ?_, ⟨.list 1 .none (ilist l2), ?_, fun l e => by cases e; rfl⟩, ?_, ?_⟩
    all_goals (try simp -implicitDefEqProofs (disch:=first|omega|simp only[nx4]<;>omega|fail) [e2, e3, e4, e5, e6, j2, j3, j4, hk])
    all_goals (try omega)
   | some l1 =>
    obtain rfl := htk l1 rfl
    have hl1 : l1.length ≤ 3000 := hacl
    have hl2 : l2.length ≤ lenN na := hol
    have h96 := p96 l1 l2 (by omega) (by omega)
    simp only [rN, Option.isNone_some, Option.getD_some] at h96
    have hml : lenN (some (nMeet l1 l2)) ≤ 3000 := Nat.le_trans (List.length_filter_le _ _) hacl
    simp -implicitDefEqProofs (disch:=first|omega|simp only[nx4]<;>omega|fail) [a55r6, a55r7, e6, a55r8, e5, j5]
    refine go_pure h96 fun mm1 hm1 => ?_
    try simp only [nx4] at hm1
    simp -implicitDefEqProofs (disch:=first|omega|simp only[nx4]<;>omega|fail) [a55r9, e5, j5, a55r10, a55r11, e7, w3]
    refine go_next (t.alts.length - (i + 1)) (by omega) ⟨i + 1, some (nMeet l1 l2), by omega, rfl, hf, nMeet_asc hao, hml, ?_, ?_, ?_, ?_, ?_, ?_, ?_, ?_, ?_, ⟨.list 1 .none (ilist (nMeet l1 l2)), ?_, fun l e => by cases e; rfl⟩, ?_, ?_⟩
    all_goals (try simp -implicitDefEqProofs (disch:=first|omega|simp only[nx4]<;>omega|fail) [e2, e3, e4, e5, e6, j2, j3, j4, hk])
    all_goals (try omega)
 ·have hlt' : ¬ (i : Int) < t.alts.length := by omega
  obtain rfl : i = t.alts.length := by omega
  rw [List.drop_length, List.map_nil, List.foldl_nil] at hf
  subst hf
  cases acc with
  | none =>
   have e : nWith nx none = none := by cases nx <;> rfl
   rw [e]
   simp -implicitDefEqProofs (disch:=first|omega|simp only[nx4]<;>omega|fail) [a55l12, a55r4, e3, e6, e7, j3, hlt', a55r13, a55r14, e4, j4, hk, rN, wkL]
   simp [ilist, wkL]
   done
  | some l1 =>
   obtain rfl := htk l1 rfl
   have h57 := p57 nx (some l1) (by omega) (by omega) hxo hao
   simp only [rN, Option.isNone_some, Option.getD_some] at h57
   have hgx : ([x.av][0]?).getD AV.any = x.av := rfl
   simp -implicitDefEqProofs (disch:=first|omega|simp only[nx4]<;>omega|fail) [a55l12, a55r4, e3, e6, e7, j3, hlt', a55r13, a55r15, e2, j2, hx, hgx, e5, j5]
   refine pcV_intro hx29 ?_
   simp -implicitDefEqProofs (disch:=first|omega|simp only[nx4]<;>omega|fail) [e5, j5]
   refine pcV_intro h57 ?_
   simp -implicitDefEqProofs (disch:=first|omega|simp only[nx4]<;>omega|fail) [e4, j4, hk, rN]
   done
set_option maxHeartbeats 4000000 in
theorem step29 (p : List Gl) (f : Tb) (hf : RT p f) (t : Pl) (hw : wf t = true) (hs : small t) (hr : rng t) (hg : Gin p t) (ih : ∀ x, wf x = true → small x → rng x → Gin p x → sz x < sz t → C29 p f x) : C29 p f t := by
 obtain ⟨hnd, hwa, hwb⟩ := wf_nd hw
 have hr' := (rng_eq t).1 hr
 have iha : ∀ x ∈ t.args, C29 p f x := fun x hx => ih x (hwa x hx) (small_arg hs hx) (hr'.2.2.1 x hx) (hg.arg hx) (arg_lt hx).1
 have ihb : ∀ a ∈ t.alts, C29 p f a.2 := fun a ha => ih a.2 (hwb a ha) (small_alt hs ha) (hr'.2.2.2 a ha).2.2 (hg.alt ha) (by have := (alt_lt ha).1; omega)
 have ihc : ∀ x ∈ t.args, ∀ y ∈ x.args, C29 p f y := fun x hx y hy => by
  obtain ⟨_, hwx, _⟩ := wf_nd (hwa x hx)
  have hrx := (rng_eq x).1 (hr'.2.2.1 x hx)
  have h1 := (arg_lt hx).1
  have h2 := (arg_lt hy).1
  exact ih y (hwx y hy) (small_arg (small_arg hs hx) hy) (hrx.2.2.1 y hy) ((hg.arg hx).arg hy) (by omega)
 have ho := hnd.op
 by_cases o2 : t.op = 2
 ·exact p29g p f hf t o2 hg
 refine PureC.intro fun s => fun_sound mixed Tryz.func29 Tryz.call29 c29 rfl (awpFun_go _ _ _ _ ?_)
 by_cases o1 : t.op = 1
 ·rw [need_var o1]
  simp -implicitDefEqProofs (disch:=first|omega|simp only[nx4]<;>omega|fail) [a29, a29b, a29r0, a29r1, a29r2, KR, o1, a29r3, rN, ilist]
 by_cases om : t.op = 3 ∨ t.op = 4 ∨ t.op = 5
 ·rw [need_made om]
  rcases om with o | o | o
  all_goals simp -implicitDefEqProofs (disch:=first|omega|simp only[nx4]<;>omega|fail) [a29, a29b, a29r0, a29r1, a29r2, a29r4, a29r7, a29r9, a29r11, a29r13, a29r18, KR, o, rN, ilist, wkL]
  all_goals done
 by_cases o6 : t.op = 6
 ·have h53 := p53 p f hf t hw hs hr hg o6 iha ihc
  generalize need (lookK (tbD p f)) t = x at h53 ⊢
  have hav : AV.agg [AV.int .i64 6, AV.int .i64 t.n, AV.str t.s, AV.list 5 .none (List.map Pl.av t.args), AV.list 8 .none (List.map Pl.altv t.alts)] = t.av := by rw [← o6, Pl.av_fold]
  simp only [KR, rN] at h53
  simp -implicitDefEqProofs (disch:=first|omega|simp only[nx4]<;>omega|fail) [a29, a29b, a29r0, a29r1, a29r2, a29r4, a29r7, KR, o6, a29r8, hav]
  refine go_pure h53 fun mm1 hm1 => ?_
  try simp only [nx4] at hm1
  simp -implicitDefEqProofs (disch:=first|omega|simp only[nx4]<;>omega|fail) [rN]
  done
 by_cases o7 : t.op = 7
 ·have h54 := p54 p f t hw hs hr o7 iha
  generalize need (lookK (tbD p f)) t = x at h54 ⊢
  have hav : AV.agg [AV.int .i64 7, AV.int .i64 t.n, AV.str t.s, AV.list 5 .none (List.map Pl.av t.args), AV.list 8 .none (List.map Pl.altv t.alts)] = t.av := by rw [← o7, Pl.av_fold]
  simp only [KR, rN] at h54
  simp -implicitDefEqProofs (disch:=first|omega|simp only[nx4]<;>omega|fail) [a29, a29b, a29r0, a29r1, a29r2, a29r4, a29r7, a29r9, KR, o7, a29r10, hav]
  refine go_pure h54 fun mm2 hm2 => ?_
  try simp only [nx4] at hm2
  simp -implicitDefEqProofs (disch:=first|omega|simp only[nx4]<;>omega|fail) [rN]
  done
 by_cases o8 : t.op = 8
 ·have h55 := p55 p f t hw hs hr o8 iha ihb
  generalize need (lookK (tbD p f)) t = x at h55 ⊢
  have hav : AV.agg [AV.int .i64 8, AV.int .i64 t.n, AV.str t.s, AV.list 5 .none (List.map Pl.av t.args), AV.list 8 .none (List.map Pl.altv t.alts)] = t.av := by rw [← o8, Pl.av_fold]
  simp only [KR, rN] at h55
  simp -implicitDefEqProofs (disch:=first|omega|simp only[nx4]<;>omega|fail) [a29, a29b, a29r0, a29r1, a29r2, a29r4, a29r7, a29r9, a29r11, KR, o8, a29r12, hav]
  refine go_pure h55 fun mm3 hm3 => ?_
  try simp only [nx4] at hm3
  simp -implicitDefEqProofs (disch:=first|omega|simp only[nx4]<;>omega|fail) [rN]
  done
 have o9 : t.op = 9 := by omega
 obtain ⟨k, hk, hlen⟩ := hnd.prm o9
 have h56 := p56 t.s
 have h56t := p56 throwS
 rw [throwS_eq] at h56t
 have hth : throwS = ⟨#[116, 104, 114, 111, 119]⟩ := rfl
 rw [hth] at h56t
 by_cases hp : primI t.s < 9
 ·have h2 := ar_two hk hp
  have ht : ¬ t.s = throwS := by rintro e; rw [e, throwS_eq] at hp; omega
  obtain ⟨x, y, hxy⟩ := len_two (show t.args.length = 2 by omega)
  rw [need_prim o9 ht hp hxy]
  have hx : x ∈ t.args := by rw [hxy]; simp
  have hy : y ∈ t.args := by rw [hxy]; simp
  have hx29 := iha x hx
  have hy29 := iha y hy
  have h57 := p57 (need (lookK (tbD p f)) x) (need (lookK (tbD p f)) y)
   (by have := (need_len (lookK (tbD p f)) x (hwa x hx)).1; have := (small_arg hs hx).1; omega) (by have := (need_len (lookK (tbD p f)) y (hwa y hy)).1; have := (small_arg hs hy).1; omega) (need_ok _ _) (need_ok _ _)
  simp only [C29, KR, rN] at hx29 hy29 h57
  generalize need (lookK (tbD p f)) x = nx at hx29 h57 ⊢
  generalize need (lookK (tbD p f)) y = ny at hy29 h57 ⊢
  have hgx : ([x.av, y.av][0]?).getD AV.any = x.av := rfl
  have hgy : ([y.av][0]?).getD AV.any = y.av := rfl
  simp -implicitDefEqProofs (disch:=first|omega|simp only[nx4]<;>omega|fail) [a29, a29b, a29r0, a29r1, a29r2, a29r4, a29r7, a29r9, a29r11, a29r13, KR, o9, a29r14, hxy]
  refine go_pure h56 fun mm4 hm4 => ?_
  try simp only [nx4] at hm4
  simp -implicitDefEqProofs (disch:=first|omega|simp only[nx4]<;>omega|fail) [a29r15]
  refine go_pure h56t fun mm5 hm5 => ?_
  try simp only [nx4] at hm5
  simp -implicitDefEqProofs (disch:=first|omega|simp only[nx4]<;>omega|fail) [hp, a29r16, hgx, hgy]
  refine pcV_intro hx29 ?_
  simp -implicitDefEqProofs (disch:=first|omega|simp only[nx4]<;>omega|fail) [hgx, hgy]
  refine pcV_intro hy29 ?_
  simp -implicitDefEqProofs (disch:=first|omega|simp only[nx4]<;>omega|fail) []
  refine pcV_intro h57 ?_
  simp -implicitDefEqProofs (disch:=first|omega|simp only[nx4]<;>omega|fail) [rN]
  done
 ·simp -implicitDefEqProofs (disch:=first|omega|simp only[nx4]<;>omega|fail) [a29, a29b, a29r0, a29r1, a29r2, a29r4, a29r7, a29r9, a29r11, a29r13, KR, o9, a29r14]
  refine go_pure h56 fun mm6 hm6 => ?_
  try simp only [nx4] at hm6
  simp -implicitDefEqProofs (disch:=first|omega|simp only[nx4]<;>omega|fail) [a29r15]
  refine go_pure h56t fun mm7 hm7 => ?_
  try simp only [nx4] at hm7
  simp -implicitDefEqProofs (disch:=first|omega|simp only[nx4]<;>omega|fail) [hp, a29r17]
  by_cases ht : t.s = throwS
  ·rw [need_throw o9 ht]
   rw [hth] at ht
   simp -implicitDefEqProofs (disch:=first|omega|simp only[nx4]<;>omega|fail) [ht, rN, ilist, wkL]
   done
  ·rw [need_act o9 ht hp]
   rw [hth] at ht
   simp -implicitDefEqProofs (disch:=first|omega|simp only[nx4]<;>omega|fail) [ht, rN, ilist, wkL]
   done
theorem p29 (p : List Gl) (f : Tb) (hf : RT p f) (t : Pl) (hw : wf t = true) (hs : small t) (hr : rng t) (hg : Gin p t) : C29 p f t := by
 obtain ⟨n, hn⟩ : ∃ n : Nat, sz t ≤ n := ⟨(sz t).toNat, by omega⟩
 induction n generalizing t with
 | zero => have := sz_pos t; omega
 | succ n ih => exact step29 p f hf t hw hs hr hg fun x h1 h2 h3 h4 h5 => ih x h1 h2 h3 h4 (by omega)
def sameK (a b : Kn) : Bool := decide (a.fails = b.fails) && decide (a.st = b.st)
def sameT (f f' : Tb) (l : List Gl) : Bool := l.all fun g => sameK (f g) (f' g)
def I22 (p : List Gl) (f f' : Tb) (s : St) (m : Nat) (g : Env) (s1 : St) : Prop :=
 ∃ i : Nat, i ≤ p.length ∧ m = p.length - i ∧ sameT f f' (p.drop i) = sameT f f' p ∧ g.get 0 = .list 3 .none (dmL p f) ∧ g.get 1 = .list 3 .none (dmL p f') ∧ g.get 5 = .int .i64 i ∧ Kept s s1 ∧ s.nx ≤ s1.nx
def J22 (p : List Gl) (f f' : Tb) (i : Nat) (a b : List Bool) (n : ByteArray) (fl : Bool) (b6 b7 : Nat) (s : St) (m : Nat) (g : Env) (s1 : St) : Prop :=
 ∃ j : Nat, j ≤ a.length ∧ m = a.length - j ∧ (a = b ↔ a.drop j = b.drop j) ∧ g.get 0 = .list 3 .none (dmL p f) ∧ g.get 1 = .list 3 .none (dmL p f') ∧ g.get 5 = .int .i64 i ∧ g.get 6 = .ptr b6 0 ∧ g.get 7 = .ptr b7 0 ∧ g.get 8 = .int .i64 j ∧
  s1.m b6 = some (.box [.str n, .list 1 .none (a.map .bool), .bool fl]) ∧ s1.m b7 = some (.box [.str n, .list 1 .none (b.map .bool), .bool fl]) ∧ Kept s s1 ∧ s.nx ≤ s1.nx
set_option maxHeartbeats 4000000 in
theorem p22 (p : List Gl) (f f' : Tb) (hpl : p.length ≤ 400) (hf : ∀ g ∈ p, (f g).st.length ≤ 8) (hf' : ∀ g ∈ p, (f' g).st.length ≤ 8) : PureC Tryz.prog 22 [.list 3 .none (dmL p f), .list 3 .none (dmL p f')] (.bool (sameT f f' p)) := by
 refine PureC.intro fun s => fun_sound mixed Tryz.func22 Tryz.call22 c22 rfl (awpFun_go _ _ _ _ ?_)
 have hdl : (dmL p f).length = p.length := dmL_len
 have hdl' : (dmL p f').length = p.length := dmL_len
 simp -implicitDefEqProofs (disch:=first|omega|simp only[nx4]<;>omega|fail) [a22, a22b, a22r0, a22r1, hdl, hdl', a22r3]
 refine go_loop (I22 p f f' s) p.length ⟨0, by omega, by omega, rfl, ?_, ?_, ?_, ?_, ?_⟩ ?_
 iterate 5 (simp -implicitDefEqProofs (disch:=first|omega|simp only[nx4]<;>omega|fail))
 rintro m g S ⟨i, hi, rfl, hw, e0, e1, e5, hk, hnx⟩
 by_cases hlt : i < p.length
 ·have hlt' : (i : Int) < p.length := by omega
  have w3 := wrapS (i := i) (by omega)
  have hmem := List.getElem_mem hlt
  have hdg := dmL_get (f := f) hlt
  have hdg' := dmL_get (f := f') hlt
  have h1 := hf _ hmem
  have h2 := hf' _ hmem
  rw [List.drop_eq_getElem_cons hlt, sameT, List.all_cons] at hw
  have hw2 : (sameK (f p[i]) (f' p[i]) && sameT f f' (p.drop (i + 1))) = sameT f f' p := hw
  clear hw
  generalize p[i] = x at hdg hdg' h1 h2 hw2
  generalize f x = ka at hdg h1 hw2
  generalize f' x = kb at hdg' h2 hw2
  by_cases hfl : ka.fails = kb.fails
  ·by_cases hsl : ka.st.length = kb.st.length
   ·have hsl' : (ka.st.length : Int) = kb.st.length := by omega
    simp -implicitDefEqProofs (disch:=first|omega|simp only[nx4]<;>omega|fail) [a22l15, a22r4, a22r5, e0, e1, e5, hdl, hdl', hlt', hlt, hdg, hdg']
    intro m hm
    simp -implicitDefEqProofs (disch:=first|omega|simp only[nx4]<;>omega|fail) [a22r6, hfl, hsl, a22r8]
    refine go_loop (J22 p f f' i ka.st kb.st x.name kb.fails S.nx (S.nx + 1) s) ka.st.length ?h0 ?_
    case h0 =>
     refine ⟨0, by omega, by omega, by simp, ?_, ?_, ?_, ?_, ?_, ?_, ?_, ?_, ?_, ?_⟩
     all_goals (try simp -implicitDefEqProofs (disch:=first|omega|simp only[nx4]<;>omega|fail) [e0, e1, e5, hk])
     all_goals (try omega)
    clear e0 e1 e5 hk hnx
    generalize S.nx = b6
    generalize b6 + 1 = b7
    rintro m2 g S ⟨j, hj, rfl, hw3, e0, e1, e5, e6, e7, e8, j6, j7, hk, hnx⟩
    by_cases hjl : j < ka.st.length
    ·have hjl2 : j < kb.st.length := by omega
     have hjl' : (j : Int) < ka.st.length := by omega
     have hjl2' : (j : Int) < kb.st.length := by omega
     have w4 := wrapS (i := j) (by omega)
     rw [List.drop_eq_getElem_cons hjl, List.drop_eq_getElem_cons hjl2] at hw3
     by_cases hab : ka.st[j] = kb.st[j]
     ·have hw4 : ka.st = kb.st ↔ ka.st.drop (j + 1) = kb.st.drop (j + 1) := by rw [hw3, hab]; exact ⟨fun h => (List.cons.inj h).2, fun h => by rw [h]⟩
      simp -implicitDefEqProofs (disch:=first|omega|simp only[nx4]<;>omega|fail) [a22l13, a22r9, a22r10, e6, e7, e8, j6, j7, hjl, hjl', hjl2, hjl2', hab]
      intro m1 hm1
      simp -implicitDefEqProofs (disch:=first|omega|simp only[nx4]<;>omega|fail) [a22r12, e8, w4]
      refine go_next (ka.st.length - (j + 1)) (by omega) ⟨j + 1, by omega, rfl, hw4, ?_, ?_, ?_, ?_, ?_, ?_, ?_, ?_, ?_, ?_⟩
      all_goals (try simp -implicitDefEqProofs (disch:=first|omega|simp only[nx4]<;>omega|fail) [e0, e1, e5, e6, e7, j6, j7, hk])
      all_goals (try omega)
     ·have hne : ¬ ka.st = kb.st := fun e => hab (by simp [e])
      have hres : sameT f f' p = false := by rw [← hw2]; simp [sameK, hne]
      simp -implicitDefEqProofs (disch:=first|omega|simp only[nx4]<;>omega|fail) [a22l13, a22r9, a22r10, e6, e7, e8, j6, j7, hjl, hjl', hjl2, hjl2', hab]
      intro m1 hm1
      simp -implicitDefEqProofs (disch:=first|omega|simp only[nx4]<;>omega|fail) [a22r11, hres, hk]
    ·have hjl' : ¬ (j : Int) < ka.st.length := by omega
     obtain rfl : j = ka.st.length := by omega
     have heq : ka.st = kb.st := hw3.2 (by rw [List.drop_eq_nil_of_le (by omega), List.drop_eq_nil_of_le (by omega)])
     have hw5 : sameT f f' (p.drop (i + 1)) = sameT f f' p := by rw [← hw2]; simp [sameK, hfl, heq]
     simp -implicitDefEqProofs (disch:=first|omega|simp only[nx4]<;>omega|fail) [a22l13, a22r9, e6, e8, j6, hjl', a22r14, e5, w3]
     refine go_next (p.length - (i + 1)) (by omega) ⟨i + 1, by omega, rfl, hw5, ?_, ?_, ?_, ?_, ?_⟩
     all_goals (try simp -implicitDefEqProofs (disch:=first|omega|simp only[nx4]<;>omega|fail) [e0, e1, hk])
     all_goals (try omega)
   ·have hne : ¬ ka.st = kb.st := fun e => hsl (by rw [e])
    have hsl' : ¬ (ka.st.length : Int) = kb.st.length := by omega
    have hres : sameT f f' p = false := by rw [← hw2]; simp [sameK, hne]
    simp -implicitDefEqProofs (disch:=first|omega|simp only[nx4]<;>omega|fail) [a22l15, a22r4, a22r5, e0, e1, e5, hdl, hdl', hlt', hlt, hdg, hdg']
    intro m hm
    simp -implicitDefEqProofs (disch:=first|omega|simp only[nx4]<;>omega|fail) [a22r6, hfl, hsl, hsl', a22r7, hres, hk]
  ·have hres : sameT f f' p = false := by rw [← hw2]; simp [sameK, hfl]
   simp -implicitDefEqProofs (disch:=first|omega|simp only[nx4]<;>omega|fail) [a22l15, a22r4, a22r5, e0, e1, e5, hdl, hdl', hlt', hlt, hdg, hdg']
   intro m hm
   simp -implicitDefEqProofs (disch:=first|omega|simp only[nx4]<;>omega|fail) [a22r6, hfl, a22r7, hres, hk]
 ·have hlt' : ¬ (i : Int) < p.length := by omega
  obtain rfl : i = p.length := by omega
  rw [List.drop_length, sameT, List.all_nil] at hw
  simp -implicitDefEqProofs (disch:=first|omega|simp only[nx4]<;>omega|fail) [a22l15, a22r4, e0, e5, hdl, hlt', a22r16, ← hw, hk]
theorem wkL_snoc : ∀ {a b : List AV} {x y : AV}, wkL a b → wk x y → wkL (a ++ [x]) (b ++ [y])
 | [], [], x, y, _, h => by simp [wkL, h]
 | a :: la, b :: lb, x, y, h, k => by
  simp only [List.cons_append, wkL] at h ⊢
  exact ⟨h.1, wkL_snoc h.2 k⟩
 | [], _ :: _, _, _, h, _ => h.elim
 | _ :: _, [], _, _, h, _ => h.elim
def I43 (p : List Gl) (f : Tb) (f' : Tb) (s : St) (m : Nat) (g : Env) (s1 : St) : Prop :=
 ∃ (i : Nat) (v : AV) (L : List AV), i ≤ p.length ∧ m = p.length - i ∧ wkL L (dmL (p.take i) f') ∧ L.length = i ∧ (∀ x ∈ L, x.cells.length = 3) ∧ g.get 0 = .list 6 .none (p.map Gl.av) ∧ g.get 5 = .ptr s.nx 0 ∧ g.get 6 = v ∧ TokS s1 3 (s.nx + 1) v L ∧ g.get 7 = .int .i64 i ∧
  s1.m s.nx = some (.box [.list 6 .none (p.map Gl.av), .list 3 .none (dmL p f)]) ∧ Kept s s1 ∧ s.nx + 1 ≤ s1.nx
def J43 (p : List Gl) (n : ByteArray) (nd : ND) (vf : Nat → Bool) (wn i : Nat) (v : AV) (b10 b11 : Nat) (s S0 : St) (m : Nat) (g : Env) (s1 : St) : Prop :=
 ∃ (j : Nat) (fv : AV), j ≤ wn ∧ m = wn - j ∧ TokS s1 1 (b11 + 1) fv (((List.range j).map vf).map AV.bool) ∧ g.get 0 = .list 6 .none (p.map Gl.av) ∧ g.get 5 = .ptr s.nx 0 ∧ g.get 6 = v ∧ g.get 7 = .int .i64 i ∧ g.get 8 = .int .i64 wn ∧ g.get 10 = .ptr b10 0 ∧ g.get 11 = .ptr b11 0 ∧ g.get 12 = .int .i64 j ∧
  s1.m b10 = some (.box [.bool nd.isNone, .list 1 .none (ilist (nd.getD []))]) ∧ s1.m b11 = some (.box [.str n, fv, .bool nd.isNone]) ∧ Kept S0 s1 ∧ b11 < s1.nx
set_option maxHeartbeats 4000000 in
theorem t43 (p : List Gl) (f : Tb) (i : Nat) (x : Gl) (hlt : i < p.length) (hpl : p.length ≤ 400) (hxx : p[i] = x) (c : Pl) (nd : ND) (h29 : PureC Tryz.prog 29 [.agg [.list 6 .none (p.map Gl.av), .list 3 .none (dmL p f)], c.av] (.agg [.bool nd.isNone, .list 1 .none (ilist (nd.getD []))])) (hnl : lenN nd ≤ 3000)
  (wn : Nat) (hw8 : wn ≤ 8) (vf : Nat → Bool) (hvf : ∀ i, vf i = (nd.isNone || decide ((wn : Int) - 1 - (i : Int) ∈ nd.getD []))) (f' : Tb) (hf' : f' x = ⟨wn, (List.range wn).map vf, nd.isNone⟩) (s S0 : St) (v : AV) (L : List AV) (Q : AExit → Env → St → Prop)
  (hwL : wkL L (dmL (p.take i) f')) (hLl : L.length = i) (hL3 : ∀ x ∈ L, x.cells.length = 3) (ht : TokS S0 3 (s.nx + 1) v L) (j5 : S0.m s.nx = some (.box [.list 6 .none (p.map Gl.av), .list 3 .none (dmL p f)])) (hk : Kept s S0) (hnx : s.nx + 1 ≤ S0.nx)
  (b9 : Nat) (g : Env) (S : St) (e0 : g.get 0 = .list 6 .none (p.map Gl.av)) (e5 : g.get 5 = .ptr s.nx 0) (e6 : g.get 6 = v) (e7 : g.get 7 = .int .i64 i) (e8 : g.get 8 = .int .i64 wn) (e9 : g.get 9 = .ptr b9 0) (j9 : S.m b9 = some (.box c.av.cells)) (hS : Kept S0 S) (hb9 : S0.nx ≤ b9) (hn9 : b9 < S.nx) :
  go (aops Tryz.prog a43r9
   (regQ
    (seqQ Tryz.prog
     ((ACode.reg true a43r10).seq
      (((ACode.reg false a43r11).seq (ACode.block 2 a43l15.loop)).seq (ACode.reg false a43r16)))
     (blockQ 1
      (seqQ Tryz.prog (ACode.reg false a43r17)
       (loopQ (p.length - i) (I43 p f f' s) Q))))) g [] S) := by
 have hlt' : (i : Int) < p.length := by omega
 have w3 := wrapS (i := i) (by omega)
 have q5 : S.m s.nx = some (.box [.list 6 .none (p.map Gl.av), .list 3 .none (dmL p f)]) := (hS _ (by omega)).trans j5
 simp -implicitDefEqProofs (disch:=first|omega|simp only[nx4]<;>omega|fail) [a43r9, e5, e9, j9, q5]
 refine go_pure h29 fun mm1 hm1 => ?_
 try simp only [nx4] at hm1
 simp -implicitDefEqProofs (disch:=first|omega|simp only[nx4]<;>omega|fail) [a43r10, e0, e7, hlt, hlt', hxx]
 intro m hm
 simp -implicitDefEqProofs (disch:=first|omega|simp only[nx4]<;>omega|fail) [a43r11]
 refine go_loop (J43 p x.name nd vf wn i v mm1 (mm1 + 1) s S0) wn ?h0 ?_
 case h0 =>
  refine ⟨0, .list 0 .full [], by omega, by omega, .inl ⟨rfl, by simp⟩, ?_, ?_, ?_, ?_, ?_, ?_, ?_, ?_, ?_, ?_, ?_, ?_⟩
  all_goals (try simp -implicitDefEqProofs (disch:=first|omega|simp only[nx4]<;>omega|fail) [e0, e5, e6, e7, e8])
  all_goals (try omega)
 have hb10 : S0.nx < mm1 := by omega
 clear e0 e5 e6 e7 e8 e9 j9 hS hb9 hn9 q5 hm
 generalize hb11 : mm1 + 1 = b11
 rintro k g S ⟨j, fv, hj, rfl, htf, e0, e5, e6, e7, e8, e10, e11, e12, j10, j11, hS, hn⟩
 by_cases hjl : j < wn
 ·have hjl' : (j : Int) < wn := by omega
  have w4 := wrapS (i := j) (by omega)
  have w1 : IntKind.i64.wrap ((wn : Int) - 1) = (wn : Int) - 1 := wrap64 (by omega) (by omega)
  have w2 : IntKind.i64.wrap ((wn : Int) - 1 - j) = (wn : Int) - 1 - j := wrap64 (by omega) (by omega)
  have h81 := p81 nd ((wn : Int) - 1 - j) (by omega)
  simp only [rN] at h81
  have hvj := hvf j
  have hrj : ((List.range (j + 1)).map vf).map AV.bool = ((List.range j).map vf).map AV.bool ++ [.bool (vf j)] := by rw [List.range_succ]; simp
  have hrl : (((List.range j).map vf).map AV.bool).length = j := by simp
  generalize ((List.range j).map vf).map AV.bool = xs at htf hrj hrl
  have hj20 : j < 20 := by omega
  cases hno : nd.isNone with
  | true =>
   rw [hno] at j10 j11 hvj
   simp only [Bool.true_or] at hvj
   rcases htf with ⟨rfl, hxs⟩ | ⟨o, rfl, ho, ho1, ho2⟩
   ·subst hxs
    simp -implicitDefEqProofs (disch:=first|omega|simp only[nx4]<;>omega|fail) [a43l15, a43r12, a43r13, e8, e10, e11, e12, j10, j11, hjl']
    intro m hm
    simp -implicitDefEqProofs (disch:=first|omega|simp only[nx4]<;>omega|fail) [a43r14, e12, w4]
    refine go_next (wn - (j + 1)) (by omega) ⟨j + 1, _, by omega, rfl, by rw [hrj, hvj]; exact .inr ⟨S.nx, rfl, by first | (simp -implicitDefEqProofs (disch:=first|omega|simp only[nx4]<;>omega|fail) [hrl]; done) | (simp -implicitDefEqProofs (disch:=first|omega|simp only[nx4]<;>omega|fail); done), by omega, by simp -implicitDefEqProofs (disch:=first|omega|simp only[nx4]<;>omega|fail); omega⟩, ?_, ?_, ?_, ?_, ?_, ?_, ?_, ?_, ?_, ?_, ?_, ?_⟩
    all_goals (try simp -implicitDefEqProofs (disch:=first|omega|simp only[nx4]<;>omega|fail) [e0, e5, e6, e7, e8, e10, e11, j10, hno, hS])
    all_goals (try omega)
   ·simp -implicitDefEqProofs (disch:=first|omega|simp only[nx4]<;>omega|fail) [a43l15, a43r12, a43r13, e8, e10, e11, e12, j10, j11, hjl', ho, hrl]
    intro m hm
    simp -implicitDefEqProofs (disch:=first|omega|simp only[nx4]<;>omega|fail) [a43r14, e12, w4]
    refine go_next (wn - (j + 1)) (by omega) ⟨j + 1, _, by omega, rfl, by rw [hrj, hvj]; exact .inr ⟨S.nx, rfl, by first | (simp -implicitDefEqProofs (disch:=first|omega|simp only[nx4]<;>omega|fail) [hrl]; done) | (simp -implicitDefEqProofs (disch:=first|omega|simp only[nx4]<;>omega|fail); done), by omega, by simp -implicitDefEqProofs (disch:=first|omega|simp only[nx4]<;>omega|fail); omega⟩, ?_, ?_, ?_, ?_, ?_, ?_, ?_, ?_, ?_, ?_, ?_, ?_⟩
    all_goals (try simp -implicitDefEqProofs (disch:=first|omega|simp only[nx4]<;>omega|fail) [e0, e5, e6, e7, e8, e10, e11, j10, hno, hS])
    all_goals (try omega)
  | false =>
   rw [hno] at j10 j11 hvj h81
   simp only [Bool.false_or] at hvj
   rw [← hvj] at h81
   rcases htf with ⟨rfl, hxs⟩ | ⟨o, rfl, ho, ho1, ho2⟩
   ·subst hxs
    simp -implicitDefEqProofs (disch:=first|omega|simp only[nx4]<;>omega|fail) [a43l15, a43r12, a43r13, e8, e10, e11, e12, j10, j11, hjl', w1, w2]
    refine pcV_intro h81 ?_
    simp -implicitDefEqProofs (disch:=first|omega|simp only[nx4]<;>omega|fail) [e11, j11]
    intro m hm
    simp -implicitDefEqProofs (disch:=first|omega|simp only[nx4]<;>omega|fail) [a43r14, e12, w4]
    refine go_next (wn - (j + 1)) (by omega) ⟨j + 1, _, by omega, rfl, by rw [hrj]; exact .inr ⟨S.nx, rfl, by first | (simp -implicitDefEqProofs (disch:=first|omega|simp only[nx4]<;>omega|fail) [hrl]; done) | (simp -implicitDefEqProofs (disch:=first|omega|simp only[nx4]<;>omega|fail); done), by omega, by simp -implicitDefEqProofs (disch:=first|omega|simp only[nx4]<;>omega|fail); omega⟩, ?_, ?_, ?_, ?_, ?_, ?_, ?_, ?_, ?_, ?_, ?_, ?_⟩
    all_goals (try simp -implicitDefEqProofs (disch:=first|omega|simp only[nx4]<;>omega|fail) [e0, e5, e6, e7, e8, e10, e11, j10, hno, hS])
    all_goals (try omega)
   ·simp -implicitDefEqProofs (disch:=first|omega|simp only[nx4]<;>omega|fail) [a43l15, a43r12, a43r13, e8, e10, e11, e12, j10, j11, hjl', ho, hrl, w1, w2]
    refine pcV_intro h81 ?_
    simp -implicitDefEqProofs (disch:=first|omega|simp only[nx4]<;>omega|fail) [e11, j11, ho, hrl]
    intro m hm
    simp -implicitDefEqProofs (disch:=first|omega|simp only[nx4]<;>omega|fail) [a43r14, e12, w4]
    refine go_next (wn - (j + 1)) (by omega) ⟨j + 1, _, by omega, rfl, by rw [hrj]; exact .inr ⟨S.nx, rfl, by first | (simp -implicitDefEqProofs (disch:=first|omega|simp only[nx4]<;>omega|fail) [hrl]; done) | (simp -implicitDefEqProofs (disch:=first|omega|simp only[nx4]<;>omega|fail); done), by omega, by simp -implicitDefEqProofs (disch:=first|omega|simp only[nx4]<;>omega|fail); omega⟩, ?_, ?_, ?_, ?_, ?_, ?_, ?_, ?_, ?_, ?_, ?_, ?_⟩
    all_goals (try simp -implicitDefEqProofs (disch:=first|omega|simp only[nx4]<;>omega|fail) [e0, e5, e6, e7, e8, e10, e11, j10, hno, hS])
    all_goals (try omega)
 ·have hjl' : ¬ (j : Int) < wn := by omega
  obtain rfl : j = wn := by omega
  simp -implicitDefEqProofs (disch:=first|omega|simp only[nx4]<;>omega|fail) [a43l15, a43r12, e8, e12, hjl', a43r16, e6, e11, j11]
  refine ap_tok (ht.move (by omega) fun q _ hq _ => hS q hq) (by simp [hLl]; omega) (by simp [hLl]; omega) (by omega) fun v' s' ht' hn' hk' => ?_
  have r5 : s'.m s.nx = some (.box [.list 6 .none (p.map Gl.av), .list 3 .none (dmL p f)]) := (hk' _ (by omega) (.inl (by omega))).trans ((hS _ (by omega)).trans j5)
  have rk : Kept s s' := fun q hq => (hk' q (by omega) (.inl (by omega))).trans ((hS q (by omega)).trans (hk q hq))
  have hrow : wkL (L ++ [AV.agg [AV.str x.name, fv, AV.bool nd.isNone]]) (dmL (p.take (i + 1)) f') := by
   rw [dmL_take hlt, hxx]
   refine wkL_snoc hwL ?_
   have h1 := htf.wk (ys := ((List.range j).map vf).map AV.bool) (by simp)
   rw [dm, hf']
   simp only [wk_agg, wkL]
   exact ⟨by simp, h1, by simp, trivial⟩
  simp -implicitDefEqProofs (disch:=first|omega|simp only[nx4]<;>omega|fail) [a43r17, e7, w3]
  refine go_next (p.length - (i + 1)) (by omega) ⟨i + 1, v', L ++ [AV.agg [AV.str x.name, fv, AV.bool nd.isNone]], by omega, rfl, hrow, by simp [hLl], ?_, ?_, ?_, ?_, ht', ?_, ?_, ?_, ?_⟩
  ·intro y hy
   rcases List.mem_append.1 hy with h | h
   ·exact hL3 y h
   ·simp at h; subst h; rfl
  all_goals (try simp -implicitDefEqProofs (disch:=first|omega|simp only[nx4]<;>omega|fail) [e0, e5, r5, rk])
  all_goals (try omega)
set_option maxHeartbeats 4000000 in
theorem p43 (p : List Gl) (f : Tb) (hf : RT p f) (hg : ∀ g ∈ p, Gin p g.body) : PureC Tryz.prog 43 [.list 6 .none (p.map Gl.av), .list 3 .none (dmL p f)] (.list 3 .none (dmL p (stp p f))) := by
 refine PureC.intro fun s => fun_sound mixed Tryz.func43 Tryz.call43 c43 rfl (awpFun_go _ _ _ _ ?_)
 have hpl := hf.gp.few
 simp -implicitDefEqProofs (disch:=first|omega|simp only[nx4]<;>omega|fail) [a43, a43b, a43r0, a43r1, a43r2, a43r3]
 refine go_loop (I43 p f (stp p f) s) p.length ⟨0, .list 0 .full [], [], by omega, by omega, by simp [dmL, wkL], rfl, by simp, ?_, ?_, ?_, .inl ⟨rfl, rfl⟩, ?_, ?_, ?_, ?_⟩ ?_
 iterate 7 (simp -implicitDefEqProofs (disch:=first|omega|simp only[nx4]<;>omega|fail))
 rintro m g S ⟨i, v, L, hi, rfl, hwL, hLl, hL3, e0, e5, e6, ht, e7, j5, hk, hnx⟩
 by_cases hlt : i < p.length
 ·have hlt' : (i : Int) < p.length := by omega
  have w3 := wrapS (i := i) (by omega)
  have hmem := List.getElem_mem hlt
  have htk := dmL_take (f := stp p f) hlt
  have hgi := hg _ hmem
  have hwf := hf.gp.wf _ hmem
  obtain ⟨hsm, hrg⟩ := hf.gp.sm _ hmem
  have hst : stp p f p[i] = knOf (lookK (tbD p f)) p[i].body := rfl
  have h13 := p13 p[i]
  generalize hxx : p[i] = x at htk hgi hwf hsm hrg hst h13
  rw [hst] at htk
  have hwb := wnt_bnd hwf
  obtain ⟨hnd, hwa, _⟩ := wf_nd hwf
  by_cases o5 : x.body.op = 5
  ·obtain ⟨n1, n8, nl⟩ := hnd.lam o5
   obtain ⟨fx, hfx⟩ : ∃ y, x.body.args = [y] := List.length_eq_one_iff.1 nl
   have hfm : fx ∈ x.body.args := by simp [hfx]
   have h29 := p29 p f hf fx (hwa fx hfm) (small_arg hsm hfm) (((rng_eq x.body).1 hrg).2.2.1 fx hfm) (hgi.arg hfm)
   have hw : wnt x.body = x.body.n := if_pos o5
   have hpos : 0 < wnt x.body := by omega
   simp -implicitDefEqProofs (disch:=first|omega|simp only[nx4]<;>omega|fail) [a43l18, a43r4, a43r5, e0, e7, hlt', hlt, hxx]
   have hgx : ([fx.av][0]?).getD AV.any = fx.av := rfl
   refine go_pure h13 fun mm2 hm2 => ?_
   try simp only [nx4] at hm2
   simp -implicitDefEqProofs (disch:=first|omega|simp only[nx4]<;>omega|fail) [a43r6, e0, e7, hlt', hlt, hxx, a43r7, hpos, a43r8, hfx, hgx]
   have hcd : cde x.body = fx := by rw [cde, if_pos o5, hfx]; rfl
   obtain ⟨wn, hwn⟩ : ∃ wn : Nat, wnt x.body = wn := ⟨(wnt x.body).toNat, by omega⟩
   have hnl := (need_len (lookK (tbD p f)) fx (hwa fx hfm)).1
   have hsf := (small_arg hsm hfm).1
   simp only [C29, KR, rN] at h29
   rw [hwn]
   refine t43 p f i x hlt hpl hxx fx _ h29 (by omega) wn (by omega) (fun i => (need (lookK (tbD p f)) fx).isNone || decide ((wn : Int) - 1 - (i : Int) ∈ (need (lookK (tbD p f)) fx).getD [])) (fun _ => rfl) (stp p f) ?_ s S v L _ hwL hLl hL3 ht j5 hk hnx mm2 _ _ ?_ ?_ ?_ ?_ ?_ ?_ ?_ ?_ ?_ ?_
   ·rw [hst, knOf, hwn, hcd]
    generalize need (lookK (tbD p f)) fx = nd
    cases nd <;> rfl
   all_goals (try simp -implicitDefEqProofs (disch:=first|omega|simp only[nx4]<;>omega|fail) [e0, e5, e6, e7])
   all_goals (try omega)
   done
  ·have h29 := p29 p f hf x.body hwf hsm hrg hgi
   have hw : wnt x.body = 0 := if_neg o5
   simp -implicitDefEqProofs (disch:=first|omega|simp only[nx4]<;>omega|fail) [a43l18, a43r4, a43r5, e0, e7, hlt', hlt, hxx]
   refine go_pure h13 fun mm3 hm3 => ?_
   try simp only [nx4] at hm3
   simp -implicitDefEqProofs (disch:=first|omega|simp only[nx4]<;>omega|fail) [a43r6, e0, e7, hlt', hlt, hxx, a43r7, hw]
   have hcd : cde x.body = x.body := by rw [cde, if_neg o5]
   have hnl := (need_len (lookK (tbD p f)) x.body hwf).1
   have hsf := hsm.1
   simp only [C29, KR, rN] at h29
   refine t43 p f i x hlt hpl hxx x.body _ h29 (by omega) 0 (by omega) (fun i => (need (lookK (tbD p f)) x.body).isNone || decide (((0 : Nat) : Int) - 1 - (i : Int) ∈ (need (lookK (tbD p f)) x.body).getD [])) (fun _ => rfl) (stp p f) ?_ s S v L _ hwL hLl hL3 ht j5 hk hnx mm3 _ _ ?_ ?_ ?_ ?_ ?_ ?_ ?_ ?_ ?_ ?_
   ·rw [hst, knOf, hw, hcd]
    rfl
   all_goals (try simp -implicitDefEqProofs (disch:=first|omega|simp only[nx4]<;>omega|fail) [e0, e5, e6, e7])
   all_goals (try omega)
   done
 ·have hlt' : ¬ (i : Int) < p.length := by omega
  obtain rfl : i = p.length := by omega
  rw [List.take_length] at hwL
  have hwk := ht.wk hwL
  simp -implicitDefEqProofs (disch:=first|omega|simp only[nx4]<;>omega|fail) [a43l18, a43r4, e0, e7, hlt', a43r19, e6, hwk, hk]
theorem rt_0 {p : List Gl} (hp : GoodP p) : RT p tb0 := ⟨hp, goodT_0 hp, fun _ _ => rfl⟩
theorem RT.stp {p : List Gl} {f : Tb} (h : RT p f) : RT p (stp p f) := ⟨h.gp, goodT_stp h.gp f, fun _ _ => rfl⟩
theorem same_chgs {p : List Gl} {n : Nat} {f : Tb} {c : Nat} (h : Way p n f c) : sameT f (stp p f) p = !chgs p f p := by
 have key : ∀ g ∈ p, sameK (f g) (stp p f g) = !kch (stp p f g) (f g) := by
  intro g hg
  have h8 := h.good g hg
  cases hk : kch (stp p f g) (f g) with
  | false =>
   rw [kch_eq (h.desc g) (by omega) hk]
   simp [sameK]
  | true =>
   simp only [kch, Bool.or_eq_true, Bool.not_eq_true', decide_eq_false_iff_not] at hk
   simp only [Bool.not_true, sameK, Bool.and_eq_false_iff, decide_eq_false_iff_not]
   rcases hk with h | h
   ·exact .inl fun e => h e.symm
   ·exact .inr fun e => h (by simp [st8, e])
 have : ∀ l : List Gl, (∀ g ∈ l, g ∈ p) → (l.all fun g => sameK (f g) (stp p f g)) = !(l.any fun g => kch (stp p f g) (f g)) := by
  intro l
  induction l with
  | nil => intro _; rfl
  | cons a l ih =>
   intro hl
   rw [List.all_cons, List.any_cons, ih fun g hg => hl g (by simp [hg]), key a (hl a (by simp))]
   cases kch (stp p f a) (f a) <;> rfl
 exact this p fun _ h => h
def IA21 (p : List Gl) (s : St) (m : Nat) (g : Env) (s1 : St) : Prop :=
 ∃ (i : Nat) (v : AV) (L : List AV), i ≤ p.length ∧ m = p.length - i ∧ wkL L (dmL (p.take i) tb0) ∧ L.length = i ∧ (∀ x ∈ L, x.cells.length = 3) ∧ g.get 0 = .list 6 .none (p.map Gl.av) ∧ g.get 4 = v ∧ TokS s1 3 s.nx v L ∧ g.get 5 = .int .i64 i ∧ Kept s s1 ∧ s.nx ≤ s1.nx
def IB21 (p : List Gl) (n : ByteArray) (wn i : Nat) (v : AV) (b6 : Nat) (S0 : St) (m : Nat) (g : Env) (s1 : St) : Prop :=
 ∃ (j : Nat) (fv : AV), j ≤ wn ∧ m = wn - j ∧ TokS s1 1 (b6 + 1) fv ((List.replicate j true).map AV.bool) ∧ g.get 0 = .list 6 .none (p.map Gl.av) ∧ g.get 4 = v ∧ g.get 5 = .int .i64 i ∧ g.get 6 = .ptr b6 0 ∧ g.get 7 = .int .i64 j ∧
  s1.m b6 = some (.box [.str n, fv, .bool true]) ∧ Kept S0 s1 ∧ b6 < s1.nx
def IC21 (p : List Gl) (s : St) (m : Nat) (g : Env) (s1 : St) : Prop :=
 ∃ (f : Tb) (c : Nat) (v : AV), Way p m f c ∧ RT p f ∧ wk v (.list 3 .none (dmL p f)) ∧ g.get 0 = .list 6 .none (p.map Gl.av) ∧ g.get 4 = v ∧ g.get 8 = .int .i64 c ∧ Kept s s1 ∧ s.nx ≤ s1.nx
set_option maxHeartbeats 4000000 in
theorem p21 (p : List Gl) (hp : GoodP p) (hg : ∀ g ∈ p, Gin p g.body) : PureC Tryz.prog 21 [.list 6 .none (p.map Gl.av)] (.tup [.list 3 .none (dmL p (fin p).1), .int .i64 (fin p).2]) := by
 refine PureC.intro fun s => fun_sound mixed Tryz.func21 Tryz.call21 c21 rfl (awpFun_go _ _ _ _ ?_)
 have hpl := hp.few
 simp -implicitDefEqProofs (disch:=first|omega|simp only[nx4]<;>omega|fail) [a21, a21b, a21r0, a21r1, a21r2]
 refine go_loop (IA21 p s) p.length ⟨0, .list 0 .full [], [], by omega, by omega, by simp [dmL, wkL], rfl, by simp, ?_, ?_, .inl ⟨rfl, rfl⟩, ?_, ?_, ?_⟩ ?_
 iterate 5 (simp -implicitDefEqProofs (disch:=first|omega|simp only[nx4]<;>omega|fail))
 rintro m g S ⟨i, v, L, hi, rfl, hwL, hLl, hL3, e0, e4, ht, e5, hk, hnx⟩
 by_cases hlt : i < p.length
 ·have hlt' : (i : Int) < p.length := by omega
  have w3 := wrapS (i := i) (by omega)
  have hmem := List.getElem_mem hlt
  have htk := dmL_take (f := tb0) hlt
  have hwf := hp.wf _ hmem
  have h13 := p13 p[i]
  generalize hxx : p[i] = x at htk hwf h13
  have hwb := wnt_bnd hwf
  obtain ⟨wn, hwn⟩ : ∃ wn : Nat, wnt x.body = wn := ⟨(wnt x.body).toNat, by omega⟩
  rw [hwn] at h13
  simp -implicitDefEqProofs (disch:=first|omega|simp only[nx4]<;>omega|fail) [a21l12, a21r3, a21r4, e0, e5, hlt', hlt, hxx, a21r5]
  refine go_loop (IB21 p x.name wn i v S.nx S) wn ?h0 ?_
  case h0 =>
   refine ⟨0, .list 0 .full [], by omega, by omega, .inl ⟨rfl, rfl⟩, ?_, ?_, ?_, ?_, ?_, ?_, ?_, ?_⟩
   all_goals (try simp -implicitDefEqProofs (disch:=first|omega|simp only[nx4]<;>omega|fail) [e0, e4, e5])
   all_goals (try omega)
  have hb6 : S.nx ≤ S.nx := by omega
  generalize hS0 : S = S0 at hk hnx ht hb6
  have hb6' : S0.nx = S.nx := by rw [hS0]
  generalize S.nx = b6 at hb6 hb6'
  clear e0 e4 e5 hS0
  rintro k g S1 ⟨j, fv, hj, rfl, htf, e0, e4, e5, e6, e7, j6, hS, hn⟩
  by_cases hjl : j < wn
  ·have hjl' : (j : Int) < wn := by omega
   have w4 := wrapS (i := j) (by omega)
   have hrj : (List.replicate (j + 1) true).map AV.bool = (List.replicate j true).map AV.bool ++ [.bool true] := by rw [List.replicate_succ']; simp
   simp -implicitDefEqProofs (disch:=first|omega|simp only[nx4]<;>omega|fail) [a21l9, a21r6, e0, e5, e7, hlt', hlt, hxx]
   refine go_pure h13 fun mm1 hm1 => ?_
   try simp only [nx4] at hm1
   simp -implicitDefEqProofs (disch:=first|omega|simp only[nx4]<;>omega|fail) [hjl', hjl, a21r7, e6, j6]
   refine ap_tok (s := S1.bump mm1) (htf.move (by simp -implicitDefEqProofs (disch:=first|omega|simp only[nx4]<;>omega|fail); omega) fun q _ _ _ => rfl) (by simp; omega) (by simp; omega) (by simp -implicitDefEqProofs (disch:=first|omega|simp only[nx4]<;>omega|fail); omega) fun v' s' ht' hn' hk' => ?_
   simp -implicitDefEqProofs (disch:=first|omega|simp only[nx4]<;>omega|fail) at hn'
   have q6 : s'.m S0.nx = some (.box [.str x.name, fv, .bool true]) := (hk' _ (by simp -implicitDefEqProofs (disch:=first|omega|simp only[nx4]<;>omega|fail); omega) (.inl (by omega))).trans (by simp -implicitDefEqProofs (disch:=first|omega|simp only[nx4]<;>omega|fail) [j6])
   have qS : Kept S0 s' := fun q hq => (hk' q (by simp -implicitDefEqProofs (disch:=first|omega|simp only[nx4]<;>omega|fail); omega) (.inl (by omega))).trans (by simp -implicitDefEqProofs (disch:=first|omega|simp only[nx4]<;>omega|fail) [hS q hq])
   rw [← hrj] at ht'
   obtain ⟨tv1, tv2⟩ := ht'.val
   simp -implicitDefEqProofs (disch:=first|omega|simp only[nx4]<;>omega|fail) [e6, q6, a21r8, e7, w4, tv1, tv2]
   refine go_next (wn - (j + 1)) (by omega) ⟨j + 1, v', by omega, rfl, ht'.move (by simp -implicitDefEqProofs (disch:=first|omega|simp only[nx4]<;>omega|fail)) (fun q hq _ _ => by simp -implicitDefEqProofs (disch:=first|omega|simp only[nx4]<;>omega|fail)), ?_, ?_, ?_, ?_, ?_, ?_, ?_, ?_⟩
   all_goals (try simp -implicitDefEqProofs (disch:=first|omega|simp only[nx4]<;>omega|fail) [e0, e4, e5, e6, qS])
   all_goals (try omega)
  ·have hjl' : ¬ (j : Int) < wn := by omega
   obtain rfl : j = wn := by omega
   simp -implicitDefEqProofs (disch:=first|omega|simp only[nx4]<;>omega|fail) [a21l9, a21r6, e0, e5, e7, hlt', hlt, hxx]
   refine go_pure h13 fun mm2 hm2 => ?_
   try simp only [nx4] at hm2
   simp -implicitDefEqProofs (disch:=first|omega|simp only[nx4]<;>omega|fail) [hjl', a21r10, e4, e6, j6]
   refine ap_tok (s := S1.bump mm2) (ht.move (by simp -implicitDefEqProofs (disch:=first|omega|simp only[nx4]<;>omega|fail); omega) fun q _ hq _ => by simp -implicitDefEqProofs (disch:=first|omega|simp only[nx4]<;>omega|fail) [hS q hq]) (by simp [hLl]; omega) (by simp [hLl]; omega) (by simp -implicitDefEqProofs (disch:=first|omega|simp only[nx4]<;>omega|fail); omega) fun v' s' ht' hn' hk' => ?_
   simp -implicitDefEqProofs (disch:=first|omega|simp only[nx4]<;>omega|fail) at hn'
   have rk : Kept s s' := fun q hq => (hk' q (by simp -implicitDefEqProofs (disch:=first|omega|simp only[nx4]<;>omega|fail); omega) (.inl (by omega))).trans (by simp -implicitDefEqProofs (disch:=first|omega|simp only[nx4]<;>omega|fail) [hS q (by omega), hk q hq])
   have hrow : wkL (L ++ [AV.agg [AV.str x.name, fv, AV.bool true]]) (dmL (p.take (i + 1)) tb0) := by
    rw [htk]
    refine wkL_snoc hwL ?_
    have h1 := htf.wk (ys := (List.replicate j true).map AV.bool) (by simp)
    have h2 : tb0 x = ⟨j, List.replicate j true, true⟩ := by rw [tb0, top, hwn]; rfl
    rw [dm, h2]
    simp only [wk_agg, wkL]
    exact ⟨by simp, h1, by simp, trivial⟩
   simp -implicitDefEqProofs (disch:=first|omega|simp only[nx4]<;>omega|fail) [a21r11, e5, w3]
   refine go_next (p.length - (i + 1)) (by omega) ⟨i + 1, v', L ++ [AV.agg [AV.str x.name, fv, AV.bool true]], by omega, rfl, hrow, by simp [hLl], ?_, ?_, ?_, ht', ?_, ?_, ?_⟩
   ·intro y hy
    rcases List.mem_append.1 hy with h | h
    ·exact hL3 y h
    ·simp at h; subst h; rfl
   all_goals (try simp -implicitDefEqProofs (disch:=first|omega|simp only[nx4]<;>omega|fail) [e0, rk])
   all_goals (try omega)
 ·have hlt' : ¬ (i : Int) < p.length := by omega
  obtain rfl : i = p.length := by omega
  rw [List.take_length] at hwL
  have hwk := ht.wk hwL
  simp -implicitDefEqProofs (disch:=first|omega|simp only[nx4]<;>omega|fail) [a21l12, a21r3, e0, e5, hlt', a21r13]
  refine go_loop (IC21 p s) (ms p tb0 + 1) ?h1 ?_
  case h1 =>
   refine ⟨tb0, 1, v, way_0 hp, rt_0 hp, hwk, ?_, ?_, ?_, ?_, ?_⟩
   all_goals (try simp -implicitDefEqProofs (disch:=first|omega|simp only[nx4]<;>omega|fail) [e0, e4, hk])
   all_goals (try omega)
  clear e0 e4 e5 hk hnx hwk ht hwL
  rintro m g S ⟨f, c, v, hway, hrt, hwk, e0, e4, e8, hk, hnx⟩
  have h43 := (p43 p f hrt hg).argw (args := [.list 6 .none (p.map Gl.av), v]) (by simp [wkL, hwk])
  have h22 := (p22 p f (stp p f) hpl (fun g hg => by have := hway.good g hg; omega) (fun g hg => by have := goodT_stp hp f g hg; omega)).argw (args := [v, .list 3 .none (dmL p (stp p f))]) (by simp [wkL, hwk])
  rw [same_chgs hway] at h22
  simp -implicitDefEqProofs (disch:=first|omega|simp only[nx4]<;>omega|fail) [a21l19, a21r14, e0, e4]
  refine go_pure h43 fun mm3 hm3 => ?_
  try simp only [nx4] at hm3
  simp -implicitDefEqProofs (disch:=first|omega|simp only[nx4]<;>omega|fail) [a21r15, e4]
  cases hc : chgs p f p with
  | true =>
   rw [hc] at h22
   obtain ⟨n', rfl, hw'⟩ := hway.go hp hc
   have hcb := hw'.bnd
   have w3 := wrapS (i := c) (by omega)
   refine go_pure h22 fun mm4 hm4 => ?_
   try simp only [nx4] at hm4
   simp -implicitDefEqProofs (disch:=first|omega|simp only[nx4]<;>omega|fail) [a21r17, a21r18, e8, w3]
   refine go_next n' (by omega) ⟨stp p f, c + 1, _, hw', hrt.stp, wk_refl _, ?_, ?_, ?_, ?_, ?_⟩
   all_goals (try simp -implicitDefEqProofs (disch:=first|omega|simp only[nx4]<;>omega|fail) [e0, hk])
   all_goals (try omega)
   done
  | false =>
   rw [hc] at h22
   obtain ⟨d1, d2⟩ := hway.done hc
   rw [d1]
   refine go_pure h22 fun mm5 hm5 => ?_
   try simp only [nx4] at hm5
   simp -implicitDefEqProofs (disch:=first|omega|simp only[nx4]<;>omega|fail) [a21r16, e4, e8, hwk, hk]
   done
def nH : ByteArray := ⟨#[104]⟩
def nK : ByteArray := ⟨#[107]⟩
def e0 : ByteArray := ⟨#[]⟩
def hC : Pl := .mk 6 0 e0 [.mk 2 0 nH [] [], .mk 1 0 e0 [] []] []
def hB : Pl := .mk 5 1 e0 [hC] []
def kC : Pl := .mk 8 0 e0 [.mk 1 0 e0 [] []] [(⟨3, e0, 1⟩, .mk 1 2 e0 [] []), (⟨1, e0, 0⟩, .mk 3 0 e0 [] [])]
def kB : Pl := .mk 5 2 e0 [kC] []
def smp : List Gl := [⟨nH, hB⟩, ⟨nK, kB⟩]
set_option maxHeartbeats 4000000 in
theorem p35 : PureC Tryz.prog 35 [] (.list 6 .none (smp.map Gl.av)) := by
 refine PureC.intro fun s => fun_sound mixed Tryz.func35 Tryz.call35 c35 rfl (awpFun_go _ _ _ _ ?_)
 simp -implicitDefEqProofs (maxSteps:=999999) (disch:=first|omega|simp only[nx4]<;>omega|fail) [a35, a35b, a35r0, a35r1, a35r2, a35r3, a35r4, fillAV]
 simp [smp, Gl.av, Pl.av, Pl.avs, Pl.avAlts, hB, hC, kB, kC, nH, nK, e0, wkL, Pl.altv]
theorem wf_h : wf hB = true := by kernel_rfl
theorem wf_k : wf kB = true := by kernel_rfl
theorem nm_h : nm nH = true := by kernel_rfl
theorem nm_k : nm nK = true := by kernel_rfl
theorem fv_h : fv hB 0 = [] := by kernel_rfl
theorem fv_k : fv kB 0 = [] := by kernel_rfl
theorem pre_h : pre hB = [hB, hC, .mk 2 0 nH [] [], .mk 1 0 e0 [] []] := rfl
theorem pre_k : pre kB = [kB, kC, .mk 1 0 e0 [] [], .mk 1 2 e0 [] [], .mk 3 0 e0 [] []] := rfl
theorem mem_bs {x : List UInt8} {b : ByteArray} (h : b.data.toList = x) : ba x = b := by subst h; rfl
theorem clo_h : clo (nms smp) hB = true := by
 rw [clo, fv_h, Bool.and_eq_true]
 refine ⟨rfl, List.all_eq_true.2 fun x hx => ?_⟩
 obtain ⟨e, he, ho, hs⟩ := mem_gls.1 hx
 rw [pre_h] at he
 rw [mem_bs hs]
 simp only [List.mem_cons, List.not_mem_nil, or_false] at he
 rcases he with rfl | rfl | rfl | rfl
 ·exact absurd ho (by decide)
 ·exact absurd ho (by decide)
 ·simp [nms, smp]
 ·exact absurd ho (by decide)
theorem clo_k : clo (nms smp) kB = true := by
 rw [clo, fv_k, Bool.and_eq_true]
 refine ⟨rfl, List.all_eq_true.2 fun x hx => ?_⟩
 obtain ⟨e, he, ho, hs⟩ := mem_gls.1 hx
 rw [pre_k] at he
 simp only [List.mem_cons, List.not_mem_nil, or_false] at he
 rcases he with rfl | rfl | rfl | rfl | rfl <;> exact absurd ho (by decide)
theorem isP_smp : isP smp = true := by
 have h : namesOK [] smp = true := by simp [namesOK, smp, wf_h, wf_k, nm_h, nm_k, show ¬ nK = nH from by decide]
 rw [isP, h]
 simp [smp, show clo (nms smp) hB = true from clo_h, show clo (nms smp) kB = true from clo_k]
 exact ⟨clo_h, clo_k⟩
theorem few_smp : Few smp := by
 refine ⟨by decide, fun g hg => ?_⟩
 simp only [smp, List.mem_cons, List.not_mem_nil, or_false] at hg
 rcases hg with rfl | rfl
 ·exact ⟨⟨by decide, by decide⟩, by simp [hB, hC, rng, rngs, rnga, i64]⟩
 ·exact ⟨⟨by decide, by decide⟩, by simp [kB, kC, rng, rngs, rnga, i64]⟩
theorem need_hC (K : ByteArray → Kn) (h1 : (K nH).w = 1) (h2 : (K nH).fails = true) : need K hC = none := by
 rw [need_app (t := hC) rfl (f := .mk 2 0 nH [] []) (l := [.mk 1 0 e0 [] []]) rfl]
 simp [h1, h2]
theorem need_kC (K : ByteArray → Kn) : need K kC = some [0] := by
 rw [need_cas (t := kC) rfl (x := .mk 1 0 e0 [] []) rfl, need_var rfl]
 simp [kC, need_var (K := K) (t := .mk 1 2 e0 [] []) rfl, need_made (K := K) (t := .mk 3 0 e0 [] []) (.inl rfl)]
 decide
theorem knOf_h (K : ByteArray → Kn) (h1 : (K nH).w = 1) (h2 : (K nH).fails = true) : knOf K hB = ⟨1, [true], true⟩ := by
 have e : need K (cde hB) = none := need_hC K h1 h2
 have e2 : wnt hB = 1 := rfl
 rw [knOf, e, e2]; rfl
theorem knOf_k (K : ByteArray → Kn) : knOf K kB = ⟨2, [false, true], false⟩ := by
 have e : need K (cde kB) = some [0] := need_kC K
 have e2 : wnt kB = 2 := rfl
 rw [knOf, e, e2]; rfl
noncomputable def fS : Tb := stp smp tb0
def gH : Gl := ⟨nH, hB⟩
def gK : Gl := ⟨nK, kB⟩
theorem smp_eq : smp = [gH, gK] := rfl
theorem gp_smp : GoodP smp := goodP few_smp isP_smp
theorem stp_h (f : Tb) (h1 : (f gH).w = 1) (h2 : (f gH).fails = true) : stp smp f gH = ⟨1, [true], true⟩ := by
 have e := lookK_tb (f := f) gp_smp.nd gH (by rw [smp_eq]; simp)
 exact knOf_h _ (by rw [show nH = gH.name from rfl, e]; exact h1) (by rw [show nH = gH.name from rfl, e]; exact h2)
theorem stp_k (f : Tb) : stp smp f gK = ⟨2, [false, true], false⟩ := knOf_k _
theorem tb0_k : tb0 gK = ⟨2, [true, true], true⟩ := rfl
theorem fS_h : fS gH = ⟨1, [true], true⟩ := stp_h _ rfl rfl
theorem fS_k : fS gK = ⟨2, [false, true], false⟩ := stp_k _
theorem fin_smp : fin smp = (fS, 2) := by
 have h1 : chgs smp tb0 smp = true := by
  rw [chgs, smp_eq, List.any_cons, List.any_cons, ← smp_eq, stp_k, tb0_k]
  have : kch ⟨2, [false, true], false⟩ ⟨2, [true, true], true⟩ = true := by decide
  rw [this]; simp
 obtain ⟨n', _, hw⟩ := (way_0 gp_smp).go gp_smp h1
 have h2 : chgs smp fS smp = false := by
  rw [chgs, smp_eq, List.any_cons, List.any_cons, ← smp_eq, stp_k, fS_k, stp_h fS (by rw [fS_h]) (by rw [fS_h]), fS_h, kch_same, kch_same]
  rfl
 exact (hw.done h2).1
theorem resP_smp : resP smp = [dm nH ⟨1, [true], true⟩, dm nK ⟨2, [false, true], false⟩] := by
 rw [resP, if_pos isP_smp, fin_smp]
 show dmL smp fS = _
 rw [smp_eq, dmL, List.map_cons, List.map_cons, List.map_nil, fS_h, fS_k]
 rfl
theorem findI_k : findI smp nK = 1 := by kernel_rfl
theorem findI_x : findI smp ⟨#[120]⟩ = -1 := by kernel_rfl
theorem want_k : (((smp[1]?).map (fin smp).1).getD Kn.zero) = ⟨2, [false, true], false⟩ := by
 rw [fin_smp]
 show fS gK = _
 exact fS_k
theorem strP_1 : strP smp nK 1 = (true, 0) := by
 rw [strP, if_neg (by rw [isP_smp]; simp), findI_k, if_neg (by omega)]
 rw [show ((1 : Int).toNat) = 1 from rfl, want_k]
 decide
theorem strP_2 : strP smp nK 2 = (false, 2) := by
 rw [strP, if_neg (by rw [isP_smp]; simp), findI_k, if_neg (by omega)]
 rw [show ((1 : Int).toNat) = 1 from rfl, want_k]
 decide
theorem strP_x : strP smp ⟨#[120]⟩ 0 = (false, 6) := by
 rw [strP, if_neg (by rw [isP_smp]; simp), findI_x, if_pos (by omega)]
set_option maxHeartbeats 4000000 in
theorem p10 : PureC Tryz.prog 10 [] (.bool true) := by
 refine PureC.intro fun s => fun_sound mixed Tryz.func10 Tryz.call10 c10 rfl (awpFun_go _ _ _ _ ?_)
 have h11 := p11 smp few_smp
 rw [resP_smp, errP, if_pos isP_smp] at h11
 have h1 := p20 smp few_smp nK 1
 have h2 := p20 smp few_smp nK 2
 have h3 := p20 smp few_smp ⟨#[120]⟩ 0
 rw [strP_1] at h1
 rw [strP_2] at h2
 rw [strP_x] at h3
 simp only [nK, nH, dm, List.map_cons, List.map_nil] at h1 h2 h11
 have hc0 : ∀ (a : AV) (l : List AV), ((a :: l)[0]?).getD AV.any = a := fun _ _ => rfl
 have hc1 : ∀ (a b : AV) (l : List AV), ((a :: b :: l)[1]?).getD AV.any = b := fun _ _ _ => rfl
 simp -implicitDefEqProofs (maxSteps:=999999) (disch:=first|omega|simp only[nx4]<;>omega|fail) [a10, a10b, a10r0, a10r1]
 refine go_pure p35 fun mm1 hm1 => ?_
 try simp only [nx4] at hm1
 simp -implicitDefEqProofs (maxSteps:=999999) (disch:=first|omega|simp only[nx4]<;>omega|fail) []
 refine go_pure h11 fun mm2 hm2 => ?_
 try simp only [nx4] at hm2
 simp -implicitDefEqProofs (maxSteps:=999999) (disch:=first|omega|simp only[nx4]<;>omega|fail) [a10r2]
 refine go_pure p35 fun mm3 hm3 => ?_
 try simp only [nx4] at hm3
 simp -implicitDefEqProofs (maxSteps:=999999) (disch:=first|omega|simp only[nx4]<;>omega|fail) []
 refine go_pure h1 fun mm4 hm4 => ?_
 try simp only [nx4] at hm4
 simp -implicitDefEqProofs (maxSteps:=999999) (disch:=first|omega|simp only[nx4]<;>omega|fail) [a10r3]
 refine go_pure p35 fun mm5 hm5 => ?_
 try simp only [nx4] at hm5
 simp -implicitDefEqProofs (maxSteps:=999999) (disch:=first|omega|simp only[nx4]<;>omega|fail) []
 refine go_pure h2 fun mm6 hm6 => ?_
 try simp only [nx4] at hm6
 simp -implicitDefEqProofs (maxSteps:=999999) (disch:=first|omega|simp only[nx4]<;>omega|fail) [a10r4]
 refine go_pure p35 fun mm7 hm7 => ?_
 try simp only [nx4] at hm7
 simp -implicitDefEqProofs (maxSteps:=999999) (disch:=first|omega|simp only[nx4]<;>omega|fail) []
 refine go_pure h3 fun mm8 hm8 => ?_
 try simp only [nx4] at hm8
 simp -implicitDefEqProofs (maxSteps:=999999) (disch:=first|omega|simp only[nx4]<;>omega|fail) [a10r5, a10r6, a10r7, hc0, hc1]
 done
theorem gin_of {p : List Gl} (h : isP p = true) : ∀ g ∈ p, Gin p g.body := by
 intro g hg e he ho
 simp only [isP, Bool.and_eq_true, decide_eq_true_eq, List.all_eq_true] at h
 have hc := h.2.2 g hg
 simp only [clo, Bool.and_eq_true, decide_eq_true_eq, List.all_eq_true] at hc
 have hm : e.s.data.toList ∈ gls g.body := mem_gls.2 ⟨e, he, ho, rfl⟩
 have := hc.2 _ hm
 rw [mem_bs rfl] at this
 simpa using this
theorem wgs_few (most : Int) (hm : 0 ≤ most) : ∀ (p : List Gl) (n : Int), 0 ≤ n → wgs p most n ≤ most → n ≤ most ∧ ∀ g ∈ p, wt g.body most 100 ≤ most
 | [], n, hn, h => by simpa [wgs] using h
 | g :: p, n, hn, h => by
  rw [wgs] at h
  split at h
  ·rename_i hle
   have hb := wt_bound g.body most 100 hm (by omega)
   obtain ⟨h1, h2⟩ := wgs_few most hm p _ (by omega) h
   refine ⟨hle, fun x hx => ?_⟩
   rcases List.mem_cons.1 hx with rfl | hx
   ·omega
   ·exact h2 x hx
  ·omega
theorem few_of {p : List Gl} {t : Pl} (h : fewD p t = true) (hr : ∀ g ∈ p, rng g.body) : Few p := by
 simp only [fewD, Bool.and_eq_true, decide_eq_true_eq] at h
 obtain ⟨h1, h2⟩ := wgs_few 3000 (by omega) p p.length (by omega) h.1
 refine ⟨by omega, fun g hg => ⟨?_, hr g hg⟩⟩
 have h3 := h2 g hg
 obtain ⟨h4, h5⟩ := wt_spec g.body 3000 100 (by omega) (by omega) h3
 exact ⟨by omega, by omega⟩
end Go.AL.Dm
set_option maxRecDepth 100000
namespace Go.AL.Dm
open Go Go.Proofs
abbrev CF (gs : List Nat) (f : Func) := {x : AFun // compileFun Tryz.prog gs f = some x}
-- damask/plain.Reached
-- damask/plain.Check
-- slices.Clone[[]string,string]
-- damask/term.Copy
-- damask/term.Map
-- damask/term.Copy$1
-- damask/damasklaw18.DemandOther
def k6 : CF [0, 1, 4, 5, 6, 7, 8, 9, 10, 11, 12, 26, 75, 79, 104] Tryz.f6 := by
 refine ⟨?_, ?_⟩; rotate_left; cbv; rfl
-- damask/damasklaw18.mod
end Go.AL.Dm
set_option maxRecDepth 100000
namespace Go.AL.Dm
open Go Go.Proofs
def k24 : CF [0, 1, 2] Tryz.f24 := by
 refine ⟨?_, ?_⟩; rotate_left; cbv; rfl
def k25 : CF [0, 1, 2] Tryz.f25 := by
 refine ⟨?_, ?_⟩; rotate_left; cbv; rfl
def k44 : CF [0, 2, 3, 5, 7, 8, 9, 10] Tryz.f44 := by
 refine ⟨?_, ?_⟩; rotate_left; cbv; rfl
def k48 : CF [0, 1, 3] Tryz.f48 := by
 refine ⟨?_, ?_⟩; rotate_left; cbv; rfl
def k26 : CF [0, 1, 3, 4, 5, 6, 7, 8, 10, 11, 12, 28, 39, 41, 12000001] Tryz.f26 := by
 refine ⟨?_, ?_⟩; rotate_left; cbv; rfl
def k5 : CF [0, 1, 3, 4, 5, 6, 7, 8, 10, 11, 15, 21, 42, 82, 86, 98] Tryz.f5 := by
 refine ⟨?_, ?_⟩; rotate_left; cbv; rfl
def chp (t : Pl) : Bool := decide (t.op = 3) || (decide (t.op = 4) || (decide (t.op = 5) || decide (t.op = 1)))
theorem p24 (t : Pl) : PureC Tryz.prog 24 [t.av] (.bool (chp t)) := by
 refine PureC.intro fun s => fun_sound mixed Tryz.func24 Tryz.call24 k24.2 rfl (awpFun_go _ _ _ _ ?_)
 unfold chp
 by_cases h3 : t.op = 3
 ·simp -implicitDefEqProofs (maxSteps:=999999) (disch:=first|omega|simp only[nx4]<;>omega|fail) [k24, h3]
 by_cases h4 : t.op = 4
 ·simp -implicitDefEqProofs (maxSteps:=999999) (disch:=first|omega|simp only[nx4]<;>omega|fail) [k24, h4]
 by_cases h5 : t.op = 5
 ·simp -implicitDefEqProofs (maxSteps:=999999) (disch:=first|omega|simp only[nx4]<;>omega|fail) [k24, h5]
 by_cases h1 : t.op = 1
 ·simp -implicitDefEqProofs (maxSteps:=999999) (disch:=first|omega|simp only[nx4]<;>omega|fail) [k24, h1]
 simp -implicitDefEqProofs (maxSteps:=999999) (disch:=first|omega|simp only[nx4]<;>omega|fail) [k24, h3, h4, h5, h1]
theorem p25 (t : Pl) : PureC Tryz.prog 25 [t.av] (.bool (chp t)) := by
 refine PureC.intro fun s => fun_sound mixed Tryz.func25 Tryz.call25 k25.2 rfl (awpFun_go _ _ _ _ ?_)
 unfold chp
 by_cases h3 : t.op = 3
 ·simp -implicitDefEqProofs (maxSteps:=999999) (disch:=first|omega|simp only[nx4]<;>omega|fail) [k25, h3]
 by_cases h4 : t.op = 4
 ·simp -implicitDefEqProofs (maxSteps:=999999) (disch:=first|omega|simp only[nx4]<;>omega|fail) [k25, h4]
 by_cases h5 : t.op = 5
 ·simp -implicitDefEqProofs (maxSteps:=999999) (disch:=first|omega|simp only[nx4]<;>omega|fail) [k25, h5]
 by_cases h1 : t.op = 1
 ·simp -implicitDefEqProofs (maxSteps:=999999) (disch:=first|omega|simp only[nx4]<;>omega|fail) [k25, h1]
 simp -implicitDefEqProofs (maxSteps:=999999) (disch:=first|omega|simp only[nx4]<;>omega|fail) [k25, h3, h4, h5, h1]
def ddn : List ByteArray → List Gl → List ByteArray
 | L, [] => L
 | L, g :: r => ddn (if g.name ∈ L then L else L ++ [g.name]) r
theorem mem_ddn {x : ByteArray} : ∀ {p : List Gl} {L : List ByteArray}, x ∈ ddn L p ↔ x ∈ L ∨ x ∈ nms p
 | [], L => by simp [ddn, nms]
 | g :: r, L => by
  have := mem_ddn (x := x) (p := r) (L := if g.name ∈ L then L else L ++ [g.name])
  rw [ddn, this, show x ∈ nms (g :: r) ↔ x = g.name ∨ x ∈ nms r by rw [nms, List.map_cons, List.mem_cons]; rfl]
  split
  ·rename_i h
   constructor
   ·rintro (h1 | h1)
    ·exact .inl h1
    ·exact .inr (.inr h1)
   ·rintro (h1 | rfl | h1)
    ·exact .inl h1
    ·exact .inl h
    ·exact .inr h1
  ·rw [List.mem_append, List.mem_singleton, or_assoc]
def I44 (p : List Gl) (s : St) (m : Nat) (g : Env) (s1 : St) : Prop :=
 ∃ (i : Nat) (L : List ByteArray) (es : List (Nat × AV × AV)) (clock : Nat), i ≤ p.length ∧ m = p.length - i ∧ ddn L (p.drop i) = ddn [] p ∧ kset .str es L ∧ g.get 3 = .map s.nx ∧ g.get 7 = .list 6 .none (p.map Gl.av) ∧ g.get 8 = .int .i64 p.length ∧ g.get 9 = .int .i64 i ∧
  s1.m s.nx = some (.map es clock) ∧ Kept s s1 ∧ s.nx < s1.nx
theorem p44 (p : List Gl) (s : St) (hp : p.length ≤ 100000) : ACalls Tryz.prog 44 [.list 6 .none (p.map Gl.av)] s fun r s' => ∃ o es clock, r = .map o ∧ s.nx ≤ o ∧ o < s'.nx ∧ s'.m o = some (.map es clock) ∧ kset .str es (ddn [] p) ∧ Kept s s' := by
 refine fun_sound mixed Tryz.func44 Tryz.call44 k44.2 rfl (awpFun_go _ _ _ _ ?_)
 simp -implicitDefEqProofs (maxSteps:=999999) (disch:=first|omega|simp only[nx4]<;>omega|fail) [k44]
 refine go_loop (I44 p s) p.length ⟨0, [], [], 0, by omega, by omega, rfl, kset_nil _, ?_, ?_, ?_, ?_, ?_, ?_, ?_⟩ ?_
 all_goals (try simp -implicitDefEqProofs (maxSteps:=999999) (disch:=first|omega|simp only[nx4]<;>omega|fail))
 rintro m g S ⟨i, L, es, clock, hi, rfl, hL, hks, e3, e7, e8, e9, j0, hk, hn⟩
 by_cases hlt : i < p.length
 ·have hlt' : (i : Int) < p.length := by omega
  have w3 := wrapS (i := i) (by omega)
  rw [List.drop_eq_getElem_cons hlt, ddn] at hL
  generalize hx : p[i] = x at hL
  obtain ⟨es', clock', k1, u1⟩ := kset_up keq_str x.name hks clock
  simp -implicitDefEqProofs (maxSteps:=999999) (disch:=first|omega|simp only[nx4]<;>omega|fail) [e3, e7, e8, e9, hlt', hlt, hx, j0, u1, w3]
  refine go_next (p.length - (i + 1)) (by omega) ⟨i + 1, _, es', clock', by omega, rfl, hL, k1, ?_, ?_, ?_, ?_, ?_, ?_, ?_⟩
  all_goals (try simp -implicitDefEqProofs (maxSteps:=999999) (disch:=first|omega|simp only[nx4]<;>omega|fail) [e3, e7, e8, hk])
  all_goals (try omega)
 ·have hlt' : ¬ (i : Int) < p.length := by omega
  obtain rfl : i = p.length := by omega
  rw [List.drop_length, ddn] at hL
  subst hL
  simp -implicitDefEqProofs (maxSteps:=999999) (disch:=first|omega|simp only[nx4]<;>omega|fail) [e3, e8, e9, hlt']
  exact ⟨hn, es, ⟨clock, j0⟩, hks, hk⟩
theorem p48 (x : List UInt8) (b o : Nat) (es : List (Nat × AV × AV)) (clock : Nat) (l : List ByteArray) (hk : kset .str es l) (s : St) (hb : s.m b = some (.box [.map o])) (ho : s.m o = some (.map es clock)) :
  ACalls Tryz.prog 48 [.str (ba x), .ptr b 0] s fun r s' => r = .bool (!decide (ba x ∈ l)) ∧ Kept s s' := by
 refine fun_sound mixed Tryz.func48 Tryz.call48 k48.2 rfl (awpFun_go _ _ _ _ ?_)
 have hl := kset_lk keq_str (ba x) hk
 simp -implicitDefEqProofs (maxSteps:=999999) (disch:=first|omega|simp only[nx4]<;>omega|fail) [k48, hb, ho, hl]
theorem p40z (p : List Gl) (hp : GoodP p) (s : St) : ACalls Tryz.prog 40 [.list 6 .none (p.map Gl.av)] s fun r s' => r = .tup [ana (tbD p (fin p).1), .int .i64 (fin p).2] ∧ Kept s s' := by
 refine ACalls.recast (ACalls.mono (p40 p hp s) fun r s' hn h => ?_)
 obtain ⟨oa, og, rfl, h1, h2, h3, h4, h5, h6, hk⟩ := h
 have hne : oa ≠ og := by
  intro e
  rw [e, h6] at h5
  cases h5
 refine ⟨_, delS (delS s'.m og) oa, fun q ob hq => delS_sub _ _ q ob (delS_sub _ _ q ob hq), fun ι w v hwf hv => ?_, rfl, fun q hq => ?_⟩
 ·cases hv with
  | tup hl hr =>
   refine .tup hl fun j u y hu hy => ?_
   match j with
   | 0 =>
    simp at hy; subst hy
    obtain ⟨b, hb, rfl⟩ := rep_ptr (hr 0 u _ hu rfl)
    obtain ⟨vs, e, k1, k2, k3, k4⟩ := hwf.rep oa _ b h5 hb
    have hv0 : 0 < vs.size := k2
    have hr0 := k3 0 vs[0] (.map og) (by simp [hv0]) rfl
    obtain ⟨mb, hmb, hm⟩ := rep_map hr0
    have hfz := frz_rep (kes' := kes (tbD p (fin p).1)) hwf (by rw [h6]; simp [kobj, kes]) hmb (List.Perm.refl _) (fun q hq => by obtain ⟨d, _, rfl⟩ := List.mem_map.1 hq; trivial) (by
     have : (kes (tbD p (fin p).1)).map (·.1) = (nms p).map AV.str := by simp [kes, tbD, nms]
     rw [this]
     exact List.Pairwise.map _ (fun a b h e => h (by injection e)) hp.nd)
    have hst := drop_step (delS s'.m og) (delS (delS s'.m og) oa) (delS_sub _ _) ι w
    refine .cptr (fun _ => vs[0]) rfl (fun j hj => ?_) (fun j x hx => ?_)
    ·have : j = 0 := by simpa using hj
     subst this
     refine ⟨by simp [World.cell?, k1, hv0], ?_, k4 0 _ (by simp) (by simp [hv0])⟩
     rintro ⟨q, ob, q1, q2, q3⟩
     have hq : q ≠ oa := by
      intro e; simp [delS, e] at q1
     have hq2 := delS_sub _ _ q ob (delS_sub _ _ q ob q1)
     exact hq (hwf.inj q oa ob _ b hq2 h5 q2 hb)
    ·match j with
     | 0 => simp at hx; subst hx; rw [hm]; exact hfz.step hst
     | j + 1 => simp at hx
   | 1 =>
    simp at hy; subst hy
    exact plain_int _ _ _ _ _ _ _ _ (hr 1 u _ hu rfl)
   | j + 2 => simp at hy
 ·have q1 : q ≠ oa := by omega
  have q2 : q ≠ og := by omega
  show delS (delS s'.m og) oa q = _
  simp only [delS, q1, q2, if_false]
  exact hk q hq
end Go.AL.Dm
