/- The evaluator: Eval. -/
import Derived.Test.YtlledcnjfgcipaaGreatDoorJ20
import Derived.Test.YtlledcnjfgcipaaGreatDoorF23
import Derived.Test.YtlledcnjfgcipaaGreatDoorJ4s
set_option linter.unusedVariables false
set_option linter.unusedSimpArgs false
set_option maxHeartbeats 4000000
namespace Go.AL.Dm
open Go Go.Proofs
theorem p113 {p:List Gl} {d:Int} {ev:Evf} (hpl:p.length≤1000) (hok:Evok p ev) (hev:EvC p d ev) {e:Pl} (hw:wf e=true):C113 p d ev e:=by
 have hop:=(wf_nd hw).1.op
 rcases (show e.op=1∨e.op=2∨e.op=3∨e.op=4∨e.op=5∨e.op=6∨e.op=7∨e.op=8∨e.op=9 by omega) with h | h | h | h | h | h | h | h | h
 ·exact n1 hok hev h
 ·exact n2 hok hev h hpl
 ·exact n3 h
 ·exact n4 h
 ·exact n5 h
 ·exact n6 hok hev h
 ·exact n7 hok hev h
 ·exact n8 hok hev h
 ·exact n9 hok hev h
theorem ev_step {p:List Gl} (hpl:p.length≤1000) (n:Nat) (hn0:n≤2000) (ih:∀ k,n=k+1→EvC p (2000 - k) (evalW p k)):EvC p (2000 - n) (evalW p n):=by
  intro xo oc σ s e env h hσ he
  refine ACalls.bnd Tryz.call79 fun hbd => ?_
  have hx:=hbd _ _ h.1
  have ho:=hbd _ _ h.2.1
  obtain ⟨h1,h2,h3⟩:=id h
  have h112:=p112
  have hst:=hσ.st
  have hbn:=hσ.bn
  refine ACalls.res (fun_sound mixed Tryz.func79 Tryz.call79 k79.2 rfl (awpFun_go _ _ _ _ ?_))
  by_cases he0:σ.err≠0
  ·have e1:evalW p n e env σ=(.wrong,σ):=by rw [evalW.eq_def];dsimp only;rw [if_pos he0]
   rw [e1]
   simp -implicitDefEqProofs (disch:=first|omega|simp only[nx4]<;>omega|fail) [k79,h1,he0]
   refine go_pure h112 fun mm1 hm1 => ?_
   try simp only [nx4] at hm1
   simp -implicitDefEqProofs (disch:=first|omega|simp only[nx4]<;>omega|fail)
   exact ⟨_,wk_refl _,rfl,.refl h hx ho (by simp -implicitDefEqProofs (disch:=first|omega|simp only[nx4]<;>omega|fail))⟩
  have he1:σ.err=0:=by simpa using he0
  by_cases hs:σ.steps=20000
  ·have e1:evalW p n e env σ=(.wrong,{ σ with err:=7 }):=by rw [evalW.eq_def];dsimp only;rw [if_neg he0,if_pos hs]
   rw [e1]
   simp -implicitDefEqProofs (disch:=first|omega|simp only[nx4]<;>omega|fail) [k79,h1,he1,hs]
   refine go_pure h112 fun mm2 hm2 => ?_
   try simp only [nx4] at hm2
   simp -implicitDefEqProofs (disch:=first|omega|simp only[nx4]<;>omega|fail) [h1,h3]
   refine ⟨_,wk_refl _,rfl,oc,⟨by simp -implicitDefEqProofs (disch:=first|omega|simp only[nx4]<;>omega|fail),by simp -implicitDefEqProofs (disch:=first|omega|simp only[nx4]<;>omega|fail) [h2],h3⟩,.inl rfl,fun q a b c => by simp -implicitDefEqProofs (disch:=first|omega|simp only[nx4]<;>omega|fail)⟩
  have hs':¬ (σ.steps:Int)=20000:=by omega
  have w1:IntKind.i64.wrap ((σ.steps:Int)+1)=(σ.steps+1:Nat):=by rw [w64 _ (by omega) (by omega)];omega
  by_cases hn:n=0
  ·have e1:evalW p n e env σ=(.wrong,{ σ with steps:=σ.steps+1,err:=5 }):=by subst hn;rw [evalW.eq_def];dsimp only;rw [if_neg he0,if_neg hs]
   rw [e1]
   have hd:(2000 - (n:Int))=2000:=by omega
   rw [hd] at h1
   simp -implicitDefEqProofs (disch:=first|omega|simp only[nx4]<;>omega|fail) [k79,h1,h3,he1,hs',w1]
   refine go_pure h112 fun mm3 hm3 => ?_
   try simp only [nx4] at hm3
   simp -implicitDefEqProofs (disch:=first|omega|simp only[nx4]<;>omega|fail) [h1,h3]
   refine ⟨_,wk_refl _,rfl,oc,⟨by simp -implicitDefEqProofs (disch:=first|omega|simp only[nx4]<;>omega|fail) [hd],by simp -implicitDefEqProofs (disch:=first|omega|simp only[nx4]<;>omega|fail) [h2],h3⟩,.inl rfl,fun q a b c => by simp -implicitDefEqProofs (disch:=first|omega|simp only[nx4]<;>omega|fail)⟩
  ·obtain ⟨k,rfl⟩:∃ k,n=k+1:=⟨n - 1,by omega⟩
   have e1:evalW p (k+1) e env σ=nodeW p (evalW p k) e env { σ with steps:=σ.steps+1 }:=by rw [evalW.eq_def];dsimp only;rw [if_neg he0,if_neg hs]
   rw [e1]
   have ih:=ih k rfl
   have hok:=eval_ok (p:=p) k
   have hd:¬ (2000 - ((k+1:Nat):Int))=2000:=by omega
   have hd2:IntKind.i64.wrap (2000 - ((k+1:Nat):Int)+1)=2000 - (k:Int):=by rw [w64 _ (by omega) (by omega)];omega
   have hd3:IntKind.i64.wrap (2000 - (k:Int) - 1)=2000 - ((k+1:Nat):Int):=by rw [w64 _ (by omega) (by omega)];omega
   generalize (2000 - ((k+1:Nat):Int))=d1 at *
   generalize (2000 - (k:Int))=d2 at *
   generalize hev:evalW p k=ev at *
   have hσ1:OKs p { σ with steps:=σ.steps+1 }:=⟨hσ.ce,hσ.pl,by show σ.cells.length≤400+13 * (σ.steps+1);omega,by show σ.steps+1≤20000;omega⟩
   have z1:({ σ with steps:=σ.steps+1 }:Sg).cells=σ.cells:=rfl
   have z2:({ σ with steps:=σ.steps+1 }:Sg).steps=σ.steps+1:=rfl
   have z3:({ σ with steps:=σ.steps+1 }:Sg).err=0:=he1
   clear e1
   generalize ({ σ with steps:=σ.steps+1 }:Sg)=ρ at *
   simp -implicitDefEqProofs (disch:=first|omega|simp only[nx4]<;>omega|fail) [k79,h1,h3,he1,hs',w1,hd,hd2]
   refine go_calls (monoB (p113 hpl hok ih he.wf xo oc ρ _ env ⟨by simp -implicitDefEqProofs (disch:=first|omega|simp only[nx4]<;>omega|fail) [z1,z2,z3],by simp -implicitDefEqProofs (disch:=first|omega|simp only[nx4]<;>omega|fail) [h2,z1],h3⟩ hσ1 (by rw [z1];exact he) (by rw [z1,z2];omega)) fun r s' hn hbd' h' => go_of ?_)
   obtain ⟨rfl,oc2,hS2,k2,k3⟩:=h'
   have hx2:=hbd' _ _ hS2.1
   have ho2:=hbd' _ _ hS2.2.1
   generalize nodeW p ev e env ρ=r at *
   obtain ⟨o,τ⟩:=r
   obtain ⟨j1,j2,j3⟩:=hS2
   simp only at j1 j2
   simp -implicitDefEqProofs (disch:=first|omega|simp only[nx4]<;>omega|fail) at hn k2
   have q2:=k3 (s.nx+1) (by simp -implicitDefEqProofs (disch:=first|omega|simp only[nx4]<;>omega|fail) <;> omega) (by omega) (by omega)
   simp -implicitDefEqProofs (disch:=first|omega|simp only[nx4]<;>omega|fail) at q2
   simp -implicitDefEqProofs (disch:=first|omega|simp only[nx4]<;>omega|fail) [j1,j2,j3,q2,hd3]
   refine ⟨_,wk_refl _,rfl,oc2,⟨by simp -implicitDefEqProofs (disch:=first|omega|simp only[nx4]<;>omega|fail),by simp -implicitDefEqProofs (disch:=first|omega|simp only[nx4]<;>omega|fail) [j2],j3⟩,by omega,fun q a b c => by
    have e1:=k3 q (by simp -implicitDefEqProofs (disch:=first|omega|simp only[nx4]<;>omega|fail) <;> omega) b c
    simp -implicitDefEqProofs (disch:=first|omega|simp only[nx4]<;>omega|fail) at e1
    simp -implicitDefEqProofs (disch:=first|omega|simp only[nx4]<;>omega|fail) [e1]⟩
theorem p79 {p:List Gl} (hpl:p.length≤1000):∀ (n:Nat),n≤2000→EvC p (2000 - n) (evalW p n):=by
 intro n
 induction n with
 | zero => exact fun hn => ev_step hpl 0 hn fun k hk => by omega
 | succ n ih =>
  intro hn
  have ih1:=ih (by omega)
  refine ev_step hpl (n+1) hn fun k hk => ?_
  have hkn:n=k:=by omega
  subst hkn
  exact ih1
end Go.AL.Dm
set_option maxRecDepth 100000
namespace Go.AL.Dm
open Go Go.Proofs
-- damask/damasklaw18.DemandSound
def k3:CF [0,1,2,3,8,9,10,11,12,13,14,28,43,66,79,96,115,118,129,150] Tryz.f3:=by
 refine ⟨?_,?_⟩;rotate_left;cbv;rfl
-- damask/damasklaw18.valued
def k16:CF [0,1,3,4,5,7] Tryz.f16:=by
 refine ⟨?_,?_⟩;rotate_left;cbv;rfl
-- damask/damaskref17.Call
def k17:CF [0,1,4,5,6,11] Tryz.f17:=by
 refine ⟨?_,?_⟩;rotate_left;cbv;rfl
-- damask/damasklaw18.without
def k18:CF [0,2,3,6,7,12,18] Tryz.f18:=by
 refine ⟨?_,?_⟩;rotate_left;cbv;rfl
-- damask/damaskref17.Full
def k39:CF [0,1,2,4,6,7,8,9,10,23] Tryz.f39:=by
 refine ⟨?_,?_⟩;rotate_left;cbv;rfl
-- damask/damaskref15.Free
end Go.AL.Dm
set_option maxHeartbeats 4000000
namespace Go.AL.Dm
open Go Go.Proofs
def StoV (p:List Gl) (gv cv:AV) (xo:Nat) (s:St):Prop:=s.m xo=some (.box [.list 6 .none (p.map Gl.av),cv,gv,.int .i64 0,.int .i64 0,.int .i64 0])
theorem hold_v {p:List Gl} {gv:AV} {xo oc:Nat} {l:List Ce} {s:St} (h1:StoV p gv (.mref 17 oc 0 l.length) xo s) (h2:s.m oc=some (.box (flat (l.map Ce.av)))) (h3:xo≠oc) (hb:l.length≤1000000) (c:Pl) :
  ACalls Tryz.prog 110 [.ptr xo 0,c.av,.list 1 .none (nl [])] s fun r s' => r=.int .i64 l.length∧∃ oc',StoV p gv (.mref 17 oc' 0 (l.length+1)) xo s'∧s'.m oc'=some (.box (flat ((l++[Ce.hold c []]).map Ce.av)))∧xo≠oc'∧s.nx≤oc'∧∀ q,q < s.nx→q≠xo→q≠oc→s'.m q=s.m q:=by
 refine ACalls.bnd Tryz.call110 fun hbd => ?_
 have hx:=hbd _ _ h1
 have ho:=hbd _ _ h2
 unfold StoV at h1 ⊢
 have hf:=flat_ces l
 refine ACalls.res (ACalls.stow (ACalls.mono (K:=fun r s' => wk r (.int .i64 l.length)∧∃ oc' bs,s'.m oc'=some (.box bs)∧s'.m xo=some (.box [.list 6 .none (p.map Gl.av),.mref 17 oc' 0 (l.length+1),gv,.int .i64 0,.int .i64 0,.int .i64 0])∧wkL bs (flat ((l++[Ce.hold c []]).map Ce.av))∧xo≠oc'∧s.nx≤oc'∧∀ q,q < s.nx→q≠xo→q≠oc→s'.m q=s.m q)
  (fun_sound mixed Tryz.func110 Tryz.call110 k110.2 rfl (awpFun_go _ _ _ _ ?_)) fun r s' hn ⟨hr,oc',bs,h1,h2,h3,h4,h5,h6⟩ => ?_))
 ·simp -implicitDefEqProofs (disch:=first|omega|simp only[nx4]<;>omega|fail) [k110,fillAV,h1,h2,h3,hf]
  intro m hm
  have w1:IntKind.i64.wrap (l.length:Int)=l.length:=w64 _ (by omega) (by omega)
  refine ⟨w1,s.nx+1,?bs,?h1,rfl,?h2,by omega,by omega,fun q a b e => ?h3⟩
  case h1 =>
   rw [St.set_ne _ _ _ _ (by omega)]
   exact St.new_eq _ _
  case h2 =>
   simp only [List.map_append,List.map_cons,List.map_nil,flat_append,flat_cons,flat_nil]
   refine wkL_end ?_ _
   simp [Ce.av,Ce.cs,ccs,ocs,z0,eS,Pl.op,Pl.n,Pl.s,Pl.args,Pl.alts]
  case h3 => rw [St.set_ne _ _ _ _ b,St.new_ne _ _ _ (by show q≠s.nx+1;omega),St.del_ne _ _ _ e,St.new_ne _ _ _ (by omega)]
 ·refine ⟨fun q => if q=oc' then some (.box (flat ((l++[Ce.hold c []]).map Ce.av))) else s'.m q,fun o ob ho => ?_,.int .i64 l.length,hr,rfl,oc',?_,by simp,h4,h5,fun q h7 h8 h9 => ?_⟩
  ·by_cases e:o=oc'
   ·subst e
    simp only [if_true] at ho
    cases ho
    exact .inr ⟨bs,_,h1,rfl,h3⟩
   ·simp only [if_neg e] at ho
    exact .inl ho
  ·simp only [if_neg h4];exact h2
  ·have:q≠oc':=by omega
   simp only [if_neg this]
   exact h6 q h7 h8 h9
theorem hold_0 {p:List Gl} {gv:AV} {xo:Nat} {s:St} (h1:StoV p gv (.list 0 .full []) xo s) (c:Pl) :
  ACalls Tryz.prog 110 [.ptr xo 0,c.av,.list 1 .none (nl [])] s fun r s' => r=.int .i64 0∧∃ oc',StoV p gv (.mref 17 oc' 0 1) xo s'∧s'.m oc'=some (.box (flat ([Ce.hold c []].map Ce.av)))∧xo≠oc'∧s.nx≤oc'∧∀ q,q < s.nx→q≠xo→s'.m q=s.m q:=by
 refine ACalls.bnd Tryz.call110 fun hbd => ?_
 have hx:=hbd _ _ h1
 have hnn:s.m s.nx=none:=by
  cases hc:s.m s.nx with
  | none => rfl
  | some ob => have:=hbd _ _ hc;omega
 refine ACalls.pre (s1:=(s.set xo (.box [.list 6 .none (p.map Gl.av),.mref 17 s.nx 0 0,gv,.int .i64 0,.int .i64 0,.int .i64 0])).new (.box [])) (by simp) (fun o ob ho => ?_) (fun o ob ho => ?_)
  (ACalls.mono (hold_v (p:=p) (gv:=gv) (xo:=xo) (oc:=s.nx) (l:=[]) ?_ ?_ (by omega) (by simp) c) fun r s' hn ⟨hr,oc',k1,k2,k3,k4,k5⟩ => ⟨hr,oc',k1,k2,k3,?_,fun q a b => ?_⟩)
 ·by_cases e:o=s.nx
  ·subst e
   exact .inr (.inr ⟨hnn,Nat.le_refl _,by simp⟩)
  ·rw [St.new_ne _ _ _ (by simpa using e)] at ho
   by_cases e2:o=xo
   ·subst e2
    rw [St.set_eq] at ho
    cases ho
    refine .inr (.inl ⟨_,_,h1,rfl,⟨.inl (wk_refl _),.inr ⟨rfl,_,_,rfl⟩,.inl (wk_refl _),.inl (wk_refl _),.inl (wk_refl _),.inl (wk_refl _),trivial⟩⟩)
   ·rw [St.set_ne _ _ _ _ e2] at ho
    exact .inl ho
 ·by_cases e:o=s.nx
  ·subst e;rw [hnn] at ho;cases ho
  ·rw [St.new_ne _ _ _ (by simpa using e)]
   by_cases e2:o=xo
   ·subst e2;exact ⟨_,St.set_eq _ _ _⟩
   ·exact ⟨ob,by rw [St.set_ne _ _ _ _ e2];exact ho⟩
 ·unfold StoV
  rw [St.new_ne _ _ _ (by simp;omega)]
  exact St.set_eq _ _ _
 ·exact St.new_eq _ _
 ·simp at k4;omega
 ·rw [k5 q (by simp;omega) b (by omega),St.new_ne _ _ _ (by simp;omega),St.set_ne _ _ _ _ b]
end Go.AL.Dm
set_option maxHeartbeats 4000000
namespace Go.AL.Dm
open Go Go.Proofs
def cel (p:List Gl) (i:Nat):List Ce:=(p.take i).map fun g => .hold g.body []
def I77 (p:List Gl) (s:St) (m:Nat) (g:Env) (s1:St):Prop :=
 ∃ (i:Nat) (gv cv:AV),i≤p.length∧m=p.length - i∧g.get 0=.list 6 .none (p.map Gl.av)∧g.get 3=.ptr s.nx 0∧g.get 4=.int .i64 i∧StoV p gv cv s.nx s1∧TokS s1 1 (s.nx+1) gv (nl (List.range i)) ∧
  ((i=0∧cv=.list 0 .full [])∨∃ oc,cv=.mref 17 oc 0 i∧s1.m oc=some (.box (flat ((cel p i).map Ce.av)))∧s.nx < oc∧oc < s1.nx)∧(∀ q,q < s.nx→s1.m q=s.m q)∧s.nx+1≤s1.nx
theorem hold_n {p:List Gl} {gv cv:AV} {xo b:Nat} {i:Nat} {s:St} (h1:StoV p gv cv xo s) (hc:(i=0∧cv=.list 0 .full [])∨∃ oc,cv=.mref 17 oc 0 i∧s.m oc=some (.box (flat ((cel p i).map Ce.av)))∧xo < oc∧oc < s.nx) (hb:i < p.length) (hpl:p.length≤1000) :
  ACalls Tryz.prog 110 [.ptr xo 0,(p[i].body).av,.list 1 .none (nl [])] s fun r s' => r=.int .i64 i∧∃ oc',StoV p gv (.mref 17 oc' 0 (i+1)) xo s'∧s'.m oc'=some (.box (flat ((cel p (i+1)).map Ce.av)))∧xo≠oc'∧s.nx≤oc'∧∀ q,q < s.nx→q≠xo→(∃ n,s.m q=some (.spare n))∨q < xo→s'.m q=s.m q:=by
 have he:cel p (i+1)=cel p i++[Ce.hold p[i].body []]:=by rw [cel,List.take_succ_eq_append_getElem hb,List.map_append];rfl
 have hlen:(cel p i).length=i:=by simp [cel];omega
 rw [he]
 rcases hc with ⟨rfl,rfl⟩ | ⟨oc,rfl,h2,h3,h4⟩
 ·refine ACalls.mono (hold_0 h1 _) fun r s' hn ⟨hr,oc',k1,k2,k3,k4,k5⟩ => ⟨hr,oc',k1,?_,k3,k4,fun q a b _ => k5 q a b⟩
  simpa [cel] using k2
 ·have hv:=hold_v (l:=cel p i) (oc:=oc) (by rw [hlen];exact h1) h2 (by omega) (by omega) p[i].body
  rw [hlen] at hv
  refine ACalls.mono hv fun r s' hn ⟨hr,oc',k1,k2,k3,k4,k5⟩ => ⟨hr,oc',k1,k2,k3,k4,fun q a b c => k5 q a b ?_⟩
  rcases c with ⟨n,c⟩ | c
  ·rintro rfl;rw [h2] at c;cases c
  ·omega
theorem p77' {p:List Gl} (hp0:0 < p.length) (hpl:p.length≤1000) (s:St):ACalls Tryz.prog 77 [.list 6 .none (p.map Gl.av)] s fun r s' => r=.ptr s.nx 0∧∃ oc gv,StoV p gv (.mref 17 oc 0 p.length) s.nx s'∧s'.m oc=some (.box (flat ((cel p p.length).map Ce.av)))∧wk gv (.list 1 .none (nl (gls0 p)))∧s.nx < oc∧∀ q,q < s.nx→s'.m q=s.m q:=by
 refine fun_sound mixed Tryz.func77 Tryz.call77 k77.2 rfl (awpFun_go _ _ _ _ ?_)
 simp -implicitDefEqProofs (disch:=first|omega|simp only[nx4]<;>omega|fail) [k77]
 refine go_loop (I77 p s) p.length ⟨0,.list 0 .full [],.list 0 .full [],by omega,by omega,?_,?_,?_,?_,.inl ⟨rfl,rfl⟩,.inl ⟨rfl,rfl⟩,?_,?_⟩ ?_
 iterate 3 (try simp -implicitDefEqProofs (disch:=first|omega|simp only[nx4]<;>omega|fail))
 ·unfold StoV;simp -implicitDefEqProofs (disch:=first|omega|simp only[nx4]<;>omega|fail)
 ·exact fun q a => by simp -implicitDefEqProofs (disch:=first|omega|simp only[nx4]<;>omega|fail)
 ·simp -implicitDefEqProofs (disch:=first|omega|simp only[nx4]<;>omega|fail)
 rintro m g s1 ⟨i,gv,cv,hi,rfl,g0,g3,g4,hS,ht,hc,hk,hnx⟩
 by_cases hlt:i < p.length
 ·have hlt':(i:Int) < p.length:=by omega
  have hget:(p.map Gl.av)[i]?=some p[i].av:=by simp [hlt]
  have w3:IntKind.i64.wrap ((i:Int)+1)=(i+1:Nat):=by rw [w64 _ (by omega) (by omega)];omega
  have hc':(i=0∧cv=.list 0 .full [])∨∃ oc,cv=.mref 17 oc 0 i∧s1.m oc=some (.box (flat ((cel p i).map Ce.av)))∧s.nx < oc∧oc < s1.nx:=hc
  simp -implicitDefEqProofs (disch:=first|omega|simp only[nx4]<;>omega|fail) [g0,g3,g4,hlt',hlt,hget]
  refine go_calls (monoB (ACalls.argw (args':=[.ptr s.nx 0,(p[i].body).av,.list 1 .none (nl [])]) (hold_n (b:=0) hS hc hlt hpl) (by simp)) fun r s2 hn2 hbd2 h2' => go_of ?_)
  obtain ⟨rfl,oc2,hS2,k2,k3,k4,k5⟩:=h2'
  have ht2:TokS s2 1 (s.nx+1) gv (nl (List.range i)):=ht.move hn2 fun q a b c => k5 q b (by omega) (.inl c)
  have ho2:=hbd2 _ _ k2
  have hb2:=hS2
  unfold StoV at hb2
  simp -implicitDefEqProofs (disch:=first|omega|simp only[nx4]<;>omega|fail) [g0,g3,g4,hb2]
  refine ap_tok ht2 ?_ ?_ (by omega) fun v' s3 ht' hn3 hk3 => ?_
  ·simp;omega
  ·simp;omega
  have e9:nl (List.range i)++[AV.int .i64 ((i:Nat):Int)]=nl (List.range (i+1)):=by rw [List.range_succ,nl_app];rfl
  rw [e9] at ht'
  have hb3:=hk3 s.nx (by omega) (.inl (by omega))
  rw [hb2] at hb3
  have ho3:=hk3 oc2 ho2 (.inr fun n hc => by rw [k2] at hc;cases hc)
  rw [k2] at ho3
  obtain ⟨gvv,gvc⟩:=ht'.val
  simp -implicitDefEqProofs (disch:=first|omega|simp only[nx4]<;>omega|fail) [g0,g3,g4,hb3,gvv,gvc,w3]
  refine go_next (p.length - (i+1)) (by omega) ⟨i+1,v',_,by omega,rfl,?_,?_,?_,?_,ht'.move (by simp -implicitDefEqProofs (disch:=first|omega|simp only[nx4]<;>omega|fail)) fun q a b c => ?_,.inr ⟨oc2,rfl,?_,?_,?_⟩,fun q a => ?_,?_⟩
  ·simp -implicitDefEqProofs (disch:=first|omega|simp only[nx4]<;>omega|fail) [g0]
  ·simp -implicitDefEqProofs (disch:=first|omega|simp only[nx4]<;>omega|fail) [g3]
  ·simp -implicitDefEqProofs (disch:=first|omega|simp only[nx4]<;>omega|fail)
  ·unfold StoV;simp -implicitDefEqProofs (disch:=first|omega|simp only[nx4]<;>omega|fail)
  ·simp -implicitDefEqProofs (disch:=first|omega|simp only[nx4]<;>omega|fail)
  ·simp -implicitDefEqProofs (disch:=first|omega|simp only[nx4]<;>omega|fail) [ho3]
  ·omega
  ·simp -implicitDefEqProofs (disch:=first|omega|simp only[nx4]<;>omega|fail);omega
  ·simp -implicitDefEqProofs (disch:=first|omega|simp only[nx4]<;>omega|fail) [hk3 q (by omega) (.inl (by omega)),k5 q (by omega) (by omega) (.inr a),hk q a]
  ·simp -implicitDefEqProofs (disch:=first|omega|simp only[nx4]<;>omega|fail);omega
 ·obtain rfl:i=p.length:=by omega
  simp -implicitDefEqProofs (disch:=first|omega|simp only[nx4]<;>omega|fail) [g0,g3,g4]
  rcases hc with ⟨h0,_⟩ | ⟨oc,rfl,h2,h3,h4⟩
  ·omega
  ·exact ⟨oc,gv,hS,h2,ht.wk (wkL_refl _),h3,hk⟩
theorem cel_all (p:List Gl):cel p p.length=(start p).cells:=by simp [cel,start]
theorem p77 {p:List Gl} (hp0:0 < p.length) (hpl:p.length≤1000) (s:St):ACalls Tryz.prog 77 [.list 6 .none (p.map Gl.av)] s fun r s' => ∃ oc,r=.ptr s.nx 0∧Sto p (gls0 p) s.nx oc (start p) 0 s'∧s.nx < oc∧∀ q,q < s.nx→s'.m q=s.m q:=by
 refine ACalls.stow (ACalls.mono (p77' hp0 hpl s) fun r s' hn ⟨hr,oc,gv,h1,h2,h3,h4,h5⟩ => ?_)
 have hl:(start p).cells.length=p.length:=by simp [start]
 refine ⟨fun q => if q=s.nx then some (.box [.list 6 .none (p.map Gl.av),.mref 17 oc 0 (start p).cells.length,.list 1 .none (nl (gls0 p)),.int .i64 0,.int .i64 0,.int .i64 0]) else s'.m q,fun o ob ho => ?_,oc,hr,⟨by show (if s.nx=s.nx then _ else _)=_;rw [if_pos rfl];rfl,?_,by omega⟩,h4,fun q a => ?_⟩
 ·by_cases e:o=s.nx
  ·subst e
   simp only [if_true] at ho
   cases ho
   refine .inr ⟨_,_,h1,rfl,⟨wk_refl _,by rw [hl];exact wk_refl _,h3,wk_refl _,wk_refl _,wk_refl _,trivial⟩⟩
  ·simp only [if_neg e] at ho
   exact .inl ho
 ·have:oc≠s.nx:=by omega
  simp only [if_neg this]
  rw [h2,cel_all]
 ·have:q≠s.nx:=by omega
  simp only [if_neg this]
  exact h5 q a
end Go.AL.Dm
set_option maxHeartbeats 4000000
namespace Go.AL.Dm
open Go Go.Proofs
def val0 (k n:Int):AV:=.agg [.int .i64 k,.int .i64 n,.str ⟨⟨[]⟩⟩,.list 0 .full []]
def shE (σ:Sg):Int:=if σ.err=0∧σ.steps=20000 then 7 else σ.err
def shS (σ:Sg):Sg:={ σ with steps:=σ.steps+1,err:=shE σ }
def Ot.kd:Ot→Int
 | .thr _ => 5
 | .wrong => 7
 | .int _ => 6
 | .con _ _ => 6
 | .act _ _ => 6
 | .fn _ _ _ => 6
def Ot.nn:Ot→Int
 | .thr n => n
 | .wrong => 0
 | .int _ => 0
 | .con _ _ => 0
 | .act _ _ => 0
 | .fn _ _ _ => 0
def shK (o:Ot) (σ:Sg):Int:=if shE σ≠0 then 0 else o.kd
def shN (o:Ot) (σ:Sg):Int:=if shE σ≠0 then 0 else o.nn
theorem kind_of (o:Ot):∃ k n t l c env,o.cs=ocs k n t l c env∧((k=5∧o=.thr n)∨(k=7∧o=.wrong)∨(k≠5∧k≠7∧o.val=true)):=by
 cases o with
 | thr n => exact ⟨_,_,_,_,_,_,rfl,.inl ⟨rfl,rfl⟩⟩
 | wrong => exact ⟨_,_,_,_,_,_,rfl,.inr (.inl ⟨rfl,rfl⟩)⟩
 | _ => exact ⟨_,_,_,_,_,_,rfl,.inr (.inr ⟨by decide,by decide,rfl⟩)⟩
theorem shK_val {o:Ot} (h:o.val=true) (σ:Sg) (he:shE σ=0):shK o σ=6∧shN o σ=0:=by
 rw [shK,shN,if_neg (by simp [he]),if_neg (by simp [he])]
 cases o <;> first | exact ⟨rfl,rfl⟩ | simp [Ot.val] at h
theorem p78 {p:List Gl} {gl:List Nat} {xo oc:Nat} {σ:Sg} {d:Int} {s:St} (h:Sto p gl xo oc σ d s) (hst:σ.steps≤20000) (o:Ot) :
  ACalls Tryz.prog 78 [.ptr xo 0,o.av,.int .i64 0] s fun r s' => r=val0 (shK o σ) (shN o σ)∧StoK p gl xo oc (shS σ) d s s':=by
 refine ACalls.bnd Tryz.call78 fun hbd => ?_
 have hx:=hbd _ _ h.1
 have ho:=hbd _ _ h.2.1
 obtain ⟨h1,h2,h3⟩:=id h
 have w1:IntKind.i64.wrap ((σ.steps:Int)+1)=(σ.steps+1:Nat):=by rw [w64 _ (by omega) (by omega)];omega
 refine fun_sound mixed Tryz.func78 Tryz.call78 k78.2 rfl (awpFun_go _ _ _ _ ?_)
 by_cases he:shE σ=0
 ·have he0:σ.err=0∧σ.steps≠20000:=by
   unfold shE at he
   split at he
   ·omega
   ·rename_i hn;exact ⟨he,fun k => hn ⟨he,k⟩⟩
  have hs':¬ (σ.steps:Int)=20000:=by omega
  have hSS:(shS σ).cells=σ.cells∧(shS σ).steps=σ.steps+1∧(shS σ).err=0:=⟨rfl,rfl,he⟩
  obtain ⟨z1,z2,z3⟩:=hSS
  generalize shS σ=σ2 at *
  obtain ⟨k,n,t,l,c,env,hcs,hk⟩:=kind_of o
  rcases hk with ⟨rfl,rfl⟩ | ⟨rfl,rfl⟩ | ⟨hk1,hk2,hv⟩
  ·have e1:shK (.thr n) σ=5∧shN (.thr n) σ=n:=by rw [shK,shN,if_neg (by simp [he]),if_neg (by simp [he])];exact ⟨rfl,rfl⟩
   rw [e1.1,e1.2]
   simp -implicitDefEqProofs (disch:=first|omega|simp only[nx4]<;>omega|fail) [k78,h1,h3,hcs,ocs,he0.1,hs',w1]
   exact ⟨rfl,oc,⟨by simp -implicitDefEqProofs (disch:=first|omega|simp only[nx4]<;>omega|fail) [z1,z2,z3],by simp -implicitDefEqProofs (disch:=first|omega|simp only[nx4]<;>omega|fail) [h2,z1],h3⟩,.inl rfl,fun q a b c => by simp -implicitDefEqProofs (disch:=first|omega|simp only[nx4]<;>omega|fail)⟩
  ·have e1:shK .wrong σ=7∧shN .wrong σ=0:=by rw [shK,shN,if_neg (by simp [he]),if_neg (by simp [he])];exact ⟨rfl,rfl⟩
   rw [e1.1,e1.2]
   simp -implicitDefEqProofs (disch:=first|omega|simp only[nx4]<;>omega|fail) [k78,h1,h3,hcs,ocs,he0.1,hs',w1]
   exact ⟨rfl,oc,⟨by simp -implicitDefEqProofs (disch:=first|omega|simp only[nx4]<;>omega|fail) [z1,z2,z3],by simp -implicitDefEqProofs (disch:=first|omega|simp only[nx4]<;>omega|fail) [h2,z1],h3⟩,.inl rfl,fun q a b c => by simp -implicitDefEqProofs (disch:=first|omega|simp only[nx4]<;>omega|fail)⟩
  ·have e1:=shK_val hv σ he
   rw [e1.1,e1.2]
   simp -implicitDefEqProofs (disch:=first|omega|simp only[nx4]<;>omega|fail) [k78,h1,h3,hcs,ocs,he0.1,hs',w1,hk1,hk2]
   exact ⟨rfl,oc,⟨by simp -implicitDefEqProofs (disch:=first|omega|simp only[nx4]<;>omega|fail) [z1,z2,z3],by simp -implicitDefEqProofs (disch:=first|omega|simp only[nx4]<;>omega|fail) [h2,z1],h3⟩,.inl rfl,fun q a b c => by simp -implicitDefEqProofs (disch:=first|omega|simp only[nx4]<;>omega|fail)⟩
 ·have e1:shK o σ=0∧shN o σ=0:=by rw [shK,shN,if_pos he,if_pos he];exact ⟨rfl,rfl⟩
  rw [e1.1,e1.2]
  have hSS:(shS σ).cells=σ.cells∧(shS σ).steps=σ.steps+1∧(shS σ).err=shE σ:=⟨rfl,rfl,rfl⟩
  obtain ⟨z1,z2,z3⟩:=hSS
  generalize shS σ=σ2 at *
  unfold shE at he z3
  by_cases hc:σ.err=0∧σ.steps=20000
  ·rw [if_pos hc] at z3
   have w2:IntKind.i64.wrap 20001=20001:=by decide
   simp -implicitDefEqProofs (disch:=first|omega|simp only[nx4]<;>omega|fail) [k78,h1,h3,hc.1,hc.2]
   exact ⟨rfl,oc,⟨by simp -implicitDefEqProofs (disch:=first|omega|simp only[nx4]<;>omega|fail) [z1,z2,z3,hc.2,w2],by simp -implicitDefEqProofs (disch:=first|omega|simp only[nx4]<;>omega|fail) [h2,z1],h3⟩,.inl rfl,fun q a b c => by simp -implicitDefEqProofs (disch:=first|omega|simp only[nx4]<;>omega|fail)⟩
  ·rw [if_neg hc] at z3 he
   simp -implicitDefEqProofs (disch:=first|omega|simp only[nx4]<;>omega|fail) [k78,h1,h3,he,w1]
   exact ⟨rfl,oc,⟨by simp -implicitDefEqProofs (disch:=first|omega|simp only[nx4]<;>omega|fail) [z1,z2,z3],by simp -implicitDefEqProofs (disch:=first|omega|simp only[nx4]<;>omega|fail) [h2,z1],h3⟩,.inl rfl,fun q a b c => by simp -implicitDefEqProofs (disch:=first|omega|simp only[nx4]<;>omega|fail)⟩
def fullR (p:List Gl) (e:Pl):AV:=if shE (run p e).2=0 then .tup [val0 (shK (run p e).1 (run p e).2) (shN (run p e).1 (run p e).2),.int .i64 ((run p e).2.steps+1:Nat),.int .i64 0] else .tup [val0 0 0,.int .i64 0,.int .i64 (shE (run p e).2)]
theorem p39 {p:List Gl} (hp0:0 < p.length) (hpl:p.length≤1000) (hst:OKs p (start p)) {e:Pl} (he:okE p e [] p.length):PureC Tryz.prog 39 [.list 6 .none (p.map Gl.av),e.av,.int .i64 0] (fullR p e):=by
 refine PureC.intro fun s => fun_sound mixed Tryz.func39 Tryz.call39 k39.2 rfl (awpFun_go _ _ _ _ ?_)
 have hev:=p79 hpl 2000 (by omega)
 rw [show (2000 - ((2000:Nat):Int))=0 by omega] at hev
 have hok:=eval_ok (p:=p) 2000
 have hr:=hok e [] (start p) hst (by simpa [start] using he)
 generalize hrn:evalW p 2000=ev at *
 have hrun:run p e=ev e [] (start p):=by rw [run,hrn]
 simp -implicitDefEqProofs (disch:=first|omega|simp only[nx4]<;>omega|fail) [k39]
 refine go_calls (monoB (p77 hp0 hpl _) fun r s1 hn1 hbd1 h1' => go_of ?_)
 obtain ⟨oc,rfl,hS,hoc,hk⟩:=h1'
 simp -implicitDefEqProofs (disch:=first|omega|simp only[nx4]<;>omega|fail) at hn1 hoc hk hS
 have b1:s1.m s.nx=some (.box [.int .i64 e.op,.int .i64 e.n,.str e.s,.list 5 .none (e.args.map Pl.av),.list 8 .none (e.alts.map Pl.altv)]):=by
  rw [hk s.nx (by omega)];simp -implicitDefEqProofs (disch:=first|omega|simp only[nx4]<;>omega|fail)
 have b2:s1.m (s.nx+1)=some (.box [.int .i64 0,.int .i64 0,.str ⟨⟨[]⟩⟩,.list 0 .full []]):=by
  rw [hk (s.nx+1) (by omega)];simp -implicitDefEqProofs (disch:=first|omega|simp only[nx4]<;>omega|fail)
 have hx1:=hbd1 _ _ hS.1
 simp -implicitDefEqProofs (disch:=first|omega|simp only[nx4]<;>omega|fail) [b1]
 refine go_calls (monoB (ACalls.argw (args':=[.ptr (s.nx+1+1) 0,e.av,.list 1 .none (nl [])]) (hev _ _ (start p) _ e [] hS hst (by simpa [start] using he)) (by simp)) fun r s2 hn2 hbd2 h2' => go_of ?_)
 obtain ⟨rfl,oc2,hS2,k2,k3⟩:=h2'
 have c1:=k3 s.nx (by omega) (by omega) (by omega)
 have c2:=k3 (s.nx+1) (by omega) (by omega) (by omega)
 rw [b1] at c1
 rw [b2] at c2
 have hst2:=hr.ok.st
 rw [fullR,hrun]
 generalize ev e [] (start p)=r at *
 obtain ⟨o,τ⟩:=r
 simp -implicitDefEqProofs (disch:=first|omega|simp only[nx4]<;>omega|fail) [c1]
 refine go_calls (monoB (p78 hS2 hst2 o) fun r s3 hn3 hbd3 h3' => go_of ?_)
 obtain ⟨rfl,oc3,⟨j1,j2,j3⟩,k5,k6⟩:=h3'
 have d1:=k6 s.nx (by omega) (by omega) (by omega)
 have d2:=k6 (s.nx+1) (by omega) (by omega) (by omega)
 rw [c1] at d1
 rw [c2] at d2
 have z2:(shS τ).steps=τ.steps+1:=rfl
 have z3:(shS τ).err=shE τ:=rfl
 rw [z2,z3] at j1
 have hq:∀ q,q < s.nx→s3.m q=s.m q:=fun q a => by
  rw [k6 q (by omega) (by omega) (by omega),k3 q (by omega) (by omega) (by omega),hk q (by omega)];simp -implicitDefEqProofs (disch:=first|omega|simp only[nx4]<;>omega|fail)
 by_cases hz:shE τ=0
 ·rw [if_pos hz]
  rw [hz] at j1
  simp -implicitDefEqProofs (disch:=first|omega|simp only[nx4]<;>omega|fail) [j1,d2,val0]
  exact fun m hm => hq
 ·rw [if_neg hz]
  simp -implicitDefEqProofs (disch:=first|omega|simp only[nx4]<;>omega|fail) [j1,d2,hz,val0]
  exact fun m hm => hq
theorem p16 {p:List Gl} (hp0:0 < p.length) (hpl:p.length≤1000) (hst:OKs p (start p)) {e:Pl} (he:okE p e [] p.length):PureC Tryz.prog 16 [.list 6 .none (p.map Gl.av),e.av] (.bool (vald p e)):=by
 refine PureC.intro fun s => fun_sound mixed Tryz.func16 Tryz.call16 k16.2 rfl (awpFun_go _ _ _ _ ?_)
 have h39:=p39 hp0 hpl hst he
 rw [fullR] at h39
 have hv:vald p e=(decide (shE (run p e).2=0) && (run p e).1.val):=by
  rw [vald]
  congr 1
  unfold shE
  by_cases h1:(run p e).2.err=0 <;> by_cases h2:(run p e).2.steps=20000 <;> simp [h1,h2]
 rw [hv]
 generalize run p e=r at *
 obtain ⟨o,τ⟩:=r
 by_cases hz:shE τ=0
 ·rw [if_pos hz] at h39
  simp only [shK,shN,hz,val0] at h39 ⊢
  simp -implicitDefEqProofs (disch:=first|omega|simp only[nx4]<;>omega|fail) [k16]
  refine go_pure h39 fun mm1 hm1 => ?_
  try simp only [nx4] at hm1
  simp -implicitDefEqProofs (disch:=first|omega|simp only[nx4]<;>omega|fail)
  cases o <;> rfl
 ·rw [if_neg hz] at h39
  simp only [val0] at h39
  simp -implicitDefEqProofs (disch:=first|omega|simp only[nx4]<;>omega|fail) [k16]
  refine go_pure h39 fun mm2 hm2 => ?_
  try simp only [nx4] at hm2
  simp -implicitDefEqProofs (disch:=first|omega|simp only[nx4]<;>omega|fail) [hz]
inductive Rch (p:List Gl) (ns:List ByteArray):ByteArray→Prop
 | base {n:ByteArray}:n∈ns→Rch p ns n
 | step {g:Gl} {x:List UInt8}:g∈p→Rch p ns g.name→x∈gls g.body→Rch p ns (ba x)
theorem p12 (a:Int) (n:Nat) (h0:0 < n) (h1:n≤100000):∃ j:Nat,j < n∧PureC Tryz.prog 12 [.int .i64 a,.int .i64 n] (.int .i64 j):=by
 have hw:IntKind.u64.wrap (n:Int)=n:=by
  unfold IntKind.wrap
  simp [IntKind.bits,IntKind.signed]
  omega
 refine ⟨(IntKind.i64.wrap (IntKind.u64.wrap a % n)).toNat,?_,PureC.intro fun s => fun_sound mixed Tryz.func12 Tryz.call12 k12.2 rfl (awpFun_go _ _ _ _ ?_)⟩
 all_goals
  have hu:0≤IntKind.u64.wrap a:=by unfold IntKind.wrap;simp [IntKind.bits,IntKind.signed];omega
  have hm0:0≤IntKind.u64.wrap a % n:=Int.emod_nonneg _ (by omega)
  have hm1:IntKind.u64.wrap a % n < n:=Int.emod_lt_of_pos _ (by omega)
  have hm2:IntKind.i64.wrap (IntKind.u64.wrap a % n)=IntKind.u64.wrap a % n:=wrap64 (by omega) (by omega)
  rw [hm2]
 ·omega
 ·simp -implicitDefEqProofs (maxSteps:=999999) (disch:=first|omega|simp only[nx4]<;>omega|fail) [k12,hw]
  rw [Int.tmod_eq_emod_of_nonneg hu,hm2]
  omega
structure RI (p:List Gl) (ns Q S:List ByteArray) (i:Nat):Prop where
 rch:∀ x∈Q,Rch p ns x
 nd:S.Nodup
 sub:∀ x∈S,x∈Q
 clo:∀ x∈S,∃ g∈p,g.name=x∧∀ y∈gls g.body,ba y∈Q
 don:∀ (j:Nat) x,j < i→Q[j]?=some x→x∈S
 all:∀ x∈ns,x∈Q
end Go.AL.Dm
set_option maxHeartbeats 4000000
namespace Go.AL.Dm
open Go Go.Proofs
theorem p17 (nm:ByteArray) (l:List Pl) (hl:l.length≤1000):PureC Tryz.prog 17 [.str nm,.list 5 .none (l.map Pl.av)] (callP nm l).av:=by
 refine PureC.intro fun s => fun_sound mixed Tryz.func17 Tryz.call17 k17.2 rfl (awpFun_go _ _ _ _ ?_)
 by_cases h0:l=[]
 ·subst h0
  simp -implicitDefEqProofs (disch:=first|omega|simp only[nx4]<;>omega|fail) [k17,fillAV,callP]
  simp [Pl.av_mk,eS]
 ·rw [callP,if_neg h0]
  have hl0:¬ (l.length:Int)=0:=by
   cases l with
   | nil => exact absurd rfl h0
   | cons a l => simp;omega
  simp -implicitDefEqProofs (disch:=first|omega|simp only[nx4]<;>omega|fail) [k17,fillAV,hl0,h0]
  simp [Pl.av_mk,eS]
  done
theorem p18 (a:Int):∃ j:Nat,j < 4∧PureC Tryz.prog 18 [.int .i64 a] (wo j).av:=by
 obtain ⟨j,hj,h12⟩:=p12 a 4 (by omega) (by omega)
 refine ⟨j,hj,PureC.intro fun s => fun_sound mixed Tryz.func18 Tryz.call18 k18.2 rfl (awpFun_go _ _ _ _ ?_)⟩
 have h12':PureC Tryz.prog 12 [.int .i64 a,.int .i64 4] (.int .i64 j):=h12
 rcases (show j=0∨j=1∨j=2∨j=3 by omega) with rfl | rfl | rfl | rfl
 ·simp -implicitDefEqProofs (disch:=first|omega|simp only[nx4]<;>omega|fail) [k18,fillAV]
  refine go_pure h12' fun mm1 hm1 => ?_
  try simp only [nx4] at hm1
  simp -implicitDefEqProofs (disch:=first|omega|simp only[nx4]<;>omega|fail)
  simp [wo,spL,spA,spD,i41,Pl.av_mk,eS,throwS]
 ·simp -implicitDefEqProofs (disch:=first|omega|simp only[nx4]<;>omega|fail) [k18,fillAV]
  refine go_pure h12' fun mm2 hm2 => ?_
  try simp only [nx4] at hm2
  simp -implicitDefEqProofs (disch:=first|omega|simp only[nx4]<;>omega|fail)
  simp [wo,spL,spA,spD,i41,Pl.av_mk,eS,throwS]
 ·simp -implicitDefEqProofs (disch:=first|omega|simp only[nx4]<;>omega|fail) [k18,fillAV]
  refine go_pure h12' fun mm3 hm3 => ?_
  try simp only [nx4] at hm3
  simp -implicitDefEqProofs (disch:=first|omega|simp only[nx4]<;>omega|fail)
  simp [wo,spL,spA,spD,i41,Pl.av_mk,eS,throwS]
 ·simp -implicitDefEqProofs (disch:=first|omega|simp only[nx4]<;>omega|fail) [k18,fillAV]
  refine go_pure h12' fun mm4 hm4 => ?_
  try simp only [nx4] at hm4
  simp -implicitDefEqProofs (disch:=first|omega|simp only[nx4]<;>omega|fail)
  simp [wo,spL,spA,spD,i41,Pl.av_mk,eS,throwS]
end Go.AL.Dm
set_option maxRecDepth 100000
namespace Go.AL.Dm
open Go Go.Proofs
-- damask/damasklaw18.DemandSound
def k3m:CF [0,1,2,3,8,9,10,11,12,13,14,28,43,66,79,96,115,118,129,150,15000005] Tryz.f3:=by
 refine ⟨?_,?_⟩;rotate_left;cbv;rfl
-- damask/damaskref15.Closed
def k15:CF [0,1,3,4] Tryz.f15:=by
 refine ⟨?_,?_⟩;rotate_left;cbv;rfl
end Go.AL.Dm
set_option maxRecDepth 100000
namespace Go.AL.Dm
open Go Go.Proofs
def k5:CF [0,1,3,4,5,6,7,8,10,11,15,21,42,82,86,98] Tryz.f5:=by
 refine ⟨?_,?_⟩;rotate_left;cbv;rfl
def J26 (s:St) (bx:Nat) (k:Nat) (g:Env) (s1:St):Prop :=
 g.get 39=.ptr (bx+1+1) 0∧g.get 11=.mref 1 (bx+1) 0 0∧g.get 10=.ptr bx 0∧s1.m (bx+1+1)=some (.iter none 0 [] 0)∧s1.m (bx+1)=some (.box [])∧s1.m bx=some (.box [.bool true,.nilmap])∧Kept s s1∧bx+1+1 < s1.nx∧s.nx≤bx
noncomputable def itr (p:List Gl):Nat→Tb
 | 0 => tb0
 | n+1 => stp p (itr p n)
theorem rnds_itr (p:List Gl):∀ (k n c:Nat),∃ m,(rnds p k (itr p n) c).1=itr p m
 | 0,n,c => ⟨n,rfl⟩
 | k+1,n,c => by
  rw [rnds]
  split
  ·exact rnds_itr p k (n+1) (c+1)
  ·exact ⟨n,rfl⟩
theorem rt_itr {p:List Gl} (hp:GoodP p):∀ n,RT p (itr p n)
 | 0 => rt_0 hp
 | n+1 => (rt_itr hp n).stp
theorem rt_fin {p:List Gl} (hp:GoodP p):RT p (fin p).1:=by
 obtain ⟨m,hm⟩:=rnds_itr p (ms p tb0+1) 0 1
 have hf:(fin p).1=itr p m:=hm
 rw [hf]
 exact rt_itr hp m
theorem nm_of {p:List Gl} (h:isP p=true):∀ g∈p,nm g.name=true:=by
 have:∀ (l:List Gl) (pre:List ByteArray),namesOK pre l=true→∀ g∈l,nm g.name=true:=by
  intro l
  induction l with
  | nil => simp
  | cons a l ih =>
   intro pre h g hg
   simp only [namesOK,Bool.and_eq_true] at h
   rcases List.mem_cons.1 hg with rfl | hg
   ·exact h.1.1.1
   ·exact ih _ h.2 g hg
 simp only [isP,Bool.and_eq_true] at h
 exact this p _ h.2.1
theorem fv_of {p:List Gl} (h:isP p=true):∀ g∈p,fv g.body 0=[]:=by
 intro g hg
 simp only [isP,Bool.and_eq_true,decide_eq_true_eq,List.all_eq_true] at h
 have hc:=h.2.2 g hg
 simp only [clo,Bool.and_eq_true,decide_eq_true_eq] at hc
 exact hc.1
theorem p15 (p:List Gl) (t:Pl) (hp:p.length≤100000) (hs:small t):PureC Tryz.prog 15 [.list 6 .none (p.map Gl.av),t.av] (.bool (wf t && decide (fv t 0=[]) && dfd p t)):=by
 refine PureC.intro fun s => fun_sound mixed Tryz.func15 Tryz.call15 k15.2 rfl (awpFun_go _ _ _ _ ?_)
 have h31:=p31 t hs
 cases hw:(wf t && decide (fv t 0=[])) with
 | false =>
  rw [hw] at h31
  simp -implicitDefEqProofs (disch:=first|omega|simp only[nx4]<;>omega|fail) [k15]
  refine go_pure h31 fun mm1 hm1 => ?_
  try simp only [nx4] at hm1
  simp -implicitDefEqProofs (disch:=first|omega|simp only[nx4]<;>omega|fail)
 | true =>
  rw [hw] at h31
  have h28:=p28 p t hp (by simp only [Bool.and_eq_true] at hw;exact hw.1) hs
  simp -implicitDefEqProofs (disch:=first|omega|simp only[nx4]<;>omega|fail) [k15]
  refine go_pure h31 fun mm2 hm2 => ?_
  try simp only [nx4] at hm2
  simp -implicitDefEqProofs (disch:=first|omega|simp only[nx4]<;>omega|fail)
  refine go_pure h28 fun mm3 hm3 => ?_
  try simp only [nx4] at hm3
  simp -implicitDefEqProofs (disch:=first|omega|simp only[nx4]<;>omega|fail)
theorem okA_of {p:List Gl} {t:Pl} (hr:rng t) (h5:wt t 500 100≤500) (h:(wf t && decide (fv t 0=[]) && dfd p t)=true):okA p t:=by
 simp only [Bool.and_eq_true,decide_eq_true_eq] at h
 obtain ⟨h6,h7⟩:=wt_spec t 500 100 (by omega) (by omega) h5
 refine ⟨h.1.1,hr,fun e he ho => ?_,?_,by omega⟩
 ·have hm:e.s.data.toList∈gls t:=mem_gls.2 ⟨e,he,ho,rfl⟩
  have:=h.2
  unfold dfd at this
  have:=List.all_eq_true.1 this _ hm
  rw [mem_bs rfl] at this
  exact findI_mem.1 (by simpa using this)
 ·have:=cl_of_fv t 0 0 (by omega) (by rw [h.1.2];simp)
  simpa using this
theorem flat_set {sz:Nat}:∀ (xs:List AV) (k:Nat) (x:AV),(∀ y∈xs,y.cells.length=sz)→k < xs.length→flat (xs.set k x)=(flat xs).take (k * sz)++(x.cells++(flat xs).drop (k * sz+sz))
 | [],k,x,_,h => by simp at h
 | y::ys,0,x,hs,_ => by
  have hy:=hs y (by simp)
  simp only [List.set_cons_zero,flat_cons,Nat.zero_mul,List.take_zero,List.nil_append,Nat.zero_add]
  rw [← hy,List.drop_left]
 | y::ys,k+1,x,hs,h => by
  have hy:=hs y (by simp)
  have ih:=flat_set ys k x (fun z hz => hs z (by simp [hz])) (by simpa using h)
  have e1:(k+1) * sz=y.cells.length+k * sz:=by rw [hy,Nat.succ_mul];omega
  have e2:(k+1) * sz+sz=y.cells.length+(k * sz+sz):=by omega
  simp only [List.set_cons_succ,flat_cons]
  rw [ih,e2,e1,List.take_length_add_append,List.drop_length_add_append,List.append_assoc]
theorem frzArg {P:Program} {f:FuncId} {args:List AV} {s:St} {K:AV→St→Prop} {i sz o len:Nat} {xs:List AV} (hi:args[i]?=some (.mref sz o 0 len)) (ho:s.m o=some (.box (flat xs))) (hsz:∀ x∈xs,x.cells.length=sz) (hlen:xs.length=len)
  (h:ACalls P f (args.set i (.list sz .none xs)) (s.del o) K):ACalls P f args s K:=by
 refine ⟨h.1,fun ι w vs h1 h2 h3 => ?_⟩
 have hst:Step ι s.m w ι (s.del o).m w:=drop_step s.m (delS s.m o) (delS_sub s.m o) ι w
 refine Calls.mono (h.2 ι w vs (h1.drop (delS_sub s.m o)) ⟨fun q ob hq => h2.lt q ob (delS_sub s.m o q ob hq),h2.ilt⟩ ⟨by simpa using h3.1,fun j v x hv hx => ?_⟩) ?_
 ·by_cases e:i=j
  ·subst e
   have hj:i < args.length:=(List.getElem?_eq_some_iff.1 hi).1
   simp [hj] at hx
   subst hx
   exact (h3.2 i v _ hv hi).freeze h1 ho hsz hlen
  ·rw [List.getElem?_set_ne e] at hx
   exact (h3.2 j v x hv hx).step hst
 ·rintro e w' ⟨v,r,s',ι',k1,k2,k3,k4,k5,k6,k7⟩
  exact ⟨v,r,s',ι',k1,hst.trans k2,k3,k4,k5,k6,k7⟩
end Go.AL.Dm
set_option maxHeartbeats 4000000
namespace Go.AL.Dm
open Go Go.Proofs
def I3a (p:List Gl) (j n:Nat) (l:List Pl) (w:Int) (s:St) (m:Nat) (g:Env) (s1:St):Prop :=
 ∃ i:Nat,i≤n∧m=n - i∧(∀ x∈l.take i,okA p x)∧g.get 0=.list 6 .none (p.map Gl.av)∧g.get 1=.int .i64 j∧g.get 2=.list 5 .none (l.map Pl.av)∧g.get 3=.int .i64 w∧g.get 9=.list 3 .none (dmL p (fin p).1)∧g.get 11=.int .i64 n∧g.get 12=.int .i64 i∧Kept s s1∧s.nx≤s1.nx
def I3b (p:List Gl) (j n:Nat) (l:List Pl) (w:Int) (s:St) (m:Nat) (g:Env) (s1:St):Prop :=
 ∃ i:Nat,i≤n∧m=n - i∧g.get 0=.list 6 .none (p.map Gl.av)∧g.get 1=.int .i64 j∧g.get 2=.list 5 .none (l.map Pl.av)∧g.get 3=.int .i64 w∧g.get 9=.list 3 .none (dmL p (fin p).1)∧g.get 11=.int .i64 n∧g.get 13=.int .i64 i∧Kept s s1∧s.nx≤s1.nx
theorem p3 (p:List Gl) (at':Int) (l:List Pl) (w:Int) (hr:∀ g∈p,rng g.body) (hrl:∀ x∈l,rng x):PureC Tryz.prog 3 [.list 6 .none (p.map Gl.av),.int .i64 at',.list 5 .none (l.map Pl.av),.int .i64 w] (.bool true):=by
 refine PureC.intro fun s => fun_sound mixed Tryz.func3 Tryz.call3 k3m.2 rfl (awpFun_go _ _ _ _ ?_)
 have h8:=p8 p (.mk 0 0 ⟨⟨[]⟩⟩ [] [])
 have hz:(Pl.mk 0 0 ⟨⟨[]⟩⟩ [] []).av=AV.agg [.int .i64 0,.int .i64 0,.str ⟨⟨[]⟩⟩,.list 5 .none [],.list 8 .none []]:=by simp [Pl.av,Pl.avs,Pl.avAlts]
 rw [hz] at h8
 replace h8:=h8.argw (args:=[.list 6 .none (p.map Gl.av),.agg [.int .i64 0,.int .i64 0,.str ⟨⟨[]⟩⟩,.list 0 .full [],.list 0 .full []]]) (by simp [wkL])
 have h10:=p10
 cases hfw:fewD p (.mk 0 0 ⟨⟨[]⟩⟩ [] []) with
 | false =>
  rw [hfw] at h8
  simp -implicitDefEqProofs (disch:=first|omega|simp only[nx4]<;>omega|fail) [k3m,fillAV]
  refine go_pure h8 fun mm1 hm1 => ?_
  try simp only [nx4] at hm1
  simp -implicitDefEqProofs (disch:=first|omega|simp only[nx4]<;>omega|fail)
  refine go_pure h10 fun mm2 hm2 => ?_
  try simp only [nx4] at hm2
  simp -implicitDefEqProofs (disch:=first|omega|simp only[nx4]<;>omega|fail)
  done
 | true =>
  rw [hfw] at h8
  have hp:=few_of hfw hr
  have h9:=p9 p hp
  cases hi:isP p with
  | false =>
   rw [hi] at h9
   simp -implicitDefEqProofs (disch:=first|omega|simp only[nx4]<;>omega|fail) [k3m,fillAV]
   refine go_pure h8 fun mm3 hm3 => ?_
   try simp only [nx4] at hm3
   simp -implicitDefEqProofs (disch:=first|omega|simp only[nx4]<;>omega|fail)
   refine go_pure h9 fun mm4 hm4 => ?_
   try simp only [nx4] at hm4
   simp -implicitDefEqProofs (disch:=first|omega|simp only[nx4]<;>omega|fail)
   refine go_pure h10 fun mm5 hm5 => ?_
   try simp only [nx4] at hm5
   simp -implicitDefEqProofs (disch:=first|omega|simp only[nx4]<;>omega|fail)
   done
  | true =>
   rw [hi] at h9
   by_cases h0:p.length=0
   ·have:p=[]:=List.length_eq_zero_iff.1 h0
    subst this
    simp -implicitDefEqProofs (disch:=first|omega|simp only[nx4]<;>omega|fail) [k3m,fillAV]
    refine go_pure h8 fun mm6 hm6 => ?_
    try simp only [nx4] at hm6
    simp -implicitDefEqProofs (disch:=first|omega|simp only[nx4]<;>omega|fail)
    refine go_pure h9 fun mm7 hm7 => ?_
    try simp only [nx4] at hm7
    simp -implicitDefEqProofs (disch:=first|omega|simp only[nx4]<;>omega|fail)
    refine go_pure h10 fun mm8 hm8 => ?_
    try simp only [nx4] at hm8
    simp -implicitDefEqProofs (disch:=first|omega|simp only[nx4]<;>omega|fail)
    done
   ·have hgp:=goodP hp hi
    have hpl:=hgp.few
    have h0':¬ p=[]:=by rintro rfl;simp at h0
    obtain ⟨j,hj,h12⟩:=p12 at' p.length (by omega) (by omega)
    have hj':(j:Int) < p.length:=by omega
    have h11:=p11 p hp
    rw [show resP p=dmL p (fin p).1 by rw [resP,if_pos hi],show errP p=0 by rw [errP,if_pos hi]] at h11
    have hlp:(dmL p (fin p).1).length=p.length:=dmL_len
    have hrt:=rt_fin hgp
    have hgj:p[j]∈p:=List.getElem_mem hj
    have hw:=hrt.w _ hgj
    obtain ⟨hw8,hsl⟩:=hrt.good _ hgj
    have hlk:=lookK_tb (f:=(fin p).1) hgp.nd _ hgj
    have hdp:=dmL_get (f:=(fin p).1) hj
    have h13:=p13 p[j]
    have hfx:=fix_fin hgp
    have hsnd:=fun e he hn => sound_of hgp (gin_of hi) (fv_of hi) (e:=e) he hn
    have hcn:=fun a hl hh => call_need hfx hgj (l:=a) hl hh
    have hck:=fun a hl hx => call_ok hgj (nm_of hi _ hgj) (l:=a) hl hx
    have hst:=start_ok hgp (gin_of hi) (fv_of hi)
    rw [hlk] at hcn
    generalize hxj:p[j]=xj at *
    generalize hkj:(fin p).1 xj=kj at *
    obtain ⟨n,hn⟩:∃ n:Nat,kj.st.length=n:=⟨_,rfl⟩
    simp -implicitDefEqProofs (disch:=first|omega|simp only[nx4]<;>omega|fail) [k3m,fillAV]
    refine go_pure h8 fun mm9 hm9 => ?_
    try simp only [nx4] at hm9
    simp -implicitDefEqProofs (disch:=first|omega|simp only[nx4]<;>omega|fail)
    refine go_pure h9 fun mm10 hm10 => ?_
    try simp only [nx4] at hm10
    simp -implicitDefEqProofs (disch:=first|omega|simp only[nx4]<;>omega|fail) [h0']
    refine go_pure h11 fun mm11 hm11 => ?_
    try simp only [nx4] at hm11
    simp -implicitDefEqProofs (disch:=first|omega|simp only[nx4]<;>omega|fail) [hlp]
    have hwn:wnt xj.body=n:=by omega
    rw [hwn] at h13
    by_cases hln:l.length < n
    ·have hln':(l.length:Int) < n:=by omega
     refine go_pure h12 fun mm12 hm12 => ?_
     try simp only [nx4] at hm12
     simp -implicitDefEqProofs (disch:=first|omega|simp only[nx4]<;>omega|fail) [hj,hj',hlp,hdp,hn,hxj,hln,hln']
     refine go_pure h13 fun mm13 hm13 => ?_
     try simp only [nx4] at hm13
     simp -implicitDefEqProofs (disch:=first|omega|simp only[nx4]<;>omega|fail)
     refine go_pure h10 fun mm14 hm14 => ?_
     try simp only [nx4] at hm14
     simp -implicitDefEqProofs (disch:=first|omega|simp only[nx4]<;>omega|fail)
     done
    have hln2:¬ (l.length:Int) < n:=by omega
    have hln3:n≤l.length:=by omega
    refine go_pure h12 fun mm15 hm15 => ?_
    try simp only [nx4] at hm15
    simp -implicitDefEqProofs (disch:=first|omega|simp only[nx4]<;>omega|fail) [hj,hj',hlp,hdp,hn,hxj,hln,hln2,hln3]
    refine go_pure h13 fun mm16 hm16 => ?_
    try simp only [nx4] at hm16
    simp -implicitDefEqProofs (disch:=first|omega|simp only[nx4]<;>omega|fail)
    refine go_loop (I3a p j n l w s) n ⟨0,by omega,by omega,by simp,?_,?_,?_,?_,?_,?_,?_,?_,?_⟩ ?_
    all_goals (try simp -implicitDefEqProofs (disch:=first|omega|simp only[nx4]<;>omega|fail))
    all_goals (try omega)
    clear h8 h9 h12 h11
    rintro m g S ⟨i,hin,rfl,hA,g0,g1,g2,g3,g9,g11,g12,hk,hnx⟩
    by_cases hlt:i < n
    ·have hlt':(i:Int) < n:=by omega
     have hil:i < l.length:=by omega
     have hil':(i:Int) < l.length:=by omega
     have hget:(l.map Pl.av)[i]?=some l[i].av:=by simp [hil]
     have h14:=p14 l[i] 500 (by omega) (by omega)
     have hrx:=hrl l[i] (List.getElem_mem hil)
     have htk:l.take (i+1)=l.take i++[l[i]]:=List.take_succ_eq_append_getElem hil
     have w3:=wrapS (i:=i) (by omega)
     generalize l[i]=x at *
     simp -implicitDefEqProofs (disch:=first|omega|simp only[nx4]<;>omega|fail) [g0,g1,g2,g3,g9,g11,g12,hlt',hlt,hil,hil',hget]
     by_cases h5:500 < wt x 500 100
     ·refine go_pure h14 fun mm17 hm17 => ?_
      try simp only [nx4] at hm17
      simp -implicitDefEqProofs (disch:=first|omega|simp only[nx4]<;>omega|fail) [h5]
      refine go_pure h10 fun mm18 hm18 => ?_
      try simp only [nx4] at hm18
      simp -implicitDefEqProofs (disch:=first|omega|simp only[nx4]<;>omega|fail)
      exact hk
     have h5':wt x 500 100≤500:=by omega
     obtain ⟨z1,z2⟩:=wt_spec x 500 100 (by omega) (by omega) h5'
     have h15:=p15 p x (by omega) ⟨by omega,by omega⟩
     cases hcl:(wf x && decide (fv x 0=[]) && dfd p x) with
     | false =>
      rw [hcl] at h15
      refine go_pure h14 fun mm19 hm19 => ?_
      try simp only [nx4] at hm19
      simp -implicitDefEqProofs (disch:=first|omega|simp only[nx4]<;>omega|fail) [h5,g0,g1,g2,g3,g9,g11,g12,hil,hil',hget]
      refine go_pure h15 fun mm20 hm20 => ?_
      try simp only [nx4] at hm20
      simp -implicitDefEqProofs (disch:=first|omega|simp only[nx4]<;>omega|fail)
      refine go_pure h10 fun mm21 hm21 => ?_
      try simp only [nx4] at hm21
      simp -implicitDefEqProofs (disch:=first|omega|simp only[nx4]<;>omega|fail)
      exact hk
     | true =>
      rw [hcl] at h15
      refine go_pure h14 fun mm22 hm22 => ?_
      try simp only [nx4] at hm22
      simp -implicitDefEqProofs (disch:=first|omega|simp only[nx4]<;>omega|fail) [h5,g0,g1,g2,g3,g9,g11,g12,hil,hil',hget]
      refine go_pure h15 fun mm23 hm23 => ?_
      try simp only [nx4] at hm23
      simp -implicitDefEqProofs (disch:=first|omega|simp only[nx4]<;>omega|fail) [g0,g1,g2,g3,g9,g11,g12,w3]
      refine go_next (n - (i+1)) (by omega) ⟨i+1,by omega,rfl,?_,?_,?_,?_,?_,?_,?_,?_,?_,?_⟩
      ·rw [htk]
       intro y hy
       rcases List.mem_append.1 hy with hy | hy
       ·exact hA y hy
       ·rw [List.mem_singleton.1 hy];exact okA_of hrx h5' hcl
      all_goals (try simp -implicitDefEqProofs (disch:=first|omega|simp only[nx4]<;>omega|fail) [g0,g1,g2,g3,g9,g11,g12])
      all_goals (first | exact hk | omega)
    ·obtain rfl:i=n:=by omega
     have hA':∀ x∈l.take i,okA p x:=hA
     have htl:(l.take i).length=i:=by rw [List.length_take];omega
     have h17:=p17 xj.name (l.take i) (by omega)
     have h16:=p16 (by omega) (by omega) hst (hck (l.take i) (by omega) hA')
     rw [List.map_take] at h17
     simp -implicitDefEqProofs (disch:=first|omega|simp only[nx4]<;>omega|fail) [g0,g1,g2,g3,g9,g11,g12,hdp,hlp,hj,hj',hxj,hkj,hln3]
     have c17:∀ (S:St),S.nx=S.nx:=fun _ => rfl
     cases hf:kj.fails
     case' true =>
      rw [hsnd _ (hck (l.take i) (by omega) hA') (hcn (l.take i) (by omega) (.inl hf))] at h16
      simp -implicitDefEqProofs (disch:=first|omega|simp only[nx4]<;>omega|fail) [g0,g1,g2,g3,g9,g11,g12,hdp,hlp,hj,hj',hxj,hkj,hln3]
      refine pcV_intro h17 ?_
      simp -implicitDefEqProofs (disch:=first|omega|simp only[nx4]<;>omega|fail)
      refine pcV_intro h16 ?_
      simp -implicitDefEqProofs (disch:=first|omega|simp only[nx4]<;>omega|fail)
     case' false =>
      simp -implicitDefEqProofs (disch:=first|omega|simp only[nx4]<;>omega|fail) [g0,g1,g2,g3,g9,g11,g12,hdp,hlp,hj,hj',hxj,hkj,hln3]
     all_goals
      intro m6 hm6
      refine go_loop (I3b p j i l w s) i ⟨0,by omega,by omega,?_,?_,?_,?_,?_,?_,?_,?_,?_⟩ ?_
      iterate 7 (try simp -implicitDefEqProofs (disch:=first|omega|simp only[nx4]<;>omega|fail) [g0,g1,g2,g3,g9,g11,g12])
      ·exact fun q hq => by simp -implicitDefEqProofs (disch:=first|omega|simp only[nx4]<;>omega|fail) [hk q hq]
      ·simp -implicitDefEqProofs (disch:=first|omega|simp only[nx4]<;>omega|fail);omega
      clear h16 h17 g0 g1 g2 g3 g9 g11 g12 hk hnx
      rintro m g S2 ⟨k,hki,rfl,g0,g1,g2,g3,g9,g11,g13,hk,hnx⟩
      by_cases hlt:k < i
      ·have hlt':(k:Int) < i:=by omega
       have hks:k < kj.st.length:=by omega
       have hsg:(kj.st.map AV.bool)[k]?=some (.bool kj.st[k]):=by simp [hks]
       have hsl':kj.st.length=i:=hn
       have w3:=wrapS (i:=k) (by omega)
       cases hs:kj.st[k] with
       | false =>
        rw [hs] at hsg
        simp -implicitDefEqProofs (disch:=first|omega|simp only[nx4]<;>omega|fail) [g0,g1,g2,g3,g9,g11,g13,hdp,hlp,hj,hj',hxj,hkj,hln3,hlt,hlt',hsg,hsl',w3]
        refine go_next (i - (k+1)) (by omega) ⟨k+1,by omega,rfl,?_,?_,?_,?_,?_,?_,?_,?_,?_⟩
        all_goals (try simp -implicitDefEqProofs (disch:=first|omega|simp only[nx4]<;>omega|fail) [g0,g1,g2,g3,g9,g11,g13])
        all_goals (first | exact hk | omega)
       | true =>
        rw [hs] at hsg
        obtain ⟨q,hq4,h18⟩:=p18 (IntKind.i64.wrap (w+k))
        simp -implicitDefEqProofs (disch:=first|omega|simp only[nx4]<;>omega|fail) [g0,g1,g2,g3,g9,g11,g13,hdp,hlp,hj,hj',hxj,hkj,hln3,hlt,hlt',hsg,hsl',w3]
        have hfl:(flat (List.take i (List.map Pl.av l))).length=i * 5:=by
         rw [flat_length (sz:=5),List.length_take,List.length_map]
         ·omega
         ·intro x hx
          obtain ⟨y,_,rfl⟩:=List.mem_map.1 (List.mem_of_mem_take hx)
          simp
        have hcs5:∀ x∈List.take i (List.map Pl.av l),x.cells.length=5:=fun x hx => by
         obtain ⟨y,_,rfl⟩:=List.mem_map.1 (List.mem_of_mem_take hx)
         simp
        have htl2:(List.take i (List.map Pl.av l)).length=i:=by rw [List.length_take,List.length_map];omega
        have hset:=flat_set (List.take i (List.map Pl.av l)) k (wo q).av hcs5 (by omega)
        have hls:((l.take i).set k (wo q)).length=i:=by rw [List.length_set];exact htl
        have hA2:∀ x∈(l.take i).set k (wo q),okA p x:=fun x hx => by
         rcases List.mem_or_eq_of_mem_set hx with hx | rfl
         ·exact hA' x hx
         ·exact wo_ok p q
        have hms:((l.take i).set k (wo q)).map Pl.av=(List.take i (List.map Pl.av l)).set k (wo q).av:=by rw [List.map_set,List.map_take]
        have h17b:=p17 xj.name ((l.take i).set k (wo q)) (by omega)
        have h16b:=p16 (by omega) (by omega) hst (hck _ (by omega) hA2)
        rw [hsnd _ (hck _ (by omega) hA2) (hcn _ (by omega) (.inr ⟨k,wo q,by simp [hks,hs],by simp [htl,hlt],wo_need _ _⟩))] at h16b
        rw [hms] at h17b
        refine go_pure h18 fun mm24 hm24 => ?_
        try simp only [nx4] at hm24
        simp -implicitDefEqProofs (disch:=first|omega|simp only[nx4]<;>omega|fail) [hlt,hlt',hfl,g0,g1,g2,g3,g9,g11,g13,hdp,hlp,hj,hj',hxj,hkj]
        refine go_calls (frzArg (i:=1) (xs:=(List.take i (List.map Pl.av l)).set k (wo q).av) rfl (by rw [hset];simp -implicitDefEqProofs (disch:=first|omega|simp only[nx4]<;>omega|fail)) (fun x hx => ?_) (by rw [List.length_set];exact htl2) (go_of ?_))
        ·rcases List.mem_or_eq_of_mem_set hx with hx | rfl
         ·exact hcs5 x hx
         ·simp
        refine go_pure h17b fun mm25 hm25 => ?_
        try simp only [nx4] at hm25
        simp -implicitDefEqProofs (disch:=first|omega|simp only[nx4]<;>omega|fail) [g0,g1,g2,g3,g9,g11,g13]
        refine go_pure h16b fun mm26 hm26 => ?_
        try simp only [nx4] at hm26
        simp -implicitDefEqProofs (disch:=first|omega|simp only[nx4]<;>omega|fail) [g0,g1,g2,g3,g9,g11,g13,w3]
        refine go_next (i - (k+1)) (by omega) ⟨k+1,by omega,rfl,?_,?_,?_,?_,?_,?_,?_,?_,?_⟩
        iterate 7 (try simp -implicitDefEqProofs (disch:=first|omega|simp only[nx4]<;>omega|fail) [g0,g1,g2,g3,g9,g11,g13])
        ·exact fun q hq => by simp -implicitDefEqProofs (disch:=first|omega|simp only[nx4]<;>omega|fail) [hk q hq]
        ·simp -implicitDefEqProofs (disch:=first|omega|simp only[nx4]<;>omega|fail);omega
      ·obtain rfl:k=i:=by omega
       simp -implicitDefEqProofs (disch:=first|omega|simp only[nx4]<;>omega|fail) [g0,g1,g2,g3,g9,g11,g13]
       refine go_pure h10 fun mm27 hm27 => ?_
       try simp only [nx4] at hm27
       simp -implicitDefEqProofs (disch:=first|omega|simp only[nx4]<;>omega|fail)
       exact hk
end Go.AL.Dm
