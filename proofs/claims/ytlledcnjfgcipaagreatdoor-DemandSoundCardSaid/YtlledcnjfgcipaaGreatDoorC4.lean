/- A program that is one: the reference's functions. -/
import Derived.Test.YtlledcnjfgcipaaGreatDoorF23
import Derived.Test.YtlledcnjfgcipaaGreatDoorF5
import Derived.Test.YtlledcnjfgcipaaGreatDoorProg
import Derived.KernelRfl
set_option linter.unusedVariables false
set_option linter.unusedSimpArgs false
namespace Go.AL.Dm
open Go Go.Proofs
def findI (p:List Gl) (s:ByteArray):Int:=idxQ (fun g => decide (g.name=s)) p 0
def I23 (p:List Gl) (t:ByteArray) (s:St) (m:Nat) (g:Env) (s1:St):Prop :=
 ∃ i:Nat,i≤p.length∧m=p.length - i∧idxQ (fun g => decide (g.name=t)) (p.drop i) i=findI p t∧g.get 0=.list 6 .none (p.map Gl.av)∧g.get 1=.str t∧g.get 5=.int .i64 i∧Kept s s1
theorem p23 (p:List Gl) (t:ByteArray) (hp:p.length≤100000):PureC Tryz.prog 23 [.list 6 .none (p.map Gl.av),.str t] (.int .i64 (findI p t)):=by
 refine PureC.intro fun s => fun_sound mixed Tryz.func23 Tryz.call23 k23.2 rfl (awpFun_go _ _ _ _ ?_)
 simp -implicitDefEqProofs (disch:=first|omega|simp only[nx4]<;>omega|fail) [k23]
 refine go_loop (I23 p t s) p.length ⟨0,by omega,by omega,rfl,?_,?_,?_,?_⟩ ?_
 iterate 4 (simp -implicitDefEqProofs (disch:=first|omega|simp only[nx4]<;>omega|fail))
 rintro m g s1 ⟨i,hi,rfl,hw,e0,e1,e5,hk⟩
 by_cases hlt:i < p.length
 ·have hlt':(i:Int) < p.length:=by omega
  have w3:=wrapS (i:=i) (by omega)
  rw [List.drop_eq_getElem_cons hlt,idxQ] at hw
  generalize hx:p[i]=x at hw
  by_cases h:x.name=t
  ·rw [if_pos (by simp [h])] at hw
   simp -implicitDefEqProofs (disch:=first|omega|simp only[nx4]<;>omega|fail) [e0,e1,e5,hlt',hx,h,← hw,hk]
  ·rw [if_neg (by simp [h])] at hw
   simp -implicitDefEqProofs (disch:=first|omega|simp only[nx4]<;>omega|fail) [e0,e1,e5,hlt',hx,h,w3]
   refine go_next (p.length - (i+1)) (by omega) ⟨i+1,by omega,rfl,hw,?_,?_,rfl,?_⟩
   ·simp -implicitDefEqProofs (disch:=first|omega|simp only[nx4]<;>omega|fail) [e0]
   ·simp -implicitDefEqProofs (disch:=first|omega|simp only[nx4]<;>omega|fail) [e1]
   ·simp -implicitDefEqProofs (disch:=first|omega|simp only[nx4]<;>omega|fail) [hk]
 ·have hlt':¬ (i:Int) < p.length:=by omega
  obtain rfl:i=p.length:=by omega
  rw [List.drop_length,idxQ] at hw
  simp -implicitDefEqProofs (disch:=first|omega|simp only[nx4]<;>omega|fail) [e0,e1,e5,hlt',← hw,hk]
def C61 (t:Pl):Prop:=∀ v:Int,wf t=true→small t→0≤v→v+13 * dw t≤100000→PureC Tryz.prog 61 [t.av,.int .i64 v] (.bool (decide (fv t v=[])))
def IA61 (t:Pl) (v:Int) (s:St) (m:Nat) (g:Env) (s1:St):Prop :=
 ∃ i:Nat,i≤t.args.length∧m=t.args.length - i∧(fvs (t.args.drop i) (v+inn t)=[]↔fvs t.args (v+inn t)=[])∧g.get 1=.int .i64 v∧g.get 2=.ptr s.nx 0∧g.get 5=.int .i64 i∧s1.m s.nx=some (.box t.av.cells)∧Kept s s1∧s.nx < s1.nx
def IB61 (t:Pl) (v:Int) (s:St) (m:Nat) (g:Env) (s1:St):Prop :=
 ∃ i:Nat,i≤t.alts.length∧m=t.alts.length - i∧(fva (t.alts.drop i) v=[]↔fva t.alts v=[])∧g.get 1=.int .i64 v∧g.get 2=.ptr s.nx 0∧g.get 6=.int .i64 i∧s1.m s.nx=some (.box t.av.cells)∧Kept s s1∧s.nx < s1.nx
theorem p61 (t:Pl):C61 t:=by
 induction t using Pl.ind with
 | h t ih1 ih2 =>
 intro v hw hsm hv hv2
 refine PureC.intro fun s => fun_sound mixed Tryz.func61 Tryz.call61 c61 rfl (awpFun_go _ _ _ _ ?_)
 obtain ⟨hnd,hwa,hwb⟩:=wf_nd hw
 have hdw:=dw_pos t
 by_cases o1:t.op=1
 ·have e1:decide (t.n < v)=decide (fv t v=[]):=by
   rw [fv_eq,if_pos o1]
   by_cases h:v≤t.n
   ·rw [if_pos h];simp;omega
   ·rw [if_neg h];simp;omega
  simp -implicitDefEqProofs (disch:=first|omega|simp only[nx4]<;>omega|fail) [a61,a61b,a61r0,a61r1,a61r2,o1,e1]
 have hlen:=hnd.len
 have hinn:=hnd.inn
 have h101:=p101 t (by omega)
 have hal:t.alts.length≤40:=by
  by_cases o8:t.op=8
  ·exact (hnd.cas o8).2.2
  ·rw [hnd.noalts o8];simp
 have w2:IntKind.i64.wrap (v+inn t)=v+inn t:=wrap64 (by omega) (by omega)
 have hfv:fv t v=[]↔fvs t.args (v+inn t)=[]∧fva t.alts v=[]:=by rw [fv_eq,if_neg o1];simp
 simp -implicitDefEqProofs (disch:=first|omega|simp only[nx4]<;>omega|fail) [a61,a61b,a61r0,a61r1,a61r3,o1]
 refine go_loop (IA61 t v s) t.args.length ⟨0,by omega,by omega,Iff.rfl,?_,?_,?_,?_,?_,?_⟩ ?_
 iterate 6 (simp -implicitDefEqProofs (disch:=first|omega|simp only[nx4]<;>omega|fail))
 rintro m g s1 ⟨i,hi,rfl,hwi,e1,e2,e5,hM,hk,hn⟩
 rw [Pl.av_cells] at hM
 by_cases hlt:i < t.args.length
 ·have hlt':(i:Int) < t.args.length:=by omega
  have w3:=wrapS (i:=i) (by omega)
  rw [List.drop_eq_getElem_cons hlt,fvs] at hwi
  have ihx:=ih1 _ (List.getElem_mem hlt) (v+inn t) (hwa _ (List.getElem_mem hlt)) (small_arg hsm (List.getElem_mem hlt)) (by omega) (by have:=(arg_lt (List.getElem_mem hlt)).2;omega)
  generalize hx:t.args[i]=x at hwi ihx
  simp -implicitDefEqProofs (disch:=first|omega|simp only[nx4]<;>omega|fail) [a61l8,a61r4,a61r5,e1,e2,e5,hM,hlt',hx]
  by_cases hf:fv x (v+inn t)=[]
  ·rw [decide_eq_true hf] at ihx
   rw [hf,List.nil_append] at hwi
   refine pcV_intro h101 ?_
   simp -implicitDefEqProofs (disch:=first|omega|simp only[nx4]<;>omega|fail) [w2]
   refine pcV_intro ihx ?_
   simp -implicitDefEqProofs (disch:=first|omega|simp only[nx4]<;>omega|fail) []
   intro mm hmm
   simp -implicitDefEqProofs (disch:=first|omega|simp only[nx4]<;>omega|fail) [a61r7,e5,w3]
   refine go_next (t.args.length - (i+1)) (by omega) ⟨i+1,by omega,rfl,hwi,?_,?_,?_,?_,?_,?_⟩
   all_goals (try simp -implicitDefEqProofs (disch:=first|omega|simp only[nx4]<;>omega|fail) [e1,e2,hM,hk])
   all_goals (try omega)
  ·rw [decide_eq_false hf] at ihx
   have hfv2:decide (fv t v=[])=false:=by
    rw [decide_eq_false_iff_not,hfv,← hwi]
    simp [hf]
   refine pcV_intro h101 ?_
   simp -implicitDefEqProofs (disch:=first|omega|simp only[nx4]<;>omega|fail) [w2]
   refine pcV_intro ihx ?_
   simp -implicitDefEqProofs (disch:=first|omega|simp only[nx4]<;>omega|fail) []
   intro mm hmm
   simp -implicitDefEqProofs (disch:=first|omega|simp only[nx4]<;>omega|fail) [a61r6,hfv2,hk]
 ·have hlt':¬ (i:Int) < t.args.length:=by omega
  obtain rfl:i=t.args.length:=by omega
  rw [List.drop_length,fvs] at hwi
  rw [← hwi] at hfv
  simp only [true_and] at hfv
  simp -implicitDefEqProofs (disch:=first|omega|simp only[nx4]<;>omega|fail) [a61l8,a61r4,e1,e2,e5,hM,hlt',a61r9]
  refine go_loop (IB61 t v s) t.alts.length ⟨0,by omega,by omega,Iff.rfl,?_,?_,?_,?_,?_,?_⟩ ?_
  iterate 6 (simp -implicitDefEqProofs (disch:=first|omega|simp only[nx4]<;>omega|fail) [e1,e2,hM,hk,hn])
  clear hM hk hn e1 e2 e5
  rintro m g s1 ⟨i,hi,rfl,hwi,e1,e2,e6,hM,hk,hn⟩
  rw [Pl.av_cells] at hM
  by_cases hlt:i < t.alts.length
  ·have hlt':(i:Int) < t.alts.length:=by omega
   have w3:=wrapS (i:=i) (by omega)
   rw [List.drop_eq_getElem_cons hlt] at hwi
   have hb:=hnd.bnd (List.getElem_mem hlt)
   have h95:=p95 t.alts[i] (fun h2 => by have:=hnd.hd _ (List.getElem_mem hlt) h2;omega)
   have ihx:=ih2 _ (List.getElem_mem hlt) (v+bnd t.alts[i].1) (hwb _ (List.getElem_mem hlt)) (small_alt hsm (List.getElem_mem hlt)) (by omega) (by have:=(alt_lt (List.getElem_mem hlt)).2;omega)
   generalize hx:t.alts[i]=x at hwi ihx h95 hb
   have hsp:fva (x::t.alts.drop (i+1)) v=fv x.2 (v+bnd x.1)++fva (t.alts.drop (i+1)) v:=by obtain ⟨a,b⟩:=x;rw [fva]
   rw [hsp] at hwi
   have w4:IntKind.i64.wrap (v+bnd x.1)=v+bnd x.1:=wrap64 (by omega) (by omega)
   simp -implicitDefEqProofs (disch:=first|omega|simp only[nx4]<;>omega|fail) [a61l14,a61r10,a61r11,e1,e2,e6,hM,hlt',hx]
   by_cases hf:fv x.2 (v+bnd x.1)=[]
   ·rw [decide_eq_true hf] at ihx
    rw [hf,List.nil_append] at hwi
    refine pcV_intro h95 ?_
    simp -implicitDefEqProofs (disch:=first|omega|simp only[nx4]<;>omega|fail) [w4]
    refine pcV_intro ihx ?_
    simp -implicitDefEqProofs (disch:=first|omega|simp only[nx4]<;>omega|fail) []
    intro mm hmm
    simp -implicitDefEqProofs (disch:=first|omega|simp only[nx4]<;>omega|fail) [a61r13,e6,w3]
    refine go_next (t.alts.length - (i+1)) (by omega) ⟨i+1,by omega,rfl,hwi,?_,?_,?_,?_,?_,?_⟩
    all_goals (try simp -implicitDefEqProofs (disch:=first|omega|simp only[nx4]<;>omega|fail) [e1,e2,hM,hk])
    all_goals (try omega)
   ·rw [decide_eq_false hf] at ihx
    have hfv2:decide (fv t v=[])=false:=by
     rw [decide_eq_false_iff_not,hfv,← hwi]
     simp [hf]
    refine pcV_intro h95 ?_
    simp -implicitDefEqProofs (disch:=first|omega|simp only[nx4]<;>omega|fail) [w4]
    refine pcV_intro ihx ?_
    simp -implicitDefEqProofs (disch:=first|omega|simp only[nx4]<;>omega|fail) []
    intro mm hmm
    simp -implicitDefEqProofs (disch:=first|omega|simp only[nx4]<;>omega|fail) [a61r12,hfv2,hk]
  ·have hlt':¬ (i:Int) < t.alts.length:=by omega
   obtain rfl:i=t.alts.length:=by omega
   rw [List.drop_length,fva] at hwi
   have hfv2:decide (fv t v=[])=true:=by
    rw [decide_eq_true_iff,hfv,← hwi]
   simp -implicitDefEqProofs (disch:=first|omega|simp only[nx4]<;>omega|fail) [a61l14,a61r10,e1,e2,e6,hM,hlt',a61r15,hfv2,hk]
def R92 (t:Pl) (l:List (List UInt8)) (o:Nat) (s:St) (r:AV) (s':St):Prop :=
 ∃ o',r=.mref 1 o' 0 ((pre t).foldl gadd l).length∧(o'=o∨s.nx≤o')∧o' < s'.nx∧s'.m o'=some (.box (slist ((pre t).foldl gadd l)))∧KeptX s o s'
def C92 (t:Pl):Prop:=∀ (l:List (List UInt8)) (o:Nat) (s:St),wf t=true→small t→(l.length:Int)+sz t≤100000→s.m o=some (.box (slist l))→o < s.nx→ACalls Tryz.prog 92 [t.av,.mref 1 o 0 l.length] s (R92 t l o s)
def IA92 (t:Pl) (fin:List (List UInt8)) (o:Nat) (s:St) (m:Nat) (g:Env) (s1:St):Prop :=
 ∃ (i:Nat) (l:List (List UInt8)) (o':Nat),i≤t.args.length∧m=t.args.length - i∧(pres (t.args.drop i)++prea t.alts).foldl gadd l=fin∧(l.length:Int)+szs (t.args.drop i)+sza t.alts≤100000 ∧
  g.get 1=.mref 1 o' 0 l.length∧g.get 2=.ptr s.nx 0∧g.get 5=.int .i64 i∧s1.m s.nx=some (.box t.av.cells)∧s1.m o'=some (.box (slist l))∧(o'=o∨s.nx < o')∧o' < s1.nx∧KeptX s o s1∧s.nx < s1.nx
def IB92 (t:Pl) (fin:List (List UInt8)) (o:Nat) (s:St) (m:Nat) (g:Env) (s1:St):Prop :=
 ∃ (i:Nat) (l:List (List UInt8)) (o':Nat),i≤t.alts.length∧m=t.alts.length - i∧(prea (t.alts.drop i)).foldl gadd l=fin∧(l.length:Int)+sza (t.alts.drop i)≤100000 ∧
  g.get 1=.mref 1 o' 0 l.length∧g.get 2=.ptr s.nx 0∧g.get 6=.int .i64 i∧s1.m s.nx=some (.box t.av.cells)∧s1.m o'=some (.box (slist l))∧(o'=o∨s.nx < o')∧o' < s1.nx∧KeptX s o s1∧s.nx < s1.nx
theorem keptX_step {s s1 s2:St} {o o':Nat} (h1:KeptX s o s1) (h2:KeptX s1 o' s2) (ho:o'=o∨s.nx < o') (hn:s.nx≤s1.nx):KeptX s o s2:=fun q hq hne =>
 (h2 q (by omega) (by omega)).trans (h1 q hq hne)
theorem loopB92 (t:Pl) (ih2:∀ a∈t.alts,C92 a.2) (fin l0:List (List UInt8)) (o:Nat) (s:St) (hnd:Nd t) (hwb:∀ a∈t.alts,wf a.2=true) (hsm:small t) (hal:t.alts.length≤40) (ho:o < s.nx) (hfin:(pre t).foldl gadd l0=fin)
  (l:List (List UInt8)) (o':Nat) (hl:(prea t.alts).foldl gadd l=fin) (hlen:(l.length:Int)+sza t.alts≤100000) (g:Env) (s1:St) (e1:g.get 1=.mref 1 o' 0 l.length) (e2:g.get 2=.ptr s.nx 0) (hM:s1.m s.nx=some (.box t.av.cells))
  (hO:s1.m o'=some (.box (slist l))) (ho':o'=o∨s.nx < o') (hon:o' < s1.nx) (hk:KeptX s o s1) (hn:s.nx < s1.nx) :
  go (awp Tryz.prog (.seq (.seq (.reg false a92r8) (.block 2 (.loop a92l12))) (.seq (.reg false a92r13) .ret)) (finQ [.tmp (true,4)] (R92 t l0 o s)) g s1):=by
 simp -implicitDefEqProofs (disch:=first|omega|simp only[nx4]<;>omega|fail) [a92r8]
 refine go_loop (IB92 t fin o s) t.alts.length ⟨0,l,o',by omega,by omega,hl,hlen,?_,?_,?_,?_,hO,ho',?_,?_,?_⟩ ?_
 iterate 7 (simp -implicitDefEqProofs (disch:=first|omega|simp only[nx4]<;>omega|fail) [e1,e2,hM,hk,hon,hn])
 clear e1 e2 hM hO ho' hon hk hn hl hlen
 rintro m g s1 ⟨i,l,o',hi,rfl,hl,hlen,e1,e2,e6,hM,hO,ho',hon,hk,hn⟩
 rw [Pl.av_cells] at hM
 by_cases hlt:i < t.alts.length
 ·have hlt':(i:Int) < t.alts.length:=by omega
  have w3:=wrapS (i:=i) (by omega)
  rw [List.drop_eq_getElem_cons hlt] at hl hlen
  have hspos:=sza_pos (t.alts.drop (i+1)) fun x _ => sz_pos x.2
  have ihx:=ih2 _ (List.getElem_mem hlt) l o'
  have hwx:=hwb _ (List.getElem_mem hlt)
  have hsx:=small_alt hsm (List.getElem_mem hlt)
  generalize hx:t.alts[i]=x at hl hlen ihx hwx hsx
  obtain ⟨xh,xb⟩:=x
  simp only [prea,sza,List.foldl_append] at hl hlen ihx hwx hsx
  simp -implicitDefEqProofs (disch:=first|omega|simp only[nx4]<;>omega|fail) [a92l12,a92r9,a92r10,e1,e2,e6,hM,hlt',hx]
  refine go_calls (ACalls.mono (ihx _ hwx hsx (by omega) hO hon) fun r s2 hn2 h => go_of ?_)
  obtain ⟨o2,rfl,k1,k2,k3,k4⟩:=h
  have hM2:s2.m s.nx=some (.box t.av.cells):=by rw [k4 _ hn (by omega),hM,Pl.av_cells]
  have hgl:=gadd_len (pre xb) l
  have hpl:=pre_len xb
  simp -implicitDefEqProofs (disch:=first|omega|simp only[nx4]<;>omega|fail) [a92r11,e6,w3]
  refine go_next (t.alts.length - (i+1)) (by omega) ⟨i+1,_,o2,by omega,rfl,hl,by omega,?_,?_,?_,?_,k3,by omega,k2,keptX_step hk k4 ho' (by omega),by omega⟩
  ·simp -implicitDefEqProofs (disch:=first|omega|simp only[nx4]<;>omega|fail)
  ·simp -implicitDefEqProofs (disch:=first|omega|simp only[nx4]<;>omega|fail) [e2]
  ·simp -implicitDefEqProofs (disch:=first|omega|simp only[nx4]<;>omega|fail)
  ·exact hM2
 ·have hlt':¬ (i:Int) < t.alts.length:=by omega
  obtain rfl:i=t.alts.length:=by omega
  rw [List.drop_length,prea,List.foldl_nil] at hl
  simp -implicitDefEqProofs (disch:=first|omega|simp only[nx4]<;>omega|fail) [a92l12,a92r9,e1,e2,e6,hM,hlt',a92r13]
  subst hl
  exact ⟨o',by rw [hfin],by omega,hon,by rw [hfin];exact hO,hk⟩
theorem p92 (t:Pl):C92 t:=by
 induction t using Pl.ind with
 | h t ih1 ih2 =>
 intro l o s hw hsm hlen ho hon
 refine fun_sound mixed Tryz.func92 Tryz.call92 c92 rfl (awpFun_go _ _ _ _ ?_)
 obtain ⟨hnd,hwa,hwb⟩:=wf_nd hw
 have hsz:=sz_eq t
 have hsp:=szs_pos t.args fun x _ => sz_pos x
 have hsp2:=sza_pos t.alts fun x _ => sz_pos x.2
 have hal:t.alts.length≤40:=by
  by_cases o8:t.op=8
  ·exact (hnd.cas o8).2.2
  ·rw [hnd.noalts o8];simp
 have hlena:=hnd.len
 have hpre:pre t=t::(pres t.args++prea t.alts):=by cases t;rw [pre];rfl
 have hfin:(pre t).foldl gadd l=(pres t.args++prea t.alts).foldl gadd (gadd l t):=by rw [hpre,List.foldl_cons]
 -- behind the switch
 have hrest:∀ (l1:List (List UInt8)) (o1:Nat) (g:Env) (s1:St),l1=gadd l t→(l1.length:Int)≤l.length+1→g.get 1=.mref 1 o1 0 l1.length→g.get 2=.ptr s.nx 0→s1.m s.nx=some (.box t.av.cells)→s1.m o1=some (.box (slist l1))→(o1=o∨s.nx < o1)→o1 < s1.nx→KeptX s o s1→s.nx < s1.nx →
   go (aops Tryz.prog a92r3 (regQ (seqQ Tryz.prog (.block 0 (.loop a92l7)) (seqQ Tryz.prog (.seq (.seq (.reg false a92r8) (.block 2 (.loop a92l12))) (.seq (.reg false a92r13) .ret)) (finQ [.tmp (true,4)] (R92 t l o s))))) g [] s1):=by
  intro l1 o1 g s1 h1 h2 e1 e2 hM hO ho1 hon1 hk hn
  rw [← h1] at hfin
  simp -implicitDefEqProofs (disch:=first|omega|simp only[nx4]<;>omega|fail) [a92r3]
  refine go_loop (IA92 t ((pre t).foldl gadd l) o s) t.args.length ⟨0,l1,o1,by omega,by omega,hfin.symm,by rw [List.drop_zero];omega,?_,?_,?_,?_,hO,ho1,?_,?_,?_⟩ ?_
  iterate 7 (simp -implicitDefEqProofs (disch:=first|omega|simp only[nx4]<;>omega|fail) [e1,e2,hM,hk,hon1,hn])
  clear e1 e2 hM hO ho1 hon1 hk hn h1 h2 hfin
  rintro m g s1 ⟨i,l1,o',hi,rfl,hl,hlen1,e1,e2,e5,hM,hO,ho',hon',hk,hn⟩
  rw [Pl.av_cells] at hM
  by_cases hlt:i < t.args.length
  ·have hlt':(i:Int) < t.args.length:=by omega
   have w3:=wrapS (i:=i) (by omega)
   rw [List.drop_eq_getElem_cons hlt] at hl hlen1
   have hspos:=szs_pos (t.args.drop (i+1)) fun x _ => sz_pos x
   have ihx:=ih1 _ (List.getElem_mem hlt) l1 o'
   have hwx:=hwa _ (List.getElem_mem hlt)
   have hsx:=small_arg hsm (List.getElem_mem hlt)
   generalize hx:t.args[i]=x at hl hlen1 ihx hwx hsx
   simp only [pres,szs,List.append_assoc] at hl hlen1
   rw [List.foldl_append] at hl
   simp -implicitDefEqProofs (disch:=first|omega|simp only[nx4]<;>omega|fail) [a92l7,a92r4,a92r5,e1,e2,e5,hM,hlt',hx]
   refine go_calls (ACalls.mono (ihx _ hwx hsx (by omega) hO hon') fun r s2 hn2 h => go_of ?_)
   obtain ⟨o2,rfl,k1,k2,k3,k4⟩:=h
   have hM2:s2.m s.nx=some (.box t.av.cells):=by rw [k4 _ hn (by omega),hM,Pl.av_cells]
   have hgl:=gadd_len (pre x) l1
   have hpl:=pre_len x
   simp -implicitDefEqProofs (disch:=first|omega|simp only[nx4]<;>omega|fail) [a92r6,e5,w3]
   refine go_next (t.args.length - (i+1)) (by omega) ⟨i+1,_,o2,by omega,rfl,hl,by omega,?_,?_,?_,?_,k3,by omega,k2,keptX_step hk k4 ho' (by omega),by omega⟩
   ·simp -implicitDefEqProofs (disch:=first|omega|simp only[nx4]<;>omega|fail)
   ·simp -implicitDefEqProofs (disch:=first|omega|simp only[nx4]<;>omega|fail) [e2]
   ·simp -implicitDefEqProofs (disch:=first|omega|simp only[nx4]<;>omega|fail)
   ·exact hM2
  ·have hlt':¬ (i:Int) < t.args.length:=by omega
   obtain rfl:i=t.args.length:=by omega
   rw [List.drop_length,pres,List.nil_append] at hl
   rw [List.drop_length,szs] at hlen1
   simp -implicitDefEqProofs (disch:=first|omega|simp only[nx4]<;>omega|fail) [a92l7,a92r4,e1,e2,e5,hM,hlt']
   exact loopB92 t ih2 _ l o s hnd hwb hsm hal hon rfl l1 o' hl (by omega) _ _ (by simp -implicitDefEqProofs (disch:=first|omega|simp only[nx4]<;>omega|fail) [e1]) (by simp -implicitDefEqProofs (disch:=first|omega|simp only[nx4]<;>omega|fail) [e2]) (by rw [Pl.av_cells];exact hM) hO ho' hon' hk hn
 by_cases o2:t.op=2
 ·simp -implicitDefEqProofs (disch:=first|omega|simp only[nx4]<;>omega|fail) [a92,a92b,a92r0,a92r1,a92r2,o2,ho]
  have hg:gadd l t=l++[t.s.data.toList]:=by rw [gadd,if_pos o2]
  rw [slist_snoc,← hg]
  have hgl:(gadd l t).length=l.length+1:=by rw [hg];simp
  refine hrest (gadd l t) (s.nx+1) _ _ rfl (by omega) ?_ ?_ ?_ ?_ (.inr (by omega)) ?_ ?_ ?_
  ·simp -implicitDefEqProofs (disch:=first|omega|simp only[nx4]<;>omega|fail) [hgl]
  ·simp -implicitDefEqProofs (disch:=first|omega|simp only[nx4]<;>omega|fail)
  ·simp -implicitDefEqProofs (disch:=first|omega|simp only[nx4]<;>omega|fail) [o2]
  ·simp -implicitDefEqProofs (disch:=first|omega|simp only[nx4]<;>omega|fail)
  ·simp -implicitDefEqProofs (disch:=first|omega|simp only[nx4]<;>omega|fail)
  ·intro q hq hne
   simp -implicitDefEqProofs (disch:=first|omega|simp only[nx4]<;>omega|fail) [hne]
  ·simp -implicitDefEqProofs (disch:=first|omega|simp only[nx4]<;>omega|fail)
   omega
 ·simp -implicitDefEqProofs (disch:=first|omega|simp only[nx4]<;>omega|fail) [a92,a92b,a92r0,a92r1,o2]
  have hg:gadd l t=l:=by rw [gadd,if_neg o2]
  refine hrest l o _ _ hg.symm (by omega) ?_ ?_ ?_ ?_ (.inl rfl) ?_ ?_ ?_
  ·simp -implicitDefEqProofs (disch:=first|omega|simp only[nx4]<;>omega|fail)
  ·simp -implicitDefEqProofs (disch:=first|omega|simp only[nx4]<;>omega|fail)
  ·simp -implicitDefEqProofs (disch:=first|omega|simp only[nx4]<;>omega|fail)
  ·simp -implicitDefEqProofs (disch:=first|omega|simp only[nx4]<;>omega|fail) [ho]
  ·simp -implicitDefEqProofs (disch:=first|omega|simp only[nx4]<;>omega|fail)
   omega
  ·simp -implicitDefEqProofs (disch:=first|omega|simp only[nx4]<;>omega|fail)
  ·simp -implicitDefEqProofs (disch:=first|omega|simp only[nx4]<;>omega|fail)
theorem p93 (zs:List (List UInt8)) (o:Nat) (s:St) (K:AV→St→Prop) (hlen:zs.length≤1000000) (ho:s.m o=some (.box (slist zs))) (hK:K (.tup []) (s.set o (.box (slist (bsort zs))))):ACalls Tryz.prog 93 [.mref 1 o 0 zs.length] s K:=by
 refine fun_sound mixed Tryz.func93 Tryz.call93 k93.2 rfl (awpFun_go _ _ _ _ ?_)
 simp -implicitDefEqProofs (disch:=first|omega|simp only[nx4]<;>omega|fail) [k93]
 refine go_calls (p85 zs o _ _ hlen ho (go_of ?_))
 simp -implicitDefEqProofs (disch:=first|omega|simp only[nx4]<;>omega|fail)
 exact hK
def I52 (zs:List (List UInt8)) (o:Nat) (s:St) (m:Nat) (g:Env) (s1:St):Prop :=
 ∃ (i:Nat),i≤zs.length∧m=zs.length - i∧g.get 3=.mref 1 o 0 zs.length∧g.get 5=.int .i64 i∧(∃ oa,g.get 4=.mref 1 oa 0 (Lib.compactUpTo zs.toArray i).length∧s1.m oa=some (.box (slist (Lib.compactUpTo zs.toArray i)))∧oa≠o∧s.nx≤oa∧oa < s1.nx)∧s1.m o=some (.box (slist zs))∧Kept s s1∧o < s1.nx
theorem ba_inj {x y:List UInt8}:ba x=ba y↔x=y:=by
 constructor
 ·intro h
  have:x.toArray=y.toArray:=by injection h
  simpa using this
 ·rintro rfl;rfl
theorem compactUpTo_len (d:Array (List UInt8)):∀ m,(Lib.compactUpTo d m).length≤m:=by
 intro m
 simp only [Lib.compactUpTo,List.length_map]
 refine Nat.le_trans (List.length_filter_le _ _) ?_
 simp
theorem slist_drop {zs:List (List UInt8)} {i:Nat} (h:i < zs.length):(slist zs).drop i=.str (ba zs[i])::(slist zs).drop (i+1):=by
 rw [List.drop_eq_getElem_cons (by simpa using h),slist_get h]
theorem slist_snoc2 (l:List (List UInt8)) (x:List UInt8):slist l++[AV.str (ba x)]=slist (l++[x]):=by simp [slist,ba]
theorem p52 (t:Pl) (hw:wf t=true) (hs:small t):PureC Tryz.prog 52 [t.av] (.list 1 .none (slist (gls t))):=by
 refine PureC.intro fun s => freeze1 (fun_sound mixed Tryz.func52 Tryz.call52 k52.2 rfl (awpFun_go _ _ _ _ ?_))
 have hsz:=hs.1
 have hl:(gnm t).length≤3000:=by
  have:=gadd_len (pre t) []
  have:=pre_len t
  simp only [List.length_nil] at *
  unfold gnm
  omega
 simp -implicitDefEqProofs (disch:=first|omega|simp only[nx4]<;>omega|fail) [k52]
 refine go_calls (ACalls.nilarg (i:=1) 1 rfl (ACalls.mono (p92 t [] _ _ hw hs (by simp;omega) (by simp -implicitDefEqProofs (disch:=first|omega|simp only[nx4]<;>omega|fail) [slist]) (by simp -implicitDefEqProofs (disch:=first|omega|simp only[nx4]<;>omega|fail))) fun r s' hn' h => go_of ?_))
 obtain ⟨o',rfl,k1,k2,k3,k4⟩:=h
 change s'.m o'=some (.box (slist (gnm t))) at k3
 have hg:((pre t).foldl gadd []).length=(gnm t).length:=rfl
 rw [hg]
 simp -implicitDefEqProofs (disch:=first|omega|simp only[nx4]<;>omega|fail) at k1 k4 hn'
 simp -implicitDefEqProofs (disch:=first|omega|simp only[nx4]<;>omega|fail) []
 refine go_calls (p93 (gnm t) o' _ _ (by omega) (by simp -implicitDefEqProofs (disch:=first|omega|simp only[nx4]<;>omega|fail) [k3]) (go_of ?_))
 simp -implicitDefEqProofs (disch:=first|omega|simp only[nx4]<;>omega|fail) []
 have hbl:=bsort_length (gnm t)
 have hgl:gls t=Lib.compactUpTo (bsort (gnm t)).toArray (bsort (gnm t)).length:=rfl
 generalize bsort (gnm t)=zs at hbl hgl ⊢
 rw [hgl,← hbl]
 have hkp:∀ q,q < s.nx→s'.m q=s.m q:=fun q hq => by
  have h:=k4 q (by simp -implicitDefEqProofs (disch:=first|omega|simp only[nx4]<;>omega|fail);omega) (by omega)
  simp -implicitDefEqProofs (disch:=first|omega|simp only[nx4]<;>omega|fail) at h
  exact h
 have ho':s.nx≤o':=by omega
 refine go_loop (I52 zs o' s) zs.length ⟨0,by omega,by omega,?_,?_,⟨s'.nx,?_,?_,by omega,by omega,?_⟩,?_,?_,?_⟩ ?_
 ·simp -implicitDefEqProofs (disch:=first|omega|simp only[nx4]<;>omega|fail)
 ·simp -implicitDefEqProofs (disch:=first|omega|simp only[nx4]<;>omega|fail)
 ·simp -implicitDefEqProofs (disch:=first|omega|simp only[nx4]<;>omega|fail) [Lib.compactUpTo]
 ·simp -implicitDefEqProofs (disch:=first|omega|simp only[nx4]<;>omega|fail) [Lib.compactUpTo,slist]
 ·simp -implicitDefEqProofs (disch:=first|omega|simp only[nx4]<;>omega|fail)
 ·simp -implicitDefEqProofs (disch:=first|omega|simp only[nx4]<;>omega|fail)
 ·intro q hq
  have:q≠o':=by omega
  simp -implicitDefEqProofs (disch:=first|omega|simp only[nx4]<;>omega|fail) [this,hkp q hq]
 ·simp -implicitDefEqProofs (disch:=first|omega|simp only[nx4]<;>omega|fail)
  omega
 rintro m g s1 ⟨i,hi,rfl,e3,e5,⟨oa,e4,hA,hne,hoa1,hoa2⟩,hO,hk,hn⟩
 by_cases hlt:i < zs.length
 ·have hlt':(i:Int) < zs.length:=by omega
  have w3:=wrapS (i:=i) (by omega)
  have hcl:=compactUpTo_len zs.toArray i
  have hgt:=slist_get hlt
  have hgt?:=slist_get? hlt
  have hsucc:=Lib.compactUpTo_succ zs.toArray i
  have hx:zs.toArray[i]! = zs[i]:=by simp [hlt]
  by_cases i0:i=0
  ·subst i0
   have hkp:Lib.keeps zs.toArray 0=true:=by simp [Lib.keeps]
   rw [if_pos hkp,hx] at hsucc
   have hl1:=congrArg List.length hsucc
   simp only [List.length_append,List.length_singleton] at hl1
   simp -implicitDefEqProofs (disch:=first|omega|simp only[nx4]<;>omega|fail) [e3,e4,e5,hlt',hO,hA,hlt,hgt,hgt?,slist_drop hlt]
   intro m hm
   rw [slist_snoc2,← hsucc]
   refine go_next (zs.length - 1) (by omega) ⟨1,by omega,rfl,?_,?_,⟨m,?_,?_,by omega,by omega,?_⟩,?_,?_,?_⟩
   all_goals (try simp -implicitDefEqProofs (disch:=first|omega|simp only[nx4]<;>omega|fail) [e3,hl1,hO,hk,show IntKind.i64.wrap 1=1 from rfl])
   all_goals (try omega)
  ·have hi0:¬ (i:Int)=0:=by omega
   have w4:IntKind.i64.wrap ((i:Int) - 1)=((i - 1:Nat):Int):=by rw [wrap64 (by omega) (by omega)];omega
   have hlt2:i - 1 < zs.length:=by omega
   have hgt2:=slist_get hlt2
   have hgt2?:=slist_get? hlt2
   have hx2:zs.toArray[i - 1]! = zs[i - 1]:=by simp [hlt2]
   simp -implicitDefEqProofs (disch:=first|omega|simp only[nx4]<;>omega|fail) [e3,e4,e5,hlt',hO,hlt,hgt,hgt?,hi0,w4,hlt2,hgt2,hgt2?,slist_drop hlt,slist_drop hlt2]
   refine ⟨fun _ m hm => ⟨fun hd => ?_,fun hd => ?_⟩,fun h => absurd h i0⟩
   ·have hkp:Lib.keeps zs.toArray i=true:=Lib.keeps_pos (by rw [hx,hx2];exact fun e => hd (by rw [e]))
    rw [if_pos hkp,hx] at hsucc
    have hl1:=congrArg List.length hsucc
    simp only [List.length_append,List.length_singleton] at hl1
    simp -implicitDefEqProofs (disch:=first|omega|simp only[nx4]<;>omega|fail) [e3,e4,e5,hO,hA,hlt,hgt,hgt?,slist_drop hlt,w3]
    rw [slist_snoc2,← hsucc]
    refine go_next (zs.length - (i+1)) (by omega) ⟨i+1,by omega,rfl,?_,?_,⟨m,?_,?_,by omega,by omega,?_⟩,?_,?_,?_⟩
    all_goals (try simp -implicitDefEqProofs (disch:=first|omega|simp only[nx4]<;>omega|fail) [e3,hl1,hO,hk,w3])
    all_goals (try omega)
   ·have hkp:Lib.keeps zs.toArray i=false:=Lib.keeps_neg (by omega) (by rw [hx,hx2];exact ba_inj.1 hd)
    rw [hkp] at hsucc
    simp only [Bool.false_eq_true,if_false,List.append_nil] at hsucc
    simp -implicitDefEqProofs (disch:=first|omega|simp only[nx4]<;>omega|fail) [e3,e4,e5,w3]
    refine go_next (zs.length - (i+1)) (by omega) ⟨i+1,by omega,rfl,?_,?_,⟨oa,?_,?_,by omega,by omega,?_⟩,?_,?_,?_⟩
    all_goals (try simp -implicitDefEqProofs (disch:=first|omega|simp only[nx4]<;>omega|fail) [e3,e4,hsucc,hO,hA,hk,w3])
    all_goals (try omega)
 ·have hlt':¬ (i:Int) < zs.length:=by omega
  obtain rfl:i=zs.length:=by omega
  simp -implicitDefEqProofs (disch:=first|omega|simp only[nx4]<;>omega|fail) [e3,e4,e5,hlt']
  refine ⟨1,oa,_,⟨rfl,rfl,rfl⟩,slist (Lib.compactUpTo zs.toArray zs.length),by rw [flat_sl];exact hA,?_,by simp,by simp,?_⟩
  ·intro x hx
   simp only [slist,List.mem_map] at hx
   obtain ⟨y,_,rfl⟩:=hx
   rfl
  ·simp -implicitDefEqProofs (disch:=first|omega|simp only[nx4]<;>omega|fail) [hk]
def dfd (p:List Gl) (t:Pl):Bool:=(gls t).all fun x => decide (0≤findI p (ba x))
def I28 (p:List Gl) (zs:List (List UInt8)) (s:St) (m:Nat) (g:Env) (s1:St):Prop :=
 ∃ i:Nat,i≤zs.length∧m=zs.length - i∧((zs.drop i).all fun x => decide (0≤findI p (ba x)))=(zs.all fun x => decide (0≤findI p (ba x)))∧g.get 0=.list 6 .none (p.map Gl.av)∧g.get 5=.list 1 .none (slist zs)∧g.get 6=.int .i64 i∧Kept s s1∧s.nx≤s1.nx
theorem p28 (p:List Gl) (t:Pl) (hp:p.length≤100000) (hw:wf t=true) (hs:small t):PureC Tryz.prog 28 [.list 6 .none (p.map Gl.av),t.av] (.bool (dfd p t)):=by
 refine PureC.intro fun s => fun_sound mixed Tryz.func28 Tryz.call28 k28.2 rfl (awpFun_go _ _ _ _ ?_)
 have hgl:(gls t).length≤3000:=by have:=pre_len t;have:=gls_len t;have:=hs.1;omega
 simp -implicitDefEqProofs (disch:=first|omega|simp only[nx4]<;>omega|fail) [k28]
 refine go_pure (p52 t hw hs) fun mm1 hm1 => ?_
 try simp only [nx4] at hm1
 simp -implicitDefEqProofs (disch:=first|omega|simp only[nx4]<;>omega|fail) []
 rw [dfd]
 generalize gls t=zs at hgl ⊢
 refine go_loop (I28 p zs s) zs.length ⟨0,by omega,by omega,rfl,?_,?_,?_,?_,?_⟩ ?_
 iterate 5 (simp -implicitDefEqProofs (disch:=first|omega|simp only[nx4]<;>omega|fail))
 ·omega
 rintro m g s1 ⟨i,hi,rfl,hw,e0,e5,e6,hk,hn⟩
 by_cases hlt:i < zs.length
 ·have hlt':(i:Int) < zs.length:=by omega
  have w3:=wrapS (i:=i) (by omega)
  rw [List.drop_eq_getElem_cons hlt,List.all_cons] at hw
  have hgt:=slist_get hlt
  have hgt?:=slist_get? hlt
  have h23:=p23 p (ba zs[i]) hp
  generalize zs[i]=x at hw hgt hgt? h23
  simp -implicitDefEqProofs (disch:=first|omega|simp only[nx4]<;>omega|fail) [e0,e5,e6,hlt',hlt,hgt,hgt?]
  by_cases h:0≤findI p (ba x)
  ·have h':¬ findI p (ba x) < 0:=by omega
   rw [decide_eq_true h,Bool.true_and] at hw
   refine go_pure h23 fun mm2 hm2 => ?_
   try simp only [nx4] at hm2
   simp -implicitDefEqProofs (disch:=first|omega|simp only[nx4]<;>omega|fail) [h',e6,w3]
   refine go_next (zs.length - (i+1)) (by omega) ⟨i+1,by omega,rfl,hw,?_,?_,?_,?_,?_⟩
   all_goals (try simp -implicitDefEqProofs (disch:=first|omega|simp only[nx4]<;>omega|fail) [e0,e5,hk])
   all_goals (try omega)
  ·have h':findI p (ba x) < 0:=by omega
   rw [decide_eq_false h,Bool.false_and] at hw
   refine go_pure h23 fun mm3 hm3 => ?_
   try simp only [nx4] at hm3
   simp -implicitDefEqProofs (disch:=first|omega|simp only[nx4]<;>omega|fail) [h',← hw,hk]
 ·have hlt':¬ (i:Int) < zs.length:=by omega
  obtain rfl:i=zs.length:=by omega
  rw [List.drop_length,List.all_nil] at hw
  simp -implicitDefEqProofs (disch:=first|omega|simp only[nx4]<;>omega|fail) [e0,e5,e6,hlt',← hw,hk]
theorem p31 (t:Pl) (hs:small t):PureC Tryz.prog 31 [t.av,.int .i64 0] (.bool (wf t && decide (fv t 0=[]))):=by
 refine PureC.intro fun s => fun_sound mixed Tryz.func31 Tryz.call31 k31.2 rfl (awpFun_go _ _ _ _ ?_)
 have h27:=p27 t hs
 simp -implicitDefEqProofs (disch:=first|omega|simp only[nx4]<;>omega|fail) [k31]
 cases hw:wf t with
 | false =>
  rw [hw] at h27
  refine go_pure h27 fun mm4 hm4 => ?_
  try simp only [nx4] at hm4
  simp -implicitDefEqProofs (disch:=first|omega|simp only[nx4]<;>omega|fail) []
 | true =>
  rw [hw] at h27
  refine go_pure h27 fun mm5 hm5 => ?_
  try simp only [nx4] at hm5
  simp -implicitDefEqProofs (disch:=first|omega|simp only[nx4]<;>omega|fail) []
  refine go_pure (p61 t 0 hw hs (by omega) (by have:=hs.2;omega)) fun mm6 hm6 => ?_
  try simp only [nx4] at hm6
  simp -implicitDefEqProofs (disch:=first|omega|simp only[nx4]<;>omega|fail) []
def chks (p:List Gl):List Gl→Nat→Bool
 | [],_ => true
 | g::r,i => nm g.name && !decide (findI p g.name < i) && (wf g.body && decide (fv g.body 0=[])) && (!wf g.body || dfd p g.body) && chks p r (i+1)
theorem idxQ_lt {α:Type} (q:α→Bool):∀ (l:List α) (i:Int) (k:Nat),0≤i→(∃ x∈l,q x=true)→(idxQ q l i < i+k↔∃ x∈l.take k,q x=true)
 | [],i,k,_,h => by simp at h
 | x::r,i,k,h0,h => by
  rw [idxQ]
  by_cases hq:q x=true
  ·rw [if_pos hq]
   cases k with
   | zero => simp
   | succ k => simp [hq];omega
  ·rw [if_neg hq]
   have h':∃ x∈r,q x=true:=by
    obtain ⟨y,hy,hy2⟩:=h
    rcases List.mem_cons.1 hy with rfl | hy
    ·exact absurd hy2 hq
    ·exact ⟨y,hy,hy2⟩
   cases k with
   | zero =>
    have:=(idxQ_neg q r (i+1) (by omega)).2 h'
    have h3:=(idxQ_lt q r (i+1) 0 (by omega) h')
    simp only [List.take_zero,List.not_mem_nil,false_and,exists_false,iff_false] at h3 ⊢
    omega
   | succ k =>
    have h3:=(idxQ_lt q r (i+1) k (by omega) h')
    have e:i+1+(k:Int)=i+((k+1:Nat):Int):=by omega
    rw [e] at h3
    rw [h3]
    simp [hq]
theorem findI_mem {p:List Gl} {s:ByteArray}:0≤findI p s↔s∈nms p:=by
 rw [findI,idxQ_neg _ _ _ (by omega)]
 simp [nms,eq_comm]
theorem findI_lt {p:List Gl} {s:ByteArray} (h:s∈nms p) (k:Nat):findI p s < k↔s∈(nms p).take k:=by
 have h2:∃ g∈p,decide (g.name=s)=true:=by
  simp only [nms,List.mem_map] at h
  obtain ⟨g,hg,rfl⟩:=h
  exact ⟨g,hg,by simp⟩
 have:=idxQ_lt (fun g:Gl => decide (g.name=s)) p 0 k (by omega) h2
 rw [findI]
 rw [Int.zero_add] at this
 rw [this,nms,← List.map_take,List.mem_map]
 simp
theorem chks_isP (p:List Gl):∀ (r:List Gl) (i:Nat),p.drop i=r→i≤p.length→chks p r i=(namesOK ((nms p).take i) r && r.all fun g => clo (nms p) g.body)
 | [],i,h,_ => by simp [chks,namesOK]
 | g::r,i,h,hi => by
  have hlt:i < p.length:=by
   rcases Nat.lt_or_ge i p.length with h2 | h2
   ·exact h2
   ·rw [List.drop_eq_nil_of_le h2] at h;cases h
  rw [List.drop_eq_getElem_cons hlt] at h
  injection h with h1 h2
  have ih:=chks_isP p r (i+1) h2 (by omega)
  have hmem:g.name∈nms p:=by
   rw [nms,← h1]
   exact List.mem_map_of_mem (List.getElem_mem hlt)
  have hf:=findI_lt hmem i
  rw [chks,ih,namesOK,nms_take hlt,h1,List.all_cons]
  have e1:decide (findI p g.name < i)=decide (g.name∈(nms p).take i):=by
   rw [Bool.eq_iff_iff];simpa using hf
  have e2:clo (nms p) g.body=(decide (fv g.body 0=[]) && dfd p g.body):=by
   rw [clo,dfd]
   congr 2
   funext x
   rw [Bool.eq_iff_iff]
   simp [findI_mem]
  rw [e1,e2]
  cases wf g.body <;> cases nm g.name <;> cases decide (g.name∈(nms p).take i) <;> cases decide (fv g.body 0=[]) <;> cases dfd p g.body <;> simp [Bool.and_comm]
def I9 (p:List Gl) (s:St) (m:Nat) (g:Env) (s1:St):Prop :=
 ∃ i:Nat,i≤p.length∧m=p.length - i∧chks p (p.drop i) i=chks p p 0∧g.get 0=.list 6 .none (p.map Gl.av)∧g.get 3=.int .i64 i∧Kept s s1∧s.nx≤s1.nx
theorem p9 (p:List Gl) (hp:Few p):PureC Tryz.prog 9 [.list 6 .none (p.map Gl.av)] (.bool (isP p)):=by
 refine PureC.intro fun s => fun_sound mixed Tryz.func9 Tryz.call9 k9.2 rfl (awpFun_go _ _ _ _ ?_)
 obtain ⟨hpl,hpb⟩:=hp
 by_cases hl0:400 < p.length
 ·have h1:(400:Int) < p.length:=by omega
  have hl:¬ p.length≤400:=by omega
  have h2:isP p=false:=by simp [isP,hl]
  simp -implicitDefEqProofs (disch:=first|omega|simp only[nx4]<;>omega|fail) [k9,h1,h2]
 have hl:p.length≤400:=by omega
 have hdef:isP p=chks p p 0:=by rw [chks_isP p p 0 rfl (by omega),isP];simp [hl]
 rw [hdef]
 have h1:¬ (400:Int) < p.length:=by omega
 simp -implicitDefEqProofs (disch:=first|omega|simp only[nx4]<;>omega|fail) [k9,h1]
 refine go_loop (I9 p s) p.length ⟨0,by omega,by omega,rfl,?_,?_,?_,?_⟩ ?_
 iterate 4 (simp -implicitDefEqProofs (disch:=first|omega|simp only[nx4]<;>omega|fail))
 rintro m g s1 ⟨i,hi,rfl,hw,e0,e3,hk,hn⟩
 by_cases hlt:i < p.length
 ·have hlt':(i:Int) < p.length:=by omega
  have w3:=wrapS (i:=i) (by omega)
  rw [List.drop_eq_getElem_cons hlt,chks] at hw
  obtain ⟨hsm,hrg⟩:=hpb _ (List.getElem_mem hlt)
  generalize hx:p[i]=x at hw hsm hrg
  have h34:=p34 x.name
  have h23:=p23 p x.name (by omega)
  have h31:=p31 x.body hsm
  have h28:=p28 p x.body (by omega)
  simp -implicitDefEqProofs (disch:=first|omega|simp only[nx4]<;>omega|fail) [e0,e3,hlt',hx]
  cases hnm:nm x.name with
  | false =>
   rw [hnm] at h34 hw
   simp only [Bool.false_and] at hw
   refine go_pure h34 fun mm7 hm7 => ?_
   try simp only [nx4] at hm7
   simp -implicitDefEqProofs (disch:=first|omega|simp only[nx4]<;>omega|fail) [← hw,hk]
  | true =>
   rw [hnm] at h34 hw
   by_cases hf:findI p x.name < i
   ·rw [decide_eq_true hf] at hw
    simp only [Bool.not_true,Bool.and_false,Bool.false_and] at hw
    refine go_pure h34 fun mm8 hm8 => ?_
    try simp only [nx4] at hm8
    simp -implicitDefEqProofs (disch:=first|omega|simp only[nx4]<;>omega|fail) [e0,e3,hlt',hx]
    refine go_pure h23 fun mm9 hm9 => ?_
    try simp only [nx4] at hm9
    simp -implicitDefEqProofs (disch:=first|omega|simp only[nx4]<;>omega|fail) [e3,hf,← hw,hk]
   ·rw [decide_eq_false hf] at hw
    simp only [Bool.not_false,Bool.and_true,Bool.true_and] at hw
    refine go_pure h34 fun mm10 hm10 => ?_
    try simp only [nx4] at hm10
    simp -implicitDefEqProofs (disch:=first|omega|simp only[nx4]<;>omega|fail) [e0,e3,hlt',hx]
    cases hT:(wf x.body && decide (fv x.body 0=[])) with
    | false =>
     rw [hT] at h31 hw
     simp only [Bool.false_and] at hw
     refine go_pure h23 fun mm11 hm11 => ?_
     try simp only [nx4] at hm11
     simp -implicitDefEqProofs (disch:=first|omega|simp only[nx4]<;>omega|fail) [hf,e0,e3,hlt',hx]
     refine go_pure h31 fun mm12 hm12 => ?_
     try simp only [nx4] at hm12
     simp -implicitDefEqProofs (disch:=first|omega|simp only[nx4]<;>omega|fail) [← hw,hk]
    | true =>
     rw [hT] at h31 hw
     have hwf:wf x.body=true:=by
      rw [Bool.and_eq_true] at hT;exact hT.1
     have h28':=h28 hwf hsm
     rw [hwf] at hw
     simp only [Bool.not_true,Bool.false_or,Bool.true_and] at hw
     refine go_pure h23 fun mm13 hm13 => ?_
     try simp only [nx4] at hm13
     simp -implicitDefEqProofs (disch:=first|omega|simp only[nx4]<;>omega|fail) [hf,e0,e3,hlt',hx]
     refine go_pure h31 fun mm14 hm14 => ?_
     try simp only [nx4] at hm14
     simp -implicitDefEqProofs (disch:=first|omega|simp only[nx4]<;>omega|fail) [e0,e3,hlt',hx]
     cases hd:dfd p x.body with
     | false =>
      rw [hd] at h28' hw
      simp only [Bool.false_and] at hw
      refine go_pure h28' fun mm15 hm15 => ?_
      try simp only [nx4] at hm15
      simp -implicitDefEqProofs (disch:=first|omega|simp only[nx4]<;>omega|fail) [← hw,hk]
     | true =>
      rw [hd] at h28' hw
      simp only [Bool.true_and] at hw
      refine go_pure h28' fun mm16 hm16 => ?_
      try simp only [nx4] at hm16
      simp -implicitDefEqProofs (disch:=first|omega|simp only[nx4]<;>omega|fail) [e3,w3]
      refine go_next (p.length - (i+1)) (by omega) ⟨i+1,by omega,rfl,hw,?_,?_,?_,?_⟩
      all_goals (try simp -implicitDefEqProofs (disch:=first|omega|simp only[nx4]<;>omega|fail) [e0,hk])
      all_goals (try omega)
 ·have hlt':¬ (i:Int) < p.length:=by omega
  obtain rfl:i=p.length:=by omega
  rw [List.drop_length,chks] at hw
  simp -implicitDefEqProofs (disch:=first|omega|simp only[nx4]<;>omega|fail) [e0,e3,hlt',← hw,hk]
end Go.AL.Dm
namespace Go.AL.Dm
def Asc (l:List Int):Prop:=l.Pairwise (· < ·)
theorem asc_nil:Asc []:=List.Pairwise.nil
theorem Asc.nodup {l:List Int} (h:Asc l):l.Nodup:=List.Pairwise.imp (fun h => by omega) h
theorem asc_ext:∀ {a b:List Int},Asc a→Asc b→(∀ k,k∈a↔k∈b)→a=b
 | [],[],_,_,_ => rfl
 | [],y::b,_,_,h => by have:=(h y).2 (by simp);simp at this
 | x::a,[],_,_,h => by have:=(h x).1 (by simp);simp at this
 | x::a,y::b,ha,hb,h => by
  obtain ⟨ha1,ha2⟩:=List.pairwise_cons.1 ha
  obtain ⟨hb1,hb2⟩:=List.pairwise_cons.1 hb
  have hxy:x=y:=by
   have h1:=(h x).1 (by simp)
   have h2:=(h y).2 (by simp)
   rcases List.mem_cons.1 h1 with h1 | h1
   ·exact h1
   ·rcases List.mem_cons.1 h2 with h2 | h2
    ·exact h2.symm
    ·have:=hb1 _ h1;have:=ha1 _ h2;omega
  subst hxy
  congr 1
  refine asc_ext ha2 hb2 fun k => ?_
  have:=h k
  simp only [List.mem_cons] at this
  constructor
  ·intro hk
   have hne:k≠x:=by have:=ha1 k hk;omega
   exact (this.1 (.inr hk)).resolve_left hne
  ·intro hk
   have hne:k≠x:=by have:=hb1 k hk;omega
   exact (this.2 (.inr hk)).resolve_left hne
def ladd (n:Int):List Int→List Int
 | [] => [n]
 | a::r => if a < n then a::ladd n r else if a=n then a::r else n::a::r
theorem mem_ladd {k n:Int}:∀ {l:List Int},k∈ladd n l↔k=n∨k∈l
 | [] => by simp [ladd]
 | a::r => by
  unfold ladd
  split
  ·simp only [List.mem_cons,mem_ladd (l:=r)]
   constructor
   ·rintro (h | h | h) <;> simp [h]
   ·rintro (h | h | h) <;> simp [h]
  ·split
   ·rename_i h;subst h;simp
   ·simp
theorem ladd_asc {n:Int}:∀ {l:List Int},Asc l→Asc (ladd n l)
 | [],_ => by simp [ladd,Asc]
 | a::r,h => by
  obtain ⟨h1,h2⟩:=List.pairwise_cons.1 h
  unfold ladd
  split
  ·refine List.pairwise_cons.2 ⟨fun b hb => ?_,ladd_asc h2⟩
   rcases mem_ladd.1 hb with rfl | hb
   ·assumption
   ·exact h1 b hb
  ·split
   ·exact h
   ·refine List.pairwise_cons.2 ⟨fun b hb => ?_,h⟩
    rcases List.mem_cons.1 hb with rfl | hb
    ·omega
    ·have:=h1 b hb;omega
def lun (a b:List Int):List Int:=b.foldl (fun l n => ladd n l) a
theorem mem_lun {k:Int}:∀ {b a:List Int},k∈lun a b↔k∈a∨k∈b
 | [],a => by simp [lun]
 | n::b,a => by
  have:=mem_lun (k:=k) (b:=b) (a:=ladd n a)
  simp only [lun,List.foldl_cons] at *
  rw [this,mem_ladd,List.mem_cons]
  constructor
  ·rintro ((h | h) | h) <;> simp [h]
  ·rintro (h | h | h) <;> simp [h]
theorem lun_asc:∀ {b a:List Int},Asc a→Asc (lun a b)
 | [],a,h => h
 | n::b,a,h => by
  simp only [lun,List.foldl_cons]
  exact lun_asc (b:=b) (ladd_asc h)
abbrev ND:=Option (List Int)
def ND.ok:ND→Prop
 | none => True
 | some l => Asc l
def ND.has:ND→Int→Prop
 | none,_ => False
 | some l,k => k∈l
instance (x:ND) (k:Int):Decidable (x.has k):=by cases x <;> unfold ND.has <;> infer_instance
def nWith:ND→ND→ND
 | some a,some b => some (lun a b)
 | _,_ => none
def nMeet (a b:List Int):List Int:=a.filter fun k => decide (k∈b)
def nBoth:ND→ND→ND
 | none,m => m
 | some a,none => some a
 | some a,some b => some (nMeet a b)
def nOut (n:Int):ND→ND
 | none => none
 | some l => some ((l.filter fun k => decide (n≤k)).map (· - n))
theorem nWith_ok {a b:ND} (ha:a.ok) (hb:b.ok):(nWith a b).ok:=by
 cases a <;> cases b <;> simp only [nWith,ND.ok] at *
 exact lun_asc ha
theorem asc_filter {l:List Int} (h:Asc l) (p:Int→Bool):Asc (l.filter p):=List.Pairwise.filter _ h
theorem nMeet_asc {a b:List Int} (ha:Asc a):Asc (nMeet a b):=asc_filter ha _
theorem nBoth_ok {a b:ND} (ha:a.ok) (hb:b.ok):(nBoth a b).ok:=by
 cases a <;> cases b <;> simp only [nBoth,ND.ok] at *
 ·exact hb
 ·exact ha
 ·exact nMeet_asc ha
theorem nOut_asc {l:List Int} (h:Asc l) (n:Int):Asc ((l.filter fun k => decide (n≤k)).map (· - n)):=by
 unfold Asc
 rw [List.pairwise_map]
 exact List.Pairwise.imp (fun h => by omega) (asc_filter h _)
theorem nOut_ok {a:ND} (ha:a.ok) (n:Int):(nOut n a).ok:=by
 cases a with
 | none => trivial
 | some l => exact nOut_asc ha n
theorem mem_nOut {l:List Int} {n k:Int}:k∈(l.filter fun k => decide (n≤k)).map (· - n)↔k+n∈l∧0≤k:=by
 simp only [List.mem_map,List.mem_filter,decide_eq_true_eq]
 constructor
 ·rintro ⟨x,⟨h1,h2⟩,rfl⟩
  exact ⟨by rw [show x - n+n=x by omega];exact h1,by omega⟩
 ·rintro ⟨h1,h2⟩
  exact ⟨k+n,⟨h1,by omega⟩,by omega⟩
inductive Reach (n:Int) (vals:Int→ND) (body:ND):Int→Prop
 | body {l:List Int} {k:Int}:body=some l→k∈l→Reach n vals body k
 | val {u:Int} {l:List Int} {k:Int}:Reach n vals body u→0≤u→u < n→vals u=some l→k∈l→Reach n vals body k
def AllR (n:Int) (vals:Int→ND) (body:ND):Prop:=body=none∨∃ u,Reach n vals body u∧0≤u∧u < n∧vals u=none
def valOf (vs:List ND) (u:Int):ND:=if 0≤u then (vs[vs.length - 1 - u.toNat]?).getD (some []) else some []
open Classical in
noncomputable def letC (vs:List ND) (body:ND):ND :=
 if AllR vs.length (valOf vs) body then none
 else nOut vs.length (some (lun [] ((body.getD []++vs.flatMap fun v => v.getD []).filter fun k => decide (Reach vs.length (valOf vs) body k))))
theorem reach_in {vs:List ND} {body:ND} {k:Int} (h:Reach vs.length (valOf vs) body k):k∈body.getD []++vs.flatMap fun v => v.getD []:=by
 cases h with
 | body h1 h2 => rw [h1];simp [h2]
 | @val u l k hr h0 h1 h2 h3 =>
  simp only [List.mem_append,List.mem_flatMap]
  refine .inr ?_
  unfold valOf at h2
  rw [if_pos h0] at h2
  cases hv:vs[vs.length - 1 - u.toNat]? with
  | none => rw [hv] at h2;simp at h2;subst h2;simp at h3
  | some v =>
   rw [hv] at h2
   simp only [Option.getD_some] at h2
   exact ⟨v,List.mem_of_getElem? hv,by rw [h2];exact h3⟩
theorem letC_none {vs:List ND} {body:ND}:letC vs body=none↔AllR vs.length (valOf vs) body:=by
 unfold letC
 split
 ·simp [*]
 ·simp [nOut, *]
theorem letC_some {vs:List ND} {body:ND} (h:¬ AllR vs.length (valOf vs) body):∃ l,letC vs body=some l∧Asc l∧∀ k,k∈l↔Reach vs.length (valOf vs) body (k+vs.length)∧0≤k:=by
 unfold letC
 rw [if_neg h]
 refine ⟨_,rfl,nOut_asc (lun_asc asc_nil) _,fun k => ?_⟩
 rw [mem_nOut,mem_lun]
 simp only [List.not_mem_nil,false_or,List.mem_filter,decide_eq_true_eq]
 exact ⟨fun h => ⟨h.1.2,h.2⟩,fun h => ⟨⟨reach_in h.1,h.1⟩,h.2⟩⟩
theorem letC_ok (vs:List ND) (body:ND):(letC vs body).ok:=by
 by_cases h:AllR vs.length (valOf vs) body
 ·rw [letC_none.2 h];trivial
 ·obtain ⟨l,h1,h2,_⟩:=letC_some h
  rw [h1];exact h2
theorem letC_eq {vs:List ND} {body:ND} {S:List Int} (hS:Asc S) (h1:∀ k∈S,Reach vs.length (valOf vs) body k) (h2:∃ l,body=some l∧∀ k∈l,k∈S)
  (h3:∀ u∈S,0≤u→u < vs.length→∃ l,valOf vs u=some l∧∀ k∈l,k∈S):letC vs body=nOut vs.length (some S):=by
 have hr:∀ k,Reach vs.length (valOf vs) body k→k∈S:=by
  intro k hk
  induction hk with
  | body e hm =>
   obtain ⟨l,e2,h⟩:=h2
   rw [e] at e2;cases e2;exact h _ hm
  | val _ h0 hn e hm ih =>
   obtain ⟨l,e2,h⟩:=h3 _ ih h0 hn
   rw [e] at e2;cases e2;exact h _ hm
 have hna:¬ AllR vs.length (valOf vs) body:=by
  rintro (h | ⟨u,hu,h0,hn,hv⟩)
  ·obtain ⟨l,e,_⟩:=h2;rw [h] at e;cases e
  ·obtain ⟨l,e,_⟩:=h3 u (hr u hu) h0 hn;rw [hv] at e;cases e
 obtain ⟨l,e,ha,hm⟩:=letC_some hna
 rw [e,nOut]
 congr 1
 refine asc_ext ha (nOut_asc hS _) fun k => ?_
 rw [hm,mem_nOut]
 exact ⟨fun h => ⟨hr _ h.1,h.2⟩,fun h => ⟨h1 _ h.1,h.2⟩⟩
structure Kn where
 w:Int
 st:List Bool
 fails:Bool
def unionIf:List Bool→List ND→ND→ND
 | b::bs,x::xs,acc => unionIf bs xs (if b=true then nWith acc x else acc)
 | _,_,acc => acc
def lamArgs (fb:ND) (n:Int):Int→List ND→ND→ND
 | i,x::xs,acc => if i < n then lamArgs fb n (i+1) xs (if fb.has (n - 1 - i) then nWith acc x else acc) else acc
 | _,[],acc => acc
def throwS:ByteArray:=⟨#[116,104,114,111,119]⟩
noncomputable def comb (K:ByteArray→Kn) (op n:Int) (s:ByteArray) (args:List (Pl × ND × ND)) (alts:List (Hd × ND)):ND :=
 if op=1 then some [n]
 else if op=2 then (if (K s).w=0∧(K s).fails=true then none else some [])
 else if op=6 then
  match args with
  | [] => some []
  | (f,fN,fB)::l =>
   if f.op=5∧f.n≤l.length then lamArgs fB f.n 0 (l.map (·.2.1)) (nOut f.n fB)
   else if f.op≠2 then fN
   else if (K f.s).w=0 then fN
   else if (l.length:Int) < (K f.s).w then some []
   else if (K f.s).fails=true then none
   else unionIf (K f.s).st (l.map (·.2.1)) (some [])
 else if op=7 then letC ((args.dropLast).map (·.2.1)) ((args.getLast?.map (·.2.1)).getD (some []))
 else if op=8 then nWith ((args.head?.map (·.2.1)).getD (some [])) ((alts.map fun a => nOut (bnd a.1) a.2).foldl nBoth none)
 else if op=9 then
  if s=throwS then none
  else if primI s < 9 then nWith ((args.head?.map (·.2.1)).getD (some [])) ((args[1]?.map (·.2.1)).getD (some []))
  else some []
 else some []
mutual
noncomputable def nd2 (K:ByteArray→Kn):Pl→ND × ND
 | .mk op n s args alts => (comb K op n s (nds K args) (nda K alts),((nds K args).head?.map (·.2.1)).getD (some []))
noncomputable def nds (K:ByteArray→Kn):List Pl→List (Pl × ND × ND)
 | [] => []
 | t::ts => (t,nd2 K t)::nds K ts
noncomputable def nda (K:ByteArray→Kn):List (Hd × Pl)→List (Hd × ND)
 | [] => []
 | (h,t)::ts => (h,(nd2 K t).1)::nda K ts
end
noncomputable def need (K:ByteArray→Kn) (t:Pl):ND:=(nd2 K t).1
noncomputable def needB (K:ByteArray→Kn) (t:Pl):ND:=(nd2 K t).2
theorem nds_eq (K:ByteArray→Kn):∀ l:List Pl,nds K l=l.map fun x => (x,need K x,needB K x)
 | [] => rfl
 | t::ts => by simp [nds,nds_eq K ts,need,needB]
theorem nda_eq (K:ByteArray→Kn):∀ l:List (Hd × Pl),nda K l=l.map fun a => (a.1,need K a.2)
 | [] => rfl
 | (h,t)::ts => by simp [nda,nda_eq K ts,need]
theorem need_eq (K:ByteArray→Kn) (t:Pl):need K t=comb K t.op t.n t.s (t.args.map fun x => (x,need K x,needB K x)) (t.alts.map fun a => (a.1,need K a.2)):=by
 cases t;rw [need,nd2,nds_eq,nda_eq];rfl
theorem needB_eq (K:ByteArray→Kn) (t:Pl):needB K t=(t.args.head?.map (need K)).getD (some []):=by
 cases t with
 | mk op n s args alts =>
  rw [needB,nd2,nds_eq]
  cases args <;> rfl
theorem unionIf_ok:∀ (bs:List Bool) (xs:List ND) (acc:ND),(∀ x∈xs,x.ok)→acc.ok→(unionIf bs xs acc).ok
 | [],xs,acc,_,h => by cases xs <;> exact h
 | b::bs,[],acc,_,h => h
 | b::bs,x::xs,acc,hx,h => by
  rw [unionIf]
  refine unionIf_ok bs xs _ (fun y hy => hx y (by simp [hy])) ?_
  split
  ·exact nWith_ok h (hx x (by simp))
  ·exact h
theorem lamArgs_ok (fb:ND) (n:Int):∀ (xs:List ND) (i:Int) (acc:ND),(∀ x∈xs,x.ok)→acc.ok→(lamArgs fb n i xs acc).ok
 | [],i,acc,_,h => h
 | x::xs,i,acc,hx,h => by
  rw [lamArgs]
  split
  ·refine lamArgs_ok fb n xs _ _ (fun y hy => hx y (by simp [hy])) ?_
   split
   ·exact nWith_ok h (hx x (by simp))
   ·exact h
  ·exact h
theorem foldBoth_ok:∀ (l:List ND) (acc:ND),(∀ x∈l,x.ok)→acc.ok→(l.foldl nBoth acc).ok
 | [],acc,_,h => h
 | x::l,acc,hx,h => foldBoth_ok l _ (fun y hy => hx y (by simp [hy])) (nBoth_ok h (hx x (by simp)))
theorem comb_ok (K:ByteArray→Kn) (op n:Int) (s:ByteArray) (args:List (Pl × ND × ND)) (alts:List (Hd × ND)) (h1:∀ a∈args,a.2.1.ok∧a.2.2.ok) (h2:∀ a∈alts,a.2.ok):(comb K op n s args alts).ok:=by
 have hm:∀ (l:List (Pl × ND × ND)),(∀ a∈l,a.2.1.ok∧a.2.2.ok)→∀ x∈l.map (·.2.1),ND.ok x:=by
  intro l hl x hx
  obtain ⟨a,ha,rfl⟩:=List.mem_map.1 hx
  exact (hl a ha).1
 have hnil:ND.ok (some []):=asc_nil
 have hget:∀ (o:Option (Pl × ND × ND)),(∀ a,o=some a→a.2.1.ok)→ND.ok ((o.map (·.2.1)).getD (some [])):=by
  intro o ho
  cases o with
  | none => exact hnil
  | some a => exact ho a rfl
 unfold comb
 split
 ·exact List.pairwise_singleton ..
 split
 ·split <;> first | trivial | exact hnil
 split
 ·cases args with
  | nil => exact hnil
  | cons a l =>
   obtain ⟨f,fN,fB⟩:=a
   have ha:=h1 (f,fN,fB) (by simp)
   have hl:∀ a∈l,a.2.1.ok∧a.2.2.ok:=fun a h => h1 a (by simp [h])
   simp only
   split
   ·exact lamArgs_ok _ _ _ _ _ (hm l hl) (nOut_ok ha.2 _)
   split
   ·exact ha.1
   split
   ·exact ha.1
   split
   ·exact hnil
   split
   ·trivial
   ·exact unionIf_ok _ _ _ (hm l hl) hnil
 split
 ·exact letC_ok _ _
 split
 ·refine nWith_ok (hget _ fun a e => (h1 a (List.mem_of_head? e)).1) (foldBoth_ok _ _ ?_ trivial)
  intro x hx
  obtain ⟨a,ha,rfl⟩:=List.mem_map.1 hx
  exact nOut_ok (h2 a ha) _
 split
 ·split
  ·trivial
  split
  ·exact nWith_ok (hget _ fun a e => (h1 a (List.mem_of_head? e)).1) (hget _ fun a e => (h1 a (List.mem_of_getElem? e)).1)
  ·exact hnil
 ·exact hnil
theorem need_ok2 (K:ByteArray→Kn) (t:Pl):(need K t).ok∧(needB K t).ok:=by
 induction t using Pl.ind with
 | h t ih1 ih2 =>
  refine ⟨?_,?_⟩
  ·rw [need_eq]
   refine comb_ok _ _ _ _ _ _ ?_ ?_
   ·intro a ha
    obtain ⟨x,hx,rfl⟩:=List.mem_map.1 ha
    exact ih1 x hx
   ·intro a ha
    obtain ⟨x,hx,rfl⟩:=List.mem_map.1 ha
    exact (ih2 x hx).1
  ·rw [needB_eq]
   cases h:t.args with
   | nil => exact asc_nil
   | cons x l => exact (ih1 x (by rw [h];simp)).1
theorem need_ok (K:ByteArray→Kn) (t:Pl):(need K t).ok:=(need_ok2 K t).1
end Go.AL.Dm
set_option maxRecDepth 100000
namespace Go.AL.Dm
open Go.Proofs
/- damask/demand.analyze -/
def a40r0:Rg:=[oT 2 (.mv (.c .nilptr)),oT 3 (.mv (ci 0))]
def a40r1:Rg:=[oL 10 (.mkmap),oL 11 (.build [.nilmap] [(0,1,(.l 10))]),oL 12 (.box (.l 11)),oT 4 (.mv (.l 12))]
def a40r2:Rg:=[oT 13 (.mv (.g 0)),oT 14 (.len (.g 13)),oT 15 (.mv (ci 0))]
def a40r3:Rg:=[oT 16 (.bin .lss (.g 15) (.g 14))]
def a40r4:Rg:=[oL 17 (.ia 6 (.g 13) (.g 15)),oL 18 (.load 6 true (.l 17)),oT 6 (.alloc [s0,i0,i0,s0,nzl,nzl]),oN (.store 6 (.g 6) (.l 18))]
def a40r5:Rg:=[oL 19 (.build [i0,bF,bF,bF,bF,bF,bF,bF,bF,bF] [(9,1,cT)]),oT 7 (.alloc [i0,bF,bF,bF,bF,bF,bF,bF,bF,bF]),oN (.store 10 (.g 7) (.l 19))]
def a40r6:Rg:=[oL 20 (.fa 1 (.g 6)),oL 21 (.fa 0 (.l 20)),oL 22 (.ld (.l 21)),oT 23 (.bin .eql (.l 22) (ci 5))]
def a40r7:Rg:=[oL 24 (.fa 1 (.g 6)),oL 25 (.fa 1 (.l 24)),oL 26 (.ld (.l 25)),oL 27 (.fa 0 (.g 7)),oN (.store 1 (.l 27) (.l 26))]
def a40r8:Rg:=[oL 28 (.fa 0 (.g 7)),oT 29 (.ld (.l 28)),oT 30 (.mv (ci 0))]
def a40r9:Rg:=[oT 31 (.bin .lss (.g 30) (.g 29))]
def a40r10:Rg:=[oL 32 (.mv (.g 30)),oT 8 (.mv (.l 32))]
def a40r11:Rg:=[oL 33 (.mv (.g 8)),oL 34 (.fa 1 (.g 7)),oL 35 (.arrAddr 1 8 (.l 34) (.l 33)),oN (.store 1 (.l 35) cT)]
def a40r12:Rg:=[oL 36 (.bin .add (.g 30) (ci 1)),oT 30 (.mv (.l 36))]
def a40l13:ACode:=(.seq (rq a40r9) (.seq (.cond (.g 31) .skip (.exit 2)) (.seq (.block 3 (.seq (rq a40r10) (rq a40r11))) (rq a40r12))))
def a40r14:Rg:=[oL 37 (.mv (.g 4)),oL 38 (.nilCheck (.l 37)),oL 39 (.fa 0 (.l 38)),oL 40 (.ld (.l 39)),oL 41 (.fa 0 (.g 6)),oL 42 (.ld (.l 41)),oL 43 (.load 10 true (.g 7)),oN (.mapUpdate true (.l 40) (.l 42) (.l 43))]
def a40r15:Rg:=[oL 44 (.bin .add (.g 15) (ci 1)),oT 15 (.mv (.l 44))]
def a40l16:ACode:=(.seq (rq a40r3) (.seq (.cond (.g 16) .skip (.exit 0)) (.seq (.block 1 (.seq (rq a40r4) (.seq (rq a40r5) (.seq (.seq (rq a40r6) (.cond (.g 23) (rq a40r7) .skip)) (.seq (.seq (rq a40r8) (.block 2 (.loop a40l13))) (.reg true a40r14)))))) (rq a40r15))))
def a40r17:Rg:=[oT 9 (.mv (ci 1))]
def a40r18:Rg:=[oL 45 (.mv (.g 4)),oL 46 (.mv (.g 0)),oT 47 (.cf 80 [(.l 45),(.l 46)])]
def a40r19:Rg:=[oL 48 (.mv (.g 9)),oL 49 (.bin .add (.l 48) (ci 1)),oT 9 (.mv (.l 49))]
def a40l20:ACode:=(.seq (.seq (rq a40r18) (.cond (.g 47) .skip (.exit 4))) (.block 5 (rq a40r19)))
def a40r21:Rg:=[oL 50 (.mv (.g 4)),oL 51 (.mv (.g 9)),oT 2 (.mv (.l 50)),oT 3 (.mv (.l 51))]
def a40b:ACode:=(.seq (rq a40r0) (.seq (rq a40r1) (.seq (.seq (rq a40r2) (.block 0 (.loop a40l16))) (.seq (rq a40r17) (.seq (.block 4 (.loop a40l20)) (.seq (rq a40r21) .ret))))))
def a40:AFun:=⟨1,52,a40b,[.tmp (true,2),.tmp (true,3)]⟩
theorem c40:compileFun Tryz.prog [0,2,3,4,6,7,8,9,13,14,15,16,23,29,30,31,47] Tryz.f40=some a40:=by kernel_rfl
/- (*damask/demand.analysis).one -/
def a114r0:Rg:=[oT 3 (.box (.g 1)),oT 4 (.alloc [i0,bF,bF,bF,bF,bF,bF,bF,bF,bF])]
def a114r1:Rg:=[oT 5 (.alloc [i0,bF,bF,bF,bF,bF,bF,bF,bF,bF])]
def a114r2:Rg:=[oL 9 (.load 5 true (.g 3)),oT 6 (.alloc [i0,i0,s0,nzl,nzl]),oN (.store 5 (.g 6) (.l 9))]
def a114r3:Rg:=[oL 10 (.fa 0 (.g 3)),oL 11 (.ld (.l 10)),oT 12 (.bin .eql (.l 11) (ci 5))]
def a114r4:Rg:=[oL 13 (.fa 1 (.g 3)),oL 14 (.ld (.l 13)),oL 15 (.fa 0 (.g 5)),oN (.store 1 (.l 15) (.l 14))]
def a114r5:Rg:=[oL 16 (.fa 3 (.g 3)),oL 17 (.ld (.l 16)),oL 18 (.ia 5 (.l 17) (ci 0)),oL 19 (.load 5 true (.l 18)),oN (.store 5 (.g 6) (.l 19))]
def a114r6:Rg:=[oL 20 (.mv (.g 0)),oL 21 (.load 5 true (.g 6)),oL 22 (.cf 49 [(.l 20),(.l 21)]),oT 7 (.alloc [bF,.nilmap]),oN (.store 2 (.g 7) (.l 22))]
def a114r7:Rg:=[oL 23 (.fa 0 (.g 7)),oL 24 (.ld (.l 23)),oL 25 (.fa 9 (.g 5)),oN (.store 1 (.l 25) (.l 24))]
def a114r8:Rg:=[oL 26 (.fa 0 (.g 5)),oT 27 (.ld (.l 26)),oT 28 (.mv (ci 0))]
def a114r9:Rg:=[oT 29 (.bin .lss (.g 28) (.g 27))]
def a114r10:Rg:=[oL 30 (.mv (.g 28)),oT 8 (.mv (.l 30))]
def a114r11:Rg:=[oL 31 (.mv (.g 8)),oL 32 (.fa 0 (.g 7)),oL 33 (.ld (.l 32)),oL 34 (.mv (.l 33)),oLf 35 (.fa 1 (.g 7)) 34,oLf 36 (.ld (.l 35)) 34,oLf 37 (.fa 0 (.g 5)) 34,oLf 38 (.ld (.l 37)) 34,oLf 39 (.bin .sub (.l 38) (ci 1)) 34,oLf 40 (.mv (.g 8)) 34,oLf 41 (.bin .sub (.l 39) (.l 40)) 34,oLf 42 (.lookup false false [bF] false (.l 36) (.l 41)) 34,oL 43 (.pick (.l 34) cT (.l 42)),oL 44 (.fa 1 (.g 5)),oL 45 (.arrAddr 1 8 (.l 44) (.l 31)),oN (.store 1 (.l 45) (.l 43))]
def a114r12:Rg:=[oL 46 (.bin .add (.g 28) (ci 1)),oT 28 (.mv (.l 46))]
def a114l13:ACode:=(.seq (rq a114r9) (.seq (.cond (.g 29) .skip (.exit 0)) (.seq (.block 1 (.seq (rq a114r10) (rq a114r11))) (rq a114r12))))
def a114r14:Rg:=[oL 47 (.load 10 true (.g 5)),oN (.store 10 (.g 4) (.l 47))]
def a114b:ACode:=(.seq (rq a114r0) (.seq (rq a114r1) (.seq (rq a114r2) (.seq (.seq (rq a114r3) (.cond (.g 12) (.seq (rq a114r4) (rq a114r5)) .skip)) (.seq (rq a114r6) (.seq (rq a114r7) (.seq (.seq (rq a114r8) (.block 0 (.loop a114l13))) (.seq (rq a114r14) .ret))))))))
def a114:AFun:=⟨2,48,a114b,[.cell (true,4) 10 true]⟩
theorem c114:compileFun Tryz.prog [0,1,3,4,5,6,7,8,12,27,28,29] Tryz.f114=some a114:=by kernel_rfl
/- (*damask/demand.analysis).app -/
def a124r0:Rg:=[oT 3 (.box (.g 1)),oT 4 (.alloc [bF,.nilmap])]
def a124r1:Rg:=[oL 15 (.fa 3 (.g 3)),oL 16 (.ld (.l 15)),oL 17 (.ia 5 (.l 16) (ci 0)),oL 18 (.load 5 true (.l 17)),oL 19 (.fa 3 (.g 3)),oL 20 (.ld (.l 19)),oL 21 (.slice 5 (.l 20) (some (ci 1)) none none),oT 5 (.alloc [i0,i0,s0,nzl,nzl]),⟨none,.store 5 (.g 5) (.l 18),none,[5]⟩,oT 6 (.mv (.l 21))]
def a124r2:Rg:=[oL 23 (.fa 0 (.g 5)),oL 24 (.ld (.l 23)),oL 25 (.bin .eql (.l 24) (ci 2)),oL 26 (.mv (.l 25)),oLt 27 (.mv (.g 0)) 26,oLt 28 (.nilCheck (.l 27)) 26,oLt 29 (.fa 0 (.l 28)) 26,oLt 30 (.ld (.l 29)) 26,oLt 31 (.fa 2 (.g 5)) 26,oLt 32 (.ld (.l 31)) 26,oLt 33 (.lookup true false [i0,bF,bF,bF,bF,bF,bF,bF,bF,bF] true (.l 30) (.l 32)) 26,oLt 34 (.field 0 1 false (.l 33)) 26,oLt 35 (.bin .gtr (.l 34) (ci 0)) 26,oL 36 (.pick (.l 26) (.l 35) cF),oT 22 (.mv (.l 36))]
def a124r3:Rg:=[oL 37 (.mv (.g 0)),oL 38 (.nilCheck (.l 37)),oL 39 (.fa 0 (.l 38)),oL 40 (.ld (.l 39)),oL 41 (.fa 2 (.g 5)),oL 42 (.ld (.l 41)),oL 43 (.lookup true false [i0,bF,bF,bF,bF,bF,bF,bF,bF,bF] true (.l 40) (.l 42)),oT 7 (.alloc [i0,bF,bF,bF,bF,bF,bF,bF,bF,bF]),oN (.store 10 (.g 7) (.l 43))]
def a124r4:Rg:=[oL 44 (.cf 87 []),oT 8 (.alloc [bF,.nilmap]),oN (.store 2 (.g 8) (.l 44))]
def a124r5:Rg:=[oL 45 (.mv (.g 6)),oL 46 (.len (.l 45)),oL 47 (.fa 0 (.g 7)),oL 48 (.ld (.l 47)),oT 49 (.bin .lss (.l 46) (.l 48))]
def a124r6:Rg:=[oL 50 (.load 2 true (.g 8)),oN (.store 2 (.g 4) (.l 50))]
def a124r7:Rg:=[oL 51 (.fa 9 (.g 7)),oT 52 (.ld (.l 51))]
def a124r8:Rg:=[oL 53 (.cf 164 []),oN (.store 2 (.g 4) (.l 53))]
def a124r9:Rg:=[oL 54 (.mv (.g 6)),oL 55 (.fa 0 (.g 7)),oL 56 (.ld (.l 55)),oT 57 (.slice 5 (.l 54) none (some (.l 56)) none),oT 58 (.len (.g 57)),oT 59 (.mv (ci 0))]
def a124r10:Rg:=[oT 60 (.bin .lss (.g 59) (.g 58))]
def a124r11:Rg:=[oL 61 (.mv (.g 59)),oL 62 (.ia 5 (.g 57) (.g 59)),oL 63 (.load 5 true (.l 62)),oT 10 (.alloc [i0,i0,s0,nzl,nzl]),oT 9 (.mv (.l 61)),oN (.store 5 (.g 10) (.l 63))]
def a124r12:Rg:=[oL 64 (.mv (.g 9)),oL 65 (.fa 1 (.g 7)),oL 66 (.arrAddr 1 8 (.l 65) (.l 64)),oT 67 (.ld (.l 66))]
def a124r13:Rg:=[oL 68 (.load 2 true (.g 8)),oL 69 (.mv (.g 0)),oL 70 (.load 5 true (.g 10)),oL 71 (.ct 49 [(.l 69),(.l 70)]),oL 72 (.ct 165 [(.l 68),(.l 71)]),oN (.store 2 (.g 8) (.l 72))]
def a124r14:Rg:=[oL 73 (.bin .add (.g 59) (ci 1)),oT 59 (.mv (.l 73))]
def a124l15:ACode:=(.seq (rq a124r10) (.seq (.cond (.g 60) .skip (.exit 1)) (.seq (.block 2 (.seq (rq a124r11) (.seq (rq a124r12) (.cond (.g 67) (.reg true a124r13) .skip)))) (rq a124r14))))
def a124r16:Rg:=[oL 74 (.load 2 true (.g 8)),oN (.store 2 (.g 4) (.l 74))]
def a124r17:Rg:=[oL 76 (.fa 0 (.g 5)),oL 77 (.ld (.l 76)),oL 78 (.bin .eql (.l 77) (ci 5)),oL 79 (.mv (.l 78)),oLt 80 (.mv (.g 6)) 79,oLt 81 (.len (.l 80)) 79,oLt 82 (.fa 1 (.g 5)) 79,oLt 83 (.ld (.l 82)) 79,oLt 84 (.bin .geq (.l 81) (.l 83)) 79,oL 85 (.pick (.l 79) (.l 84) cF),oT 75 (.mv (.l 85))]
def a124r18:Rg:=[oL 86 (.mv (.g 0)),oL 87 (.fa 3 (.g 5)),oL 88 (.ld (.l 87)),oL 89 (.ia 5 (.l 88) (ci 0)),oL 90 (.load 5 true (.l 89)),oL 91 (.cf 49 [(.l 86),(.l 90)]),oT 11 (.alloc [bF,.nilmap]),oN (.store 2 (.g 11) (.l 91))]
def a124r19:Rg:=[oL 92 (.load 2 true (.g 11)),oL 93 (.fa 1 (.g 5)),oL 94 (.ld (.l 93)),oL 95 (.cf 166 [(.l 92),(.l 94)]),oT 12 (.alloc [bF,.nilmap]),oN (.store 2 (.g 12) (.l 95))]
def a124r20:Rg:=[oL 96 (.mv (.g 6)),oL 97 (.fa 1 (.g 5)),oL 98 (.ld (.l 97)),oT 99 (.slice 5 (.l 96) none (some (.l 98)) none),oT 100 (.len (.g 99)),oT 101 (.mv (ci 0))]
def a124r21:Rg:=[oT 102 (.bin .lss (.g 101) (.g 100))]
def a124r22:Rg:=[oL 103 (.mv (.g 101)),oL 104 (.ia 5 (.g 99) (.g 101)),oL 105 (.load 5 true (.l 104)),oT 14 (.alloc [i0,i0,s0,nzl,nzl]),oT 13 (.mv (.l 103)),oN (.store 5 (.g 14) (.l 105))]
def a124r23:Rg:=[oL 106 (.fa 1 (.g 11)),oL 107 (.ld (.l 106)),oL 108 (.fa 1 (.g 5)),oL 109 (.ld (.l 108)),oL 110 (.bin .sub (.l 109) (ci 1)),oL 111 (.mv (.g 13)),oL 112 (.bin .sub (.l 110) (.l 111)),oT 113 (.lookup false false [bF] false (.l 107) (.l 112))]
def a124r24:Rg:=[oL 114 (.load 2 true (.g 12)),oL 115 (.mv (.g 0)),oL 116 (.load 5 true (.g 14)),oL 117 (.ct 49 [(.l 115),(.l 116)]),oL 118 (.ct 165 [(.l 114),(.l 117)]),oN (.store 2 (.g 12) (.l 118))]
def a124r25:Rg:=[oL 119 (.bin .add (.g 101) (ci 1)),oT 101 (.mv (.l 119))]
def a124l26:ACode:=(.seq (rq a124r21) (.seq (.cond (.g 102) .skip (.exit 3)) (.seq (.block 4 (.seq (rq a124r22) (.seq (rq a124r23) (.cond (.g 113) (.reg true a124r24) .skip)))) (rq a124r25))))
def a124r27:Rg:=[oL 120 (.load 2 true (.g 12)),oN (.store 2 (.g 4) (.l 120))]
def a124r28:Rg:=[oL 121 (.mv (.g 0)),oL 122 (.load 5 true (.g 5)),oL 123 (.cf 49 [(.l 121),(.l 122)]),oN (.store 2 (.g 4) (.l 123))]
def a124b:ACode:=(.seq (rq a124r0) (.seq (.reg true a124r1) (.seq (.block 0 (.seq (.reg true a124r2) (.cond (.g 22) (.seq (.reg true a124r3) (.seq (rq a124r4) (.seq (.seq (rq a124r5) (.cond (.g 49) (.seq (rq a124r6) .ret) .skip)) (.seq (.seq (rq a124r7) (.cond (.g 52) (.seq (rq a124r8) .ret) .skip)) (.seq (.seq (rq a124r9) (.block 1 (.loop a124l15))) (.seq (rq a124r16) .ret)))))) (.seq (rq a124r17) (.cond (.g 75) (.seq (rq a124r18) (.seq (rq a124r19) (.seq (.seq (rq a124r20) (.block 3 (.loop a124l26))) (.seq (rq a124r27) .ret)))) .skip))))) (.seq (rq a124r28) .ret))))
def a124:AFun:=⟨2,124,a124b,[.cell (true,4) 2 true]⟩
theorem c124:compileFun Tryz.prog [0,1,3,4,5,6,7,8,9,10,11,12,13,14,22,49,52,57,58,59,60,67,75,99,100,101,102,113] Tryz.f124=some a124:=by kernel_rfl
/- (*damask/demand.analysis).let -/
def a126r0:Rg:=[oT 5 (.box (.g 2)),oT 6 (.alloc [bF,.nilmap])]
def a126r1:Rg:=[oL 13 (.mv (.g 1)),oL 14 (.len (.l 13)),oT 7 (.mv (.l 14))]
def a126r2:Rg:=[oL 15 (.mv (.g 0)),oL 16 (.load 5 true (.g 5)),oL 17 (.cf 49 [(.l 15),(.l 16)]),oT 8 (.alloc [bF,.nilmap]),oN (.store 2 (.g 8) (.l 17))]
def a126r3:Rg:=[oL 18 (.mv (.g 7)),oL 19 (.mkslice 1 1 [bF] false (.l 18) (.l 18)),oT 9 (.mv (.l 19))]
def a126r4:Rg:=[oL 20 (.fa 0 (.g 8)),oL 21 (.ld (.l 20)),oT 22 (.un .not (.l 21))]
def a126r5:Rg:=[oT 23 (.mv (.g 1)),oT 24 (.len (.g 23)),oT 25 (.mv (ci 0))]
def a126r6:Rg:=[oT 26 (.bin .lss (.g 25) (.g 24))]
def a126r7:Rg:=[oL 27 (.mv (.g 25)),oL 28 (.ia 5 (.g 23) (.g 25)),oL 29 (.load 5 true (.l 28)),oT 11 (.alloc [i0,i0,s0,nzl,nzl]),oT 10 (.mv (.l 27)),oN (.store 5 (.g 11) (.l 29))]
def a126r8:Rg:=[oL 30 (.mv (.g 7)),oL 31 (.bin .sub (.l 30) (ci 1)),oL 32 (.mv (.g 10)),oL 33 (.bin .sub (.l 31) (.l 32)),oT 12 (.mv (.l 33))]
def a126r9:Rg:=[oL 34 (.fa 1 (.g 8)),oL 35 (.ld (.l 34)),oL 36 (.mv (.g 12)),oL 37 (.lookup false false [bF] false (.l 35) (.l 36)),oL 38 (.mv (.l 37)),oLt 39 (.mv (.g 9)) 38,oLt 40 (.mv (.g 10)) 38,oLt 41 (.ia 1 (.l 39) (.l 40)) 38,oLt 42 (.ld (.l 41)) 38,oLt 43 (.un .not (.l 42)) 38,oT 44 (.pick (.l 38) (.l 43) cF)]
def a126r10:Rg:=[oL 45 (.mv (.g 9)),oL 46 (.mv (.g 10)),oL 47 (.ia 1 (.l 45) (.l 46)),oN (.store 1 (.l 47) cT)]
def a126r11:Rg:=[oL 48 (.load 2 true (.g 8)),oL 49 (.mv (.g 0)),oL 50 (.load 5 true (.g 11)),oL 51 (.ct 49 [(.l 49),(.l 50)]),oL 52 (.ct 165 [(.l 48),(.l 51)]),oN (.store 2 (.g 8) (.l 52))]
def a126r12:Rg:=[oL 53 (.bin .add (.g 25) (ci 1)),oT 25 (.mv (.l 53))]
def a126l13:ACode:=(.seq (rq a126r6) (.seq (.cond (.g 26) .skip (.exit 2)) (.seq (.block 3 (.seq (rq a126r7) (.seq (rq a126r8) (.seq (rq a126r9) (.cond (.g 44) (.seq (rq a126r10) (.seq (.reg true a126r11) (.exit 1))) .skip))))) (rq a126r12))))
def a126l14:ACode:=(.seq (.seq (rq a126r4) (.cond (.g 22) .skip (.exit 0))) (.block 1 (.seq (.seq (rq a126r5) (.block 2 (.loop a126l13))) (.exit 0))))
def a126r15:Rg:=[oL 54 (.load 2 true (.g 8)),oL 55 (.mv (.g 7)),oL 56 (.cf 166 [(.l 54),(.l 55)]),oN (.store 2 (.g 6) (.l 56))]
def a126b:ACode:=(.seq (rq a126r0) (.seq (rq a126r1) (.seq (rq a126r2) (.seq (rq a126r3) (.seq .skip (.seq (.block 0 (.loop a126l14)) (.seq (rq a126r15) .ret)))))))
def a126:AFun:=⟨3,57,a126b,[.cell (true,6) 2 true]⟩
theorem c126:compileFun Tryz.prog [0,1,2,5,6,7,8,9,10,11,12,22,23,24,25,26,44] Tryz.f126=some a126:=by kernel_rfl
/- damask/term.IsAction -/
def a168r0:Rg:=[oT 2 (.mv cF)]
def a168r1:Rg:=[oL 6 (.ld (.c gv_ari)),oL 7 (.mv (.g 0)),oL 8 (.lookup true true [i0] false (.l 6) (.l 7)),oL 5 (.mv (.l 8)),oL 9 (.extract (.l 5) 0),oL 10 (.extract (.l 5) 1),oL 3 (.mv (.l 9)),oT 4 (.mv (.l 10))]
def a168r2:Rg:=[oL 11 (.mv (.g 4)),oL 12 (.mv (.l 11)),oLt 13 (.ld (.c gv_pur)) 12,oLt 14 (.mv (.g 0)) 12,oLt 15 (.lookup true false [bF] false (.l 13) (.l 14)) 12,oLt 16 (.un .not (.l 15)) 12,oL 17 (.pick (.l 12) (.l 16) cF),oT 2 (.mv (.l 17))]
def a168b:ACode:=(.seq (rq a168r0) (.seq (rq a168r1) (.seq (rq a168r2) .ret)))
def a168:AFun:=⟨1,18,a168b,[.tmp (true,2)]⟩
theorem c168:compileFun Tryz.prog [0,2,4] Tryz.f168=some a168:=by kernel_rfl
/- damask/demand.Strict -/
def a20r0:Rg:=[oT 4 (.box (.g 1)),oT 6 (.mv cF),oT 7 (.mv (ci 0))]
def a20r1:Rg:=[oL 10 (.mv (.g 0)),oL 11 (.cf 36 [(.l 10)]),oT 12 (.un .not (.l 11))]
def a20r2:Rg:=[oT 6 (.mv cF),oT 7 (.mv (ci 40))]
def a20r3:Rg:=[oL 13 (.mv (.g 0)),oL 14 (.mkfn 42 [] [(.g 4)]),oL 15 (.cf 41 [(.l 13),(.l 14)]),oT 8 (.mv (.l 15))]
def a20r4:Rg:=[oL 16 (.mv (.g 8)),oT 17 (.bin .lss (.l 16) (ci 0))]
def a20r5:Rg:=[oT 6 (.mv cF),oT 7 (.mv (ci 6))]
def a20r6:Rg:=[oL 18 (.mv (.g 0)),oL 19 (.cf 37 [(.l 18)]),oL 20 (.mv (.g 8)),oL 21 (.ia 3 (.l 19) (.l 20)),oL 22 (.load 3 true (.l 21)),oT 9 (.alloc [s0,nzl,bF]),oN (.store 3 (.g 9) (.l 22))]
def a20r7:Rg:=[oL 23 (.mv (.g 2)),oL 24 (.bin .lss (.l 23) (ci 0)),oL 25 (.mv (.l 24)),oLf 26 (.mv (.g 2)) 25,oLf 27 (.fa 1 (.g 9)) 25,oLf 28 (.ld (.l 27)) 25,oLf 29 (.len (.l 28)) 25,oLf 30 (.bin .geq (.l 26) (.l 29)) 25,oT 31 (.pick (.l 25) cT (.l 30))]
def a20r8:Rg:=[oT 6 (.mv cF),oT 7 (.mv (ci 2))]
def a20r9:Rg:=[oL 32 (.fa 1 (.g 9)),oL 33 (.ld (.l 32)),oL 34 (.mv (.g 2)),oL 35 (.ia 1 (.l 33) (.l 34)),oL 36 (.ld (.l 35)),oT 6 (.mv (.l 36)),oT 7 (.mv (ci 0))]
def a20b:ACode:=(.seq (rq a20r0) (.seq (.seq (rq a20r1) (.cond (.g 12) (.seq (rq a20r2) .ret) .skip)) (.seq (rq a20r3) (.seq (.seq (rq a20r4) (.cond (.g 17) (.seq (rq a20r5) .ret) .skip)) (.seq (rq a20r6) (.seq (.seq (rq a20r7) (.cond (.g 31) (.seq (rq a20r8) .ret) .skip)) (.seq (rq a20r9) .ret)))))))
def a20:AFun:=⟨3,37,a20b,[.tmp (true,6),.tmp (true,7)]⟩
theorem c20:compileFun Tryz.prog [0,1,2,4,6,7,8,9,12,17,31] Tryz.f20=some a20:=by kernel_rfl
def k80:CF [0,1,4,5,6,8,9,10,12,13,14,15] Tryz.f80:=by refine ⟨?_,?_⟩;rotate_left;cbv;rfl
def k49:CF [0,1,3,4,6,7] Tryz.f49:=by refine ⟨?_,?_⟩;rotate_left;cbv;rfl
def k88:CF [0,1,2,3,1000000000001] Tryz.f88:=by refine ⟨?_,?_⟩;rotate_left;cbv;rfl
def k122:CF [0,1,2] Tryz.f122:=by refine ⟨?_,?_⟩;rotate_left;cbv;rfl
def k123:CF [0,1,3,4,5,19] Tryz.f123:=by refine ⟨?_,?_⟩;rotate_left;cbv;rfl
def k125:CF [0,1,2,3,4] Tryz.f125:=by refine ⟨?_,?_⟩;rotate_left;cbv;rfl
def k127:CF [0,1,3,4,5,6,8,16,20,21,22,23] Tryz.f127:=by refine ⟨?_,?_⟩;rotate_left;cbv;rfl
def k128:CF [0,1,3,4,5,10] Tryz.f128:=by refine ⟨?_,?_⟩;rotate_left;cbv;rfl
def k87:CF [0] Tryz.f87:=by refine ⟨?_,?_⟩;rotate_left;cbv;rfl
def k164:CF [0] Tryz.f164:=by refine ⟨?_,?_⟩;rotate_left;cbv;rfl
def k165:CF [0,1,2,3,4,5,7,8,14,21,22,23,24,28,30] Tryz.f165:=by refine ⟨?_,?_⟩;rotate_left;cbv;rfl
def k166:CF [0,1,2,4,5,6,8,13,15,20] Tryz.f166:=by refine ⟨?_,?_⟩;rotate_left;cbv;rfl
def k167:CF [0,1,2,3,4,5,6,7,11,18,20,26] Tryz.f167:=by refine ⟨?_,?_⟩;rotate_left;cbv;rfl
def k37:CF [0,2,3,5,7,8,14,15,16,17,7000000000008,6000003] Tryz.f37:=by refine ⟨?_,?_⟩;rotate_left;cbv;rfl
def k76:CF [0,2,4] Tryz.f76:=by refine ⟨?_,?_⟩;rotate_left;cbv;rfl
def k11:CF [0,2,3,6] Tryz.f11:=by refine ⟨?_,?_⟩;rotate_left;cbv;rfl
def k41:CF [0,1,4,5,7,8,9,16] Tryz.f41:=by refine ⟨?_,?_⟩;rotate_left;cbv;rfl
def k42:CF [0,1,2,3] Tryz.f42:=by refine ⟨?_,?_⟩;rotate_left;cbv;rfl
def k13:CF [0,1,2,6] Tryz.f13:=by refine ⟨?_,?_⟩;rotate_left;cbv;rfl
def k10:CF [0,1,2,3,4,6,8,81] Tryz.f10:=by refine ⟨?_,?_⟩;rotate_left;cbv;rfl
def k35:CF [0,1,2,3] Tryz.f35:=by refine ⟨?_,?_⟩;rotate_left;cbv;rfl
end Go.AL.Dm
