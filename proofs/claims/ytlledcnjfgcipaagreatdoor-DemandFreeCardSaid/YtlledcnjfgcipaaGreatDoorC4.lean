/- A program that is one: the reference's functions. -/
import Derived.Test.YtlledcnjfgcipaaGreatDoorF23
import Derived.Test.YtlledcnjfgcipaaGreatDoorF5
import Derived.Test.YtlledcnjfgcipaaGreatDoorProg
import Derived.KernelRfl
set_option linter.unusedVariables false
set_option linter.unusedSimpArgs false
namespace Go.AL.Dm
open Go Go.Proofs
def Bc (p:List Gl) (s:ByteArray):Int:=DO (fun g=>decide (g.name=s)) p 0
def I23 (p:List Gl) (t:ByteArray) (s:St) (m:Nat) (g:Env) (s1:St):Prop :=
 ∃ i:Nat,i≤p.length∧m=p.length - i∧DO (fun g=>decide (g.name=t)) (p.drop i) i=Bc p t∧g.get 0=.list 6 .none (p.map Gl.av)∧g.get 1=.str t∧g.get 5=.int .i64 i∧Kept s s1
theorem p23 (p:List Gl) (t:ByteArray) (hp:p.length≤100000):AF Tryz.prog 23 [.list 6 .none (p.map Gl.av),.str t] (.int .i64 (Bc p t)):=by
 refine AF.intro fun s=>AD mixed Tryz.func23 Tryz.call23 k23.2 rfl (AE _ _ _ _ ?_)
 simp -implicitDefEqProofs (disch:=first|omega|simp only[nx4]<;>omega|fail) [k23]
 refine AQ (I23 p t s) p.length ⟨0,by omega,by omega,rfl,?_,?_,?_,?_⟩ ?_
 iterate 4 (simp -implicitDefEqProofs (disch:=first|omega|simp only[nx4]<;>omega|fail))
 rintro m g s1 ⟨i,hi,rfl,hw,e0,e1,e5,hk⟩
 by_cases hlt:i < p.length
 ·have hlt':(i:Int) < p.length:=by omega
  have w3:=wrapS (i:=i) (by omega)
  rw [List.drop_eq_getElem_cons hlt,DO]at hw
  generalize hx:p[i]=x at hw
  by_cases h:x.name=t
  ·rw [if_pos (by simp [h])]at hw
   simp -implicitDefEqProofs (disch:=first|omega|simp only[nx4]<;>omega|fail) [e0,e1,e5,hlt',hx,h,← hw,hk]
  ·rw [if_neg (by simp [h])]at hw
   simp -implicitDefEqProofs (disch:=first|omega|simp only[nx4]<;>omega|fail) [e0,e1,e5,hlt',hx,h,w3]
   refine AK (p.length - (i+1)) (by omega) ⟨i+1,by omega,rfl,hw,?_,?_,rfl,?_⟩
   ·simp -implicitDefEqProofs (disch:=first|omega|simp only[nx4]<;>omega|fail) [e0]
   ·simp -implicitDefEqProofs (disch:=first|omega|simp only[nx4]<;>omega|fail) [e1]
   ·simp -implicitDefEqProofs (disch:=first|omega|simp only[nx4]<;>omega|fail) [hk]
 ·have hlt':¬ (i:Int) < p.length:=by omega
  obtain rfl:i=p.length:=by omega
  rw [List.drop_length,DO]at hw
  simp -implicitDefEqProofs (disch:=first|omega|simp only[nx4]<;>omega|fail) [e0,e1,e5,hlt',← hw,hk]
def C61 (t:Pl):Prop:=∀ v:Int,wf t=true→small t→0≤v→v+13 * dw t≤100000→AF Tryz.prog 61 [t.av,.int .i64 v] (.bool (decide (fv t v=[])))
def AJV (t:Pl) (v:Int) (s:St) (m:Nat) (g:Env) (s1:St):Prop :=
 ∃ i:Nat,i≤t.args.length∧m=t.args.length - i∧(fvs (t.args.drop i) (v+inn t)=[]↔fvs t.args (v+inn t)=[])∧g.get 1=.int .i64 v∧g.get 2=.ptr s.nx 0∧g.get 5=.int .i64 i∧s1.m s.nx=some (.box t.av.cells)∧Kept s s1∧s.nx < s1.nx
def AJW (t:Pl) (v:Int) (s:St) (m:Nat) (g:Env) (s1:St):Prop :=
 ∃ i:Nat,i≤t.alts.length∧m=t.alts.length - i∧(fva (t.alts.drop i) v=[]↔fva t.alts v=[])∧g.get 1=.int .i64 v∧g.get 2=.ptr s.nx 0∧g.get 6=.int .i64 i∧s1.m s.nx=some (.box t.av.cells)∧Kept s s1∧s.nx < s1.nx
theorem p61 (t:Pl):C61 t:=by
 induction t using Pl.ind with
 | h t ih1 ih2 =>
 intro v hw hsm hv hv2
 refine AF.intro fun s=>AD mixed Tryz.func61 Tryz.call61 c61 rfl (AE _ _ _ _ ?_)
 obtain⟨hnd,hwa,hwb⟩:=A5 hw
 have hdw:=BA t
 by_cases o1:t.op=1
 ·have e1:decide (t.n < v)=decide (fv t v=[]):=by
   rw [IW,if_pos o1]
   by_cases h:v≤t.n
   ·rw [if_pos h];simp;omega
   ·rw [if_neg h];simp;omega
  simp -implicitDefEqProofs (disch:=first|omega|simp only[nx4]<;>omega|fail) [a61,ACw,VY,VZ,AA6,o1,e1]
 have hlen:=hnd.len
 have hinn:=hnd.inn
 have h101:=AHo t (by omega)
 have hal:t.alts.length≤40:=by
  by_cases o8:t.op=8
  ·exact(hnd.cas o8).2.2
  ·rw [hnd.GJ o8];simp
 have w2:IntKind.i64.wrap (v+inn t)=v+inn t:=wrap64 (by omega) (by omega)
 have hfv:fv t v=[]↔fvs t.args (v+inn t)=[]∧fva t.alts v=[]:=by rw [IW,if_neg o1];simp
 simp -implicitDefEqProofs (disch:=first|omega|simp only[nx4]<;>omega|fail) [a61,ACw,VY,VZ,AA7,o1]
 refine AQ (AJV t v s) t.args.length ⟨0,by omega,by omega,Iff.rfl,?_,?_,?_,?_,?_,?_⟩ ?_
 iterate 6 (simp -implicitDefEqProofs (disch:=first|omega|simp only[nx4]<;>omega|fail))
 rintro m g s1 ⟨i,hi,rfl,hwi,e1,e2,e5,hM,hk,hn⟩
 rw [Pl.Am]at hM
 by_cases hlt:i < t.args.length
 ·have hlt':(i:Int) < t.args.length:=by omega
  have w3:=wrapS (i:=i) (by omega)
  rw [List.drop_eq_getElem_cons hlt,fvs]at hwi
  have ihx:=ih1 _ (List.getElem_mem hlt) (v+inn t) (hwa _ (List.getElem_mem hlt)) (BS hsm (List.getElem_mem hlt)) (by omega) (by have:=(Du (List.getElem_mem hlt)).2;omega)
  generalize hx:t.args[i]=x at hwi ihx
  simp -implicitDefEqProofs (disch:=first|omega|simp only[nx4]<;>omega|fail) [Va,Vb,AA8,e1,e2,e5,hM,hlt',hx]
  by_cases hf:fv x (v+inn t)=[]
  ·rw [decide_eq_true hf]at ihx
   rw [hf,List.nil_append]at hwi
   refine AO h101 ?_
   simp -implicitDefEqProofs (disch:=first|omega|simp only[nx4]<;>omega|fail) [w2]
   refine AO ihx ?_
   simp -implicitDefEqProofs (disch:=first|omega|simp only[nx4]<;>omega|fail) []
   intro mm hmm
   simp -implicitDefEqProofs (disch:=first|omega|simp only[nx4]<;>omega|fail) [AA9,e5,w3]
   refine AK (t.args.length - (i+1)) (by omega) ⟨i+1,by omega,rfl,hwi,?_,?_,?_,?_,?_,?_⟩
   all_goals (try simp -implicitDefEqProofs (disch:=first|omega|simp only[nx4]<;>omega|fail) [e1,e2,hM,hk])
   all_goals (try omega)
  ·rw [decide_eq_false hf]at ihx
   have hfv2:decide (fv t v=[])=false:=by
    rw [decide_eq_false_iff_not,hfv,← hwi]
    simp [hf]
   refine AO h101 ?_
   simp -implicitDefEqProofs (disch:=first|omega|simp only[nx4]<;>omega|fail) [w2]
   refine AO ihx ?_
   simp -implicitDefEqProofs (disch:=first|omega|simp only[nx4]<;>omega|fail) []
   intro mm hmm
   simp -implicitDefEqProofs (disch:=first|omega|simp only[nx4]<;>omega|fail) [ABA,hfv2,hk]
 ·have hlt':¬ (i:Int) < t.args.length:=by omega
  obtain rfl:i=t.args.length:=by omega
  rw [List.drop_length,fvs]at hwi
  rw [← hwi]at hfv
  simp only [true_and]at hfv
  simp -implicitDefEqProofs (disch:=first|omega|simp only[nx4]<;>omega|fail) [Va,Vb,e1,e2,e5,hM,hlt',ABB]
  refine AQ (AJW t v s) t.alts.length ⟨0,by omega,by omega,Iff.rfl,?_,?_,?_,?_,?_,?_⟩ ?_
  iterate 6 (simp -implicitDefEqProofs (disch:=first|omega|simp only[nx4]<;>omega|fail) [e1,e2,hM,hk,hn])
  clear hM hk hn e1 e2 e5
  rintro m g s1 ⟨i,hi,rfl,hwi,e1,e2,e6,hM,hk,hn⟩
  rw [Pl.Am]at hM
  by_cases hlt:i < t.alts.length
  ·have hlt':(i:Int) < t.alts.length:=by omega
   have w3:=wrapS (i:=i) (by omega)
   rw [List.drop_eq_getElem_cons hlt]at hwi
   have hb:=hnd.bnd (List.getElem_mem hlt)
   have h95:=p95 t.alts[i] (fun h2=>by have:=hnd.hd _ (List.getElem_mem hlt) h2;omega)
   have ihx:=ih2 _ (List.getElem_mem hlt) (v+bnd t.alts[i].1) (hwb _ (List.getElem_mem hlt)) (Eg hsm (List.getElem_mem hlt)) (by omega) (by have:=(GK (List.getElem_mem hlt)).2;omega)
   generalize hx:t.alts[i]=x at hwi ihx h95 hb
   have hsp:fva (x::t.alts.drop (i+1)) v=fv x.2 (v+bnd x.1)++fva (t.alts.drop (i+1)) v:=by obtain⟨a,b⟩:=x;rw [fva]
   rw [hsp]at hwi
   have w4:IntKind.i64.wrap (v+bnd x.1)=v+bnd x.1:=wrap64 (by omega) (by omega)
   simp -implicitDefEqProofs (disch:=first|omega|simp only[nx4]<;>omega|fail) [Q1,Q2,Vc,e1,e2,e6,hM,hlt',hx]
   by_cases hf:fv x.2 (v+bnd x.1)=[]
   ·rw [decide_eq_true hf]at ihx
    rw [hf,List.nil_append]at hwi
    refine AO h95 ?_
    simp -implicitDefEqProofs (disch:=first|omega|simp only[nx4]<;>omega|fail) [w4]
    refine AO ihx ?_
    simp -implicitDefEqProofs (disch:=first|omega|simp only[nx4]<;>omega|fail) []
    intro mm hmm
    simp -implicitDefEqProofs (disch:=first|omega|simp only[nx4]<;>omega|fail) [Vd,e6,w3]
    refine AK (t.alts.length - (i+1)) (by omega) ⟨i+1,by omega,rfl,hwi,?_,?_,?_,?_,?_,?_⟩
    all_goals (try simp -implicitDefEqProofs (disch:=first|omega|simp only[nx4]<;>omega|fail) [e1,e2,hM,hk])
    all_goals (try omega)
   ·rw [decide_eq_false hf]at ihx
    have hfv2:decide (fv t v=[])=false:=by
     rw [decide_eq_false_iff_not,hfv,← hwi]
     simp [hf]
    refine AO h95 ?_
    simp -implicitDefEqProofs (disch:=first|omega|simp only[nx4]<;>omega|fail) [w4]
    refine AO ihx ?_
    simp -implicitDefEqProofs (disch:=first|omega|simp only[nx4]<;>omega|fail) []
    intro mm hmm
    simp -implicitDefEqProofs (disch:=first|omega|simp only[nx4]<;>omega|fail) [Ve,hfv2,hk]
  ·have hlt':¬ (i:Int) < t.alts.length:=by omega
   obtain rfl:i=t.alts.length:=by omega
   rw [List.drop_length,fva]at hwi
   have hfv2:decide (fv t v=[])=true:=by
    rw [decide_eq_true_iff,hfv,← hwi]
   simp -implicitDefEqProofs (disch:=first|omega|simp only[nx4]<;>omega|fail) [Q1,Q2,e1,e2,e6,hM,hlt',Vf,hfv2,hk]
def R92 (t:Pl) (l:List (List UInt8)) (o:Nat) (s:St) (r:AV) (s':St):Prop :=
 ∃ o',r=.Ag 1 o' 0 ((pre t).foldl Ch l).length∧(o'=o∨s.nx≤o')∧o' < s'.nx∧s'.m o'=some (.box (Ac ((pre t).foldl Ch l)))∧Ao s o s'
def C92 (t:Pl):Prop:=∀ (l:List (List UInt8)) (o:Nat) (s:St),wf t=true→small t→(l.length:Int)+sz t≤100000→s.m o=some (.box (Ac l))→o < s.nx→AB Tryz.prog 92 [t.av,.Ag 1 o 0 l.length] s (R92 t l o s)
def AJX (t:Pl) (fin:List (List UInt8)) (o:Nat) (s:St) (m:Nat) (g:Env) (s1:St):Prop :=
 ∃ (i:Nat) (l:List (List UInt8)) (o':Nat),i≤t.args.length∧m=t.args.length - i∧(Gh (t.args.drop i)++FP t.alts).foldl Ch l=fin∧(l.length:Int)+szs (t.args.drop i)+sza t.alts≤100000 ∧
  g.get 1=.Ag 1 o' 0 l.length∧g.get 2=.ptr s.nx 0∧g.get 5=.int .i64 i∧s1.m s.nx=some (.box t.av.cells)∧s1.m o'=some (.box (Ac l))∧(o'=o∨s.nx < o')∧o' < s1.nx∧Ao s o s1∧s.nx < s1.nx
def AJY (t:Pl) (fin:List (List UInt8)) (o:Nat) (s:St) (m:Nat) (g:Env) (s1:St):Prop :=
 ∃ (i:Nat) (l:List (List UInt8)) (o':Nat),i≤t.alts.length∧m=t.alts.length - i∧(FP (t.alts.drop i)).foldl Ch l=fin∧(l.length:Int)+sza (t.alts.drop i)≤100000 ∧
  g.get 1=.Ag 1 o' 0 l.length∧g.get 2=.ptr s.nx 0∧g.get 6=.int .i64 i∧s1.m s.nx=some (.box t.av.cells)∧s1.m o'=some (.box (Ac l))∧(o'=o∨s.nx < o')∧o' < s1.nx∧Ao s o s1∧s.nx < s1.nx
theorem K4 {s s1 s2:St} {o o':Nat} (h1:Ao s o s1) (h2:Ao s1 o' s2) (ho:o'=o∨s.nx < o') (hn:s.nx≤s1.nx):Ao s o s2:=fun q hq hne =>
 (h2 q (by omega) (by omega)).trans (h1 q hq hne)
theorem Ym (t:Pl) (ih2:∀ a∈t.alts,C92 a.2) (fin l0:List (List UInt8)) (o:Nat) (s:St) (hnd:Nd t) (hwb:∀ a∈t.alts,wf a.2=true) (hsm:small t) (hal:t.alts.length≤40) (ho:o < s.nx) (hfin:(pre t).foldl Ch l0=fin)
  (l:List (List UInt8)) (o':Nat) (hl:(FP t.alts).foldl Ch l=fin) (hlen:(l.length:Int)+sza t.alts≤100000) (g:Env) (s1:St) (e1:g.get 1=.Ag 1 o' 0 l.length) (e2:g.get 2=.ptr s.nx 0) (hM:s1.m s.nx=some (.box t.av.cells))
  (hO:s1.m o'=some (.box (Ac l))) (ho':o'=o∨s.nx < o') (hon:o' < s1.nx) (hk:Ao s o s1) (hn:s.nx < s1.nx) :
  go (awp Tryz.prog (.seq (.seq (.reg false SH) (.block 2 (.loop K5))) (.seq (.reg false NP) .ret)) (Dd [.tmp (true,4)] (R92 t l0 o s)) g s1):=by
 simp -implicitDefEqProofs (disch:=first|omega|simp only[nx4]<;>omega|fail) [SH]
 refine AQ (AJY t fin o s) t.alts.length ⟨0,l,o',by omega,by omega,hl,hlen,?_,?_,?_,?_,hO,ho',?_,?_,?_⟩ ?_
 iterate 7 (simp -implicitDefEqProofs (disch:=first|omega|simp only[nx4]<;>omega|fail) [e1,e2,hM,hk,hon,hn])
 clear e1 e2 hM hO ho' hon hk hn hl hlen
 rintro m g s1 ⟨i,l,o',hi,rfl,hl,hlen,e1,e2,e6,hM,hO,ho',hon,hk,hn⟩
 rw [Pl.Am]at hM
 by_cases hlt:i < t.alts.length
 ·have hlt':(i:Int) < t.alts.length:=by omega
  have w3:=wrapS (i:=i) (by omega)
  rw [List.drop_eq_getElem_cons hlt]at hl hlen
  have hspos:=Bg (t.alts.drop (i+1)) fun x _=>Al x.2
  have ihx:=ih2 _ (List.getElem_mem hlt) l o'
  have hwx:=hwb _ (List.getElem_mem hlt)
  have hsx:=Eg hsm (List.getElem_mem hlt)
  generalize hx:t.alts[i]=x at hl hlen ihx hwx hsx
  obtain⟨xh,xb⟩:=x
  simp only [FP,sza,List.foldl_append]at hl hlen ihx hwx hsx
  simp -implicitDefEqProofs (disch:=first|omega|simp only[nx4]<;>omega|fail) [K5,Vg,Vh,e1,e2,e6,hM,hlt',hx]
  refine AH (AB.mono (ihx _ hwx hsx (by omega) hO hon) fun r s2 hn2 h=>AW ?_)
  obtain⟨o2,rfl,k1,k2,k3,k4⟩:=h
  have hM2:s2.m s.nx=some (.box t.av.cells):=by rw [k4 _ hn (by omega),hM,Pl.Am]
  have hgl:=Fh (pre xb) l
  have hpl:=GL xb
  simp -implicitDefEqProofs (disch:=first|omega|simp only[nx4]<;>omega|fail) [Vi,e6,w3]
  refine AK (t.alts.length - (i+1)) (by omega) ⟨i+1,_,o2,by omega,rfl,hl,by omega,?_,?_,?_,?_,k3,by omega,k2,K4 hk k4 ho' (by omega),by omega⟩
  ·exact smz
  ·simp -implicitDefEqProofs (disch:=first|omega|simp only[nx4]<;>omega|fail) [e2]
  ·exact smz
  ·exact hM2
 ·have hlt':¬ (i:Int) < t.alts.length:=by omega
  obtain rfl:i=t.alts.length:=by omega
  rw [List.drop_length,FP,List.foldl_nil]at hl
  simp -implicitDefEqProofs (disch:=first|omega|simp only[nx4]<;>omega|fail) [K5,Vg,e1,e2,e6,hM,hlt',NP]
  subst hl
  exact⟨o',by rw [hfin],by omega,hon,by rw [hfin];exact hO,hk⟩
theorem p92 (t:Pl):C92 t:=by
 induction t using Pl.ind with
 | h t ih1 ih2 =>
 intro l o s hw hsm hlen ho hon
 refine AD mixed Tryz.func92 Tryz.call92 c92 rfl (AE _ _ _ _ ?_)
 obtain⟨hnd,hwa,hwb⟩:=A5 hw
 have hsz:=Ew t
 have hsp:=By t.args fun x _=>Al x
 have hsp2:=Bg t.alts fun x _=>Al x.2
 have hal:t.alts.length≤40:=by
  by_cases o8:t.op=8
  ·exact(hnd.cas o8).2.2
  ·rw [hnd.GJ o8];simp
 have hlena:=hnd.len
 have hpre:pre t=t::(Gh t.args++FP t.alts):=by cases t;rw [pre];rfl
 have hfin:(pre t).foldl Ch l=(Gh t.args++FP t.alts).foldl Ch (Ch l t):=by rw [hpre,List.foldl_cons]
 -- behind the switch
 have hrest:∀ (l1:List (List UInt8)) (o1:Nat) (g:Env) (s1:St),l1=Ch l t→(l1.length:Int)≤l.length+1→g.get 1=.Ag 1 o1 0 l1.length→g.get 2=.ptr s.nx 0→s1.m s.nx=some (.box t.av.cells)→s1.m o1=some (.box (Ac l1))→(o1=o∨s.nx < o1)→o1 < s1.nx→Ao s o s1→s.nx < s1.nx →
   go (Cr Tryz.prog Vj (Hr (FQ Tryz.prog (.block 0 (.loop SI)) (FQ Tryz.prog (.seq (.seq (.reg false SH) (.block 2 (.loop K5))) (.seq (.reg false NP) .ret)) (Dd [.tmp (true,4)] (R92 t l o s))))) g [] s1):=by
  intro l1 o1 g s1 h1 h2 e1 e2 hM hO ho1 hon1 hk hn
  rw [← h1]at hfin
  simp -implicitDefEqProofs (disch:=first|omega|simp only[nx4]<;>omega|fail) [Vj]
  refine AQ (AJX t ((pre t).foldl Ch l) o s) t.args.length ⟨0,l1,o1,by omega,by omega,hfin.symm,by rw [List.drop_zero];omega,?_,?_,?_,?_,hO,ho1,?_,?_,?_⟩ ?_
  iterate 7 (simp -implicitDefEqProofs (disch:=first|omega|simp only[nx4]<;>omega|fail) [e1,e2,hM,hk,hon1,hn])
  clear e1 e2 hM hO ho1 hon1 hk hn h1 h2 hfin
  rintro m g s1 ⟨i,l1,o',hi,rfl,hl,hlen1,e1,e2,e5,hM,hO,ho',hon',hk,hn⟩
  rw [Pl.Am]at hM
  by_cases hlt:i < t.args.length
  ·have hlt':(i:Int) < t.args.length:=by omega
   have w3:=wrapS (i:=i) (by omega)
   rw [List.drop_eq_getElem_cons hlt]at hl hlen1
   have hspos:=By (t.args.drop (i+1)) fun x _=>Al x
   have ihx:=ih1 _ (List.getElem_mem hlt) l1 o'
   have hwx:=hwa _ (List.getElem_mem hlt)
   have hsx:=BS hsm (List.getElem_mem hlt)
   generalize hx:t.args[i]=x at hl hlen1 ihx hwx hsx
   simp only [Gh,szs,List.append_assoc]at hl hlen1
   rw [List.foldl_append]at hl
   simp -implicitDefEqProofs (disch:=first|omega|simp only[nx4]<;>omega|fail) [SI,Vk,ABC,e1,e2,e5,hM,hlt',hx]
   refine AH (AB.mono (ihx _ hwx hsx (by omega) hO hon') fun r s2 hn2 h=>AW ?_)
   obtain⟨o2,rfl,k1,k2,k3,k4⟩:=h
   have hM2:s2.m s.nx=some (.box t.av.cells):=by rw [k4 _ hn (by omega),hM,Pl.Am]
   have hgl:=Fh (pre x) l1
   have hpl:=GL x
   simp -implicitDefEqProofs (disch:=first|omega|simp only[nx4]<;>omega|fail) [ABD,e5,w3]
   refine AK (t.args.length - (i+1)) (by omega) ⟨i+1,_,o2,by omega,rfl,hl,by omega,?_,?_,?_,?_,k3,by omega,k2,K4 hk k4 ho' (by omega),by omega⟩
   ·exact smz
   ·simp -implicitDefEqProofs (disch:=first|omega|simp only[nx4]<;>omega|fail) [e2]
   ·exact smz
   ·exact hM2
  ·have hlt':¬ (i:Int) < t.args.length:=by omega
   obtain rfl:i=t.args.length:=by omega
   rw [List.drop_length,Gh,List.nil_append]at hl
   rw [List.drop_length,szs]at hlen1
   simp -implicitDefEqProofs (disch:=first|omega|simp only[nx4]<;>omega|fail) [SI,Vk,e1,e2,e5,hM,hlt']
   exact Ym t ih2 _ l o s hnd hwb hsm hal hon rfl l1 o' hl (by omega) _ _ (by simp -implicitDefEqProofs (disch:=first|omega|simp only[nx4]<;>omega|fail) [e1]) (by simp -implicitDefEqProofs (disch:=first|omega|simp only[nx4]<;>omega|fail) [e2]) (by rw [Pl.Am];exact hM) hO ho' hon' hk hn
 by_cases o2:t.op=2
 ·simp -implicitDefEqProofs (disch:=first|omega|simp only[nx4]<;>omega|fail) [a92,ACx,Vl,Vm,ABE,o2,ho]
  have hg:Ch l t=l++[t.s.data.toList]:=by rw [Ch,if_pos o2]
  rw [K6,← hg]
  have hgl:(Ch l t).length=l.length+1:=by rw [hg];simp
  refine hrest (Ch l t) (s.nx+1) _ _ rfl (by omega) ?_ ?_ ?_ ?_ (.inr (by omega)) ?_ ?_ ?_
  ·simp -implicitDefEqProofs (disch:=first|omega|simp only[nx4]<;>omega|fail) [hgl]
  ·exact smz
  ·simp -implicitDefEqProofs (disch:=first|omega|simp only[nx4]<;>omega|fail) [o2]
  ·exact smz
  ·exact smz
  ·intro q hq hne
   simp -implicitDefEqProofs (disch:=first|omega|simp only[nx4]<;>omega|fail) [hne]
  ·simp -implicitDefEqProofs (disch:=first|omega|simp only[nx4]<;>omega|fail)
   omega
 ·simp -implicitDefEqProofs (disch:=first|omega|simp only[nx4]<;>omega|fail) [a92,ACx,Vl,Vm,o2]
  have hg:Ch l t=l:=by rw [Ch,if_neg o2]
  refine hrest l o _ _ hg.symm (by omega) ?_ ?_ ?_ ?_ (.inl rfl) ?_ ?_ ?_
  ·exact smz
  ·exact smz
  ·exact smz
  ·simp -implicitDefEqProofs (disch:=first|omega|simp only[nx4]<;>omega|fail) [ho]
  ·simp -implicitDefEqProofs (disch:=first|omega|simp only[nx4]<;>omega|fail)
   omega
  ·exact smz
  ·exact smz
theorem p93 (zs:List (List UInt8)) (o:Nat) (s:St) (K:AV→St→Prop) (hlen:zs.length≤1000000) (ho:s.m o=some (.box (Ac zs))) (hK:K (.tup []) (s.set o (.box (Ac (CE zs))))):AB Tryz.prog 93 [.Ag 1 o 0 zs.length] s K:=by
 refine AD mixed Tryz.func93 Tryz.call93 k93.2 rfl (AE _ _ _ _ ?_)
 simp -implicitDefEqProofs (disch:=first|omega|simp only[nx4]<;>omega|fail) [k93]
 refine AH (p85 zs o _ _ hlen ho (AW ?_))
 simp -implicitDefEqProofs (disch:=first|omega|simp only[nx4]<;>omega|fail)
 exact hK
def I52 (zs:List (List UInt8)) (o:Nat) (s:St) (m:Nat) (g:Env) (s1:St):Prop :=
 ∃ (i:Nat),i≤zs.length∧m=zs.length - i∧g.get 3=.Ag 1 o 0 zs.length∧g.get 5=.int .i64 i∧(∃ oa,g.get 4=.Ag 1 oa 0 (Lib.compactUpTo zs.toArray i).length∧s1.m oa=some (.box (Ac (Lib.compactUpTo zs.toArray i)))∧oa≠o∧s.nx≤oa∧oa < s1.nx)∧s1.m o=some (.box (Ac zs))∧Kept s s1∧o < s1.nx
theorem ACy {x y:List UInt8}:ba x=ba y↔x=y:=by
 constructor
 ·intro h
  have:x.toArray=y.toArray:=by injection h
  simpa using this
 ·rintro rfl;rfl
theorem KH (d:Array (List UInt8)):∀ m,(Lib.compactUpTo d m).length≤m:=by
 intro m
 simp only [Lib.compactUpTo,List.length_map]
 refine Nat.le_trans (List.length_filter_le _ _) ?_
 simp
theorem GM {zs:List (List UInt8)} {i:Nat} (h:i < zs.length):(Ac zs).drop i=.str (ba zs[i])::(Ac zs).drop (i+1):=by
 rw [List.drop_eq_getElem_cons (by simpa using h),Fi h]
theorem Jv (l:List (List UInt8)) (x:List UInt8):Ac l++[AV.str (ba x)]=Ac (l++[x]):=by simp [Ac,ba]
theorem p52 (t:Pl) (hw:wf t=true) (hs:small t):AF Tryz.prog 52 [t.av] (.list 1 .none (Ac (gls t))):=by
 refine AF.intro fun s=>KM (AD mixed Tryz.func52 Tryz.call52 k52.2 rfl (AE _ _ _ _ ?_))
 have hsz:=hs.1
 have hl:(gnm t).length≤4000:=by
  have:=Fh (pre t) []
  have:=GL t
  simp only [List.length_nil]at *
  unfold gnm
  omega
 simp -implicitDefEqProofs (disch:=first|omega|simp only[nx4]<;>omega|fail) [k52]
 refine AH (AB.Vn (i:=1) 1 rfl (AB.mono (p92 t [] _ _ hw hs (by simp;omega) (by simp -implicitDefEqProofs (disch:=first|omega|simp only[nx4]<;>omega|fail) [Ac]) smz) fun r s' hn' h=>AW ?_))
 obtain⟨o',rfl,k1,k2,k3,k4⟩:=h
 change s'.m o'=some (.box (Ac (gnm t)))at k3
 have hg:((pre t).foldl Ch []).length=(gnm t).length:=rfl
 rw [hg]
 simp -implicitDefEqProofs (disch:=first|omega|simp only[nx4]<;>omega|fail)at k1 k4 hn'
 simp -implicitDefEqProofs (disch:=first|omega|simp only[nx4]<;>omega|fail) []
 refine AH (p93 (gnm t) o' _ _ (by omega) (by simp -implicitDefEqProofs (disch:=first|omega|simp only[nx4]<;>omega|fail) [k3]) (AW ?_))
 simp -implicitDefEqProofs (disch:=first|omega|simp only[nx4]<;>omega|fail) []
 have hbl:=Cu (gnm t)
 have hgl:gls t=Lib.compactUpTo (CE (gnm t)).toArray (CE (gnm t)).length:=rfl
 generalize CE (gnm t)=zs at hbl hgl ⊢
 rw [hgl,← hbl]
 have hkp:∀ q,q < s.nx→s'.m q=s.m q:=fun q hq=>by
  have h:=k4 q soz (by omega)
  simp -implicitDefEqProofs (disch:=first|omega|simp only[nx4]<;>omega|fail)at h
  exact h
 have ho':s.nx≤o':=by omega
 refine AQ (I52 zs o' s) zs.length ⟨0,by omega,by omega,?_,?_,⟨s'.nx,?_,?_,by omega,by omega,?_⟩,?_,?_,?_⟩ ?_
 ·exact smz
 ·exact smz
 ·simp -implicitDefEqProofs (disch:=first|omega|simp only[nx4]<;>omega|fail) [Lib.compactUpTo]
 ·simp -implicitDefEqProofs (disch:=first|omega|simp only[nx4]<;>omega|fail) [Lib.compactUpTo,Ac]
 ·exact smz
 ·exact smz
 ·intro q hq
  have:q≠o':=by omega
  simp -implicitDefEqProofs (disch:=first|omega|simp only[nx4]<;>omega|fail) [this,hkp q hq]
 ·simp -implicitDefEqProofs (disch:=first|omega|simp only[nx4]<;>omega|fail)
  omega
 rintro m g s1 ⟨i,hi,rfl,e3,e5,⟨oa,e4,hA,hne,hoa1,hoa2⟩,hO,hk,hn⟩
 by_cases hlt:i < zs.length
 ·have hlt':(i:Int) < zs.length:=by omega
  have w3:=wrapS (i:=i) (by omega)
  have hcl:=KH zs.toArray i
  have hgt:=Fi hlt
  have hgt?:=slist_get? hlt
  have hsucc:=Lib.compactUpTo_succ zs.toArray i
  have hx:zs.toArray[i]! = zs[i]:=by simp [hlt]
  by_cases i0:i=0
  ·subst i0
   have hkp:Lib.keeps zs.toArray 0=true:=by simp [Lib.keeps]
   rw [if_pos hkp,hx]at hsucc
   have hl1:=congrArg List.length hsucc
   simp only [List.length_append,List.length_singleton]at hl1
   simp -implicitDefEqProofs (disch:=first|omega|simp only[nx4]<;>omega|fail) [e3,e4,e5,hlt',hO,hA,hlt,hgt,hgt?,GM hlt]
   intro m hm
   rw [Jv,← hsucc]
   refine AK (zs.length - 1) (by omega) ⟨1,by omega,rfl,?_,?_,⟨m,?_,?_,by omega,by omega,?_⟩,?_,?_,?_⟩
   all_goals (try simp -implicitDefEqProofs (disch:=first|omega|simp only[nx4]<;>omega|fail) [e3,hl1,hO,hk,show IntKind.i64.wrap 1=1 from rfl])
   all_goals (try omega)
  ·have hi0:¬ (i:Int)=0:=by omega
   have w4:IntKind.i64.wrap ((i:Int) - 1)=((i - 1:Nat):Int):=by rw [wrap64 (by omega) (by omega)];omega
   have hlt2:i - 1 < zs.length:=by omega
   have hgt2:=Fi hlt2
   have hgt2?:=slist_get? hlt2
   have hx2:zs.toArray[i - 1]! = zs[i - 1]:=by simp [hlt2]
   simp -implicitDefEqProofs (disch:=first|omega|simp only[nx4]<;>omega|fail) [e3,e4,e5,hlt',hO,hlt,hgt,hgt?,hi0,w4,hlt2,hgt2,hgt2?,GM hlt,GM hlt2]
   refine⟨fun _ m hm=>⟨fun hd=>?_,fun hd=>?_⟩,fun h=>absurd h i0⟩
   ·have hkp:Lib.keeps zs.toArray i=true:=Lib.keeps_pos (by rw [hx,hx2];exact fun e=>hd (by rw [e]))
    rw [if_pos hkp,hx]at hsucc
    have hl1:=congrArg List.length hsucc
    simp only [List.length_append,List.length_singleton]at hl1
    simp -implicitDefEqProofs (disch:=first|omega|simp only[nx4]<;>omega|fail) [e3,e4,e5,hO,hA,hlt,hgt,hgt?,GM hlt,w3]
    rw [Jv,← hsucc]
    refine AK (zs.length - (i+1)) (by omega) ⟨i+1,by omega,rfl,?_,?_,⟨m,?_,?_,by omega,by omega,?_⟩,?_,?_,?_⟩
    all_goals (try simp -implicitDefEqProofs (disch:=first|omega|simp only[nx4]<;>omega|fail) [e3,hl1,hO,hk,w3])
    all_goals (try omega)
   ·have hkp:Lib.keeps zs.toArray i=false:=Lib.keeps_neg (by omega) (by rw [hx,hx2];exact ACy.1 hd)
    rw [hkp]at hsucc
    simp only [Bool.false_eq_true,if_false,List.append_nil]at hsucc
    simp -implicitDefEqProofs (disch:=first|omega|simp only[nx4]<;>omega|fail) [e3,e4,e5,w3]
    refine AK (zs.length - (i+1)) (by omega) ⟨i+1,by omega,rfl,?_,?_,⟨oa,?_,?_,by omega,by omega,?_⟩,?_,?_,?_⟩
    all_goals (try simp -implicitDefEqProofs (disch:=first|omega|simp only[nx4]<;>omega|fail) [e3,e4,hsucc,hO,hA,hk,w3])
    all_goals (try omega)
 ·have hlt':¬ (i:Int) < zs.length:=by omega
  obtain rfl:i=zs.length:=by omega
  simp -implicitDefEqProofs (disch:=first|omega|simp only[nx4]<;>omega|fail) [e3,e4,e5,hlt']
  refine⟨1,oa,_,⟨rfl,rfl,rfl⟩,Ac (Lib.compactUpTo zs.toArray zs.length),by rw [SJ];exact hA,?_,by simp,by simp,?_⟩
  ·intro x hx
   simp only [Ac,List.mem_map]at hx
   obtain⟨y,_,rfl⟩:=hx
   rfl
  ·simp -implicitDefEqProofs (disch:=first|omega|simp only[nx4]<;>omega|fail) [hk]
def dfd (p:List Gl) (t:Pl):Bool:=(gls t).all fun x=>decide (0≤Bc p (ba x))
def I28 (p:List Gl) (zs:List (List UInt8)) (s:St) (m:Nat) (g:Env) (s1:St):Prop :=
 ∃ i:Nat,i≤zs.length∧m=zs.length - i∧((zs.drop i).all fun x=>decide (0≤Bc p (ba x)))=(zs.all fun x=>decide (0≤Bc p (ba x)))∧g.get 0=.list 6 .none (p.map Gl.av)∧g.get 5=.list 1 .none (Ac zs)∧g.get 6=.int .i64 i∧Kept s s1∧s.nx≤s1.nx
theorem p28 (p:List Gl) (t:Pl) (hp:p.length≤100000) (hw:wf t=true) (hs:small t):AF Tryz.prog 28 [.list 6 .none (p.map Gl.av),t.av] (.bool (dfd p t)):=by
 refine AF.intro fun s=>AD mixed Tryz.func28 Tryz.call28 k28.2 rfl (AE _ _ _ _ ?_)
 have hgl:(gls t).length≤4000:=by have:=GL t;have:=NQ t;have:=hs.1;omega
 simp -implicitDefEqProofs (disch:=first|omega|simp only[nx4]<;>omega|fail) [k28]
 refine AA (p52 t hw hs) fun mm1 hm1=>?_
 try simp only [nx4]at hm1
 simp -implicitDefEqProofs (disch:=first|omega|simp only[nx4]<;>omega|fail) []
 rw [dfd]
 generalize gls t=zs at hgl ⊢
 refine AQ (I28 p zs s) zs.length ⟨0,by omega,by omega,rfl,?_,?_,?_,?_,?_⟩ ?_
 iterate 5 (simp -implicitDefEqProofs (disch:=first|omega|simp only[nx4]<;>omega|fail))
 ·omega
 rintro m g s1 ⟨i,hi,rfl,hw,e0,e5,e6,hk,hn⟩
 by_cases hlt:i < zs.length
 ·have hlt':(i:Int) < zs.length:=by omega
  have w3:=wrapS (i:=i) (by omega)
  rw [List.drop_eq_getElem_cons hlt,List.all_cons]at hw
  have hgt:=Fi hlt
  have hgt?:=slist_get? hlt
  have h23:=p23 p (ba zs[i]) hp
  generalize zs[i]=x at hw hgt hgt? h23
  simp -implicitDefEqProofs (disch:=first|omega|simp only[nx4]<;>omega|fail) [e0,e5,e6,hlt',hlt,hgt,hgt?]
  by_cases h:0≤Bc p (ba x)
  ·have h':¬ Bc p (ba x) < 0:=by omega
   rw [decide_eq_true h,Bool.true_and]at hw
   refine AA h23 fun mm2 hm2=>?_
   try simp only [nx4]at hm2
   simp -implicitDefEqProofs (disch:=first|omega|simp only[nx4]<;>omega|fail) [h',e6,w3]
   refine AK (zs.length - (i+1)) (by omega) ⟨i+1,by omega,rfl,hw,?_,?_,?_,?_,?_⟩
   all_goals (try simp -implicitDefEqProofs (disch:=first|omega|simp only[nx4]<;>omega|fail) [e0,e5,hk])
   all_goals (try omega)
  ·have h':Bc p (ba x) < 0:=by omega
   rw [decide_eq_false h,Bool.false_and]at hw
   refine AA h23 fun mm3 hm3=>?_
   try simp only [nx4]at hm3
   simp -implicitDefEqProofs (disch:=first|omega|simp only[nx4]<;>omega|fail) [h',← hw,hk]
 ·have hlt':¬ (i:Int) < zs.length:=by omega
  obtain rfl:i=zs.length:=by omega
  rw [List.drop_length,List.all_nil]at hw
  simp -implicitDefEqProofs (disch:=first|omega|simp only[nx4]<;>omega|fail) [e0,e5,e6,hlt',← hw,hk]
theorem p31 (t:Pl) (hs:small t):AF Tryz.prog 31 [t.av,.int .i64 0] (.bool (wf t && decide (fv t 0=[]))):=by
 refine AF.intro fun s=>AD mixed Tryz.func31 Tryz.call31 k31.2 rfl (AE _ _ _ _ ?_)
 have h27:=p27 t hs
 simp -implicitDefEqProofs (disch:=first|omega|simp only[nx4]<;>omega|fail) [k31]
 cases hw:wf t with
 | false =>
  rw [hw]at h27
  refine AA h27 fun mm4 hm4=>?_
  try simp only [nx4]at hm4
  simp -implicitDefEqProofs (disch:=first|omega|simp only[nx4]<;>omega|fail) []
 | true =>
  rw [hw]at h27
  refine AA h27 fun mm5 hm5=>?_
  try simp only [nx4]at hm5
  simp -implicitDefEqProofs (disch:=first|omega|simp only[nx4]<;>omega|fail) []
  refine AA (p61 t 0 hw hs (by omega) (by have:=hs.2;omega)) fun mm6 hm6=>?_
  try simp only [nx4]at hm6
  simp -implicitDefEqProofs (disch:=first|omega|simp only[nx4]<;>omega|fail) []
def NR (p:List Gl):List Gl→Nat→Bool
 | [],_=>true
 | g::r,i=>nm g.name && !decide (Bc p g.name < i) && (wf g.body && decide (fv g.body 0=[])) && (!wf g.body || dfd p g.body) && NR p r (i+1)
theorem NS {α:Type} (q:α→Bool):∀ (l:List α) (i:Int) (k:Nat),0≤i→(∃ x∈l,q x=true)→(DO q l i < i+k↔∃ x∈l.take k,q x=true)
 | [],i,k,_,h=>by simp at h
 | x::r,i,k,h0,h=>by
  rw [DO]
  by_cases hq:q x=true
  ·rw [if_pos hq]
   cases k with
   | zero=>simp
   | succ k=>simp [hq];omega
  ·rw [if_neg hq]
   have h':∃ x∈r,q x=true:=by
    obtain⟨y,hy,hy2⟩:=h
    rcases List.mem_cons.1 hy with rfl | hy
    ·exact absurd hy2 hq
    ·exact⟨y,hy,hy2⟩
   cases k with
   | zero =>
    have:=(Gu q r (i+1) (by omega)).2 h'
    have h3:=(NS q r (i+1) 0 (by omega) h')
    simp only [List.take_zero,List.not_mem_nil,false_and,exists_false,iff_false]at h3 ⊢
    omega
   | succ k =>
    have h3:=(NS q r (i+1) k (by omega) h')
    have e:i+1+(k:Int)=i+((k+1:Nat):Int):=by omega
    rw [e]at h3
    rw [h3]
    simp [hq]
theorem Fj {p:List Gl} {s:ByteArray}:0≤Bc p s↔s∈nms p:=by
 rw [Bc,Gu _ _ _ (by omega)]
 simp [nms,eq_comm]
theorem Vo {p:List Gl} {s:ByteArray} (h:s∈nms p) (k:Nat):Bc p s < k↔s∈(nms p).take k:=by
 have h2:∃ g∈p,decide (g.name=s)=true:=by
  simp only [nms,List.mem_map]at h
  obtain⟨g,hg,rfl⟩:=h
  exact⟨g,hg,by simp⟩
 have:=NS (fun g:Gl=>decide (g.name=s)) p 0 k (by omega) h2
 rw [Bc]
 rw [Int.zero_add]at this
 rw [this,nms,← List.map_take,List.mem_map]
 simp
theorem PH (p:List Gl):∀ (r:List Gl) (i:Nat),p.drop i=r→i≤p.length→NR p r i=(B8 ((nms p).take i) r && r.all fun g=>clo (nms p) g.body)
 | [],i,h,_=>by simp [NR,B8]
 | g::r,i,h,hi=>by
  have hlt:i < p.length:=by
   rcases Nat.lt_or_ge i p.length with h2 | h2
   ·exact h2
   ·rw [List.drop_eq_nil_of_le h2]at h;cases h
  rw [List.drop_eq_getElem_cons hlt]at h
  injection h with h1 h2
  have ih:=PH p r (i+1) h2 (by omega)
  have hmem:g.name∈nms p:=by
   rw [nms,← h1]
   exact List.mem_map_of_mem (List.getElem_mem hlt)
  have hf:=Vo hmem i
  rw [NR,ih,B8,PI hlt,h1,List.all_cons]
  have e1:decide (Bc p g.name < i)=decide (g.name∈(nms p).take i):=by
   rw [Bool.eq_iff_iff];simpa using hf
  have e2:clo (nms p) g.body=(decide (fv g.body 0=[]) && dfd p g.body):=by
   rw [clo,dfd]
   congr 2
   funext x
   rw [Bool.eq_iff_iff]
   simp [Fj]
  rw [e1,e2]
  cases wf g.body <;> cases nm g.name <;> cases decide (g.name∈(nms p).take i) <;> cases decide (fv g.body 0=[]) <;> cases dfd p g.body <;> simp [Bool.and_comm]
def I9 (p:List Gl) (s:St) (m:Nat) (g:Env) (s1:St):Prop :=
 ∃ i:Nat,i≤p.length∧m=p.length - i∧NR p (p.drop i) i=NR p p 0∧g.get 0=.list 6 .none (p.map Gl.av)∧g.get 3=.int .i64 i∧Kept s s1∧s.nx≤s1.nx
theorem p9 (p:List Gl) (hp:Few p):AF Tryz.prog 9 [.list 6 .none (p.map Gl.av)] (.bool (isP p)):=by
 refine AF.intro fun s=>AD mixed Tryz.func9 Tryz.call9 k9.2 rfl (AE _ _ _ _ ?_)
 obtain⟨hpl,hpb⟩:=hp
 by_cases hl0:400 < p.length
 ·have h1:(400:Int) < p.length:=by omega
  have hl:¬ p.length≤400:=by omega
  have h2:isP p=false:=by simp [isP,hl]
  simp -implicitDefEqProofs (disch:=first|omega|simp only[nx4]<;>omega|fail) [k9,h1,h2]
 have hl:p.length≤400:=by omega
 have hdef:isP p=NR p p 0:=by rw [PH p p 0 rfl (by omega),isP];simp [hl]
 rw [hdef]
 have h1:¬ (400:Int) < p.length:=by omega
 simp -implicitDefEqProofs (disch:=first|omega|simp only[nx4]<;>omega|fail) [k9,h1]
 refine AQ (I9 p s) p.length ⟨0,by omega,by omega,rfl,?_,?_,?_,?_⟩ ?_
 iterate 4 (simp -implicitDefEqProofs (disch:=first|omega|simp only[nx4]<;>omega|fail))
 rintro m g s1 ⟨i,hi,rfl,hw,e0,e3,hk,hn⟩
 by_cases hlt:i < p.length
 ·have hlt':(i:Int) < p.length:=by omega
  have w3:=wrapS (i:=i) (by omega)
  rw [List.drop_eq_getElem_cons hlt,NR]at hw
  obtain⟨hsm,hrg⟩:=hpb _ (List.getElem_mem hlt)
  generalize hx:p[i]=x at hw hsm hrg
  have h34:=p34 x.name
  have h23:=p23 p x.name (by omega)
  have h31:=p31 x.body hsm
  have h28:=p28 p x.body (by omega)
  simp -implicitDefEqProofs (disch:=first|omega|simp only[nx4]<;>omega|fail) [e0,e3,hlt',hx]
  cases hnm:nm x.name with
  | false =>
   rw [hnm]at h34 hw
   simp only [Bool.false_and]at hw
   refine AA h34 fun mm7 hm7=>?_
   try simp only [nx4]at hm7
   simp -implicitDefEqProofs (disch:=first|omega|simp only[nx4]<;>omega|fail) [← hw,hk]
  | true =>
   rw [hnm]at h34 hw
   by_cases hf:Bc p x.name < i
   ·rw [decide_eq_true hf]at hw
    simp only [Bool.not_true,Bool.and_false,Bool.false_and]at hw
    refine AA h34 fun mm8 hm8=>?_
    try simp only [nx4]at hm8
    simp -implicitDefEqProofs (disch:=first|omega|simp only[nx4]<;>omega|fail) [e0,e3,hlt',hx]
    refine AA h23 fun mm9 hm9=>?_
    try simp only [nx4]at hm9
    simp -implicitDefEqProofs (disch:=first|omega|simp only[nx4]<;>omega|fail) [e3,hf,← hw,hk]
   ·rw [decide_eq_false hf]at hw
    simp only [Bool.not_false,Bool.and_true,Bool.true_and]at hw
    refine AA h34 fun mm10 hm10=>?_
    try simp only [nx4]at hm10
    simp -implicitDefEqProofs (disch:=first|omega|simp only[nx4]<;>omega|fail) [e0,e3,hlt',hx]
    cases hT:(wf x.body && decide (fv x.body 0=[]))with
    | false =>
     rw [hT]at h31 hw
     simp only [Bool.false_and]at hw
     refine AA h23 fun mm11 hm11=>?_
     try simp only [nx4]at hm11
     simp -implicitDefEqProofs (disch:=first|omega|simp only[nx4]<;>omega|fail) [hf,e0,e3,hlt',hx]
     refine AA h31 fun mm12 hm12=>?_
     try simp only [nx4]at hm12
     simp -implicitDefEqProofs (disch:=first|omega|simp only[nx4]<;>omega|fail) [← hw,hk]
    | true =>
     rw [hT]at h31 hw
     have hwf:wf x.body=true:=by
      rw [Bool.and_eq_true]at hT;exact hT.1
     have h28':=h28 hwf hsm
     rw [hwf]at hw
     simp only [Bool.not_true,Bool.false_or,Bool.true_and]at hw
     refine AA h23 fun mm13 hm13=>?_
     try simp only [nx4]at hm13
     simp -implicitDefEqProofs (disch:=first|omega|simp only[nx4]<;>omega|fail) [hf,e0,e3,hlt',hx]
     refine AA h31 fun mm14 hm14=>?_
     try simp only [nx4]at hm14
     simp -implicitDefEqProofs (disch:=first|omega|simp only[nx4]<;>omega|fail) [e0,e3,hlt',hx]
     cases hd:dfd p x.body with
     | false =>
      rw [hd]at h28' hw
      simp only [Bool.false_and]at hw
      refine AA h28' fun mm15 hm15=>?_
      try simp only [nx4]at hm15
      simp -implicitDefEqProofs (disch:=first|omega|simp only[nx4]<;>omega|fail) [← hw,hk]
     | true =>
      rw [hd]at h28' hw
      simp only [Bool.true_and]at hw
      refine AA h28' fun mm16 hm16=>?_
      try simp only [nx4]at hm16
      simp -implicitDefEqProofs (disch:=first|omega|simp only[nx4]<;>omega|fail) [e3,w3]
      refine AK (p.length - (i+1)) (by omega) ⟨i+1,by omega,rfl,hw,?_,?_,?_,?_⟩
      all_goals (try simp -implicitDefEqProofs (disch:=first|omega|simp only[nx4]<;>omega|fail) [e0,hk])
      all_goals (try omega)
 ·have hlt':¬ (i:Int) < p.length:=by omega
  obtain rfl:i=p.length:=by omega
  rw [List.drop_length,NR]at hw
  simp -implicitDefEqProofs (disch:=first|omega|simp only[nx4]<;>omega|fail) [e0,e3,hlt',← hw,hk]
end Go.AL.Dm
namespace Go.AL.Dm
def Asc (l:List Int):Prop:=l.Pairwise (· < ·)
theorem KN:Asc []:=List.Pairwise.nil
theorem Asc.nodup {l:List Int} (h:Asc l):l.Nodup:=List.Pairwise.imp (fun h=>by omega) h
theorem NT:∀ {a b:List Int},Asc a→Asc b→(∀ k,k∈a↔k∈b)→a=b
 | [],[],_,_,_=>rfl
 | [],y::b,_,_,h=>by have:=(h y).2 (by simp);simp at this
 | x::a,[],_,_,h=>by have:=(h x).1 (by simp);simp at this
 | x::a,y::b,ha,hb,h=>by
  obtain⟨ha1,ha2⟩:=List.pairwise_cons.1 ha
  obtain⟨hb1,hb2⟩:=List.pairwise_cons.1 hb
  have hxy:x=y:=by
   have h1:=(h x).1 (by simp)
   have h2:=(h y).2 (by simp)
   rcases List.mem_cons.1 h1 with h1 | h1
   ·exact h1
   ·rcases List.mem_cons.1 h2 with h2 | h2
    ·exact h2.symm
    ·have:=hb1 _ h1;have:=ha1 _ h2;omega
  subst hxy
  congr 1
  refine NT ha2 hb2 fun k=>?_
  have:=h k
  simp only [List.mem_cons]at this
  constructor
  ·intro hk
   have hne:k≠x:=by have:=ha1 k hk;omega
   exact(this.1 (.inr hk)).resolve_left hne
  ·intro hk
   have hne:k≠x:=by have:=hb1 k hk;omega
   exact(this.2 (.inr hk)).resolve_left hne
def JO (n:Int):List Int→List Int
 | []=>[n]
 | a::r=>if a < n then a::JO n r else if a=n then a::r else n::a::r
theorem K7 {k n:Int}:∀ {l:List Int},k∈JO n l↔k=n∨k∈l
 | []=>by simp [JO]
 | a::r=>by
  unfold JO
  split
  ·simp only [List.mem_cons,K7 (l:=r)]
   constructor
   ·rintro(h | h | h) <;> simp [h]
   ·rintro(h | h | h) <;> simp [h]
  ·split
   ·rename_i h;subst h;simp
   ·simp
theorem PJ {n:Int}:∀ {l:List Int},Asc l→Asc (JO n l)
 | [],_=>by simp [JO,Asc]
 | a::r,h=>by
  obtain⟨h1,h2⟩:=List.pairwise_cons.1 h
  unfold JO
  split
  ·refine List.pairwise_cons.2 ⟨fun b hb=>?_,PJ h2⟩
   rcases K7.1 hb with rfl | hb
   ·assumption
   ·exact h1 b hb
  ·split
   ·exact h
   ·refine List.pairwise_cons.2 ⟨fun b hb=>?_,h⟩
    rcases List.mem_cons.1 hb with rfl | hb
    ·omega
    ·have:=h1 b hb;omega
def lun (a b:List Int):List Int:=b.foldl (fun l n=>JO n l) a
theorem Cf {k:Int}:∀ {b a:List Int},k∈lun a b↔k∈a∨k∈b
 | [],a=>by simp [lun]
 | n::b,a=>by
  have:=Cf (k:=k) (b:=b) (a:=JO n a)
  simp only [lun,List.foldl_cons]at *
  rw [this,K7,List.mem_cons]
  constructor
  ·rintro((h | h) | h) <;> simp [h]
  ·rintro(h | h | h) <;> simp [h]
theorem KO:∀ {b a:List Int},Asc a→Asc (lun a b)
 | [],a,h=>h
 | n::b,a,h=>by
  simp only [lun,List.foldl_cons]
  exact KO (b:=b) (PJ h)
theorem UL {l:List Int} (h:l.Nodup):Asc (BX l):=by
 have h1:(BX l).Pairwise (·≤·):=(List.pairwise_mergeSort (le:=fun x y:Int=>decide (x≤y)) (fun a b c h1 h2=>by simp at *;omega) (fun a b=>by simp;omega) l).imp (by simp)
 have h2:(BX l).Nodup:=(List.mergeSort_perm l _).nodup_iff.2 h
 exact List.Pairwise.imp₂ (fun a b h1 h2=>by omega) h1 h2
theorem MK {l:List Int} {k:Int}:k∈BX l↔k∈l:=(List.mergeSort_perm l _).mem_iff
abbrev ND:=Option (List Int)
def ND.ok:ND→Prop
 | none=>True
 | some l=>Asc l
def ND.has:ND→Int→Prop
 | none,_=>False
 | some l,k=>k∈l
instance (x:ND) (k:Int):Decidable (x.has k):=by cases x <;> unfold ND.has <;> infer_instance
def BB:ND→ND→ND
 | some a,some b=>some (lun a b)
 | _,_=>none
def He (a b:List Int):List Int:=a.filter fun k=>decide (k∈b)
def BU:ND→ND→ND
 | none,m=>m
 | some a,none=>some a
 | some a,some b=>some (He a b)
def B5 (n:Int):ND→ND
 | none=>none
 | some l=>some ((l.filter fun k=>decide (n≤k)).map (· - n))
theorem Ex {a b:ND} (ha:a.ok) (hb:b.ok):(BB a b).ok:=by
 cases a <;> cases b <;> simp only [BB,ND.ok]at *
 exact KO ha
theorem K8 {l:List Int} (h:Asc l) (p:Int→Bool):Asc (l.filter p):=List.Pairwise.filter _ h
theorem ML {a b:List Int} (ha:Asc a):Asc (He a b):=K8 ha _
theorem PK {a b:ND} (ha:a.ok) (hb:b.ok):(BU a b).ok:=by
 cases a <;> cases b <;> simp only [BU,ND.ok]at *
 ·exact hb
 ·exact ha
 ·exact ML ha
theorem IX {l:List Int} (h:Asc l) (n:Int):Asc ((l.filter fun k=>decide (n≤k)).map (· - n)):=by
 unfold Asc
 rw [List.pairwise_map]
 exact List.Pairwise.imp (fun h=>by omega) (K8 h _)
theorem IY {a:ND} (ha:a.ok) (n:Int):(B5 n a).ok:=by
 cases a with
 | none=>trivial
 | some l=>exact IX ha n
theorem EC {l:List Int} {n k:Int}:k∈(l.filter fun k=>decide (n≤k)).map (· - n)↔k+n∈l∧0≤k:=by
 simp only [List.mem_map,List.mem_filter,decide_eq_true_eq]
 constructor
 ·rintro⟨x,⟨h1,h2⟩,rfl⟩
  exact⟨by rw [show x - n+n=x by omega];exact h1,by omega⟩
 ·rintro⟨h1,h2⟩
  exact⟨k+n,⟨h1,by omega⟩,by omega⟩
inductive Reach (n:Int) (Ci:Int→ND) (body:ND):Int→Prop
 | body {l:List Int} {k:Int}:body=some l→k∈l→Reach n Ci body k
 | val {u:Int} {l:List Int} {k:Int}:Reach n Ci body u→0≤u→u < n→Ci u=some l→k∈l→Reach n Ci body k
def JP (n:Int) (Ci:Int→ND) (body:ND):Prop:=body=none∨∃ u,Reach n Ci body u∧0≤u∧u < n∧Ci u=none
def valOf (vs:List ND) (u:Int):ND:=if 0≤u then(vs[vs.length - 1 - u.toNat]?).getD (some [])else some []
open Classical in
noncomputable def DE (vs:List ND) (body:ND):ND :=
 if JP vs.length (valOf vs) body then none
 else B5 vs.length (some (lun [] ((body.getD []++vs.flatMap fun v=>v.getD []).filter fun k=>decide (Reach vs.length (valOf vs) body k))))
theorem K9 {vs:List ND} {body:ND} {k:Int} (h:Reach vs.length (valOf vs) body k):k∈body.getD []++vs.flatMap fun v=>v.getD []:=by
 cases h with
 | body h1 h2=>rw [h1];simp [h2]
 | @val u l k hr h0 h1 h2 h3 =>
  simp only [List.mem_append,List.mem_flatMap]
  refine .inr ?_
  unfold valOf at h2
  rw [if_pos h0]at h2
  cases hv:vs[vs.length - 1 - u.toNat]? with
  | none=>rw [hv]at h2;simp at h2;subst h2;simp at h3
  | some v =>
   rw [hv]at h2
   simp only [Option.getD_some]at h2
   exact⟨v,List.mem_of_getElem? hv,by rw [h2];exact h3⟩
theorem DJ {vs:List ND} {body:ND}:DE vs body=none↔JP vs.length (valOf vs) body:=by
 unfold DE
 split
 ·simp [*]
 ·simp [B5, *]
theorem DK {vs:List ND} {body:ND} (h:¬ JP vs.length (valOf vs) body):∃ l,DE vs body=some l∧Asc l∧∀ k,k∈l↔Reach vs.length (valOf vs) body (k+vs.length)∧0≤k:=by
 unfold DE
 rw [if_neg h]
 refine⟨_,rfl,IX (KO KN) _,fun k=>?_⟩
 rw [EC,Cf]
 simp only [List.not_mem_nil,false_or,List.mem_filter,decide_eq_true_eq]
 exact⟨fun h=>⟨h.1.2,h.2⟩,fun h=>⟨⟨K9 h.1,h.1⟩,h.2⟩⟩
theorem Yn (vs:List ND) (body:ND):(DE vs body).ok:=by
 by_cases h:JP vs.length (valOf vs) body
 ·rw [DJ.2 h];trivial
 ·obtain⟨l,h1,h2,_⟩:=DK h
  rw [h1];exact h2
theorem Yo {vs:List ND} {body:ND} {S:List Int} (hS:Asc S) (h1:∀ k∈S,Reach vs.length (valOf vs) body k) (h2:∃ l,body=some l∧∀ k∈l,k∈S)
  (h3:∀ u∈S,0≤u→u < vs.length→∃ l,valOf vs u=some l∧∀ k∈l,k∈S):DE vs body=B5 vs.length (some S):=by
 have hr:∀ k,Reach vs.length (valOf vs) body k→k∈S:=by
  intro k hk
  induction hk with
  | body e hm =>
   obtain⟨l,e2,h⟩:=h2
   rw [e]at e2;cases e2;exact h _ hm
  | val _ h0 hn e hm ih =>
   obtain⟨l,e2,h⟩:=h3 _ ih h0 hn
   rw [e]at e2;cases e2;exact h _ hm
 have hna:¬ JP vs.length (valOf vs) body:=by
  rintro(h | ⟨u,hu,h0,hn,hv⟩)
  ·obtain⟨l,e,_⟩:=h2;rw [h]at e;cases e
  ·obtain⟨l,e,_⟩:=h3 u (hr u hu) h0 hn;rw [hv]at e;cases e
 obtain⟨l,e,ha,hm⟩:=DK hna
 rw [e,B5]
 congr 1
 refine NT ha (IX hS _) fun k=>?_
 rw [hm,EC]
 exact⟨fun h=>⟨hr _ h.1,h.2⟩,fun h=>⟨h1 _ h.1,h.2⟩⟩
structure Kn where
 w:Int
 st:List Bool
 BV:Bool
def Av:List Bool→List ND→ND→ND
 | b::bs,x::xs,acc=>Av bs xs (if b=true then BB acc x else acc)
 | _,_,acc=>acc
def Aw (fb:ND) (n:Int):Int→List ND→ND→ND
 | i,x::xs,acc=>if i < n then Aw fb n (i+1) xs (if fb.has (n - 1 - i)then BB acc x else acc)else acc
 | _,[],acc=>acc
def BZ:ByteArray:=⟨#[116,104,114,111,119]⟩
noncomputable def comb (K:ByteArray→Kn) (op n:Int) (s:ByteArray) (args:List (Pl × ND × ND)) (alts:List (Hd × ND)):ND :=
 if op=1 then some [n]
 else if op=2 then(if (K s).w=0∧(K s).BV=true then none else some [])
 else if op=6 then
  match args with
  | []=>some []
  | (f,fN,fB)::l =>
   if f.op=5∧f.n≤l.length then Aw fB f.n 0 (l.map (·.2.1)) (B5 f.n fB)
   else if f.op≠2 then fN
   else if (K f.s).w=0 then fN
   else if (l.length:Int) < (K f.s).w then some []
   else if (K f.s).BV=true then none
   else Av (K f.s).st (l.map (·.2.1)) (some [])
 else if op=7 then DE ((args.dropLast).map (·.2.1)) ((args.getLast?.map (·.2.1)).getD (some []))
 else if op=8 then BB ((args.head?.map (·.2.1)).getD (some [])) ((alts.map fun a=>B5 (bnd a.1) a.2).foldl BU none)
 else if op=9 then
  if s=BZ then none
  else if Ab s < 9 then BB ((args.head?.map (·.2.1)).getD (some [])) ((args[1]?.map (·.2.1)).getD (some []))
  else some []
 else some []
mutual
noncomputable def nd2 (K:ByteArray→Kn):Pl→ND × ND
 | .mk op n s args alts=>(comb K op n s (nds K args) (nda K alts),((nds K args).head?.map (·.2.1)).getD (some []))
noncomputable def nds (K:ByteArray→Kn):List Pl→List (Pl × ND × ND)
 | []=>[]
 | t::ts=>(t,nd2 K t)::nds K ts
noncomputable def nda (K:ByteArray→Kn):List (Hd × Pl)→List (Hd × ND)
 | []=>[]
 | (h,t)::ts=>(h,(nd2 K t).1)::nda K ts
end
noncomputable def AM (K:ByteArray→Kn) (t:Pl):ND:=(nd2 K t).1
noncomputable def Bm (K:ByteArray→Kn) (t:Pl):ND:=(nd2 K t).2
theorem Q3 (K:ByteArray→Kn):∀ l:List Pl,nds K l=l.map fun x=>(x,AM K x,Bm K x)
 | []=>rfl
 | t::ts=>by simp [nds,Q3 K ts,AM,Bm]
theorem Vp (K:ByteArray→Kn):∀ l:List (Hd × Pl),nda K l=l.map fun a=>(a.1,AM K a.2)
 | []=>rfl
 | (h,t)::ts=>by simp [nda,Vp K ts,AM]
theorem Cv (K:ByteArray→Kn) (t:Pl):AM K t=comb K t.op t.n t.s (t.args.map fun x=>(x,AM K x,Bm K x)) (t.alts.map fun a=>(a.1,AM K a.2)):=by
 cases t;rw [AM,nd2,Q3,Vp];rfl
theorem Ey (K:ByteArray→Kn) (t:Pl):Bm K t=(t.args.head?.map (AM K)).getD (some []):=by
 cases t with
 | mk op n s args alts =>
  rw [Bm,nd2,Q3]
  cases args <;> rfl
theorem LB:∀ (bs:List Bool) (xs:List ND) (acc:ND),(∀ x∈xs,x.ok)→acc.ok→(Av bs xs acc).ok
 | [],xs,acc,_,h=>by cases xs <;> exact h
 | b::bs,[],acc,_,h=>h
 | b::bs,x::xs,acc,hx,h=>by
  rw [Av]
  refine LB bs xs _ (fun y hy=>hx y (by simp [hy])) ?_
  split
  ·exact Ex h (hx x (by simp))
  ·exact h
theorem LC (fb:ND) (n:Int):∀ (xs:List ND) (i:Int) (acc:ND),(∀ x∈xs,x.ok)→acc.ok→(Aw fb n i xs acc).ok
 | [],i,acc,_,h=>h
 | x::xs,i,acc,hx,h=>by
  rw [Aw]
  split
  ·refine LC fb n xs _ _ (fun y hy=>hx y (by simp [hy])) ?_
   split
   ·exact Ex h (hx x (by simp))
   ·exact h
  ·exact h
theorem Gv:∀ (l:List ND) (acc:ND),(∀ x∈l,x.ok)→acc.ok→(l.foldl BU acc).ok
 | [],acc,_,h=>h
 | x::l,acc,hx,h=>Gv l _ (fun y hy=>hx y (by simp [hy])) (PK h (hx x (by simp)))
theorem Yp (K:ByteArray→Kn) (op n:Int) (s:ByteArray) (args:List (Pl × ND × ND)) (alts:List (Hd × ND)) (h1:∀ a∈args,a.2.1.ok∧a.2.2.ok) (h2:∀ a∈alts,a.2.ok):(comb K op n s args alts).ok:=by
 have hm:∀ (l:List (Pl × ND × ND)),(∀ a∈l,a.2.1.ok∧a.2.2.ok)→∀ x∈l.map (·.2.1),ND.ok x:=by
  intro l hl x hx
  obtain⟨a,ha,rfl⟩:=List.mem_map.1 hx
  exact(hl a ha).1
 have hnil:ND.ok (some []):=KN
 have hget:∀ (o:Option (Pl × ND × ND)),(∀ a,o=some a→a.2.1.ok)→ND.ok ((o.map (·.2.1)).getD (some [])):=by
  intro o ho
  cases o with
  | none=>exact hnil
  | some a=>exact ho a rfl
 unfold comb
 split
 ·exact List.pairwise_singleton ..
 split
 ·split <;> first | trivial | exact hnil
 split
 ·cases args with
  | nil=>exact hnil
  | cons a l =>
   obtain⟨f,fN,fB⟩:=a
   have ha:=h1 (f,fN,fB) (by simp)
   have hl:∀ a∈l,a.2.1.ok∧a.2.2.ok:=fun a h=>h1 a (by simp [h])
   simp only
   split
   ·exact LC _ _ _ _ _ (hm l hl) (IY ha.2 _)
   split
   ·exact ha.1
   split
   ·exact ha.1
   split
   ·exact hnil
   split
   ·trivial
   ·exact LB _ _ _ (hm l hl) hnil
 split
 ·exact Yn _ _
 split
 ·refine Ex (hget _ fun a e=>(h1 a (List.mem_of_head? e)).1) (Gv _ _ ?_ trivial)
  intro x hx
  obtain⟨a,ha,rfl⟩:=List.mem_map.1 hx
  exact IY (h2 a ha) _
 split
 ·split
  ·trivial
  split
  ·exact Ex (hget _ fun a e=>(h1 a (List.mem_of_head? e)).1) (hget _ fun a e=>(h1 a (List.mem_of_getElem? e)).1)
  ·exact hnil
 ·exact hnil
theorem PL (K:ByteArray→Kn) (t:Pl):(AM K t).ok∧(Bm K t).ok:=by
 induction t using Pl.ind with
 | h t ih1 ih2 =>
  refine⟨?_,?_⟩
  ·rw [Cv]
   refine Yp _ _ _ _ _ _ ?_ ?_
   ·intro a ha
    obtain⟨x,hx,rfl⟩:=List.mem_map.1 ha
    exact ih1 x hx
   ·intro a ha
    obtain⟨x,hx,rfl⟩:=List.mem_map.1 ha
    exact(ih2 x hx).1
  ·rw [Ey]
   cases h:t.args with
   | nil=>exact KN
   | cons x l=>exact(ih1 x (by rw [h];simp)).1
theorem DX (K:ByteArray→Kn) (t:Pl):(AM K t).ok:=(PL K t).1
end Go.AL.Dm
set_option maxRecDepth 100000
namespace Go.AL.Dm
open Go.Proofs
/- damask/demand.analyze -/
def ABF:Rg:=[oT 2 (.mv (.c .C2)),oT 3 (.mv (ci 0))]
def ABG:Rg:=[oL 10 (.Cj),oL 11 (.build [.Ad] [(0,1,(.l 10))]),oL 12 (.box (.l 11)),oT 4 (.mv (.l 12))]
def ABH:Rg:=[oT 13 (.mv (.g 0)),oT 14 (.len (.g 13)),oT 15 (.mv (ci 0))]
def SK:Rg:=[oT 16 (.bin .lss (.g 15) (.g 14))]
def Vq:Rg:=[oL 17 (.ia 6 (.g 13) (.g 15)),oL 18 (.load 6 true (.l 17)),oT 6 (.alloc [s0,i0,i0,s0,nzl,nzl]),oN (.store 6 (.g 6) (.l 18))]
def Vr:Rg:=[oL 19 (.build [i0,bF,bF,bF,bF,bF,bF,bF,bF,bF] [(9,1,cT)]),oT 7 (.alloc [i0,bF,bF,bF,bF,bF,bF,bF,bF,bF]),oN (.store 10 (.g 7) (.l 19))]
def Vs:Rg:=[oL 20 (.fa 1 (.g 6)),oL 21 (.fa 0 (.l 20)),oL 22 (.ld (.l 21)),oT 23 (.bin .eql (.l 22) (ci 5))]
def ABI:Rg:=[oL 24 (.fa 1 (.g 6)),oL 25 (.fa 1 (.l 24)),oL 26 (.ld (.l 25)),oL 27 (.fa 0 (.g 7)),oN (.store 1 (.l 27) (.l 26))]
def Vt:Rg:=[oL 28 (.fa 0 (.g 7)),oT 29 (.ld (.l 28)),oT 30 (.mv (ci 0))]
def Vu:Rg:=[oT 31 (.bin .lss (.g 30) (.g 29))]
def Vv:Rg:=[oL 32 (.mv (.g 30)),oT 8 (.mv (.l 32))]
def Vw:Rg:=[oL 33 (.mv (.g 8)),oL 34 (.fa 1 (.g 7)),oL 35 (.D2 1 8 (.l 34) (.l 33)),oN (.store 1 (.l 35) cT)]
def Vx:Rg:=[oL 36 (.bin .add (.g 30) (ci 1)),oT 30 (.mv (.l 36))]
def NU:Ae:=(.seq (rq Vu) (.seq (.cond (.g 31) .skip (.exit 2)) (.seq (.block 3 (.seq (rq Vv) (rq Vw))) (rq Vx))))
def Q4:Rg:=[oL 37 (.mv (.g 4)),oL 38 (.nilCheck (.l 37)),oL 39 (.fa 0 (.l 38)),oL 40 (.ld (.l 39)),oL 41 (.fa 0 (.g 6)),oL 42 (.ld (.l 41)),oL 43 (.load 10 true (.g 7)),oN (.mapUpdate true (.l 40) (.l 42) (.l 43))]
def Q5:Rg:=[oL 44 (.bin .add (.g 15) (ci 1)),oT 15 (.mv (.l 44))]
def NV:Ae:=(.seq (rq SK) (.seq (.cond (.g 16) .skip (.exit 0)) (.seq (.block 1 (.seq (rq Vq) (.seq (rq Vr) (.seq (.seq (rq Vs) (.cond (.g 23) (rq ABI) .skip)) (.seq (.seq (rq Vt) (.block 2 (.loop NU))) (.reg true Q4)))))) (rq Q5))))
def Vy:Rg:=[oT 9 (.mv (ci 1))]
def Vz:Rg:=[oL 45 (.mv (.g 4)),oL 46 (.mv (.g 0)),oT 47 (.cf 80 [(.l 45),(.l 46)])]
def V0:Rg:=[oL 48 (.mv (.g 9)),oL 49 (.bin .add (.l 48) (ci 1)),oT 9 (.mv (.l 49))]
def V1:Ae:=(.seq (.seq (rq Vz) (.cond (.g 47) .skip (.exit 4))) (.block 5 (rq V0)))
def V2:Rg:=[oL 50 (.mv (.g 4)),oL 51 (.mv (.g 9)),oT 2 (.mv (.l 50)),oT 3 (.mv (.l 51))]
def AHp:Ae:=(.seq (rq ABF) (.seq (rq ABG) (.seq (.seq (rq ABH) (.block 0 (.loop NV))) (.seq (rq Vy) (.seq (.block 4 (.loop V1)) (.seq (rq V2) .ret))))))
def a40:F7:=⟨1,52,AHp,[.tmp (true,2),.tmp (true,3)]⟩
theorem c40:A7 Tryz.prog [0,2,3,4,6,7,8,9,13,14,15,16,23,29,30,31,47] Tryz.f40=some a40:=by kernel_rfl
/- (*damask/demand.analysis).one -/
def Q6:Rg:=[oT 3 (.box (.g 1)),oT 4 (.alloc [i0,bF,bF,bF,bF,bF,bF,bF,bF,bF])]
def Q7:Rg:=[oT 5 (.alloc [i0,bF,bF,bF,bF,bF,bF,bF,bF,bF])]
def Q8:Rg:=[oL 9 (.load 5 true (.g 3)),oT 6 (.alloc [i0,i0,s0,nzl,nzl]),oN (.store 5 (.g 6) (.l 9))]
def Q9:Rg:=[oL 10 (.fa 0 (.g 3)),oL 11 (.ld (.l 10)),oT 12 (.bin .eql (.l 11) (ci 5))]
def V3:Rg:=[oL 13 (.fa 1 (.g 3)),oL 14 (.ld (.l 13)),oL 15 (.fa 0 (.g 5)),oN (.store 1 (.l 15) (.l 14))]
def V4:Rg:=[oL 16 (.fa 3 (.g 3)),oL 17 (.ld (.l 16)),oL 18 (.ia 5 (.l 17) (ci 0)),oL 19 (.load 5 true (.l 18)),oN (.store 5 (.g 6) (.l 19))]
def RA:Rg:=[oL 20 (.mv (.g 0)),oL 21 (.load 5 true (.g 6)),oL 22 (.cf 49 [(.l 20),(.l 21)]),oT 7 (.alloc [bF,.Ad]),oN (.store 2 (.g 7) (.l 22))]
def RB:Rg:=[oL 23 (.fa 0 (.g 7)),oL 24 (.ld (.l 23)),oL 25 (.fa 9 (.g 5)),oN (.store 1 (.l 25) (.l 24))]
def RC:Rg:=[oL 26 (.fa 0 (.g 5)),oT 27 (.ld (.l 26)),oT 28 (.mv (ci 0))]
def NW:Rg:=[oT 29 (.bin .lss (.g 28) (.g 27))]
def NX:Rg:=[oL 30 (.mv (.g 28)),oT 8 (.mv (.l 30))]
def NY:Rg:=[oL 31 (.mv (.g 8)),oL 32 (.fa 0 (.g 7)),oL 33 (.ld (.l 32)),oL 34 (.mv (.l 33)),oLf 35 (.fa 1 (.g 7)) 34,oLf 36 (.ld (.l 35)) 34,oLf 37 (.fa 0 (.g 5)) 34,oLf 38 (.ld (.l 37)) 34,oLf 39 (.bin .sub (.l 38) (ci 1)) 34,oLf 40 (.mv (.g 8)) 34,oLf 41 (.bin .sub (.l 39) (.l 40)) 34,oLf 42 (.lookup false false [bF] false (.l 36) (.l 41)) 34,oL 43 (.pick (.l 34) cT (.l 42)),oL 44 (.fa 1 (.g 5)),oL 45 (.D2 1 8 (.l 44) (.l 31)),oN (.store 1 (.l 45) (.l 43))]
def NZ:Rg:=[oL 46 (.bin .add (.g 28) (ci 1)),oT 28 (.mv (.l 46))]
def IZ:Ae:=(.seq (rq NW) (.seq (.cond (.g 29) .skip (.exit 0)) (.seq (.block 1 (.seq (rq NX) (rq NY))) (rq NZ))))
def Na:Rg:=[oL 47 (.load 10 true (.g 5)),oN (.store 10 (.g 4) (.l 47))]
def V5:Ae:=(.seq (rq Q6) (.seq (rq Q7) (.seq (rq Q8) (.seq (.seq (rq Q9) (.cond (.g 12) (.seq (rq V3) (rq V4)) .skip)) (.seq (rq RA) (.seq (rq RB) (.seq (.seq (rq RC) (.block 0 (.loop IZ))) (.seq (rq Na) .ret))))))))
def ACz:F7:=⟨2,48,V5,[.cell (true,4) 10 true]⟩
theorem AJZ:A7 Tryz.prog [0,1,3,4,5,6,7,8,12,27,28,29] Tryz.f114=some ACz:=by kernel_rfl
/- (*damask/demand.analysis).app -/
def V6:Rg:=[oT 3 (.box (.g 1)),oT 4 (.alloc [bF,.Ad])]
def V7:Rg:=[oL 15 (.fa 3 (.g 3)),oL 16 (.ld (.l 15)),oL 17 (.ia 5 (.l 16) (ci 0)),oL 18 (.load 5 true (.l 17)),oL 19 (.fa 3 (.g 3)),oL 20 (.ld (.l 19)),oL 21 (.slice 5 (.l 20) (some (ci 1)) none none),oT 5 (.alloc [i0,i0,s0,nzl,nzl]),⟨none,.store 5 (.g 5) (.l 18),none,[5]⟩,oT 6 (.mv (.l 21))]
def JQ:Rg:=[oL 23 (.fa 0 (.g 5)),oL 24 (.ld (.l 23)),oL 25 (.bin .eql (.l 24) (ci 2)),oL 26 (.mv (.l 25)),oLt 27 (.mv (.g 0)) 26,oLt 28 (.nilCheck (.l 27)) 26,oLt 29 (.fa 0 (.l 28)) 26,oLt 30 (.ld (.l 29)) 26,oLt 31 (.fa 2 (.g 5)) 26,oLt 32 (.ld (.l 31)) 26,oLt 33 (.lookup true false [i0,bF,bF,bF,bF,bF,bF,bF,bF,bF] true (.l 30) (.l 32)) 26,oLt 34 (.field 0 1 false (.l 33)) 26,oLt 35 (.bin .gtr (.l 34) (ci 0)) 26,oL 36 (.pick (.l 26) (.l 35) cF),oT 22 (.mv (.l 36))]
def V8:Rg:=[oL 37 (.mv (.g 0)),oL 38 (.nilCheck (.l 37)),oL 39 (.fa 0 (.l 38)),oL 40 (.ld (.l 39)),oL 41 (.fa 2 (.g 5)),oL 42 (.ld (.l 41)),oL 43 (.lookup true false [i0,bF,bF,bF,bF,bF,bF,bF,bF,bF] true (.l 40) (.l 42)),oT 7 (.alloc [i0,bF,bF,bF,bF,bF,bF,bF,bF,bF]),oN (.store 10 (.g 7) (.l 43))]
def RD:Rg:=[oL 44 (.cf 87 []),oT 8 (.alloc [bF,.Ad]),oN (.store 2 (.g 8) (.l 44))]
def RE:Rg:=[oL 45 (.mv (.g 6)),oL 46 (.len (.l 45)),oL 47 (.fa 0 (.g 7)),oL 48 (.ld (.l 47)),oT 49 (.bin .lss (.l 46) (.l 48))]
def RF:Rg:=[oL 50 (.load 2 true (.g 8)),oN (.store 2 (.g 4) (.l 50))]
def Nb:Rg:=[oL 51 (.fa 9 (.g 7)),oT 52 (.ld (.l 51))]
def RG:Rg:=[oL 53 (.cf 164 []),oN (.store 2 (.g 4) (.l 53))]
def RH:Rg:=[oL 54 (.mv (.g 6)),oL 55 (.fa 0 (.g 7)),oL 56 (.ld (.l 55)),oT 57 (.slice 5 (.l 54) none (some (.l 56)) none),oT 58 (.len (.g 57)),oT 59 (.mv (ci 0))]
def Nc:Rg:=[oT 60 (.bin .lss (.g 59) (.g 58))]
def SM:Rg:=[oL 61 (.mv (.g 59)),oL 62 (.ia 5 (.g 57) (.g 59)),oL 63 (.load 5 true (.l 62)),oT 10 (.alloc [i0,i0,s0,nzl,nzl]),oT 9 (.mv (.l 61)),oN (.store 5 (.g 10) (.l 63))]
def SN:Rg:=[oL 64 (.mv (.g 9)),oL 65 (.fa 1 (.g 7)),oL 66 (.D2 1 8 (.l 65) (.l 64)),oT 67 (.ld (.l 66))]
def SO:Rg:=[oL 68 (.load 2 true (.g 8)),oL 69 (.mv (.g 0)),oL 70 (.load 5 true (.g 10)),oL 71 (.ct 49 [(.l 69),(.l 70)]),oL 72 (.ct 165 [(.l 68),(.l 71)]),oN (.store 2 (.g 8) (.l 72))]
def Nf:Rg:=[oL 73 (.bin .add (.g 59) (ci 1)),oT 59 (.mv (.l 73))]
def KP:Ae:=(.seq (rq Nc) (.seq (.cond (.g 60) .skip (.exit 1)) (.seq (.block 2 (.seq (rq SM) (.seq (rq SN) (.cond (.g 67) (.reg true SO) .skip)))) (rq Nf))))
def Ng:Rg:=[oL 74 (.load 2 true (.g 8)),oN (.store 2 (.g 4) (.l 74))]
def Ia:Rg:=[oL 76 (.fa 0 (.g 5)),oL 77 (.ld (.l 76)),oL 78 (.bin .eql (.l 77) (ci 5)),oL 79 (.mv (.l 78)),oLt 80 (.mv (.g 6)) 79,oLt 81 (.len (.l 80)) 79,oLt 82 (.fa 1 (.g 5)) 79,oLt 83 (.ld (.l 82)) 79,oLt 84 (.bin .geq (.l 81) (.l 83)) 79,oL 85 (.pick (.l 79) (.l 84) cF),oT 75 (.mv (.l 85))]
def Nh:Rg:=[oL 86 (.mv (.g 0)),oL 87 (.fa 3 (.g 5)),oL 88 (.ld (.l 87)),oL 89 (.ia 5 (.l 88) (ci 0)),oL 90 (.load 5 true (.l 89)),oL 91 (.cf 49 [(.l 86),(.l 90)]),oT 11 (.alloc [bF,.Ad]),oN (.store 2 (.g 11) (.l 91))]
def Ni:Rg:=[oL 92 (.load 2 true (.g 11)),oL 93 (.fa 1 (.g 5)),oL 94 (.ld (.l 93)),oL 95 (.cf 166 [(.l 92),(.l 94)]),oT 12 (.alloc [bF,.Ad]),oN (.store 2 (.g 12) (.l 95))]
def Nj:Rg:=[oL 96 (.mv (.g 6)),oL 97 (.fa 1 (.g 5)),oL 98 (.ld (.l 97)),oT 99 (.slice 5 (.l 96) none (some (.l 98)) none),oT 100 (.len (.g 99)),oT 101 (.mv (ci 0))]
def Nk:Rg:=[oT 102 (.bin .lss (.g 101) (.g 100))]
def SP:Rg:=[oL 103 (.mv (.g 101)),oL 104 (.ia 5 (.g 99) (.g 101)),oL 105 (.load 5 true (.l 104)),oT 14 (.alloc [i0,i0,s0,nzl,nzl]),oT 13 (.mv (.l 103)),oN (.store 5 (.g 14) (.l 105))]
def SQ:Rg:=[oL 106 (.fa 1 (.g 11)),oL 107 (.ld (.l 106)),oL 108 (.fa 1 (.g 5)),oL 109 (.ld (.l 108)),oL 110 (.bin .sub (.l 109) (ci 1)),oL 111 (.mv (.g 13)),oL 112 (.bin .sub (.l 110) (.l 111)),oT 113 (.lookup false false [bF] false (.l 107) (.l 112))]
def SR:Rg:=[oL 114 (.load 2 true (.g 12)),oL 115 (.mv (.g 0)),oL 116 (.load 5 true (.g 14)),oL 117 (.ct 49 [(.l 115),(.l 116)]),oL 118 (.ct 165 [(.l 114),(.l 117)]),oN (.store 2 (.g 12) (.l 118))]
def Nl:Rg:=[oL 119 (.bin .add (.g 101) (ci 1)),oT 101 (.mv (.l 119))]
def KQ:Ae:=(.seq (rq Nk) (.seq (.cond (.g 102) .skip (.exit 3)) (.seq (.block 4 (.seq (rq SP) (.seq (rq SQ) (.cond (.g 113) (.reg true SR) .skip)))) (rq Nl))))
def Nn:Rg:=[oL 120 (.load 2 true (.g 12)),oN (.store 2 (.g 4) (.l 120))]
def Ib:Rg:=[oL 121 (.mv (.g 0)),oL 122 (.load 5 true (.g 5)),oL 123 (.cf 49 [(.l 121),(.l 122)]),oN (.store 2 (.g 4) (.l 123))]
def ABJ:Ae:=(.seq (rq V6) (.seq (.reg true V7) (.seq (.block 0 (.seq (.reg true JQ) (.cond (.g 22) (.seq (.reg true V8) (.seq (rq RD) (.seq (.seq (rq RE) (.cond (.g 49) (.seq (rq RF) .ret) .skip)) (.seq (.seq (rq Nb) (.cond (.g 52) (.seq (rq RG) .ret) .skip)) (.seq (.seq (rq RH) (.block 1 (.loop KP))) (.seq (rq Ng) .ret)))))) (.seq (rq Ia) (.cond (.g 75) (.seq (rq Nh) (.seq (rq Ni) (.seq (.seq (rq Nj) (.block 3 (.loop KQ))) (.seq (rq Nn) .ret)))) .skip))))) (.seq (rq Ib) .ret))))
def a124:F7:=⟨2,124,ABJ,[.cell (true,4) 2 true]⟩
theorem AJa:A7 Tryz.prog [0,1,3,4,5,6,7,8,9,10,11,12,13,14,22,49,52,57,58,59,60,67,75,99,100,101,102,113] Tryz.f124=some a124:=by kernel_rfl
/- (*damask/demand.analysis).let -/
def V9:Rg:=[oT 5 (.box (.g 2)),oT 6 (.alloc [bF,.Ad])]
def WA:Rg:=[oL 13 (.mv (.g 1)),oL 14 (.len (.l 13)),oT 7 (.mv (.l 14))]
def WB:Rg:=[oL 15 (.mv (.g 0)),oL 16 (.load 5 true (.g 5)),oL 17 (.cf 49 [(.l 15),(.l 16)]),oT 8 (.alloc [bF,.Ad]),oN (.store 2 (.g 8) (.l 17))]
def WC:Rg:=[oL 18 (.mv (.g 7)),oL 19 (.C5 1 1 [bF] false (.l 18) (.l 18)),oT 9 (.mv (.l 19))]
def RJ:Rg:=[oL 20 (.fa 0 (.g 8)),oL 21 (.ld (.l 20)),oT 22 (.un .not (.l 21))]
def WD:Rg:=[oT 23 (.mv (.g 1)),oT 24 (.len (.g 23)),oT 25 (.mv (ci 0))]
def RK:Rg:=[oT 26 (.bin .lss (.g 25) (.g 24))]
def WE:Rg:=[oL 27 (.mv (.g 25)),oL 28 (.ia 5 (.g 23) (.g 25)),oL 29 (.load 5 true (.l 28)),oT 11 (.alloc [i0,i0,s0,nzl,nzl]),oT 10 (.mv (.l 27)),oN (.store 5 (.g 11) (.l 29))]
def WG:Rg:=[oL 30 (.mv (.g 7)),oL 31 (.bin .sub (.l 30) (ci 1)),oL 32 (.mv (.g 10)),oL 33 (.bin .sub (.l 31) (.l 32)),oT 12 (.mv (.l 33))]
def WH:Rg:=[oL 34 (.fa 1 (.g 8)),oL 35 (.ld (.l 34)),oL 36 (.mv (.g 12)),oL 37 (.lookup false false [bF] false (.l 35) (.l 36)),oL 38 (.mv (.l 37)),oLt 39 (.mv (.g 9)) 38,oLt 40 (.mv (.g 10)) 38,oLt 41 (.ia 1 (.l 39) (.l 40)) 38,oLt 42 (.ld (.l 41)) 38,oLt 43 (.un .not (.l 42)) 38,oT 44 (.pick (.l 38) (.l 43) cF)]
def SS:Rg:=[oL 45 (.mv (.g 9)),oL 46 (.mv (.g 10)),oL 47 (.ia 1 (.l 45) (.l 46)),oN (.store 1 (.l 47) cT)]
def SU:Rg:=[oL 48 (.load 2 true (.g 8)),oL 49 (.mv (.g 0)),oL 50 (.load 5 true (.g 11)),oL 51 (.ct 49 [(.l 49),(.l 50)]),oL 52 (.ct 165 [(.l 48),(.l 51)]),oN (.store 2 (.g 8) (.l 52))]
def No:Rg:=[oL 53 (.bin .add (.g 25) (ci 1)),oT 25 (.mv (.l 53))]
def Np:Ae:=(.seq (rq RK) (.seq (.cond (.g 26) .skip (.exit 2)) (.seq (.block 3 (.seq (rq WE) (.seq (rq WG) (.seq (rq WH) (.cond (.g 44) (.seq (rq SS) (.seq (.reg true SU) (.exit 1))) .skip))))) (rq No))))
def Nq:Ae:=(.seq (.seq (rq RJ) (.cond (.g 22) .skip (.exit 0))) (.block 1 (.seq (.seq (rq WD) (.block 2 (.loop Np))) (.exit 0))))
def Nr:Rg:=[oL 54 (.load 2 true (.g 8)),oL 55 (.mv (.g 7)),oL 56 (.cf 166 [(.l 54),(.l 55)]),oN (.store 2 (.g 6) (.l 56))]
def ABK:Ae:=(.seq (rq V9) (.seq (rq WA) (.seq (rq WB) (.seq (rq WC) (.seq .skip (.seq (.block 0 (.loop Nq)) (.seq (rq Nr) .ret)))))))
def AHq:F7:=⟨3,57,ABK,[.cell (true,6) 2 true]⟩
theorem AJb:A7 Tryz.prog [0,1,2,5,6,7,8,9,10,11,12,22,23,24,25,26,44] Tryz.f126=some AHq:=by kernel_rfl
/- damask/term.IsAction -/
def RL:Rg:=[oT 2 (.mv cF)]
def RM:Rg:=[oL 6 (.ld (.c EM)),oL 7 (.mv (.g 0)),oL 8 (.lookup true true [i0] false (.l 6) (.l 7)),oL 5 (.mv (.l 8)),oL 9 (.extract (.l 5) 0),oL 10 (.extract (.l 5) 1),oL 3 (.mv (.l 9)),oT 4 (.mv (.l 10))]
def RN:Rg:=[oL 11 (.mv (.g 4)),oL 12 (.mv (.l 11)),oLt 13 (.ld (.c Ns)) 12,oLt 14 (.mv (.g 0)) 12,oLt 15 (.lookup true false [bF] false (.l 13) (.l 14)) 12,oLt 16 (.un .not (.l 15)) 12,oL 17 (.pick (.l 12) (.l 16) cF),oT 2 (.mv (.l 17))]
def WI:Ae:=(.seq (rq RL) (.seq (rq RM) (.seq (rq RN) .ret)))
def a168:F7:=⟨1,18,WI,[.tmp (true,2)]⟩
theorem AJc:A7 Tryz.prog [0,2,4] Tryz.f168=some a168:=by kernel_rfl
/- damask/demand.Strict -/
def WJ:Rg:=[oT 4 (.box (.g 1)),oT 6 (.mv cF),oT 7 (.mv (ci 0))]
def WK:Rg:=[oL 10 (.mv (.g 0)),oL 11 (.cf 36 [(.l 10)]),oT 12 (.un .not (.l 11))]
def ABL:Rg:=[oT 6 (.mv cF),oT 7 (.mv (ci 40))]
def ABM:Rg:=[oL 13 (.mv (.g 0)),oL 14 (.QU 42 [] [(.g 4)]),oL 15 (.cf 41 [(.l 13),(.l 14)]),oT 8 (.mv (.l 15))]
def WL:Rg:=[oL 16 (.mv (.g 8)),oT 17 (.bin .lss (.l 16) (ci 0))]
def ABN:Rg:=[oT 6 (.mv cF),oT 7 (.mv (ci 6))]
def ABO:Rg:=[oL 18 (.mv (.g 0)),oL 19 (.cf 37 [(.l 18)]),oL 20 (.mv (.g 8)),oL 21 (.ia 3 (.l 19) (.l 20)),oL 22 (.load 3 true (.l 21)),oT 9 (.alloc [s0,nzl,bF]),oN (.store 3 (.g 9) (.l 22))]
def SV:Rg:=[oL 23 (.mv (.g 2)),oL 24 (.bin .lss (.l 23) (ci 0)),oL 25 (.mv (.l 24)),oLf 26 (.mv (.g 2)) 25,oLf 27 (.fa 1 (.g 9)) 25,oLf 28 (.ld (.l 27)) 25,oLf 29 (.len (.l 28)) 25,oLf 30 (.bin .geq (.l 26) (.l 29)) 25,oT 31 (.pick (.l 25) cT (.l 30))]
def WM:Rg:=[oT 6 (.mv cF),oT 7 (.mv (ci 2))]
def ABP:Rg:=[oL 32 (.fa 1 (.g 9)),oL 33 (.ld (.l 32)),oL 34 (.mv (.g 2)),oL 35 (.ia 1 (.l 33) (.l 34)),oL 36 (.ld (.l 35)),oT 6 (.mv (.l 36)),oT 7 (.mv (ci 0))]
def AC0:Ae:=(.seq (rq WJ) (.seq (.seq (rq WK) (.cond (.g 12) (.seq (rq ABL) .ret) .skip)) (.seq (rq ABM) (.seq (.seq (rq WL) (.cond (.g 17) (.seq (rq ABN) .ret) .skip)) (.seq (rq ABO) (.seq (.seq (rq SV) (.cond (.g 31) (.seq (rq WM) .ret) .skip)) (.seq (rq ABP) .ret)))))))
def a20:F7:=⟨3,37,AC0,[.tmp (true,6),.tmp (true,7)]⟩
theorem c20:A7 Tryz.prog [0,1,2,4,6,7,8,9,12,17,31] Tryz.f20=some a20:=by kernel_rfl
def k80:CF [0,1,4,5,6,8,9,10,12,13,14,15] Tryz.f80:=by refine⟨?_,?_⟩;rotate_left;cbv;rfl
def k49:CF [0,1,3,4,6,7] Tryz.f49:=by refine⟨?_,?_⟩;rotate_left;cbv;rfl
def k88:CF [0,1,2,3,1000000000001] Tryz.f88:=by refine⟨?_,?_⟩;rotate_left;cbv;rfl
def k122:CF [0,1,2] Tryz.f122:=by refine⟨?_,?_⟩;rotate_left;cbv;rfl
def k123:CF [0,1,3,4,5,19] Tryz.f123:=by refine⟨?_,?_⟩;rotate_left;cbv;rfl
def k125:CF [0,1,2,3,4] Tryz.f125:=by refine⟨?_,?_⟩;rotate_left;cbv;rfl
def k127:CF [0,1,3,4,5,6,8,16,20,21,22,23] Tryz.f127:=by refine⟨?_,?_⟩;rotate_left;cbv;rfl
def k128:CF [0,1,3,4,5,10] Tryz.f128:=by refine⟨?_,?_⟩;rotate_left;cbv;rfl
def k87:CF [0] Tryz.f87:=by refine⟨?_,?_⟩;rotate_left;cbv;rfl
def k164:CF [0] Tryz.f164:=by refine⟨?_,?_⟩;rotate_left;cbv;rfl
def k165:CF [0,1,2,3,4,5,7,8,14,21,22,23,24,28,30] Tryz.f165:=by refine⟨?_,?_⟩;rotate_left;cbv;rfl
def k166:CF [0,1,2,4,5,6,8,13,15,20] Tryz.f166:=by refine⟨?_,?_⟩;rotate_left;cbv;rfl
def k167:CF [0,1,2,3,4,5,6,7,11,18,20,26] Tryz.f167:=by refine⟨?_,?_⟩;rotate_left;cbv;rfl
def k37:CF [0,2,3,5,7,8,14,15,16,17,7000000000008,6000003] Tryz.f37:=by refine⟨?_,?_⟩;rotate_left;cbv;rfl
def k76:CF [0,2,4] Tryz.f76:=by refine⟨?_,?_⟩;rotate_left;cbv;rfl
def k11:CF [0,2,3,6] Tryz.f11:=by refine⟨?_,?_⟩;rotate_left;cbv;rfl
def k41:CF [0,1,4,5,7,8,9,16] Tryz.f41:=by refine⟨?_,?_⟩;rotate_left;cbv;rfl
def k42:CF [0,1,2,3] Tryz.f42:=by refine⟨?_,?_⟩;rotate_left;cbv;rfl
def k10:CF [0,1,2,3,4,6,8,81] Tryz.f10:=by refine⟨?_,?_⟩;rotate_left;cbv;rfl
def k35:CF [0,1,2,3] Tryz.f35:=by refine⟨?_,?_⟩;rotate_left;cbv;rfl
end Go.AL.Dm
