/- The free variables: the reference. -/
import Derived.Test.YtlledcnjfgcipaaGreatDoorJ2
import Derived.Test.YtlledcnjfgcipaaGreatDoorJ26
import Derived.Test.YtlledcnjfgcipaaGreatDoorJ34
import Derived.Test.YtlledcnjfgcipaaGreatDoorJ17
set_option linter.unusedVariables false
set_option linter.unusedSimpArgs false
set_option maxHeartbeats 1000000
namespace Go.AL.Dm
open Go Go.Proofs
def AK6 (l:List Int) (o:Nat) (s:St) (r:AV) (s':St):Prop :=
 ∃ o',r=.Ag 1 o' 0 l.length∧(o'=o∨s.nx≤o')∧o' < s'.nx∧s'.m o'=some (.box (Af l))∧Ao s o s'
def AK7 (t:Pl):Prop:=∀ (u:Int) (l:List Int) (o:Nat) (s:St),wf t=true→small t→rng t→0≤u→u+13 * dw t≤100000→(l.length:Int)+sz t≤100000→s.m o=some (.box (Af l))→o < s.nx→AB Tryz.prog 102 [t.av,.int .i64 u,.Ag 1 o 0 l.length] s (AK6 (l++fv t u) o s)
def AJC (t:Pl) (u:Int) (fin:List Int) (o:Nat) (s:St) (m:Nat) (g:Env) (s1:St):Prop :=
 ∃ (i:Nat) (l:List Int) (o':Nat),i≤t.args.length∧m=t.args.length - i∧l++(fvs (t.args.drop i) (u+inn t)++fva t.alts u)=fin∧(l.length:Int)+szs (t.args.drop i)+sza t.alts≤100000 ∧
  g.get 1=.int .i64 u∧g.get 2=.Ag 1 o' 0 l.length∧g.get 3=.ptr s.nx 0∧g.get 7=.int .i64 i∧s1.m s.nx=some (.box t.av.cells)∧s1.m o'=some (.box (Af l))∧(o'=o∨s.nx < o')∧o' < s1.nx∧Ao s o s1∧s.nx < s1.nx
def AJD (t:Pl) (u:Int) (fin:List Int) (o:Nat) (s:St) (m:Nat) (g:Env) (s1:St):Prop :=
 ∃ (i:Nat) (l:List Int) (o':Nat),i≤t.alts.length∧m=t.alts.length - i∧l++fva (t.alts.drop i) u=fin∧(l.length:Int)+sza (t.alts.drop i)≤100000 ∧
  g.get 1=.int .i64 u∧g.get 2=.Ag 1 o' 0 l.length∧g.get 3=.ptr s.nx 0∧g.get 8=.int .i64 i∧s1.m s.nx=some (.box t.av.cells)∧s1.m o'=some (.box (Af l))∧(o'=o∨s.nx < o')∧o' < s1.nx∧Ao s o s1∧s.nx < s1.nx
theorem AK8 (t:Pl):AK7 t:=by
 induction t using Pl.ind with
 | h t ih1 ih2 =>
 intro u l o s hw hsm hr hu hu2 hlen ho hon
 refine AD mixed Tryz.func102 Tryz.call102 AAT.2 rfl (AE _ _ _ _ ?_)
 obtain⟨hnd,hwa,hwb⟩:=A5 hw
 have hr':=(Cc t).1 hr
 have hsz:=Ew t
 have hsp:=By t.args fun x _=>Al x
 have hsp2:=Bg t.alts fun x _=>Al x.2
 have hdw:=BA t
 have hal:t.alts.length≤40:=by
  by_cases o8:t.op=8
  ·exact(hnd.cas o8).2.2
  ·rw [hnd.GJ o8];simp
 have hlena:=hnd.len
 have hinn:=hnd.inn
 by_cases o1:t.op=1
 ·have hn:=(hnd.var o1).1
  have h64:=hr'.2.1
  unfold i64 at h64
  have w1:IntKind.i64.wrap (t.n - u)=t.n - u:=wrap64 (by omega) (by omega)
  rw [IW,if_pos o1]
  by_cases hle:u≤t.n
  ·rw [if_pos hle]
   have hnlt:¬ t.n < u:=by omega
   simp -implicitDefEqProofs (disch:=first|omega|simp only[nx4]<;>omega|fail) [AAT,o1,hle,hnlt,w1,ho]
   refine⟨s.nx+1,by simp,.inr (by omega),smz,by simp -implicitDefEqProofs (disch:=first|omega|simp only[nx4]<;>omega|fail) [Af],fun q hq hne=>by simp -implicitDefEqProofs (disch:=first|omega|simp only[nx4]<;>omega|fail) [hne]⟩
  ·rw [if_neg hle]
   have hnlt:t.n < u:=by omega
   simp -implicitDefEqProofs (disch:=first|omega|simp only[nx4]<;>omega|fail) [AAT,o1,hle,hnlt,w1,ho]
   refine⟨o,by simp,.inl rfl,by simp -implicitDefEqProofs (disch:=first|omega|simp only[nx4]<;>omega|fail);omega,by simp -implicitDefEqProofs (disch:=first|omega|simp only[nx4]<;>omega|fail) [ho],fun q hq hne=>by simp -implicitDefEqProofs (disch:=first|omega|simp only[nx4]<;>omega|fail)⟩
 ·rw [IW,if_neg o1]
  have h101:=AHo t (by omega)
  simp -implicitDefEqProofs (disch:=first|omega|simp only[nx4]<;>omega|fail) [AAT,o1]
  refine AQ (AJC t u (l++(fvs t.args (u+inn t)++fva t.alts u)) o s) t.args.length ⟨0,l,o,by omega,by omega,by simp,by rw [List.drop_zero];omega,?_,?_,?_,?_,?_,?_,.inl rfl,?_,?_,?_⟩ ?_
  rotate_right
  all_goals (try simp -implicitDefEqProofs (disch:=first|omega|simp only[nx4]<;>omega|fail) [ho])
  rotate_left
  all_goals (try omega)
  have hfn:l++(fvs t.args (u+inn t)++fva t.alts u)=l++(fvs t.args (u+inn t)++fva t.alts u):=rfl
  generalize l++(fvs t.args (u+inn t)++fva t.alts u)=fin at hfn ⊢
  clear hfn
  rintro m g s1 ⟨i,l,o',hi,rfl,hl,hlen1,e1,e2,e3,e7,hM,hO,ho',hon',hk,hn⟩
  rw [Pl.Am]at hM
  by_cases hlt:i < t.args.length
  ·have hlt':(i:Int) < t.args.length:=by omega
   have w3:=wrapS (i:=i) (by omega)
   have w4:IntKind.i64.wrap (u+inn t)=u+inn t:=wrap64 (by omega) (by omega)
   rw [List.drop_eq_getElem_cons hlt]at hl hlen1
   have hspos:=By (t.args.drop (i+1)) fun x _=>Al x
   have hxm:=List.getElem_mem hlt
   have ihx:=ih1 _ hxm (u+inn t) l o'
   have hwx:=hwa _ hxm
   have hsx:=BS hsm hxm
   have hrx:=hr'.2.2.1 _ hxm
   have hdx:=(Du hxm).2
   generalize hx:t.args[i]=x at hl hlen1 ihx hwx hsx hrx hdx
   simp only [fvs,szs,List.append_assoc]at hl hlen1
   have hfl:=N1 x (u+inn t)
   simp -implicitDefEqProofs (disch:=first|omega|simp only[nx4]<;>omega|fail) [e1,e2,e3,e7,hM,hlt',hlt,hx]
   refine AO h101 ?_
   simp -implicitDefEqProofs (disch:=first|omega|simp only[nx4]<;>omega|fail) [w4,e2]
   intro m5 hm5
   refine AH (AB.mono (ihx _ hwx hsx hrx (by omega) (by have:=BA x;omega) (by omega) (by simp -implicitDefEqProofs (disch:=first|omega|simp only[nx4]<;>omega|fail) [hO]) soz) fun r s2 hn2 h=>AW ?_)
   obtain⟨o2,rfl,k1,k2,k3,k4⟩:=h
   simp -implicitDefEqProofs (disch:=first|omega|simp only[nx4]<;>omega|fail)at k1 hn2
   have hM2:s2.m s.nx=some (.box t.av.cells):=by rw [k4 _ soz (by omega),Pl.Am];simp -implicitDefEqProofs (disch:=first|omega|simp only[nx4]<;>omega|fail) [hM]
   simp -implicitDefEqProofs (disch:=first|omega|simp only[nx4]<;>omega|fail) [e7,w3]
   refine AK (t.args.length - (i+1)) (by omega) ⟨i+1,_,o2,by omega,rfl,?_,?_,?_,?_,?_,?_,hM2,k3,by omega,k2,?_,by omega⟩
   ·rw [← hl];simp
   ·simp only [List.length_append];omega
   ·simp -implicitDefEqProofs (disch:=first|omega|simp only[nx4]<;>omega|fail) [e1]
   ·exact smz
   ·simp -implicitDefEqProofs (disch:=first|omega|simp only[nx4]<;>omega|fail) [e3]
   ·exact smz
   ·exact fun q hq hne=>by rw [k4 q soz (by omega)];simp -implicitDefEqProofs (disch:=first|omega|simp only[nx4]<;>omega|fail) [hk q hq hne]
  ·have hlt':¬ (i:Int) < t.args.length:=by omega
   obtain rfl:i=t.args.length:=by omega
   rw [List.drop_length,fvs,List.nil_append]at hl
   rw [List.drop_length,szs]at hlen1
   simp -implicitDefEqProofs (disch:=first|omega|simp only[nx4]<;>omega|fail) [e1,e2,e3,e7,hM,hlt']
   refine AQ (AJD t u fin o s) t.alts.length ⟨0,l,o',by omega,by omega,by simpa using hl,by rw [List.drop_zero];omega,?_,?_,?_,?_,?_,?_,ho',?_,?_,?_⟩ ?_
   iterate 9 (try simp -implicitDefEqProofs (disch:=first|omega|simp only[nx4]<;>omega|fail) [e1,e2,e3,hM,hO,hk,hon',hn])
   clear e1 e2 e3 e7 hM hO ho' hon' hk hn hl hlen1
   rintro m g s1 ⟨i,l,o',hi,rfl,hl,hlen1,e1,e2,e3,e8,hM,hO,ho',hon',hk,hn⟩
   rw [Pl.Am]at hM
   by_cases hlt:i < t.alts.length
   ·have hlt':(i:Int) < t.alts.length:=by omega
    have w3:=wrapS (i:=i) (by omega)
    rw [List.drop_eq_getElem_cons hlt]at hl hlen1
    have hspos:=Bg (t.alts.drop (i+1)) fun x _=>Al x.2
    have hxm:=List.getElem_mem hlt
    have hbn:=hnd.bnd hxm
    have h95:=p95 _ (fun h2=>by have:=hnd.hd _ hxm h2;omega)
    have ihx:=ih2 _ hxm (u+bnd t.alts[i].1) l o'
    have hwx:=hwb _ hxm
    have hsx:=Eg hsm hxm
    have hrx:=(hr'.2.2.2 _ hxm).2.2
    have hdx:=(GK hxm).2
    generalize hx:t.alts[i]=x at hl hlen1 ihx hwx hsx hrx hdx hbn h95
    have w4:IntKind.i64.wrap (u+bnd x.1)=u+bnd x.1:=wrap64 (by omega) (by omega)
    obtain⟨xh,xb⟩:=x
    simp only [fva,sza]at hl hlen1
    simp only at hbn ihx hwx hsx hrx hdx
    have hfl:=N1 xb (u+bnd xh)
    rw [← Pl.MY]at h95
    simp -implicitDefEqProofs (disch:=first|omega|simp only[nx4]<;>omega|fail) [e1,e2,e3,e8,hM,hlt',hlt,hx]
    refine AO h95 ?_
    simp -implicitDefEqProofs (disch:=first|omega|simp only[nx4]<;>omega|fail) [w4,e2]
    intro m5 hm5
    refine AH (AB.mono (ihx _ hwx hsx hrx (by omega) (by have:=BA xb;omega) (by omega) (by simp -implicitDefEqProofs (disch:=first|omega|simp only[nx4]<;>omega|fail) [hO]) soz) fun r s2 hn2 h=>AW ?_)
    obtain⟨o2,rfl,k1,k2,k3,k4⟩:=h
    simp -implicitDefEqProofs (disch:=first|omega|simp only[nx4]<;>omega|fail)at k1 hn2
    have hM2:s2.m s.nx=some (.box t.av.cells):=by rw [k4 _ soz (by omega),Pl.Am];simp -implicitDefEqProofs (disch:=first|omega|simp only[nx4]<;>omega|fail) [hM]
    simp -implicitDefEqProofs (disch:=first|omega|simp only[nx4]<;>omega|fail) [e8,w3]
    refine AK (t.alts.length - (i+1)) (by omega) ⟨i+1,_,o2,by omega,rfl,?_,?_,?_,?_,?_,?_,hM2,k3,by omega,k2,?_,by omega⟩
    ·rw [← hl];simp
    ·simp only [List.length_append];omega
    ·simp -implicitDefEqProofs (disch:=first|omega|simp only[nx4]<;>omega|fail) [e1]
    ·exact smz
    ·simp -implicitDefEqProofs (disch:=first|omega|simp only[nx4]<;>omega|fail) [e3]
    ·exact smz
    ·exact fun q hq hne=>by rw [k4 q soz (by omega)];simp -implicitDefEqProofs (disch:=first|omega|simp only[nx4]<;>omega|fail) [hk q hq hne]
   ·have hlt':¬ (i:Int) < t.alts.length:=by omega
    obtain rfl:i=t.alts.length:=by omega
    rw [List.drop_length,fva,List.append_nil]at hl
    simp -implicitDefEqProofs (disch:=first|omega|simp only[nx4]<;>omega|fail) [e1,e2,e3,e8,hM,hlt']
    subst hl
    exact⟨o',rfl,by omega,hon',hO,hk⟩
end Go.AL.Dm
set_option maxHeartbeats 1000000
namespace Go.AL.Dm
open Go Go.Proofs
def I62 (zs:List Int) (o:Nat) (s:St) (m:Nat) (g:Env) (s1:St):Prop :=
 ∃ (i:Nat) (acc:List Int) (v:AV),i≤zs.length∧m=zs.length - i∧(∀ (j:Nat) x,j < i→zs[j]?=some x→x∈acc)∧acc.length≤i∧g.get 4=.Ag 1 o 0 zs.length∧g.get 5=v∧g.get 6=.int .i64 i∧s1.m o=some (.box (Af zs))∧s.nx≤o∧o < s1.nx ∧
  Gj s1 1 (o+1) v (Af acc)∧Kept s s1
theorem p62 (t:Pl) (hw:wf t=true) (hs:small t) (hr:rng t) (s:St):AB Tryz.prog 62 [t.av] s fun r s'=>(∃ R:List Int,r=.tup [.list 1 .none (Af R),.bool true]∧R.length≤4000∧∀ x∈fv t 0,x∈R)∧Kept s s':=by
 refine AB.res (AD mixed Tryz.func62 Tryz.call62 k62.2 rfl (AE _ _ _ _ ?_))
 have h27:=p27 t hs
 rw [hw]at h27
 have hfl:=N1 t 0
 have hs4:=hs.1
 simp -implicitDefEqProofs (disch:=first|omega|simp only[nx4]<;>omega|fail) [k62]
 refine AA h27 fun mm1 hm1=>?_
 try simp only [nx4]at hm1
 simp -implicitDefEqProofs (disch:=first|omega|simp only[nx4]<;>omega|fail)
 refine AH (AB.Vn (i:=2) 1 rfl (AB.mono (AK8 t 0 [] _ _ hw hs hr (by omega) (by have:=hs.2;omega) (by simp;omega) (by simp -implicitDefEqProofs (disch:=first|omega|simp only[nx4]<;>omega|fail) [Af]) smz) fun r s' hn' h=>AW ?_))
 obtain⟨o',rfl,k1,k2,k3,k4⟩:=h
 simp -implicitDefEqProofs (disch:=first|omega|simp only[nx4]<;>omega|fail)at k1 k4 hn' k3
 have hzl:=Ee (fv t 0)
 have hzm:=fun x=>@MK (fv t 0) x
 simp -implicitDefEqProofs (disch:=first|omega|simp only[nx4]<;>omega|fail)
 refine AH (AB.mono (p98 (fv t 0) o' _ (by omega) k3 k2) fun r s2 hn2 h=>AW ?_)
 obtain⟨rfl,hO2,hk5⟩:=h
 generalize BX (fv t 0)=zs at hzl hzm hO2 ⊢
 have hkp:∀ q,q < s.nx→s2.m q=s.m q:=fun q hq=>by
  have h:=k4 q soz (by omega)
  simp -implicitDefEqProofs (disch:=first|omega|simp only[nx4]<;>omega|fail)at h
  rw [hk5 q (by omega) (by omega)]
  exact h
 rw [← hzl]
 simp -implicitDefEqProofs (disch:=first|omega|simp only[nx4]<;>omega|fail)
 refine AQ (I62 zs o' s) zs.length ⟨0,[],.list 0 .full [],by omega,by omega,by simp,by simp,?_,?_,?_,?_,by omega,?_,.inl ⟨rfl,rfl⟩,?_⟩ ?_
 iterate 4 (try simp -implicitDefEqProofs (disch:=first|omega|simp only[nx4]<;>omega|fail) [hO2])
 ·omega
 ·exact hkp
 rintro m g s1 ⟨i,acc,v,hi,rfl,hacc,hal,g4,g5,g6,hO,ho1,ho2,ht,hk⟩
 have hil:(Af zs).length=zs.length:=by simp
 by_cases hlt:i < zs.length
 ·have hlt':(i:Int) < zs.length:=by omega
  have w3:=wrapS (i:=i) (by omega)
  have hgt:(Af zs)[i]?=some (.int .i64 zs[i]):=Mg (by simp [hlt])
  have hone:∀ (k:Nat) (h:k < zs.length) S (K:KS),GW ((Af zs).drop k) S K=K (.int .i64 zs[k]) S:=fun k h S K=>by rw [List.drop_eq_getElem_cons (by omega)];simp [Af,Me]
  have hi1:=hone i hlt
  have hzi:zs[i]?=some zs[i]:=by simp [hlt]
  by_cases i0:i=0
  ·subst i0
   have hi2:∀ S (K:KS),GW (Af zs) S K=K (.int .i64 zs[0]) S:=fun S K=>by have:=hi1 S K;rwa [List.drop_zero]at this
   simp -implicitDefEqProofs (disch:=first|omega|simp only[nx4]<;>omega|fail) [g4,g5,g6,hlt',hlt,hO,hil,hgt,hi1,hi2]
   intro m hm
   refine IA (s:=s1.bump m) (ht.move soz fun q _ _ _=>rfl) ?_ ?_ soz fun v' s3 ht' hn3 hk3=>?_
   ·simp;omega
   ·simp;omega
   have e9:Af acc++[.int .i64 zs[0]]=Af (acc++[zs[0]]):=by simp [Af]
   rw [e9]at ht'
   simp -implicitDefEqProofs (disch:=first|omega|simp only[nx4]<;>omega|fail)at hn3
   have q1:s3.m o'=some (.box (Af zs)):=(hk3 _ soz (.inl (by omega))).trans (by simp -implicitDefEqProofs (disch:=first|omega|simp only[nx4]<;>omega|fail) [hO])
   simp -implicitDefEqProofs (disch:=first|omega|simp only[nx4]<;>omega|fail) [g6,w3]
   refine AK (zs.length - (0+1)) (by omega) ⟨0+1,acc++[zs[0]],v',by omega,rfl,fun j x hj hx=>?_,by rw [List.length_append,List.length_singleton];omega,?_,?_,?_,q1,ho1,by omega,ht',fun q hq=>(hk3 q soz (.inl (by omega))).trans (by simp -implicitDefEqProofs (disch:=first|omega|simp only[nx4]<;>omega|fail) [hk q hq])⟩
   ·rcases Nat.lt_or_ge j 0 with h | h
    ·exact List.mem_append_left _ (hacc j x h hx)
    ·obtain rfl:j=0:=by omega
     rw [hzi]at hx
     cases hx
     simp
   ·simp -implicitDefEqProofs (disch:=first|omega|simp only[nx4]<;>omega|fail) [g4]
   ·exact smz
   ·simp -implicitDefEqProofs (disch:=first|omega|simp only[nx4]<;>omega|fail)
    try exact w64 _ (by omega) (by omega)
  ·have i1:¬ (i:Int)=0:=by omega
   have w4:IntKind.i64.wrap ((i:Int) - 1)=(i - 1:Nat):=by rw [wrap64 (by omega) (by omega)];omega
   have hi2:=hone (i - 1) (by omega)
   have hi3:((i - 1:Nat):Int) < zs.length:=by omega
   have hi4:i - 1 < zs.length:=by omega
   simp -implicitDefEqProofs (disch:=first|omega|simp only[nx4]<;>omega|fail) [g4,g5,g6,hlt',hlt,hO,hil,hgt,hi1,i1,i0,w4,hi2,hi3,hi4]
   intro m hm
   refine⟨fun hne=>?_,fun heq=>?_⟩
   ·skip
    refine IA (s:=s1.bump m) (ht.move soz fun q _ _ _=>rfl) ?_ ?_ soz fun v' s3 ht' hn3 hk3=>?_
    ·simp;omega
    ·simp;omega
    have e9:Af acc++[.int .i64 zs[i]]=Af (acc++[zs[i]]):=by simp [Af]
    rw [e9]at ht'
    simp -implicitDefEqProofs (disch:=first|omega|simp only[nx4]<;>omega|fail)at hn3
    have q1:s3.m o'=some (.box (Af zs)):=(hk3 _ soz (.inl (by omega))).trans (by simp -implicitDefEqProofs (disch:=first|omega|simp only[nx4]<;>omega|fail) [hO])
    simp -implicitDefEqProofs (disch:=first|omega|simp only[nx4]<;>omega|fail) [g6,w3]
    refine AK (zs.length - (i+1)) (by omega) ⟨i+1,acc++[zs[i]],v',by omega,rfl,fun j x hj hx=>?_,by rw [List.length_append,List.length_singleton];omega,?_,?_,?_,q1,ho1,by omega,ht',fun q hq=>(hk3 q soz (.inl (by omega))).trans (by simp -implicitDefEqProofs (disch:=first|omega|simp only[nx4]<;>omega|fail) [hk q hq])⟩
    ·rcases Nat.lt_or_ge j i with h | h
     ·exact List.mem_append_left _ (hacc j x h hx)
     ·obtain rfl:j=i:=by omega
      rw [hzi]at hx
      cases hx
      simp
    ·simp -implicitDefEqProofs (disch:=first|omega|simp only[nx4]<;>omega|fail) [g4]
    ·exact smz
    ·exact smz
   ·simp -implicitDefEqProofs (disch:=first|omega|simp only[nx4]<;>omega|fail) [g6,w3]
    refine AK (zs.length - (i+1)) (by omega) ⟨i+1,acc,v,by omega,rfl,fun j x hj hx=>?_,by omega,?_,?_,?_,by simp -implicitDefEqProofs (disch:=first|omega|simp only[nx4]<;>omega|fail) [hO],ho1,by simp -implicitDefEqProofs (disch:=first|omega|simp only[nx4]<;>omega|fail);omega,ht.move soz fun q _ _ _=>by simp -implicitDefEqProofs (disch:=first|omega|simp only[nx4]<;>omega|fail),fun q hq=>by simp -implicitDefEqProofs (disch:=first|omega|simp only[nx4]<;>omega|fail) [hk q hq]⟩
    ·rcases Nat.lt_or_ge j i with h | h
     ·exact hacc j x h hx
     ·obtain rfl:j=i:=by omega
      rw [hzi]at hx
      cases hx
      rw [heq]
      exact hacc (j - 1) _ (by omega) (by simp [hi4])
    ·simp -implicitDefEqProofs (disch:=first|omega|simp only[nx4]<;>omega|fail) [g4]
    ·simp -implicitDefEqProofs (disch:=first|omega|simp only[nx4]<;>omega|fail) [g5]
    ·exact smz
 ·obtain rfl:i=zs.length:=by omega
  simp -implicitDefEqProofs (disch:=first|omega|simp only[nx4]<;>omega|fail) [g4,g5,g6]
  have hwk:=ht.wk (Bd (Af acc))
  refine⟨.tup [.list 1 .none (Af acc),.bool true],by simp [hwk],⟨acc,rfl,by omega,fun x hx=>?_⟩,hk⟩
  obtain⟨j,hj⟩:=List.getElem?_of_mem ((hzm x).2 hx)
  exact hacc j x (List.getElem?_eq_some_iff.1 hj).1 hj
end Go.AL.Dm
set_option maxHeartbeats 1000000
namespace Go.AL.Dm
open Go Go.Proofs
def I31 (R:List Int) (s:St) (m:Nat) (g:Env) (s1:St):Prop :=
 ∃ i:Nat,i≤R.length∧m=R.length - i∧(∀ (j:Nat) x,j < i→R[j]?=some x→x < 6)∧g.get 1=.int .i64 6∧g.get 5=.list 1 .none (Af R)∧g.get 7=.int .i64 i∧Kept s s1
theorem m31 (t:Pl) (hs:small t) (hr:rng t) (s:St):AB Tryz.prog 31 [t.av,.int .i64 6] s fun r s'=>(∃ b,r=.bool b∧(b=true→wf t=true∧∀ x∈fv t 0,x < 6))∧Kept s s':=by
 refine AD mixed Tryz.func31 Tryz.call31 AFF.2 rfl (AE _ _ _ _ ?_)
 have h27:=p27 t hs
 cases hw:wf t with
 | false =>
  rw [hw]at h27
  simp -implicitDefEqProofs (disch:=first|omega|simp only[nx4]<;>omega|fail) [AFF]
  refine AA h27 fun mm1 hm1=>?_
  try simp only [nx4]at hm1
  simp -implicitDefEqProofs (disch:=first|omega|simp only[nx4]<;>omega|fail)
  done
 | true =>
  rw [hw]at h27
  simp -implicitDefEqProofs (disch:=first|omega|simp only[nx4]<;>omega|fail) [AFF]
  refine AA h27 fun mm2 hm2=>?_
  try simp only [nx4]at hm2
  simp -implicitDefEqProofs (disch:=first|omega|simp only[nx4]<;>omega|fail)
  refine AH (AB.mono (p62 t hw hs hr _) fun r s' hn' h=>AW ?_)
  obtain⟨⟨R,rfl,hR,hm⟩,hk⟩:=h
  have hk2:Kept s s':=fun q hq=>(hk q soz).trans smz
  simp -implicitDefEqProofs (disch:=first|omega|simp only[nx4]<;>omega|fail)
  refine AQ (I31 R s) R.length ⟨0,by omega,by omega,by simp,?_,?_,?_,hk2⟩ ?_
  iterate 3 (try simp -implicitDefEqProofs (disch:=first|omega|simp only[nx4]<;>omega|fail))
  rintro m g s1 ⟨i,hi,rfl,hlt6,g1,g5,g7,hk⟩
  have hil:(Af R).length=R.length:=by simp
  by_cases hlt:i < R.length
  ·have hlt':(i:Int) < R.length:=by omega
   have w3:=wrapS (i:=i) (by omega)
   have hgt:(Af R)[i]?=some (.int .i64 R[i]):=Mg (by simp [hlt])
   have hzi:R[i]?=some R[i]:=by simp [hlt]
   have hg2:∀ h,(Af R)[i]'h=.int .i64 R[i]:=fun h=>by simp [Af]
   by_cases h6:6≤R[i]
   ·have h6':¬ R[i] < 6:=by omega
    simp -implicitDefEqProofs (disch:=first|omega|simp only[nx4]<;>omega|fail) [g1,g5,g7,hlt',hlt,hgt,hil,h6,h6',hg2]
    exact hk
   ·have h6':R[i] < 6:=by omega
    simp -implicitDefEqProofs (disch:=first|omega|simp only[nx4]<;>omega|fail) [g1,g5,g7,hlt',hlt,hgt,hil,h6,h6',w3,hg2]
    refine AK (R.length - (i+1)) (by omega) ⟨i+1,by omega,rfl,fun j x hj hx=>?_,?_,?_,?_,hk⟩
    ·rcases Nat.lt_or_ge j i with h | h
     ·exact hlt6 j x h hx
     ·obtain rfl:j=i:=by omega
      rw [hzi]at hx
      cases hx
      exact h6'
    ·simp -implicitDefEqProofs (disch:=first|omega|simp only[nx4]<;>omega|fail) [g1]
    ·simp -implicitDefEqProofs (disch:=first|omega|simp only[nx4]<;>omega|fail) [g5]
    ·exact smz
  ·obtain rfl:i=R.length:=by omega
   simp -implicitDefEqProofs (disch:=first|omega|simp only[nx4]<;>omega|fail) [g1,g5,g7,hil]
   refine⟨fun x hx=>?_,hk⟩
   obtain⟨j,hj⟩:=List.getElem?_of_mem (hm x hx)
   exact hlt6 j x (List.getElem?_eq_some_iff.1 hj).1 hj
end Go.AL.Dm
set_option maxHeartbeats 4000000
namespace Go.AL.Dm
open Go Go.Proofs
theorem AAh {d:Int} {ev:Evf} (hev:EvC [] d ev) {xo:Nat} {s:St} {e:Pl} (h1:s.m xo=some (.box [.list 6 .none [],.list 0 .full [],.list 0 .full [],.int .i64 0,.int .i64 d,.int .i64 0])) (hbd:∀ q ob,s.m q=some ob→q < s.nx)
  (hσ:OKs [] (start [])) (he:okE [] e [] 0) :
  AB Tryz.prog 79 [.ptr xo 0,e.av,.list 1 .none (nl [])] s fun r s'=>r=(ev e [] (start [])).1.av∧∃ oc',Sto [] (E6 []) xo oc' (ev e [] (start [])).2 d s'∧s.nx≤oc'∧∀ q,q < s.nx→q≠xo→s'.m q=s.m q:=by
 have hx:=hbd _ _ h1
 have hnn:s.m s.nx=none:=by
  cases hc:s.m s.nx with
  | none=>rfl
  | some ob=>have:=hbd _ _ hc;omega
 refine AB.pre (s1:=(s.set xo (.box [.list 6 .none [],.Ag 17 s.nx 0 0,.list 1 .none [],.int .i64 0,.int .i64 d,.int .i64 0])).new (.box [])) (by simp) (fun o ob ho=>?_) (fun o ob ho=>?_)
  (AB.mono (hev xo s.nx (start []) _ e [] ⟨?_,?_,by omega⟩ hσ (by simpa [start] using he)) fun r s' hn ⟨hr,oc',k1,k2,k3⟩=>⟨hr,oc',k1,?_,fun q a b=>?_⟩)
 ·by_cases e:o=s.nx
  ·subst e
   exact .inr (.inr ⟨hnn,Nat.le_refl _,by simp⟩)
  ·rw [St.B0 _ _ _ (by simpa using e)]at ho
   by_cases e2:o=xo
   ·subst e2
    rw [St.EK]at ho
    cases ho
    refine .inr (.inl ⟨_,_,h1,rfl,⟨.inl (AS _),.inr ⟨rfl,_,_,rfl⟩,.inl (by simp),.inl (AS _),.inl (AS _),.inl (AS _),trivial⟩⟩)
   ·rw [St.Bq _ _ _ _ e2]at ho
    exact .inl ho
 ·by_cases e:o=s.nx
  ·subst e;rw [hnn]at ho;cases ho
  ·rw [St.B0 _ _ _ (by simpa using e)]
   by_cases e2:o=xo
   ·subst e2;exact⟨_,St.EK _ _ _⟩
   ·exact⟨ob,by rw [St.Bq _ _ _ _ e2];exact ho⟩
 ·rw [St.B0 _ _ _ (by simp;omega)]
  exact St.EK _ _ _
 ·exact St.Ks _ _
 ·rcases k2 with rfl | k2
  ·omega
  ·simp at k2;omega
 ·rw [k3 q (by simp;omega) b (by omega),St.B0 _ _ _ (by simp;omega),St.Bq _ _ _ _ b]
theorem AK9 (s:St):AB Tryz.prog 77 [.list 6 .none []] s fun r s'=>r=.ptr s.nx 0∧s'.m s.nx=some (.box [.list 6 .none [],.list 0 .full [],.list 0 .full [],.int .i64 0,.int .i64 0,.int .i64 0])∧∀ q,q < s.nx→s'.m q=s.m q:=by
 refine AD mixed Tryz.func77 Tryz.call77 k77.2 rfl (AE _ _ _ _ ?_)
 simp -implicitDefEqProofs (disch:=first|omega|simp only[nx4]<;>omega|fail) [k77]
 refine AQ (fun m g s1=>m=0∧g.get 0=.list 6 .none []∧g.get 3=.ptr s.nx 0∧g.get 4=.int .i64 0∧s1.m s.nx=some (.box [.list 6 .none [],.list 0 .full [],.list 0 .full [],.int .i64 0,.int .i64 0,.int .i64 0])∧∀ q,q < s.nx→s1.m q=s.m q) 0 ⟨rfl,?_,?_,?_,?_,?_⟩ ?_
 iterate 3 (try simp -implicitDefEqProofs (disch:=first|omega|simp only[nx4]<;>omega|fail))
 ·exact smz
 ·exact fun q a=>by simp -implicitDefEqProofs (disch:=first|omega|simp only[nx4]<;>omega|fail)
 rintro m g s1 ⟨rfl,g0,g3,g4,hS,hk⟩
 simp -implicitDefEqProofs (disch:=first|omega|simp only[nx4]<;>omega|fail) [g0,g3,g4]
 exact⟨hS,hk⟩
theorem ALA (hst:OKs [] (start [])) {e:Pl} (he:okE [] e [] 0):AF Tryz.prog 39 [.list 6 .none [],e.av,.int .i64 0] (Mk [] e):=by
 refine AF.intro fun s=>AD mixed Tryz.func39 Tryz.call39 k39.2 rfl (AE _ _ _ _ ?_)
 have hev:=p79 (p:=[]) (by simp) 2000 (by omega)
 rw [show (2000 - ((2000:Nat):Int))=0 by omega]at hev
 have hok:=I4 (p:=[]) 2000
 have hr:=hok e [] (start []) hst (by simpa [start] using he)
 generalize hrn:evalW [] 2000=ev at *
 have hrun:run [] e=ev e [] (start []):=by rw [run,hrn]
 simp -implicitDefEqProofs (disch:=first|omega|simp only[nx4]<;>omega|fail) [k39]
 refine AH (Bh (AK9 _) fun r s1 hn1 hbd1 h1'=>AW ?_)
 obtain⟨rfl,hS,hk⟩:=h1'
 simp -implicitDefEqProofs (disch:=first|omega|simp only[nx4]<;>omega|fail)
 simp -implicitDefEqProofs (disch:=first|omega|simp only[nx4]<;>omega|fail)at hn1 hk hS
 have b1:s1.m s.nx=some (.box [.int .i64 e.op,.int .i64 e.n,.str e.s,.list 5 .none (e.args.map Pl.av),.list 8 .none (e.alts.map Pl.BK)]):=by
  rw [hk s.nx (by omega)];simp -implicitDefEqProofs (disch:=first|omega|simp only[nx4]<;>omega|fail)
 have b2:s1.m (s.nx+1)=some (.box [.int .i64 0,.int .i64 0,.str ⟨⟨[]⟩⟩,.list 0 .full []]):=by
  rw [hk (s.nx+1) (by omega)];simp -implicitDefEqProofs (disch:=first|omega|simp only[nx4]<;>omega|fail)
 have hx1:=hbd1 _ _ hS
 simp -implicitDefEqProofs (disch:=first|omega|simp only[nx4]<;>omega|fail) [b1]
 refine AH (Bh (AB.OG (args':=[.ptr (s.nx+1+1) 0,e.av,.list 1 .none (nl [])]) (AAh hev hS hbd1 hst he) (by simp)) fun r s2 hn2 hbd2 h2'=>AW ?_)
 obtain⟨rfl,oc2,hS2,k2,k3⟩:=h2'
 have c1:=k3 s.nx (by omega) (by omega)
 have c2:=k3 (s.nx+1) (by omega) (by omega)
 rw [b1]at c1
 rw [b2]at c2
 have hst2:=hr.ok.st
 rw [Mk,hrun]
 generalize ev e [] (start [])=r at *
 obtain⟨o,τ⟩:=r
 simp -implicitDefEqProofs (disch:=first|omega|simp only[nx4]<;>omega|fail) [c1]
 refine AH (Bh (p78 hS2 hst2 o) fun r s3 hn3 hbd3 h3'=>AW ?_)
 obtain⟨rfl,oc3,⟨j1,j2,j3⟩,k5,k6⟩:=h3'
 have d1:=k6 s.nx (by omega) (by omega) (by omega)
 have d2:=k6 (s.nx+1) (by omega) (by omega) (by omega)
 rw [c1]at d1
 rw [c2]at d2
 have z2:(shS τ).steps=τ.steps+1:=rfl
 have z3:(shS τ).err=shE τ:=rfl
 rw [z2,z3]at j1
 have hq:∀ q,q < s.nx→s3.m q=s.m q:=fun q a=>by
  rw [k6 q (by omega) (by omega) (by omega),k3 q (by omega) (by omega),hk q (by omega)];simp -implicitDefEqProofs (disch:=first|omega|simp only[nx4]<;>omega|fail)
 by_cases hz:shE τ=0
 ·rw [if_pos hz]
  rw [hz]at j1
  simp -implicitDefEqProofs (disch:=first|omega|simp only[nx4]<;>omega|fail) [j1,d2,OS]
  exact fun m hm=>hq
 ·rw [if_neg hz]
  simp -implicitDefEqProofs (disch:=first|omega|simp only[nx4]<;>omega|fail) [j1,d2,hz,OS]
  exact fun m hm=>hq
theorem ALB {p:List Gl} (hpl:p.length≤1000) (hst:OKs p (start p)) {e:Pl} (he:okE p e [] p.length):AF Tryz.prog 39 [.list 6 .none (p.map Gl.av),e.av,.int .i64 0] (Mk p e):=by
 cases p with
 | nil=>exact ALA hst he
 | cons g p=>exact p39 (by simp) hpl hst he
theorem ALC {p:List Gl} (hpl:p.length≤1000) (hst:OKs p (start p)) {e:Pl} (he:okE p e [] p.length):AF Tryz.prog 16 [.list 6 .none (p.map Gl.av),e.av] (.bool (X1 p e)):=by
 refine AF.intro fun s=>AD mixed Tryz.func16 Tryz.call16 k16.2 rfl (AE _ _ _ _ ?_)
 have h39:=ALB hpl hst he
 rw [Mk]at h39
 have hv:X1 p e=(decide (shE (run p e).2=0) && (run p e).1.val):=by
  rw [X1]
  congr 1
  unfold shE
  by_cases h1:(run p e).2.err=0 <;> by_cases h2:(run p e).2.steps=20000 <;> simp [h1,h2]
 rw [hv]
 generalize run p e=r at *
 obtain⟨o,τ⟩:=r
 by_cases hz:shE τ=0
 ·rw [if_pos hz]at h39
  simp only [shK,shN,hz,OS]at h39 ⊢
  simp -implicitDefEqProofs (disch:=first|omega|simp only[nx4]<;>omega|fail) [k16]
  refine AA h39 fun mm1 hm1=>?_
  try simp only [nx4]at hm1
  simp -implicitDefEqProofs (disch:=first|omega|simp only[nx4]<;>omega|fail)
  cases o <;> rfl
 ·rw [if_neg hz]at h39
  simp only [OS]at h39
  simp -implicitDefEqProofs (disch:=first|omega|simp only[nx4]<;>omega|fail) [k16]
  refine AA h39 fun mm2 hm2=>?_
  try simp only [nx4]at hm2
  simp -implicitDefEqProofs (disch:=first|omega|simp only[nx4]<;>omega|fail) [hz]
end Go.AL.Dm
set_option maxHeartbeats 4000000
namespace Go.AL.Dm
open Go Go.Proofs
def QI (AM:Int) (i:Nat):Option Int:=if 0≤AM∧(i:Int)≤AM then some (AM - i)else none
theorem AJE (AM:Int) (i:Nat):nn (QI AM i):=fun v hv=>by
 unfold QI at hv
 split at hv
 ·simp at hv;omega
 ·simp at hv
theorem AJF (AM:Int) (i:Nat):im 0 (QI AM i)=QI AM (i+1):=by
 unfold QI
 by_cases h:0≤AM∧(i:Int)≤AM
 ·rw [if_pos h]
  simp only [im,Option.bind_some]
  rw [if_neg (by omega)]
  by_cases h2:0 < AM - i
  ·rw [if_pos h2,if_pos (by push_cast;omega)];push_cast;congr 1;omega
  ·rw [if_neg h2,if_neg (by push_cast;omega)]
 ·rw [if_neg h,if_neg (by push_cast;omega)];rfl
theorem AFM {K:ByteArray→Kn} {y:Pl} (hw:wf y=true) (hc:cl y 0=true) {q:Option Int} (h:Hs (AP K y) q):AP K y=none:=by
 rcases h with h | ⟨l,v,h1,_,h3⟩
 ·exact h
 ·have:=(G9 K y 0 hw hc).1 v (by rw [h1];exact h3)
  omega
structure Y7 (p:List Gl) (K:ByteArray→Kn) (AM:Int) (i:Nat) (y:Pl):Prop where
 wf:wf y=true
 sm:small y
 rg:rng y
 gi:Gin p y
 cl:cl y ((6 - i:Nat):Int)=true
 hs:Hs (AP K y) (QI AM i)
theorem Y7.step {p:List Gl} {K:ByteArray→Kn} {AM:Int} {i:Nat} {y b:Pl} (h:Y7 p K AM i y) (hi:i < 6) (hb:okA p b) (hn:AM=i→AP K b=none) (hs:small (A4 b y 0)):Y7 p K AM (i+1) (A4 b y 0):=by
 refine⟨XY hb.wf y 0 (by omega) h.wf,hs,Zm hb.rg y 0 (by omega) h.wf h.rg,Zn hb.gi y 0 h.gi,AEn hb.cl y 0 _ (by omega) (by omega) h.wf ?_,?_⟩
 ·have:=h.cl
  rw [show ((6 - i:Nat):Int)=((6 - (i+1):Nat):Int)+1 by omega]at this
  exact this
 ·rw [← AJF]
  refine(Xy y h.wf 0 (by omega)).1 _ (AJE _ _) (fun e=>hn ?_) h.hs
  unfold QI at e
  split at e
  ·simp at e;omega
  ·cases e
theorem Y7.ok {p:List Gl} {K:ByteArray→Kn} {AM:Int} {y:Pl} (h:Y7 p K AM 6 y):okA p y:=⟨h.wf,h.rg,h.gi,h.cl,by have:=h.sm.2;omega⟩
theorem Y7.closed {p:List Gl} {K:ByteArray→Kn} {AM:Int} {y:Pl} (h:Y7 p K AM 6 y):(Dm.wf y && decide (fv y 0=[]) && dfd p y)=true:=by
 simp only [Bool.and_eq_true,decide_eq_true_eq]
 refine⟨⟨h.wf,?_⟩,?_⟩
 ·cases hf:fv y 0 with
  | nil=>rfl
  | cons v r =>
   have:=AIl y 0 0 h.cl v (by rw [hf];simp)
   omega
 ·unfold dfd
  rw [List.all_eq_true]
  intro x hx
  obtain⟨e,he,ho,hs⟩:=HI.1 hx
  rw [Lm hs]
  exact decide_eq_true (Fj.2 (h.gi e he ho))
def I7 (p:List Gl) (l:List Pl) (w AM:Int) (bx:Nat) (s:St) (m:Nat) (g:Env) (s1:St):Prop :=
 ∃ (i:Nat) (y:Pl),i≤6∧m=6 - i∧Y7 p (AJ (tbD p (fin p).1)) AM i y∧g.get 0=.list 6 .none (p.map Gl.av)∧g.get 2=.list 5 .none (l.map Pl.av)∧g.get 3=.int .i64 w∧g.get 12=.int .i64 AM∧g.get 13=.ptr bx 0∧g.get 14=.int .i64 i ∧
  s1.m bx=some (.box y.av.cells)∧Kept s s1∧s.nx≤bx∧bx < s1.nx
theorem p7 (p:List Gl) (x:Pl) (l:List Pl) (w:Int) (hr:∀ g∈p,rng g.body) (hrx:rng x) (hrl:∀ x∈l,rng x):AF Tryz.prog 7 [.list 6 .none (p.map Gl.av),x.av,.list 5 .none (l.map Pl.av),.int .i64 w] (.bool true):=by
 refine AF.intro fun s=>AD mixed Tryz.func7 Tryz.call7 k7.2 rfl (AE _ _ _ _ ?_)
 have h8:=p8 p x
 have h10:=p10
 cases hfw:Pq p x with
 | false =>
  rw [hfw]at h8
  simp -implicitDefEqProofs (disch:=first|omega|simp only[nx4]<;>omega|fail) [k7]
  refine AA h8 fun mm1 hm1=>?_
  try simp only [nx4]at hm1
  simp -implicitDefEqProofs (disch:=first|omega|simp only[nx4]<;>omega|fail)
  refine AA h10 fun mm2 hm2=>?_
  try simp only [nx4]at hm2
  simp -implicitDefEqProofs (disch:=first|omega|simp only[nx4]<;>omega|fail)
  done
 | true =>
  rw [hfw]at h8
  have hp:=AFE hfw hr
  have hsx:=Xq hfw
  have h9:=p9 p hp
  cases hi:isP p with
  | false =>
   rw [hi]at h9
   simp -implicitDefEqProofs (disch:=first|omega|simp only[nx4]<;>omega|fail) [k7]
   refine AA h8 fun mm3 hm3=>?_
   try simp only [nx4]at hm3
   simp -implicitDefEqProofs (disch:=first|omega|simp only[nx4]<;>omega|fail)
   refine AA h9 fun mm4 hm4=>?_
   try simp only [nx4]at hm4
   simp -implicitDefEqProofs (disch:=first|omega|simp only[nx4]<;>omega|fail)
   refine AA h10 fun mm5 hm5=>?_
   try simp only [nx4]at hm5
   simp -implicitDefEqProofs (disch:=first|omega|simp only[nx4]<;>omega|fail)
   done
  | true =>
   rw [hi]at h9
   simp -implicitDefEqProofs (disch:=first|omega|simp only[nx4]<;>omega|fail) [k7]
   refine AA h8 fun mm6 hm6=>?_
   try simp only [nx4]at hm6
   simp -implicitDefEqProofs (disch:=first|omega|simp only[nx4]<;>omega|fail)
   refine AA h9 fun mm7 hm7=>?_
   try simp only [nx4]at hm7
   simp -implicitDefEqProofs (disch:=first|omega|simp only[nx4]<;>omega|fail)
   refine AH (AB.mono (m31 x hsx hrx _) fun r s' hn' h=>AW ?_)
   obtain⟨⟨b,rfl,hb⟩,hk⟩:=h
   have q0:=hk s.nx soz
   have hk2:Kept s s':=fun q hq=>(hk q soz).trans smz
   simp -implicitDefEqProofs (disch:=first|omega|simp only[nx4]<;>omega|fail)at q0 hn'
   cases b with
   | false =>
    simp -implicitDefEqProofs (disch:=first|omega|simp only[nx4]<;>omega|fail)
    refine AA h10 fun mm8 hm8=>?_
    try simp only [nx4]at hm8
    simp -implicitDefEqProofs (disch:=first|omega|simp only[nx4]<;>omega|fail)
    exact hk2
   | true =>
    obtain⟨hwx,hfx⟩:=hb rfl
    have h28:=p28 p x (by have:=(MT hp hi).few;omega) hwx hsx
    simp -implicitDefEqProofs (disch:=first|omega|simp only[nx4]<;>omega|fail) [q0]
    cases hdf:dfd p x with
    | false =>
     rw [hdf]at h28
     refine AA h28 fun mm9 hm9=>?_
     try simp only [nx4]at hm9
     simp -implicitDefEqProofs (disch:=first|omega|simp only[nx4]<;>omega|fail)
     refine AA h10 fun mm10 hm10=>?_
     try simp only [nx4]at hm10
     simp -implicitDefEqProofs (disch:=first|omega|simp only[nx4]<;>omega|fail)
     exact hk2
    | true =>
     rw [hdf]at h28
     have hgp:=MT hp hi
     have hpl:=hgp.few
     have h26:=AKt p x hp hsx hrx (by rw [AFK,hi,hwx,hdf];rfl)
     by_cases hl6:l.length < 6
     ·have hl6':(l.length:Int) < 6:=by omega
      refine AA h28 fun mm11 hm11=>?_
      try simp only [nx4]at hm11
      simp -implicitDefEqProofs (disch:=first|omega|simp only[nx4]<;>omega|fail) [hl6,hl6']
      refine AA h10 fun mm12 hm12=>?_
      try simp only [nx4]at hm12
      simp -implicitDefEqProofs (disch:=first|omega|simp only[nx4]<;>omega|fail)
      exact hk2
     have hl6':¬ (l.length:Int) < 6:=by omega
     refine AA h28 fun mm13 hm13=>?_
     try simp only [nx4]at hm13
     simp -implicitDefEqProofs (disch:=first|omega|simp only[nx4]<;>omega|fail) [hl6,hl6',q0]
     have hle:=(I5 (K:=AJ (tbD p (fin p).1)) x).1
     have hclx:cl x ((6 - 0:Nat):Int)=true:=by
      have:=Lo x 0 6 (by omega) hfx
      simpa using this
     have hgx:Gin p x:=fun e he ho=>by
      have hm:e.s.data.toList∈gls x:=HI.2 ⟨e,he,ho,rfl⟩
      unfold dfd at hdf
      have:=List.all_eq_true.1 hdf _ hm
      rw [Lm rfl]at this
      exact Fj.1 (by simpa using this)
     have hst:=QP hgp (Xj hi) (ACc hi)
     rw [show AM (AJ (tbD p (fin p).1)) x=J7 p x from rfl]at hle
     cases hnd:J7 p x
     case' none =>
      rw [hnd]at h26 hle
      have hY:Y7 p (AJ (tbD p (fin p).1)) (-1) 0 x:=⟨hwx,hsx,hrx,hgx,hclx,.inl (by
       cases hs:AP (AJ (tbD p (fin p).1)) x with
       | none=>rfl
       | some m=>rw [hs]at hle;exact absurd hle (by simp [ND.le]))⟩
      obtain⟨AM,hneq⟩:∃ n:Int,n=-1:=⟨_,rfl⟩
      rw [← hneq]at hY
      refine AA h26 fun bx hbx=>?_
      try simp only [nx4]at hbx
      simp -implicitDefEqProofs (disch:=first|omega|simp only[nx4]<;>omega|fail) [q0]
     case' some L =>
      rw [hnd]at h26 hle
      by_cases hL0:L.length=0
      ·have:L=[]:=List.length_eq_zero_iff.1 hL0
       subst this
       refine AA h26 fun mm14 hm14=>?_
       try simp only [nx4]at hm14
       simp -implicitDefEqProofs (disch:=first|omega|simp only[nx4]<;>omega|fail)
       refine AA h10 fun mm15 hm15=>?_
       try simp only [nx4]at hm15
       simp -implicitDefEqProofs (disch:=first|omega|simp only[nx4]<;>omega|fail)
       exact hk2
      obtain⟨j,hj,h12⟩:=p12 w L.length (by omega) (by have:=(QB (AJ (tbD p (fin p).1)) x hwx).1;rw [show AM (AJ (tbD p (fin p).1)) x=J7 p x from rfl,hnd]at this;simp [CX]at this;have:=hsx.1;omega)
      have hj':(j:Int) < L.length:=by omega
      have hg2:((Af L)[j]?).getD AV.any=.int .i64 L[j]:=by simp [Af,hj]
      have hLp:0 < L.length:=by omega
      have hLp':(0:Int) < L.length:=by omega
      by_cases hneg:L[j] < 0
      ·refine AA h26 fun mm16 hm16=>?_
       try simp only [nx4]at hm16
       simp -implicitDefEqProofs (disch:=first|omega|simp only[nx4]<;>omega|fail) [hLp,hLp']
       refine AA h12 fun mm17 hm17=>?_
       try simp only [nx4]at hm17
       simp -implicitDefEqProofs (disch:=first|omega|simp only[nx4]<;>omega|fail) [hj,hj',hg2,hneg]
       refine AA h10 fun mm18 hm18=>?_
       try simp only [nx4]at hm18
       simp -implicitDefEqProofs (disch:=first|omega|simp only[nx4]<;>omega|fail)
       exact hk2
      have hneg':¬ L[j] < 0:=hneg
      have hY:Y7 p (AJ (tbD p (fin p).1)) L[j] 0 x:=⟨hwx,hsx,hrx,hgx,hclx,by
       rw [QI,if_pos ⟨by omega,by push_cast;omega⟩]
       cases hs:AP (AJ (tbD p (fin p).1)) x with
       | none=>exact .none
       | some m =>
        rw [hs]at hle
        rw [show L[j] - ((0:Nat):Int)=L[j]by omega,Cx]
        exact hle _ (List.getElem_mem hj)⟩
      refine AA h26 fun mm19 hm19=>?_
      try simp only [nx4]at hm19
      simp -implicitDefEqProofs (disch:=first|omega|simp only[nx4]<;>omega|fail) [hLp,hLp',q0]
      obtain⟨AM,hneq⟩:∃ n:Int,n=L[j]:=⟨_,rfl⟩
      rw [← hneq]at hY
      refine AA h12 fun bx hbx=>?_
      try simp only [nx4]at hbx
      simp -implicitDefEqProofs (disch:=first|omega|simp only[nx4]<;>omega|fail) [hj,hj',hg2,hneg',q0]
     all_goals
      refine AQ (I7 p l w AM bx s) 6 ⟨0,x,by omega,by omega,hY,?_,?_,?_,?_,?_,?_,?_,?_,?_,?_⟩ ?_
      iterate 6 (try simp -implicitDefEqProofs (disch:=first|omega|simp only[nx4]<;>omega|fail) [hneq])
      ·exact smz
      ·exact fun q hq=>by
        have:q≠bx:=by omega
        simp -implicitDefEqProofs (disch:=first|omega|simp only[nx4]<;>omega|fail) [this,hk2 q hq]
      ·omega
      ·exact smz
      clear hneq h8 h9 h26 h28
      rintro m g s1 ⟨i,y,hi6,rfl,hYi,g0,g2,g3,g12,g13,g14,jb,hkk,hb1,hb2⟩
      rw [Pl.Am]at jb
      by_cases hlt:i < 6
      ·have hlt':(i:Int) < 6:=by omega
       have hil:i < l.length:=by omega
       have hil':(i:Int) < l.length:=by omega
       have w3:=wrapS (i:=i) (by omega)
       have hget:(l.map Pl.av)[i]?=some l[i].av:=by simp [hil]
       have hrx2:=hrl l[i] (List.getElem_mem hil)
       by_cases hv:(i:Int)=AM
       case' pos =>
        subst hv
        generalize l[i]=b0 at hget hrx2
        obtain⟨q,hq4,h18⟩:=p18 w
        have hrb:rng (wo q):=(AJG p q).rg
        have hbn:(i:Int)=i→AP (AJ (tbD p (fin p).1)) (wo q)=none:=fun _=>AAi _ _
        generalize wo (q:Int)=b at h18 hrb hbn
        simp -implicitDefEqProofs (disch:=first|omega|simp only[nx4]<;>omega|fail) [g0,g2,g3,g12,g13,g14,hlt,hlt',hil,hil',hget]
        refine AA h18 fun mm20 hm20=>?_
        try simp only [nx4]at hm20
        simp -implicitDefEqProofs (disch:=first|omega|simp only[nx4]<;>omega|fail) [g0,g2,g3,g12,g13,g14]
       case' neg =>
        have hrb:rng l[i]:=hrx2
        have hbn:AM=i→AP (AJ (tbD p (fin p).1)) l[i]=none:=fun e=>absurd e.symm hv
        generalize l[i]=b at hget hrb hbn
        simp -implicitDefEqProofs (disch:=first|omega|simp only[nx4]<;>omega|fail) [g0,g2,g3,g12,g13,g14,hlt,hlt',hil,hil',hget,hv]
       all_goals
        have h14:=p14 b 500 (by omega) (by omega)
        by_cases h5:500 < wt b 500 100
        ·refine AA h14 fun mm21 hm21=>?_
         try simp only [nx4]at hm21
         simp -implicitDefEqProofs (disch:=first|omega|simp only[nx4]<;>omega|fail) [h5]
         refine AA h10 fun mm22 hm22=>?_
         try simp only [nx4]at hm22
         simp -implicitDefEqProofs (disch:=first|omega|simp only[nx4]<;>omega|fail)
         exact hkk
        have h5':wt b 500 100≤500:=by omega
        obtain⟨z1,z2⟩:=KT b 500 100 (by omega) (by omega) h5'
        have hsb:small b:=⟨by omega,by omega⟩
        have h15:=p15 p b (by omega) hsb
        cases hcl:(wf b && decide (fv b 0=[]) && dfd p b)with
        | false =>
         rw [hcl]at h15
         refine AA h14 fun mm23 hm23=>?_
         try simp only [nx4]at hm23
         simp -implicitDefEqProofs (disch:=first|omega|simp only[nx4]<;>omega|fail) [h5,g0,g2,g3,g12,g13,g14]
         refine AA h15 fun mm24 hm24=>?_
         try simp only [nx4]at hm24
         simp -implicitDefEqProofs (disch:=first|omega|simp only[nx4]<;>omega|fail)
         refine AA h10 fun mm25 hm25=>?_
         try simp only [nx4]at hm25
         simp -implicitDefEqProofs (disch:=first|omega|simp only[nx4]<;>omega|fail)
         exact hkk
        | true =>
         rw [hcl]at h15
         have hA:=AFL hrb h5' hcl
         have h32:=AKf y b hYi.wf hYi.sm hYi.rg hA.wf hsb hA.cl
         refine AA h14 fun mm26 hm26=>?_
         try simp only [nx4]at hm26
         simp -implicitDefEqProofs (disch:=first|omega|simp only[nx4]<;>omega|fail) [h5,g0,g2,g3,g12,g13,g14]
         refine AA h15 fun mm27 hm27=>?_
         try simp only [nx4]at hm27
         simp -implicitDefEqProofs (disch:=first|omega|simp only[nx4]<;>omega|fail) [g0,g2,g3,g12,g13,g14,jb]
         by_cases htoo:1 < sz b∧Int.tdiv 4000 (sz b)+1 < occ y 0
         ·rw [FW,if_pos htoo]at h32
          refine AA h32 fun mm28 hm28=>?_
          try simp only [nx4]at hm28
          simp -implicitDefEqProofs (disch:=first|omega|simp only[nx4]<;>omega|fail)
          refine AA h10 fun mm29 hm29=>?_
          try simp only [nx4]at hm29
          simp -implicitDefEqProofs (disch:=first|omega|simp only[nx4]<;>omega|fail)
          exact hkk
         by_cases hlim:sz (A4 b y 0)≤4000∧dw (A4 b y 0)≤200
         ·rw [FW,if_neg htoo,if_pos hlim]at h32
          have hYn:=hYi.step hlt hA hbn hlim
          refine AA h32 fun mm30 hm30=>?_
          try simp only [nx4]at hm30
          simp -implicitDefEqProofs (disch:=first|omega|simp only[nx4]<;>omega|fail) [g0,g2,g3,g12,g13,g14,jb,w3]
          refine AK (6 - (i+1)) (by omega) ⟨i+1,A4 b y 0,by omega,rfl,hYn,?_,?_,?_,?_,?_,?_,?_,fun q hq=>?_,hb1,?_⟩
          ·simp -implicitDefEqProofs (disch:=first|omega|simp only[nx4]<;>omega|fail) [g0]
          ·simp -implicitDefEqProofs (disch:=first|omega|simp only[nx4]<;>omega|fail) [g2]
          ·simp -implicitDefEqProofs (disch:=first|omega|simp only[nx4]<;>omega|fail) [g3]
          ·simp -implicitDefEqProofs (disch:=first|omega|simp only[nx4]<;>omega|fail) [g12]
          ·simp -implicitDefEqProofs (disch:=first|omega|simp only[nx4]<;>omega|fail) [g13]
          ·exact smz
          ·exact smz
          ·have:q≠bx:=by omega
           simp -implicitDefEqProofs (disch:=first|omega|simp only[nx4]<;>omega|fail) [this,hkk q hq]
          ·simp -implicitDefEqProofs (disch:=first|omega|simp only[nx4]<;>omega|fail);omega
         ·rw [FW,if_neg htoo,if_neg hlim]at h32
          refine AA h32 fun mm31 hm31=>?_
          try simp only [nx4]at hm31
          simp -implicitDefEqProofs (disch:=first|omega|simp only[nx4]<;>omega|fail)
          refine AA h10 fun mm32 hm32=>?_
          try simp only [nx4]at hm32
          simp -implicitDefEqProofs (disch:=first|omega|simp only[nx4]<;>omega|fail)
          exact hkk
      ·obtain rfl:i=6:=by omega
       have hyA:=hYi.ok
       have h15:=p15 p y (by omega) hYi.sm
       have h16:=ALC (by omega) hst hyA.ok
       rw [hYi.closed]at h15
       rw [X2 hgp (Xj hi) (ACc hi) hyA.ok (AFM hYi.wf hYi.cl hYi.hs)]at h16
       simp -implicitDefEqProofs (disch:=first|omega|simp only[nx4]<;>omega|fail) [g0,g2,g3,g12,g13,g14,jb]
       refine AA h15 fun mm33 hm33=>?_
       try simp only [nx4]at hm33
       simp -implicitDefEqProofs (disch:=first|omega|simp only[nx4]<;>omega|fail) [g0,g13,jb]
       refine AA h16 fun mm34 hm34=>?_
       try simp only [nx4]at hm34
       simp -implicitDefEqProofs (disch:=first|omega|simp only[nx4]<;>omega|fail)
       refine AA h10 fun mm35 hm35=>?_
       try simp only [nx4]at hm35
       simp -implicitDefEqProofs (disch:=first|omega|simp only[nx4]<;>omega|fail)
       exact hkk
end Go.AL.Dm
