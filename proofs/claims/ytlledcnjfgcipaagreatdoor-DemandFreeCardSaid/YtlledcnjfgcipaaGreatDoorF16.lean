/- Alternatives: the program. -/
import Derived.Test.YtlledcnjfgcipaaGreatDoorF5
import Derived.Test.YtlledcnjfgcipaaGreatDoorProg
import Derived.KernelRfl
set_option linter.unusedVariables false
set_option linter.unusedSimpArgs false
namespace Go.AL.Dm
open Go Go.Proofs
instance AHr (a:ByteArray) (l:List ByteArray):Decidable (a∈l):=@List.instDecidableMemOfLawfulBEq ByteArray instBEqOfDecidableEq inferInstance a l
structure L7 (pre:List Hd) (kd:Int) (ls:List ByteArray) (ln:List Int):Prop where
 two:∀ a:Hd,a.op=2→(pre.all fun h=>Bl h a)=((decide (kd=0) || decide (kd=2)) && !decide (a.s∈ls))
 three:∀ a:Hd,a.op=3→(pre.all fun h=>Bl h a)=((decide (kd=0) || decide (kd=3)) && !decide (a.n∈ln))
theorem L7.nil:L7 [] 0 [] []:=⟨fun _ _=>rfl,fun _ _=>rfl⟩
theorem L7.AJd {pre:List Hd} {kd:Int} {ls:List ByteArray} {ln:List Int} (h:L7 pre kd ls ln) (a:Hd) (ha:a.op=2) (hk:kd=0∨kd=2) (hs:a.s ∉ ls):L7 (pre++[a]) 2 (ls++[a.s]) ln:=by
 constructor
 ·intro b hb
  rw [List.all_append,h.two b hb]
  have:(decide (kd=0) || decide (kd=2))=true:=by rcases hk with h | h <;> simp [h]
  by_cases e:a.s=b.s
  ·simp [Bl,ha,hb,e]
  ·have e':¬ b.s=a.s:=fun h=>e h.symm
   simp [this,Bl,ha,hb,e,e']
 ·intro b hb
  rw [List.all_append,h.three b hb]
  simp [Bl,ha,hb]
theorem L7.AJe {pre:List Hd} {kd:Int} {ls:List ByteArray} {ln:List Int} (h:L7 pre kd ls ln) (a:Hd) (ha:a.op=3) (hk:kd=0∨kd=3) (hs:a.n ∉ ln):L7 (pre++[a]) 3 ls (ln++[a.n]):=by
 constructor
 ·intro b hb
  rw [List.all_append,h.two b hb]
  simp [Bl,ha,hb]
 ·intro b hb
  rw [List.all_append,h.three b hb]
  have:(decide (kd=0) || decide (kd=3))=true:=by rcases hk with h | h <;> simp [h]
  by_cases e:a.n=b.n
  ·simp [Bl,ha,hb,e]
  ·have e':¬ b.n=a.n:=fun h=>e h.symm
   simp [this,Bl,ha,hb,e,e']
def AJf (l:List (Hd × Pl)) (s:St) (m:Nat) (g:Env) (s1:St):Prop :=
 ∃ (i:Nat) (kd:Int) (ls:List ByteArray) (ln:List Int) (es1 es2:List (Nat × AV × AV)) (c1 c2:Nat),i≤l.length∧m=l.length - i∧As ((l.take i).map (·.1)) (l.drop i)=As [] l∧(i < l.length→L7 ((l.take i).map (·.1)) kd ls ln) ∧
  E9 AV.str es1 ls∧E9 (AV.int .i64) es2 ln∧s1.m s.nx=some (.map es1 c1)∧s1.m (s.nx+1)=some (.map es2 c2) ∧
  g.get 0=.list 8 .none (l.map Pl.BK)∧g.get 3=.int .i64 kd∧g.get 4=.map s.nx∧g.get 5=.map (s.nx+1)∧g.get 10=.list 8 .none (l.map Pl.BK)∧g.get 11=.int .i64 l.length∧g.get 12=.int .i64 i∧Kept s s1∧s.nx+1 < s1.nx
theorem AHs (l:List (Hd × Pl)) (hl:l.length≤1000000):AF Tryz.prog 117 [.list 8 .none (l.map Pl.BK)] (.bool (As [] l)):=by
 refine AF.intro fun s=>AD mixed Tryz.func117 Tryz.call117 k117.2 rfl (AE _ _ _ _ ?_)
 simp -implicitDefEqProofs (disch:=first|omega|simp only[nx4]<;>omega|fail) [k117]
 refine AQ (AJf l s) l.length ⟨0,0,[],[],[],[],0,0,by omega,by omega,by simp,fun _=>L7.nil,rfl,rfl,?_,?_,?_,?_,?_,?_,?_,?_,?_,?_,?_⟩ ?_
 iterate 11 (try simp -implicitDefEqProofs (disch:=first|omega|simp only[nx4]<;>omega|fail))
 rintro m g s1 ⟨i,kd,ls,ln,es1,es2,c1,c2,hi,rfl,hw,hA,ks1,ks2,hm1,hm2,e0,e3,e4,e5,e10,e11,e12,hk,hn⟩
 by_cases hlt:i < l.length
 ·have hA:=hA hlt
  have hlt':(i:Int) < l.length:=by omega
  have w3:=wrapS (i:=i) (by omega)
  have w4:IntKind.i64.wrap ((l.length:Int) - 1)=(l.length:Int) - 1:=wrap64 (by omega) (by omega)
  rw [List.drop_eq_getElem_cons hlt,As]at hw
  generalize hx:l[i]=x at hw
  have hemp:(l.drop (i+1)).isEmpty=decide ((i:Int)=l.length - 1):=by
   by_cases e:i+1=l.length
   ·have:(i:Int)=l.length - 1:=by omega
    simp [this,List.drop_eq_nil_of_le (show l.length≤i+1 by omega)]
   ·have:¬ (i:Int)=l.length - 1:=by omega
    simp [this];omega
  have htk:(l.take (i+1)).map (·.1)=(l.take i).map (·.1)++[x.1]:=by
   rw [List.take_add_one,List.getElem?_eq_getElem hlt,hx]
   simp
  have v1:=fun s K=>HF GN x.1.s ks1 s K
  have v2:=fun s K=>HF Nt x.1.n ks2 s K
  obtain⟨es1',c1',k1,u1⟩:=KR GN x.1.s ks1 c1
  obtain⟨es2',c2',k2,u2⟩:=KR Nt x.1.n ks2 c2
  by_cases o1:x.1.op=1
  ·by_cases d1:(i:Int)=l.length - 1
   ·have hT:((i:Int)=(l.length:Int) - 1)=True:=eq_true d1
    by_cases d2:x.1.s=emp
    ·by_cases d3:x.1.n=0
     ·have hh:Aq x.1 (l.drop (i+1)).isEmpty=true:=by simp [Aq,o1,hemp,d1,d2,d3]
      rw [hh,Bool.true_and,if_pos o1,List.drop_eq_nil_of_le (by omega),As]at hw
      simp -implicitDefEqProofs (disch:=first|omega|simp only[nx4]<;>omega|fail) [e0,e3,e10,e11,e12,hlt',hx,o1,w4,hT,Az,d2,d3,w3]
      refine AK (l.length - (i+1)) (by omega) ⟨i+1,kd,ls,ln,es1,es2,c1,c2,by omega,rfl,?_,fun h=>?_,ks1,ks2,?_,?_,?_,?_,?_,?_,?_,?_,rfl,?_,?_⟩
      ·rw [List.drop_eq_nil_of_le (by omega),As];exact hw
      ·omega
      all_goals (try simp -implicitDefEqProofs (disch:=first|omega|simp only[nx4]<;>omega|fail) [e0,e3,e4,e5,e10,e11,hk,hm1,hm2])
      all_goals omega
     ·have hh:Aq x.1 (l.drop (i+1)).isEmpty=false:=by simp [Aq,o1,d3]
      rw [hh,Bool.false_and]at hw
      simp -implicitDefEqProofs (disch:=first|omega|simp only[nx4]<;>omega|fail) [e0,e3,e10,e11,e12,hlt',hx,o1,w4,hT,Az,d2,d3,← hw,hk]
    ·have hh:Aq x.1 (l.drop (i+1)).isEmpty=false:=by simp [Aq,o1,d2]
     rw [hh,Bool.false_and]at hw
     simp -implicitDefEqProofs (disch:=first|omega|simp only[nx4]<;>omega|fail) [e0,e3,e10,e11,e12,hlt',hx,o1,w4,hT,Az,d2,← hw,hk]
   ·have hh:Aq x.1 (l.drop (i+1)).isEmpty=false:=by simp [Aq,o1,hemp,d1]
    rw [hh,Bool.false_and]at hw
    simp -implicitDefEqProofs (disch:=first|omega|simp only[nx4]<;>omega|fail) [e0,e3,e10,e11,e12,hlt',hx,o1,w4,d1,← hw,hk]
  rw [if_neg o1]at hw
  by_cases o2:x.1.op=2
  ·have h34:=p74 x.1.s
   cases hnm:nm x.1.s with
   | false =>
    rw [hnm]at h34
    have hh:Aq x.1 (l.drop (i+1)).isEmpty=false:=by simp [Aq,o2,hnm]
    rw [hh,Bool.false_and]at hw
    simp -implicitDefEqProofs (disch:=first|omega|simp only[nx4]<;>omega|fail) [e0,e3,e10,e11,e12,hlt',hx,o2]
    refine AA h34 fun mm1 hm1=>?_
    try simp only [nx4]at hm1
    simp -implicitDefEqProofs (disch:=first|omega|simp only[nx4]<;>omega|fail) [← hw,hk]
   | true =>
    rw [hnm]at h34
    rw [hA.two x.1 o2]at hw
    by_cases d0:x.1.s∈ls
    ·have d0':decide (x.1.s∈ls)=true:=decide_eq_true d0
     rw [d0',Bool.not_true,Bool.and_false,Bool.false_and,Bool.and_false]at hw
     simp -implicitDefEqProofs (disch:=first|omega|simp only[nx4]<;>omega|fail) [e0,e3,e4,e5,e10,e11,e12,hlt',hx,o2]
     refine AA h34 fun mm2 hm2=>?_
     try simp only [nx4]at hm2
     simp -implicitDefEqProofs (disch:=first|omega|simp only[nx4]<;>omega|fail) [e4,e5,hm1,v1,d0,hk,← hw]
    ·have d0':decide (x.1.s∈ls)=false:=decide_eq_false d0
     rw [if_neg d0]at k1
     have h116:=WN x.1.n 0 12
     rw [d0',Bool.not_false,Bool.and_true]at hw
     by_cases d1:0≤x.1.n∧x.1.n≤12
     ·have hh:Aq x.1 (l.drop (i+1)).isEmpty=true:=by simp [Aq,o2,hnm,d1]
      rw [hh,Bool.true_and]at hw
      have d1':(decide (0≤x.1.n) && decide (x.1.n≤12))=true:=by simp [d1]
      rw [d1']at h116
      simp -implicitDefEqProofs (disch:=first|omega|simp only[nx4]<;>omega|fail) [e0,e3,e4,e5,e10,e11,e12,hlt',hx,o2]
      refine AA h34 fun mm3 hm3=>?_
      try simp only [nx4]at hm3
      simp -implicitDefEqProofs (disch:=first|omega|simp only[nx4]<;>omega|fail) [e4,e5,hm1,v1,d0]
      refine AA h116 fun mm4 hm4=>?_
      try simp only [nx4]at hm4
      simp -implicitDefEqProofs (disch:=first|omega|simp only[nx4]<;>omega|fail) [e4,hm1,u1]
      by_cases q:kd=0∨kd=2
      ·have hq:(decide (kd=0) || decide (kd=2))=true:=by rcases q with h | h <;> simp [h]
       rw [hq,Bool.true_and]at hw
       have hA':=hA.AJd x.1 o2 q d0
       rcases q with q0 | q0
       all_goals
        simp -implicitDefEqProofs (disch:=first|omega|simp only[nx4]<;>omega|fail) [e3,q0,e12,w3]
        refine AK (l.length - (i+1)) (by omega) ⟨i+1,2,ls++[x.1.s],ln,es1',es2,c1',c2,by omega,rfl,?_,fun _=>?_,k1,ks2,?_,?_,?_,?_,?_,?_,?_,?_,rfl,?_,?_⟩
        ·rw [htk];exact hw
        ·rw [htk];exact hA'
        all_goals (try simp -implicitDefEqProofs (disch:=first|omega|simp only[nx4]<;>omega|fail) [e0,e3,e4,e5,e10,e11,hk,hm1,hm2,o2])
        all_goals omega
      ·have hq:(decide (kd=0) || decide (kd=2))=false:=by simpa [not_or] using q
       rw [hq,Bool.false_and]at hw
       have q1:¬ kd=0:=fun h=>q (.inl h)
       have q2:¬ kd=2:=fun h=>q (.inr h)
       simp -implicitDefEqProofs (disch:=first|omega|simp only[nx4]<;>omega|fail) [e3,q1,q2,← hw,hk]
     ·have hh:Aq x.1 (l.drop (i+1)).isEmpty=false:=by simp [Aq,o2,hnm];omega
      rw [hh,Bool.false_and]at hw
      have d1':(decide (0≤x.1.n) && decide (x.1.n≤12))=false:=by
       by_cases q:0≤x.1.n
       ·have:¬ x.1.n≤12:=fun h=>d1 ⟨q,h⟩
        simp [this]
       ·simp [q]
      rw [d1']at h116
      simp -implicitDefEqProofs (disch:=first|omega|simp only[nx4]<;>omega|fail) [e0,e3,e4,e5,e10,e11,e12,hlt',hx,o2]
      refine AA h34 fun mm5 hm5=>?_
      try simp only [nx4]at hm5
      simp -implicitDefEqProofs (disch:=first|omega|simp only[nx4]<;>omega|fail) [e4,e5,hm1,v1,d0]
      refine AA h116 fun mm6 hm6=>?_
      try simp only [nx4]at hm6
      simp -implicitDefEqProofs (disch:=first|omega|simp only[nx4]<;>omega|fail) [hk,← hw]
  ·by_cases o3:x.1.op=3
   ·rw [hA.three x.1 o3]at hw
    by_cases d1:x.1.s=emp
    ·have hh:Aq x.1 (l.drop (i+1)).isEmpty=true:=by simp [Aq,o3,d1]
     rw [hh,Bool.true_and]at hw
     by_cases d0:x.1.n∈ln
     ·have d0':decide (x.1.n∈ln)=true:=decide_eq_true d0
      rw [d0',Bool.not_true,Bool.and_false,Bool.false_and]at hw
      simp -implicitDefEqProofs (disch:=first|omega|simp only[nx4]<;>omega|fail) [e0,e3,e4,e5,e10,e11,e12,hlt',hx,o3,Az,d1,hm2,v2,d0,hk,← hw]
     ·have d0':decide (x.1.n∈ln)=false:=decide_eq_false d0
      rw [if_neg d0]at k2
      rw [d0',Bool.not_false,Bool.and_true]at hw
      simp -implicitDefEqProofs (disch:=first|omega|simp only[nx4]<;>omega|fail) [e0,e3,e4,e5,e10,e11,e12,hlt',hx,o3,Az,d1,hm2,v2,d0,u2]
      by_cases q:kd=0∨kd=3
      ·have hq:(decide (kd=0) || decide (kd=3))=true:=by rcases q with h | h <;> simp [h]
       rw [hq,Bool.true_and]at hw
       have hA':=hA.AJe x.1 o3 q d0
       rcases q with q0 | q0
       all_goals
        simp -implicitDefEqProofs (disch:=first|omega|simp only[nx4]<;>omega|fail) [e3,q0,e12,w3]
        refine AK (l.length - (i+1)) (by omega) ⟨i+1,3,ls,ln++[x.1.n],es1,es2',c1,c2',by omega,rfl,?_,fun _=>?_,ks1,k2,?_,?_,?_,?_,?_,?_,?_,?_,rfl,?_,?_⟩
        ·rw [htk];exact hw
        ·rw [htk];exact hA'
        all_goals (try simp -implicitDefEqProofs (disch:=first|omega|simp only[nx4]<;>omega|fail) [e0,e3,e4,e5,e10,e11,hk,hm1,hm2,o3])
        all_goals omega
      ·have hq:(decide (kd=0) || decide (kd=3))=false:=by simpa [not_or] using q
       rw [hq,Bool.false_and]at hw
       have q1:¬ kd=0:=fun h=>q (.inl h)
       have q2:¬ kd=3:=fun h=>q (.inr h)
       simp -implicitDefEqProofs (disch:=first|omega|simp only[nx4]<;>omega|fail) [e3,q1,q2,← hw,hk]
    ·have hh:Aq x.1 (l.drop (i+1)).isEmpty=false:=by simp [Aq,o3,d1]
     rw [hh,Bool.false_and]at hw
     simp -implicitDefEqProofs (disch:=first|omega|simp only[nx4]<;>omega|fail) [e0,e3,e4,e5,e10,e11,e12,hlt',hx,o3,Az,d1,hk,← hw]
   ·have hh:Aq x.1 (l.drop (i+1)).isEmpty=false:=by simp [Aq,o1,o2,o3]
    rw [hh,Bool.false_and]at hw
    simp -implicitDefEqProofs (disch:=first|omega|simp only[nx4]<;>omega|fail) [e0,e3,e4,e5,e10,e11,e12,hlt',hx,o1,o2,o3,hk,← hw]
 ·have hlt':¬ (i:Int) < l.length:=by omega
  rw [List.drop_eq_nil_of_le (by omega),As]at hw
  simp -implicitDefEqProofs (disch:=first|omega|simp only[nx4]<;>omega|fail) [e10,e11,e12,hlt',← hw,hk]
def BW (t:Pl):Bool :=
 if t.op=1 then decide (0≤t.n) && decide (t.args.length=0)
 else if t.op=2 then nm t.s && decide (t.args.length=0)
 else if t.op=3 then decide (t.args.length=0)
 else if t.op=4 then nm t.s && decide (t.args.length≤12)
 else if t.op=5 then(decide (1≤t.n) && decide (t.n≤8)) && decide (t.args.length=1)
 else if t.op=6 then decide (2≤t.args.length) && decide (t.args.length≤9)
 else if t.op=7 then decide (2≤t.args.length) && decide (t.args.length≤13)
 else if t.op=8 then decide (t.args.length=1) && (decide (1≤t.alts.length) && decide (t.alts.length≤40) && As [] t.alts)
 else if t.op=9 then(match arI t.s with | some k=>decide ((t.args.length:Int)=k) | none=>false)
 else false
def BI (t:Pl):Bool :=
 !(decide (t.op≠8) && decide (0 < t.alts.length)) && !(decide (t.n≠0) && decide (t.op≠1) && decide (t.op≠3) && decide (t.op≠5)) && !(decide (t.s≠emp) && decide (t.op≠2) && decide (t.op≠4) && decide (t.op≠9)) && BW t
theorem AC1 {α:Type} (l:List α):((l.length:Int)=0)=(l.length=0):=by simp
theorem AC2 {α:Type} (l:List α):((l.length:Int)=1)=(l.length=1):=by apply propext;omega
set_option maxHeartbeats 4000000 in
theorem AJg (t:Pl):AF Tryz.prog 140 [t.av] (.bool (BI t)):=by
 refine AF.intro fun s=>AD mixed Tryz.func140 Tryz.call140 k140.2 rfl (AE _ _ _ _ ?_)
 by_cases a:t.op≠8∧0 < t.alts.length
 ·obtain⟨a1,a2⟩:=a
  simp -implicitDefEqProofs (disch:=first|omega|simp only[nx4]<;>omega|fail) [k140,BI,a1,a2]
 by_cases b:t.n≠0∧t.op≠1∧t.op≠3∧t.op≠5
 ·obtain⟨b1,b2,b3,b4⟩:=b
  by_cases a1:t.op=8
  ·simp -implicitDefEqProofs (disch:=first|omega|simp only[nx4]<;>omega|fail) [k140,BI,a1,b1]
  ·have a2:¬ 0 < t.alts.length:=fun h=>a ⟨a1,h⟩
   simp -implicitDefEqProofs (disch:=first|omega|simp only[nx4]<;>omega|fail) [k140,BI,a1,a2,b1,b2,b3,b4]
 by_cases c:t.s≠emp∧t.op≠2∧t.op≠4∧t.op≠9
 ·obtain⟨c1,c2,c3,c4⟩:=c
  by_cases a1:t.op=8
  ·have b1:t.n=0:=by
    by_cases q:t.n=0
    ·exact q
    ·exact absurd ⟨q,by omega,by omega,by omega⟩ b
   simp -implicitDefEqProofs (disch:=first|omega|simp only[nx4]<;>omega|fail) [k140,BI,a1,b1,Az,c1]
  ·have a2:¬ 0 < t.alts.length:=fun h=>a ⟨a1,h⟩
   by_cases b1:t.n=0
   ·simp -implicitDefEqProofs (disch:=first|omega|simp only[nx4]<;>omega|fail) [k140,BI,a1,a2,b1,Az,c1,c2,c3,c4]
   ·by_cases b2:t.op=1
    ·simp -implicitDefEqProofs (disch:=first|omega|simp only[nx4]<;>omega|fail) [k140,BI,a2,b1,b2,Az,c1]
    ·by_cases b3:t.op=3
     ·simp -implicitDefEqProofs (disch:=first|omega|simp only[nx4]<;>omega|fail) [k140,BI,a2,b1,b3,Az,c1]
     ·by_cases b4:t.op=5
      ·simp -implicitDefEqProofs (disch:=first|omega|simp only[nx4]<;>omega|fail) [k140,BI,a2,b1,b4,Az,c1]
      ·exact absurd ⟨b1,b2,b3,b4⟩ b
 have a0:t.op≠8→¬ 0 < t.alts.length:=fun h1 h2=>a ⟨h1,h2⟩
 have n0:t.op≠1→t.op≠3→t.op≠5→t.n=0:=fun h1 h2 h3=>by
  by_cases q:t.n=0
  ·exact q
  ·exact absurd ⟨q,h1,h2,h3⟩ b
 have s0:t.op≠2→t.op≠4→t.op≠9→t.s=emp:=fun h1 h2 h3=>by
  by_cases q:t.s=emp
  ·exact q
  ·exact absurd ⟨q,h1,h2,h3⟩ c
 have hk:BI t=BW t:=by
  have e1:(decide (t.op≠8) && decide (0 < t.alts.length))=false:=by
   by_cases q:t.op=8
   ·simp [q]
   ·have:=a0 q
    simp [this]
  have e2:(decide (t.n≠0) && decide (t.op≠1) && decide (t.op≠3) && decide (t.op≠5))=false:=by
   by_cases q1:t.op=1
   ·simp [q1]
   by_cases q2:t.op=3
   ·simp [q2]
   by_cases q3:t.op=5
   ·simp [q3]
   simp [n0 q1 q2 q3]
  have e3:(decide (t.s≠emp) && decide (t.op≠2) && decide (t.op≠4) && decide (t.op≠9))=false:=by
   by_cases q1:t.op=2
   ·simp [q1]
   by_cases q2:t.op=4
   ·simp [q2]
   by_cases q3:t.op=9
   ·simp [q3]
   simp [s0 q1 q2 q3]
  rw [BI,e1,e2,e3]
  rfl
 rw [hk]
 by_cases o1:t.op=1
 ·have q1:=a0 (by omega)
  have q3:=s0 (by omega) (by omega) (by omega)
  by_cases p1:0≤t.n <;> by_cases p2:t.args.length=0 <;> by_cases p3:t.n=0 <;> first | omega | simp -implicitDefEqProofs (disch:=first|omega|simp only[nx4]<;>omega|fail) [k140,Az,o1,q1,q3,BW,AC1,p1,p2,p3]
 by_cases o2:t.op=2
 ·have q1:=a0 (by omega)
  have q2:=n0 (by omega) (by omega) (by omega)
  have h34:=p34 t.s
  cases hnm:nm t.s <;> rw [hnm]at h34 <;> by_cases p2:t.args=[] <;> by_cases p3:t.s=emp
  all_goals
   simp -implicitDefEqProofs (disch:=first|omega|simp only[nx4]<;>omega|fail) [k140,Az,o2,q1,q2,BW,p3,hnm]
   try rw [p3]at h34
   refine AA h34 fun m1 hm1=>?_
   simp -implicitDefEqProofs (disch:=first|omega|simp only[nx4]<;>omega|fail) [AC1,p2,hnm]
   try (rw [p3]at hnm;simp [hnm])
 by_cases o3:t.op=3
 ·have q1:=a0 (by omega)
  have q3:=s0 (by omega) (by omega) (by omega)
  by_cases p3:t.n=0 <;> by_cases p2:t.args.length=0 <;> first | omega | simp -implicitDefEqProofs (disch:=first|omega|simp only[nx4]<;>omega|fail) [k140,Az,o3,q1,q3,BW,AC1,p3,p2]
 by_cases o4:t.op=4
 ·have q1:=a0 (by omega)
  have q2:=n0 (by omega) (by omega) (by omega)
  have r2:((t.args.length:Int)≤12)=(t.args.length≤12):=by apply propext;omega
  have h34:=p34 t.s
  cases hnm:nm t.s <;> rw [hnm]at h34 <;> by_cases p2:t.args.length≤12 <;> by_cases p3:t.s=emp
  all_goals
   simp -implicitDefEqProofs (disch:=first|omega|simp only[nx4]<;>omega|fail) [k140,Az,o4,q1,q2,BW,p3,hnm]
   try rw [p3]at h34
   refine AA h34 fun m1 hm1=>?_
   simp -implicitDefEqProofs (disch:=first|omega|simp only[nx4]<;>omega|fail) [r2,p2,hnm]
   try (rw [p3]at hnm;simp [hnm])
 by_cases o5:t.op=5
 ·have q1:=a0 (by omega)
  have q3:=s0 (by omega) (by omega) (by omega)
  by_cases p1:1≤t.n <;> by_cases p4:t.n≤8 <;> by_cases p3:t.n=0 <;> by_cases p2:t.args.length=1 <;> first | omega | simp -implicitDefEqProofs (disch:=first|omega|simp only[nx4]<;>omega|fail) [k140,Az,o5,q1,q3,BW,AC2,p1,p4,p3,p2]
 by_cases o6:t.op=6
 ·have q1:=a0 (by omega)
  have q2:=n0 (by omega) (by omega) (by omega)
  have q3:=s0 (by omega) (by omega) (by omega)
  have r1:((2:Int)≤(t.args.length:Int))=(2≤t.args.length):=by apply propext;omega
  have r2:((t.args.length:Int)≤9)=(t.args.length≤9):=by apply propext;omega
  by_cases p1:2≤t.args.length <;> by_cases p2:t.args.length≤9 <;> first | omega | simp -implicitDefEqProofs (disch:=first|omega|simp only[nx4]<;>omega|fail) [k140,Az,o6,q1,q2,q3,BW,r1,r2,p1,p2]
 by_cases o7:t.op=7
 ·have q1:=a0 (by omega)
  have q2:=n0 (by omega) (by omega) (by omega)
  have q3:=s0 (by omega) (by omega) (by omega)
  have r1:((2:Int)≤(t.args.length:Int))=(2≤t.args.length):=by apply propext;omega
  have r2:((t.args.length:Int)≤13)=(t.args.length≤13):=by apply propext;omega
  by_cases p1:2≤t.args.length <;> by_cases p2:t.args.length≤13 <;> first | omega | simp -implicitDefEqProofs (disch:=first|omega|simp only[nx4]<;>omega|fail) [k140,Az,o7,q1,q2,q3,BW,r1,r2,p1,p2]
 by_cases o8:t.op=8
 ·have q2:=n0 (by omega) (by omega) (by omega)
  have q3:=s0 (by omega) (by omega) (by omega)
  by_cases p2:t.args.length=1
  ·simp -implicitDefEqProofs (disch:=first|omega|simp only[nx4]<;>omega|fail) [k140,Az,o8,q2,q3,BW,AC2,p2]
   refine AA (AJh t.alts) fun mm1 hm1=>?_
   try simp only [nx4]at hm1
   simp -implicitDefEqProofs (disch:=first|omega|simp only[nx4]<;>omega|fail)
  ·simp -implicitDefEqProofs (disch:=first|omega|simp only[nx4]<;>omega|fail) [k140,Az,o8,q2,q3,BW,AC2,p2]
 by_cases o9:t.op=9
 ·have q1:=a0 (by omega)
  have q2:=n0 (by omega) (by omega) (by omega)
  have h176:=AJi t.s
  unfold arR at h176
  by_cases p3:t.s=emp
  ·simp -implicitDefEqProofs (disch:=first|omega|simp only[nx4]<;>omega|fail) [k140,Az,o9,q1,q2,BW,p3]
   rw [p3]at h176
   have he:arI emp=none:=by kernel_rfl
   rw [he]at h176
   refine AA h176 fun mm2 hm2=>?_
   try simp only [nx4]at hm2
   simp -implicitDefEqProofs (disch:=first|omega|simp only[nx4]<;>omega|fail) [he]
  ·cases har:arI t.s with
   | none =>
    rw [har]at h176
    simp -implicitDefEqProofs (disch:=first|omega|simp only[nx4]<;>omega|fail) [k140,Az,o9,q1,q2,BW,p3]
    refine AA h176 fun mm3 hm3=>?_
    try simp only [nx4]at hm3
    simp -implicitDefEqProofs (disch:=first|omega|simp only[nx4]<;>omega|fail) [har]
   | some k =>
    rw [har]at h176
    simp -implicitDefEqProofs (disch:=first|omega|simp only[nx4]<;>omega|fail) [k140,Az,o9,q1,q2,BW,p3]
    refine AA h176 fun mm4 hm4=>?_
    try simp only [nx4]at hm4
    simp -implicitDefEqProofs (disch:=first|omega|simp only[nx4]<;>omega|fail) [har]
 have q1:=a0 o8
 have q2:=n0 o1 o3 o5
 have q3:=s0 o2 o4 o9
 simp -implicitDefEqProofs (disch:=first|omega|simp only[nx4]<;>omega|fail) [k140,Az,o1,o2,o3,o4,o5,o6,o7,o8,o9,q1,q2,q3,BW]
mutual
def wf:Pl→Bool
 | .mk op n s args alts=>BI (.mk op n s args alts) && wfs args && wfa alts
def wfs:List Pl→Bool
 | []=>true
 | t::ts=>wf t && wfs ts
def wfa:List (Hd × Pl)→Bool
 | []=>true
 | (_,b)::ts=>wf b && wfa ts
end
theorem LD (t:Pl):wf t=(BI t && wfs t.args && wfa t.alts):=by cases t;rw [wf];rfl
mutual
def sz:Pl→Int
 | .mk _ _ _ args alts=>1+szs args+sza alts
def szs:List Pl→Int
 | []=>0
 | t::ts=>sz t+szs ts
def sza:List (Hd × Pl)→Int
 | []=>0
 | (_,b)::ts=>1+sz b+sza ts
end
theorem Ew (t:Pl):sz t=1+szs t.args+sza t.alts:=by cases t;rw [sz];rfl
mutual
def dw:Pl→Int
 | .mk _ _ _ args alts=>1+max (dws args) (dwa alts)
def dws:List Pl→Int
 | []=>0
 | t::ts=>max (dw t) (dws ts)
def dwa:List (Hd × Pl)→Int
 | []=>0
 | (_,b)::ts=>max (1+dw b) (dwa ts)
end
theorem Fk (t:Pl):dw t=1+max (dws t.args) (dwa t.alts):=by cases t;rw [dw];rfl
theorem By:∀ (ts:List Pl),(∀ x∈ts,1≤sz x)→0≤szs ts
 | [],_=>by simp [szs]
 | t::ts,h=>by
  have:=h t (by simp)
  have:=By ts fun x hx=>h x (by simp [hx])
  simp only [szs];omega
theorem Bg:∀ (ts:List (Hd × Pl)),(∀ x∈ts,1≤sz x.2)→0≤sza ts
 | [],_=>by simp [sza]
 | (hh,t)::ts,h=>by
  have:1≤sz t:=h (hh,t) (by simp)
  have:=Bg ts fun x hx=>h x (by simp [hx])
  simp only [sza];omega
theorem Al (t:Pl):1≤sz t:=by
 induction t using Pl.ind with
 | h t ih1 ih2 =>
  have:=By _ ih1
  have:=Bg _ ih2
  rw [Ew];omega
theorem Ic:∀ (ts:List Pl),0≤dws ts
 | []=>by simp [dws]
 | t::ts=>by have:=Ic ts;simp only [dws];omega
theorem FD:∀ (ts:List (Hd × Pl)),0≤dwa ts
 | []=>by simp [dwa]
 | (_,t)::ts=>by have:=FD ts;simp only [dwa];omega
theorem BA (t:Pl):1≤dw t:=by have:=Ic t.args;rw [Fk];omega
theorem PM:∀ (ts:List Pl) (most deep n:Int),(∀ x∈ts,∀ most deep,0≤most→0≤deep→wt x most deep≤most→wt x most deep=sz x∧dw x≤2 * deep - 1)→0≤most→1≤deep→wts ts most deep n≤most →
  wts ts most deep n=n+szs ts∧dws ts≤max 0 (2 * (deep - 1) - 1)
 | [],most,deep,n,_,_,_,h1=>by simp [wts,szs,dws];omega
 | t::ts,most,deep,n,h,hm,hd,h1=>by
  simp only [wts]at h1 ⊢
  split at h1
  ·rename_i hn
   rw [if_pos hn]
   obtain⟨k1,k2⟩:=PM ts most deep (n+wt t (most - n) (deep - 1)) (fun x hx=>h x (by simp [hx])) hm hd h1
   have hpos:=By ts fun x _=>Al x
   obtain⟨q1,q2⟩:=h t (by simp) (most - n) (deep - 1) (by omega) (by omega) (by omega)
   simp only [szs,dws]
   omega
  ·omega
theorem PO:∀ (ts:List (Hd × Pl)) (most deep n:Int),(∀ x∈ts,∀ most deep,0≤most→0≤deep→wt x.2 most deep≤most→wt x.2 most deep=sz x.2∧dw x.2≤2 * deep - 1)→0≤most→1≤deep→wta ts most deep n≤most →
  wta ts most deep n=n+sza ts∧dwa ts≤max 0 (2 * (deep - 1))
 | [],most,deep,n,_,_,_,h1=>by simp [wta,sza,dwa];omega
 | (hh,t)::ts,most,deep,n,h,hm,hd,h1=>by
  simp only [wta]at h1 ⊢
  split at h1
  ·rename_i hn
   rw [if_pos hn]
   obtain⟨k1,k2⟩:=PO ts most deep (n+1+wt t (most - n) (deep - 1)) (fun x hx=>h x (by simp [hx])) hm hd h1
   have hpos:=Bg ts fun x _=>Al x.2
   obtain⟨q1,q2⟩:=h (hh,t) (by simp) (most - n) (deep - 1) (by omega) (by omega) (by simp only;omega)
   simp only at q1 q2
   simp only [sza,dwa]
   omega
  ·omega
theorem KT (t:Pl):∀ most deep,0≤most→0≤deep→wt t most deep≤most→wt t most deep=sz t∧dw t≤2 * deep - 1:=by
 induction t using Pl.ind with
 | h t ih1 ih2 =>
  intro most deep hm hd h
  rw [SW]at h ⊢
  split at h
  ·omega
  ·rename_i h0
   rw [if_neg h0]
   obtain⟨k1,k2⟩:=PO t.alts most deep _ ih2 hm (by omega) h
   have hpos:=Bg t.alts fun x _=>Al x.2
   obtain⟨k3,k4⟩:=PM t.args most deep 1 ih1 hm (by omega) (by omega)
   rw [Ew,Fk]
   omega
def cnt (n d:Int):Ax:=.box [.int .i64 n,.int .i64 d]
theorem Yq (d nn dd:Int) (o:Nat) (s:St) (K:AV→St→Prop) (hd0:0≤d) (hd:d≤1000) (h0:0≤nn) (h1:nn≤100000) (hm:s.m o=some (cnt nn dd)) (ho:o < s.nx)
  (hK:∀ m,s.nx≤m→K (.bool (decide (nn+1≤4000) && decide (d≤200))) ((s.set o (cnt (nn+1) (max dd d))).bump m)):AB Tryz.prog 115 [.ptr o 0,.int .i64 d] s K:=by
 refine AB.upd ho (AD mixed Tryz.func115 Tryz.call115 k115.2 rfl (AE _ _ _ _ ?_)) hK
 have w1:IntKind.i64.wrap (nn+1)=nn+1:=wrap64 (by omega) (by omega)
 have e1:(if dd < d then d else dd)=max dd d:=by omega
 rw [cnt]at hm
 by_cases a1:nn+1≤4000 <;> by_cases a2:d≤200 <;> simp -implicitDefEqProofs (disch:=first|omega|simp only[nx4]<;>omega|fail) [k115,hm,w1,a1,a2,e1,cnt]
def CQ (t:Pl) (s:Bool):Bool:=if t.op=9 then decide (arI t.s=some (t.args.length:Int))else if s then nm t.s else decide (t.s=emp)
def Dv (t:Pl):Bool :=
 match shp t.op with
 | none=>false
 | some (lo,hi,n,s,al)=>(decide (lo≤t.args.length) && decide ((t.args.length:Int)≤hi)) && !(!n && decide (t.n≠0)) && (al == decide (0 < t.alts.length)) && !decide (40 < t.alts.length) &&
   CQ t s && !(decide (t.op=1) && decide (t.n < 0)) && !(decide (t.op=5) && !(decide (1≤t.n) && decide (t.n≤8))) && As [] t.alts
theorem AC3 (t:ByteArray) (k:Int) (h:arI t=some k):0≤k∧k≤2:=by
 unfold arI at h
 split at h
 ·cases h
 ·have hm:=List.mem_of_getElem? h
  simp only [ars,List.mem_cons,List.not_mem_nil,or_false]at hm
  omega
set_option maxHeartbeats 2000000 in
theorem MM (t:Pl):Dv t=BI t:=by
 have hz:t.alts.length=0→As [] t.alts=true:=fun h=>by rw [List.length_eq_zero_iff.1 h,As]
 rw [Bool.eq_iff_iff]
 by_cases o:t.op=1∨t.op=2∨t.op=3∨t.op=4∨t.op=5∨t.op=6∨t.op=7∨t.op=8∨t.op=9
 ·rcases o with o | o | o | o | o | o | o | o | o
  case inr.inr.inr.inr.inr.inr.inr.inr =>
   cases ha:t.alts with
   | nil =>
    cases har:arI t.s with
    | none=>simp [Dv,BI,BW,CQ,o,shp,ha,As,har]
    | some k =>
     have:=AC3 _ _ har
     simp [Dv,BI,BW,CQ,o,shp,ha,As,har]
     omega
   | cons x r=>simp [Dv,BI,BW,CQ,o,shp,ha]
  case inr.inr.inr.inr.inr.inr.inr.inl =>
   cases ha:t.alts with
   | nil=>simp [Dv,BI,BW,CQ,o,shp,ha,As]
   | cons x r =>
    simp [Dv,BI,BW,CQ,o,shp,ha]
    grind
  all_goals
   cases ha:t.alts with
   | nil =>
    simp [Dv,BI,BW,CQ,o,shp,ha,As]
    try grind
   | cons x r=>simp [Dv,BI,BW,CQ,o,shp,ha]
 ·have:shp t.op=none:=by
   unfold shp
   split <;> first | rfl | (exfalso;omega)
  have h1:BW t=false:=by
   unfold BW
   repeat rw [if_neg (by omega)]
  simp [Dv,this,BI,h1]
def R82 (t:Pl) (nn:Int) (o:Nat) (s:St) (r:AV) (s':St):Prop:=r=.bool (wf t)∧∃ nn' dd',nn≤nn'∧nn'≤nn+sz t∧s'.m o=some (cnt nn' dd')∧Ao s o s'
def C82 (t:Pl):Prop:=∀ (d nn dd:Int) (o:Nat) (s:St),1≤d→d+dw t≤201→0≤nn→nn+sz t≤4000→s.m o=some (cnt nn dd)→o < s.nx →
 AB Tryz.prog 82 [.ptr o 0,t.av,.int .i64 d] s (R82 t nn o s)
theorem DL {s s1 s2:St} {o:Nat} (h:Ao s o s1) (h2:Ao s1 o s2) (hn:s.nx≤s1.nx):Ao s o s2:=fun q hq hne=>(h2 q (by omega) hne).trans (h q hq hne)
def AJj (t:Pl) (d nn:Int) (o:Nat) (s:St) (m:Nat) (g:Env) (s1:St):Prop :=
 ∃ (i:Nat) (nb db:Int),i≤t.alts.length∧m=t.alts.length - i∧wfa (t.alts.drop i)=wf t∧nn≤nb∧nb+sza (t.alts.drop i)≤nn+sz t∧d+1+dwa (t.alts.drop i)≤201 ∧
  g.get 0=.ptr o 0∧g.get 2=.int .i64 d∧g.get 138=.list 8 .none (t.alts.map Pl.BK)∧g.get 139=.int .i64 t.alts.length∧g.get 140=.int .i64 i∧s1.m o=some (cnt nb db)∧Ao s o s1∧s.nx≤s1.nx
theorem Yr (t:Pl) (ih2:∀ a∈t.alts,C82 a.2) (d nn:Int) (o:Nat) (s:St) (hd:1≤d) (hd2:d+1+dwa t.alts≤201) (hw:wfa t.alts=wf t) (hn:0≤nn) (hn2:nn+sz t≤4000) (nb db:Int) (hb1:nn≤nb) (hb2:nb+sza t.alts≤nn+sz t)
  (G:Env) (S:St) (g0:G.get 0=.ptr o 0) (g2:G.get 2=.int .i64 d) (g4:G.get 4=.ptr s.nx 0) (hbx:S.m s.nx=some (.box t.av.cells)) (hm:S.m o=some (cnt nb db)) (hk:Ao s o S) (hnx:s.nx < S.nx) (ho:o < s.nx) (hlen:t.alts.length≤4000) :
  go (awp Tryz.prog (.seq (.seq (.reg false EN) (.block 3 (.loop DY))) (.seq (.reg false EO) .ret)) (Dd [.tmp (true,6)] (R82 t nn o s)) G S):=by
 simp -implicitDefEqProofs (disch:=first|omega|simp only[nx4]<;>omega|fail) [EN,g4,hbx]
 refine AQ (AJj t d nn o s) t.alts.length ⟨0,nb,db,by omega,by omega,by simpa using hw,hb1,by simpa using hb2,by simpa using hd2,?_,?_,?_,?_,?_,hm,hk,by omega⟩ ?_
 iterate 5 (simp -implicitDefEqProofs (disch:=first|omega|simp only[nx4]<;>omega|fail) [g0,g2])
 rintro m g s1 ⟨i,nb,db,hi,rfl,hw,hb1,hb2,hd2,e0,e2,e138,e139,e140,hm,hk,hnx⟩
 by_cases hlt:i < t.alts.length
 ·have hlt':(i:Int) < t.alts.length:=by omega
  have w3:=wrapS (i:=i) (by omega)
  have w1:IntKind.i64.wrap (d+1)=d+1:=wrap64 (by omega) (by have:=FD (t.alts.drop i);omega)
  have w2:IntKind.i64.wrap (d+2)=d+2:=wrap64 (by omega) (by have:=FD (t.alts.drop i);omega)
  rw [List.drop_eq_getElem_cons hlt]at hw hb2 hd2
  have ihx:=ih2 _ (List.getElem_mem hlt)
  generalize hx:t.alts[i]=x at hw hb2 hd2 ihx
  obtain⟨xh,xb⟩:=x
  simp only [wfa]at hw
  simp only [sza]at hb2
  simp only [dwa]at hd2
  simp only at ihx
  have z1:=Al xb
  have z2:=Bg (t.alts.drop (i+1)) fun x _=>Al x.2
  have z3:=BA xb
  simp -implicitDefEqProofs (disch:=first|omega|simp only[nx4]<;>omega|fail) [DY,LF,RO,RP,e0,e2,e138,e139,e140,hlt',hx,w1,w2]
  refine AH (Yq (d+1) nb db o _ _ (by omega) (by omega) (by omega) (by omega) (by simp -implicitDefEqProofs (disch:=first|omega|simp only[nx4]<;>omega|fail) [hm]) soz fun m1 hm1=>AW ?_)
  try simp only [St.Dr,St.Ec,St.GF,St.GG]at hm1
  have t1:nb+1≤4000:=by omega
  have t2:d+1≤200:=by omega
  simp -implicitDefEqProofs (disch:=first|omega|simp only[nx4]<;>omega|fail) [t1,t2,e0,e2,w2]
  refine AH (AB.mono (ihx (d+2) (nb+1) (max db (d+1)) o _ (by omega) (by omega) (by omega) (by omega) smz soz) fun r s' hn' h=>AW ?_)
  try simp only [St.Dr,St.Ec,St.GF,St.GG]at hn'
  obtain⟨rfl,nn',dd',q1,q2,q3,q4⟩:=h
  have hk':Ao s o s':=DL (by simp -implicitDefEqProofs (disch:=first|omega|simp only[nx4]<;>omega|fail) [hk]) q4 soz
  cases hb:wf xb with
  | false =>
   simp -implicitDefEqProofs (disch:=first|omega|simp only[nx4]<;>omega|fail) [Nu]
   exact⟨by rw [← hw,hb,Bool.false_and],nn',dd',by omega,by omega,q3,hk'⟩
  | true =>
   rw [hb,Bool.true_and]at hw
   simp -implicitDefEqProofs (disch:=first|omega|simp only[nx4]<;>omega|fail) [RQ,e140,w3]
   refine AK (t.alts.length - (i+1)) (by omega) ⟨i+1,nn',dd',by omega,rfl,hw,by omega,by omega,by omega,?_,?_,?_,?_,rfl,q3,hk',by omega⟩
   all_goals simp -implicitDefEqProofs (disch:=first|omega|simp only[nx4]<;>omega|fail) [e0,e2,e138,e139]
 ·have hlt':¬ (i:Int) < t.alts.length:=by omega
  rw [List.drop_eq_nil_of_le (by omega)]at hw hb2
  simp only [wfa]at hw
  simp only [sza]at hb2
  simp -implicitDefEqProofs (disch:=first|omega|simp only[nx4]<;>omega|fail) [DY,LF,EO,e0,e2,e138,e139,e140,hlt']
  exact⟨by rw [← hw],nb,db,hb1,by omega,hm,hk⟩
def AJk (t:Pl) (d nn:Int) (o:Nat) (s:St) (m:Nat) (g:Env) (s1:St):Prop :=
 ∃ (i:Nat) (nb db:Int),i≤t.args.length∧m=t.args.length - i∧(wfs (t.args.drop i) && wfa t.alts)=wf t∧nn≤nb∧nb+szs (t.args.drop i)+sza t.alts≤nn+sz t∧d+dws (t.args.drop i)≤200 ∧
  g.get 0=.ptr o 0∧g.get 2=.int .i64 d∧g.get 4=.ptr s.nx 0∧g.get 124=.list 5 .none (t.args.map Pl.av)∧g.get 125=.int .i64 t.args.length∧g.get 126=.int .i64 i∧s1.m s.nx=some (.box t.av.cells)∧s1.m o=some (cnt nb db)∧Ao s o s1∧s.nx < s1.nx
theorem Ys (t:Pl) (ih1:∀ x∈t.args,C82 x) (ih2:∀ a∈t.alts,C82 a.2) (d nn:Int) (o:Nat) (s:St) (hd:1≤d) (hd2:d+dw t≤201) (hw:(wfs t.args && wfa t.alts)=wf t) (hn:0≤nn) (hn2:nn+sz t≤4000) (nb db:Int) (hb1:nn≤nb) (hb2:nb+szs t.args+sza t.alts≤nn+sz t)
  (G:Env) (S:St) (g0:G.get 0=.ptr o 0) (g2:G.get 2=.int .i64 d) (g4:G.get 4=.ptr s.nx 0) (hbx:S.m s.nx=some (.box t.av.cells)) (hm:S.m o=some (cnt nb db)) (hk:Ao s o S) (hnx:s.nx < S.nx) (ho:o < s.nx) (hla:t.args.length≤4000) (hlen:t.alts.length≤4000) :
  go (awp Tryz.prog (.seq (.seq (.reg false FR) (.block 1 (.loop EP))) (.seq (.seq (.reg false EN) (.block 3 (.loop DY))) (.seq (.reg false EO) .ret))) (Dd [.tmp (true,6)] (R82 t nn o s)) G S):=by
 have hde:=Fk t
 have hda:=FD t.alts
 have hza:=Bg t.alts fun x _=>Al x.2
 simp -implicitDefEqProofs (disch:=first|omega|simp only[nx4]<;>omega|fail) [FR,g4,hbx]
 refine AQ (AJk t d nn o s) t.args.length ⟨0,nb,db,by omega,by omega,by simpa using hw,hb1,by simpa using hb2,by simp only [List.drop_zero];omega,?_,?_,?_,?_,?_,?_,hbx,hm,hk,hnx⟩ ?_
 iterate 6 (simp -implicitDefEqProofs (disch:=first|omega|simp only[nx4]<;>omega|fail) [g0,g2,g4])
 rintro m g s1 ⟨i,nb,db,hi,rfl,hw,hb1,hb2,hd3,e0,e2,e4,e124,e125,e126,hbx,hm,hk,hnx⟩
 by_cases hlt:i < t.args.length
 ·have hlt':(i:Int) < t.args.length:=by omega
  have w3:=wrapS (i:=i) (by omega)
  have w1:IntKind.i64.wrap (d+1)=d+1:=wrap64 (by omega) (by have:=Ic (t.args.drop i);omega)
  rw [List.drop_eq_getElem_cons hlt]at hw hb2 hd3
  have ihx:=ih1 _ (List.getElem_mem hlt)
  generalize hx:t.args[i]=x at hw hb2 hd3 ihx
  simp only [wfs]at hw
  simp only [szs]at hb2
  simp only [dws]at hd3
  have z1:=Al x
  have z2:=By (t.args.drop (i+1)) fun x _=>Al x
  have z3:=BA x
  simp -implicitDefEqProofs (disch:=first|omega|simp only[nx4]<;>omega|fail) [EP,LG,RR,RS,e0,e2,e124,e125,e126,hlt',hx,w1]
  refine AH (AB.mono (ihx (d+1) nb db o _ (by omega) (by omega) (by omega) (by omega) (by simp -implicitDefEqProofs (disch:=first|omega|simp only[nx4]<;>omega|fail) [hm]) soz) fun r s' hn' h=>AW ?_)
  try simp only [St.Dr,St.Ec,St.GF,St.GG]at hn'
  obtain⟨rfl,nn',dd',q1,q2,q3,q4⟩:=h
  have hk':Ao s o s':=DL (by simp -implicitDefEqProofs (disch:=first|omega|simp only[nx4]<;>omega|fail) [hk]) q4 soz
  cases hb:wf x with
  | false =>
   simp -implicitDefEqProofs (disch:=first|omega|simp only[nx4]<;>omega|fail) [RU]
   exact⟨by rw [← hw,hb,Bool.false_and,Bool.false_and],nn',dd',by omega,by omega,q3,hk'⟩
  | true =>
   rw [hb,Bool.true_and]at hw
   simp -implicitDefEqProofs (disch:=first|omega|simp only[nx4]<;>omega|fail) [RV,e126,w3]
   refine AK (t.args.length - (i+1)) (by omega) ⟨i+1,nn',dd',by omega,rfl,hw,by omega,by omega,by omega,?_,?_,?_,?_,?_,rfl,?_,q3,hk',by omega⟩
   iterate 5 (simp -implicitDefEqProofs (disch:=first|omega|simp only[nx4]<;>omega|fail) [e0,e2,e4,e124,e125])
   rw [q4 s.nx soz (by omega)]
   simp -implicitDefEqProofs (disch:=first|omega|simp only[nx4]<;>omega|fail) [hbx]
 ·have hlt':¬ (i:Int) < t.args.length:=by omega
  rw [List.drop_eq_nil_of_le (by omega)]at hw hb2
  simp only [wfs,Bool.true_and]at hw
  simp only [szs]at hb2
  simp -implicitDefEqProofs (disch:=first|omega|simp only[nx4]<;>omega|fail) [EP,LG,e0,e2,e4,e124,e125,e126,hlt']
  refine Yr t ih2 d nn o s hd (by omega) hw hn hn2 nb db hb1 (by omega) _ _ ?_ ?_ ?_ hbx hm hk hnx ho hlen
  all_goals simp -implicitDefEqProofs (disch:=first|omega|simp only[nx4]<;>omega|fail) [e0,e2,e4]
theorem Nv:∀ (ts:List Pl),(ts.length:Int)≤szs ts
 | []=>by simp [szs]
 | t::ts=>by have:=Al t;have:=Nv ts;simp only [szs,List.length_cons];omega
theorem Nw:∀ (ts:List (Hd × Pl)),(ts.length:Int)≤sza ts
 | []=>by simp [sza]
 | (_,t)::ts=>by have:=Al t;have:=Nw ts;simp only [sza,List.length_cons];omega
def GO:Ae:=.seq (.reg false Ie) (.seq (.block 0 (.seq (.reg false Ig) (.cond (.g 76) (.reg false PQ) (.seq (.reg false MN) (.cond (.g 88) (.reg false SX) (.reg false SY)))))) (.seq (.seq (.reg false Dw) (.cond (.g 122) (.seq (.reg false FT) .ret) .skip))
 (.seq (.seq (.reg false FR) (.block 1 (.loop EP))) (.seq (.seq (.reg false EN) (.block 3 (.loop DY))) (.seq (.reg false EO) .ret)))))
theorem WO (t:Pl) (ih1:∀ x∈t.args,C82 x) (ih2:∀ a∈t.alts,C82 a.2) (d nn dd:Int) (o:Nat) (s:St) (hd:1≤d) (hd2:d+dw t≤201) (hn:0≤nn) (hn2:nn+sz t≤4000) (lo hi:Int) (bn bs al:Bool)
  (hwf:wf t=(CQ t bs && !(decide (t.op=1) && decide (t.n < 0)) && !(decide (t.op=5) && !(decide (1≤t.n) && decide (t.n≤8))) && As [] t.alts && wfs t.args && wfa t.alts))
  (G:Env) (S:St) (g0:G.get 0=.ptr o 0) (g2:G.get 2=.int .i64 d) (g4:G.get 4=.ptr s.nx 0) (g7:G.get 7=.ptr (s.nx+1) 0) (g8:G.get 8=.bool true) (hbx:S.m s.nx=some (.box t.av.cells)) (hb7:S.m (s.nx+1)=some (.box [.int .i64 lo,.int .i64 hi,.bool bn,.bool bs,.bool al]))
  (hm:S.m o=some (cnt (nn+1) dd)) (hk:Ao s o S) (hnx:s.nx+1 < S.nx) (ho:o < s.nx) :
  go (awp Tryz.prog GO (Dd [.tmp (true,6)] (R82 t nn o s)) G S):=by
 have hps:=Nv t.args
 have hpa:=Nw t.alts
 have hse:=Ew t
 have hz1:=Al t
 have hari:=LH t.s
 have hfail:∀ (s':St),wf t=false→s'.m o=some (cnt (nn+1) dd)→Ao s o s'→R82 t nn o s (.bool false) s':=fun s' h2 h5 h6=>⟨by rw [h2],nn+1,dd,by omega,by omega,h5,h6⟩
 -- behind the switch
 have hafter:∀ (v:Bool),v=CQ t bs→∀ (G:Env) (S:St),G.get 0=.ptr o 0→G.get 2=.int .i64 d→G.get 4=.ptr s.nx 0→G.get 8=.bool v→S.m s.nx=some (.box t.av.cells)→S.m o=some (cnt (nn+1) dd)→Ao s o S→s.nx+1 < S.nx →
   go (awp Tryz.prog (.seq (.seq (.reg false Dw) (.cond (.g 122) (.seq (.reg false FT) .ret) .skip)) (.seq (.seq (.reg false FR) (.block 1 (.loop EP))) (.seq (.seq (.reg false EN) (.block 3 (.loop DY))) (.seq (.reg false EO) .ret)))) (Dd [.tmp (true,6)] (R82 t nn o s)) G S):=by
  intro v hv G S g0 g2 g4 g8 hbx hm hk hnx
  rw [← hv]at hwf
  cases v with
  | false =>
   simp -implicitDefEqProofs (disch:=first|omega|simp only[nx4]<;>omega|fail) [Dw,FT,g0,g2,g4,g8,hbx]
   exact hfail _ (by rw [hwf];rfl) hm hk
  | true =>
   rw [Bool.true_and]at hwf
   by_cases o1:t.op=1∧t.n < 0
   ·obtain⟨o1,o2⟩:=o1
    simp -implicitDefEqProofs (disch:=first|omega|simp only[nx4]<;>omega|fail) [Dw,FT,g0,g2,g4,g8,hbx,o1,o2]
    exact hfail _ (by rw [hwf];simp [o1,o2]) hm hk
   have e1:(decide (t.op=1) && decide (t.n < 0))=false:=by
    by_cases q:t.op=1
    ·have:¬ t.n < 0:=fun h=>o1 ⟨q,h⟩
     simp [this]
    ·simp [q]
   rw [e1,Bool.not_false,Bool.true_and]at hwf
   have h116:=WN t.n 1 8
   generalize hq:(decide (1≤t.n) && decide (t.n≤8))=q at hwf h116
   have h117:=AHs t.alts (by omega)
   have hfin:∀ (G:Env) (S:St),G.get 0=.ptr o 0→G.get 2=.int .i64 d→G.get 4=.ptr s.nx 0→S.m s.nx=some (.box t.av.cells)→S.m o=some (cnt (nn+1) dd)→Ao s o S→s.nx+1 < S.nx→(wfs t.args && wfa t.alts)=wf t →
     go (awp Tryz.prog (.seq (.seq (.reg false FR) (.block 1 (.loop EP))) (.seq (.seq (.reg false EN) (.block 3 (.loop DY))) (.seq (.reg false EO) .ret))) (Dd [.tmp (true,6)] (R82 t nn o s)) G S) :=
    fun G S a0 a2 a4 a5 a6 a7 a8 a9=>Ys t ih1 ih2 d nn o s hd hd2 a9 hn hn2 (nn+1) dd (by omega) (by omega) G S a0 a2 a4 a5 a6 a7 (by omega) ho (by omega) (by omega)
   by_cases o5:t.op=5
   ·cases q with
    | false =>
     simp -implicitDefEqProofs (disch:=first|omega|simp only[nx4]<;>omega|fail) [Dw,g0,g2,g4,g8,hbx,o5]
     refine AA h116 fun mm1 hm1=>?_
     try simp only [nx4]at hm1
     simp -implicitDefEqProofs (disch:=first|omega|simp only[nx4]<;>omega|fail) [FT]
     exact hfail _ (by rw [hwf];simp [o5]) hm hk
    | true =>
     simp -implicitDefEqProofs (disch:=first|omega|simp only[nx4]<;>omega|fail) [Dw,g0,g2,g4,g8,hbx,o5]
     refine AA h116 fun mm2 hm2=>?_
     try simp only [nx4]at hm2
     simp -implicitDefEqProofs (disch:=first|omega|simp only[nx4]<;>omega|fail) [g4,hbx]
     cases hal:As [] t.alts <;> rw [hal]at h117 hwf
     ·refine AA h117 fun mm3 hm3=>?_
      try simp only [nx4]at hm3
      simp -implicitDefEqProofs (disch:=first|omega|simp only[nx4]<;>omega|fail) [FT]
      exact hfail _ (by rw [hwf];simp) hm hk
     ·refine AA h117 fun mm4 hm4=>?_
      try simp only [nx4]at hm4
      simp -implicitDefEqProofs (disch:=first|omega|simp only[nx4]<;>omega|fail)
      refine hfin _ _ ?_ ?_ ?_ hbx hm hk ?_ (by rw [hwf];simp [o5])
      all_goals (try simp -implicitDefEqProofs (disch:=first|omega|simp only[nx4]<;>omega|fail) [g0,g2,g4])
      all_goals omega
   ·have e5:(decide (t.op=5) && !q)=false:=by simp [o5]
    rw [e5,Bool.not_false,Bool.true_and]at hwf
    by_cases q1:t.op=1
    ·have q2:¬ t.n < 0:=fun h=>o1 ⟨q1,h⟩
     simp -implicitDefEqProofs (disch:=first|omega|simp only[nx4]<;>omega|fail) [Dw,g0,g2,g4,g8,hbx,q1,q2]
     cases hal:As [] t.alts <;> rw [hal]at h117 hwf
     ·refine AA h117 fun mm5 hm5=>?_
      try simp only [nx4]at hm5
      simp -implicitDefEqProofs (disch:=first|omega|simp only[nx4]<;>omega|fail) [FT]
      exact hfail _ (by rw [hwf];simp) hm hk
     ·refine AA h117 fun mm6 hm6=>?_
      try simp only [nx4]at hm6
      simp -implicitDefEqProofs (disch:=first|omega|simp only[nx4]<;>omega|fail)
      refine hfin _ _ ?_ ?_ ?_ hbx hm hk ?_ (by rw [hwf];simp)
      all_goals (try simp -implicitDefEqProofs (disch:=first|omega|simp only[nx4]<;>omega|fail) [g0,g2,g4])
      all_goals omega
    ·simp -implicitDefEqProofs (disch:=first|omega|simp only[nx4]<;>omega|fail) [Dw,g0,g2,g4,g8,hbx,q1,o5]
     cases hal:As [] t.alts <;> rw [hal]at h117 hwf
     ·refine AA h117 fun mm7 hm7=>?_
      try simp only [nx4]at hm7
      simp -implicitDefEqProofs (disch:=first|omega|simp only[nx4]<;>omega|fail) [FT]
      exact hfail _ (by rw [hwf];simp) hm hk
     ·refine AA h117 fun mm8 hm8=>?_
      try simp only [nx4]at hm8
      simp -implicitDefEqProofs (disch:=first|omega|simp only[nx4]<;>omega|fail)
      refine hfin _ _ ?_ ?_ ?_ hbx hm hk ?_ (by rw [hwf];simp)
      all_goals (try simp -implicitDefEqProofs (disch:=first|omega|simp only[nx4]<;>omega|fail) [g0,g2,g4])
      all_goals omega
 by_cases o9:t.op=9
 ·cases har:arI t.s with
  | none =>
   rw [har]at hari
   simp only [Option.map_none]at hari
   simp -implicitDefEqProofs (disch:=first|omega|simp only[nx4]<;>omega|fail) [GO,Ie,Ig,PQ,EM,g0,g2,g4,g7,g8,hbx,hb7,hari,A2,o9]
   refine hafter false (by simp [CQ,o9,har]) _ _ ?_ ?_ ?_ ?_ hbx hm hk hnx
   all_goals simp -implicitDefEqProofs (disch:=first|omega|simp only[nx4]<;>omega|fail) [g0,g2,g4]
  | some k =>
   rw [har]at hari
   simp only [Option.map_some]at hari
   simp -implicitDefEqProofs (disch:=first|omega|simp only[nx4]<;>omega|fail) [GO,Ie,Ig,PQ,EM,g0,g2,g4,g7,g8,hbx,hb7,hari,A2,o9]
   refine hafter (decide (k=(t.args.length:Int))) (by simp [CQ,o9,har]) _ _ ?_ ?_ ?_ ?_ hbx hm hk hnx
   all_goals simp -implicitDefEqProofs (disch:=first|omega|simp only[nx4]<;>omega|fail) [g0,g2,g4]
 ·have hlk:∃ a b,A2 true [.int .i64 0] false ((arI t.s).map (AV.int .i64))=.tup [a,.bool b]:=by
   cases arI t.s with
   | none=>exact⟨_,_,rfl⟩
   | some k=>exact⟨_,_,rfl⟩
  obtain⟨ra,rb,hlk⟩:=hlk
  cases bs with
  | true =>
   have h74:=p74 t.s
   simp -implicitDefEqProofs (disch:=first|omega|simp only[nx4]<;>omega|fail) [GO,Ie,Ig,MN,SX,EM,g0,g2,g4,g7,g8,hbx,hb7,hari,hlk,o9]
   refine AA h74 fun mm9 hm9=>?_
   try simp only [nx4]at hm9
   simp -implicitDefEqProofs (disch:=first|omega|simp only[nx4]<;>omega|fail)
   refine hafter (nm t.s) (by simp [CQ,o9]) _ _ ?_ ?_ ?_ ?_ hbx hm hk ?_
   all_goals (try simp -implicitDefEqProofs (disch:=first|omega|simp only[nx4]<;>omega|fail) [g0,g2,g4])
   all_goals omega
  | false =>
   simp -implicitDefEqProofs (disch:=first|omega|simp only[nx4]<;>omega|fail) [GO,Ie,Ig,MN,SY,EM,g0,g2,g4,g7,g8,hbx,hb7,hari,hlk,o9,Az]
   refine hafter (decide (t.s=emp)) (by simp [CQ,o9]) _ _ ?_ ?_ ?_ ?_ hbx hm hk hnx
   all_goals simp -implicitDefEqProofs (disch:=first|omega|simp only[nx4]<;>omega|fail) [g0,g2,g4]
set_option maxHeartbeats 4000000 in
theorem p82 (t:Pl):C82 t:=by
 induction t using Pl.ind with
 | h t ih1 ih2 =>
  intro d nn dd o s hd hd2 hn hn2 hm ho
  have hps:=By t.args fun x _=>Al x
  have hpa:=Bg t.alts fun x _=>Al x.2
  have hse:=Ew t
  have hde:=Fk t
  have hdp:=BA t
  have hfail:∀ (b:Bool) (s':St) (nn' dd':Int),b=false→wf t=b→nn≤nn'→nn'≤nn+sz t→s'.m o=some (cnt nn' dd')→Ao s o s'→R82 t nn o s (.bool false) s':=fun b s' nn' dd' h1 h2 h3 h4 h5 h6=>⟨by rw [h2,h1],nn',dd',h3,h4,h5,h6⟩
  refine AD mixed Tryz.func82 Tryz.call82 c82 rfl (AE _ _ _ _ ?_)
  have hwf:wf t=(Dv t && wfs t.args && wfa t.alts):=by rw [LD,MM]
  have hsf:=PR t.op
  unfold Dv at hwf
  cases hsh:shp t.op with
  | none =>
   rw [hsh]at hwf hsf
   simp -implicitDefEqProofs (disch:=first|omega|simp only[nx4]<;>omega|fail) [a82,Yt,SZ,Sa,Sb,Ih,JR,hsf,A2]
   exact⟨by rw [hwf];rfl,nn,dd,by omega,by omega,by simp -implicitDefEqProofs (disch:=first|omega|simp only[nx4]<;>omega|fail) [hm],smz⟩
  | some x =>
   obtain⟨lo,hi,bn,bs,al⟩:=x
   rw [hsh]at hwf hsf
   simp only at hwf
   simp only [Option.map_some,AC4]at hsf
   simp -implicitDefEqProofs (disch:=first|omega|simp only[nx4]<;>omega|fail) [a82,Yt,SZ,Sa,Sb,JR,hsf,A2]
   refine AH (Yq d nn dd o _ _ (by omega) (by omega) hn (by omega) (by simp -implicitDefEqProofs (disch:=first|omega|simp only[nx4]<;>omega|fail) [hm]) soz fun m1 hm1=>AW ?_)
   try simp only [St.Dr,St.Ec,St.GF,St.GG]at hm1
   have t1:nn+1≤4000:=by omega
   have t2:d≤200:=by omega
   have h116:=WN t.args.length lo hi
   generalize hc1:(decide (lo≤(t.args.length:Int)) && decide ((t.args.length:Int)≤hi))=q1 at hwf h116
   cases q1
   ·simp -implicitDefEqProofs (disch:=first|omega|simp only[nx4]<;>omega|fail) [t1,t2]
    refine AA h116 fun mm10 hm10=>?_
    try simp only [nx4]at hm10
    simp -implicitDefEqProofs (disch:=first|omega|simp only[nx4]<;>omega|fail) [Ih]
    refine hfail _ _ (nn+1) (max dd d) rfl (by rw [hwf];rfl) (by omega) (by omega) ?_ ?_
    ·exact smz
    ·exact smz
   generalize hc2:(!bn && decide (t.n≠0))=q2 at hwf
   cases q2
   case true =>
    simp only [Bool.and_eq_true,Bool.not_eq_true',decide_eq_true_eq]at hc2
    obtain⟨g1,g2⟩:=hc2
    subst g1
    simp -implicitDefEqProofs (disch:=first|omega|simp only[nx4]<;>omega|fail) [t1,t2]
    refine AA h116 fun mm11 hm11=>?_
    try simp only [nx4]at hm11
    simp -implicitDefEqProofs (disch:=first|omega|simp only[nx4]<;>omega|fail) [Ih,g2]
    refine hfail _ _ (nn+1) (max dd d) rfl (by rw [hwf];rfl) (by omega) (by omega) ?_ ?_
    ·exact smz
    ·exact smz
   case false =>
   have hN:bn=true∨(bn=false∧t.n=0):=by
    cases bn with
    | true=>exact .inl rfl
    | false=>exact .inr ⟨rfl,by simpa using hc2⟩
   have hne:0 < (t.alts.length:Int)↔0 < t.alts.length:=by omega
   have h40:40 < (t.alts.length:Int)↔40 < t.alts.length:=by omega
   have hsub:∀ q:Bool,q=true→(true && q)=true:=fun q h=>by simp [h]
   by_cases c3:al=decide (0 < t.alts.length)
   ·have e3:(al == decide (0 < t.alts.length))=true:=by rw [c3];exact beq_self_eq_true _
    rw [e3]at hwf
    by_cases c4:40 < t.alts.length
    ·have c4':(40:Int) < t.alts.length:=by omega
     have hf:wf t=false:=by rw [hwf];simp [c4]
     rcases hN with hbn | ⟨hbn,hn0⟩
     ·subst hbn
      simp -implicitDefEqProofs (disch:=first|omega|simp only[nx4]<;>omega|fail) [t1,t2]
      refine AA h116 fun mm12 hm12=>?_
      try simp only [nx4]at hm12
      simp -implicitDefEqProofs (disch:=first|omega|simp only[nx4]<;>omega|fail) [Ih,← c3,c4']
      exact hfail _ _ (nn+1) (max dd d) rfl hf (by omega) (by omega) smz smz
     ·subst hbn
      simp -implicitDefEqProofs (disch:=first|omega|simp only[nx4]<;>omega|fail) [t1,t2]
      refine AA h116 fun mm13 hm13=>?_
      try simp only [nx4]at hm13
      simp -implicitDefEqProofs (disch:=first|omega|simp only[nx4]<;>omega|fail) [Ih,← c3,c4',hn0]
      exact hfail _ _ (nn+1) (max dd d) rfl hf (by omega) (by omega) smz smz
    ·have c4':¬ (40:Int) < t.alts.length:=by omega
     have hw2:wf t=(CQ t bs && !(decide (t.op=1) && decide (t.n < 0)) && !(decide (t.op=5) && !(decide (1≤t.n) && decide (t.n≤8))) && As [] t.alts && wfs t.args && wfa t.alts):=by
      rw [hwf];simp [c4]
     rcases hN with hbn | ⟨hbn,hn0⟩
     ·subst hbn
      simp -implicitDefEqProofs (disch:=first|omega|simp only[nx4]<;>omega|fail) [t1,t2]
      refine AA h116 fun mm14 hm14=>?_
      try simp only [nx4]at hm14
      simp -implicitDefEqProofs (disch:=first|omega|simp only[nx4]<;>omega|fail) [← c3,c4']
      refine WO t ih1 ih2 d nn (max dd d) o s hd hd2 hn hn2 lo hi true bs al hw2 _ _ ?_ ?_ ?_ ?_ ?_ ?_ ?_ ?_ ?_ ?_ ho
      all_goals (try simp -implicitDefEqProofs (disch:=first|omega|simp only[nx4]<;>omega|fail))
      all_goals omega
     ·subst hbn
      simp -implicitDefEqProofs (disch:=first|omega|simp only[nx4]<;>omega|fail) [t1,t2]
      refine AA h116 fun mm15 hm15=>?_
      try simp only [nx4]at hm15
      simp -implicitDefEqProofs (disch:=first|omega|simp only[nx4]<;>omega|fail) [← c3,c4',hn0]
      refine WO t ih1 ih2 d nn (max dd d) o s hd hd2 hn hn2 lo hi false bs al hw2 _ _ ?_ ?_ ?_ ?_ ?_ ?_ ?_ ?_ ?_ ?_ ho
      all_goals (try simp -implicitDefEqProofs (disch:=first|omega|simp only[nx4]<;>omega|fail) [hn0])
      all_goals omega
   ·have e3:(al == decide (0 < t.alts.length))=false:=by simpa using c3
    have hf:wf t=false:=by rw [hwf,e3];simp
    rcases hN with hbn | ⟨hbn,hn0⟩
    ·subst hbn
     simp -implicitDefEqProofs (disch:=first|omega|simp only[nx4]<;>omega|fail) [t1,t2]
     refine AA h116 fun mm16 hm16=>?_
     try simp only [nx4]at hm16
     simp -implicitDefEqProofs (disch:=first|omega|simp only[nx4]<;>omega|fail) [Ih,c3]
     exact hfail _ _ (nn+1) (max dd d) rfl hf (by omega) (by omega) smz smz
    ·subst hbn
     simp -implicitDefEqProofs (disch:=first|omega|simp only[nx4]<;>omega|fail) [t1,t2]
     refine AA h116 fun mm17 hm17=>?_
     try simp only [nx4]at hm17
     simp -implicitDefEqProofs (disch:=first|omega|simp only[nx4]<;>omega|fail) [Ih,c3,hn0]
     exact hfail _ _ (nn+1) (max dd d) rfl hf (by omega) (by omega) smz smz
def small (t:Pl):Prop:=sz t≤4000∧dw t≤200
theorem GP {s s1 s':St} {o:Nat} (h:Ao s1 o s') (hk:Kept s s1) (ho:s.nx≤o) (hn:s.nx≤s1.nx):Kept s s':=fun q hq=>(h q (by omega) (by omega)).trans (hk q hq)
theorem p45 (t:Pl) (h:small t):AF Tryz.prog 45 [t.av] (.bool (wf t)):=by
 refine AF.intro fun s=>AD mixed Tryz.func45 Tryz.call45 k45.2 rfl (AE _ _ _ _ ?_)
 obtain⟨h1,h2⟩:=h
 simp -implicitDefEqProofs (disch:=first|omega|simp only[nx4]<;>omega|fail) [k45]
 refine AH (AB.mono (p82 t 1 0 0 (s.nx+1) _ (by omega) (by omega) (by omega) (by omega) (by simp -implicitDefEqProofs (disch:=first|omega|simp only[nx4]<;>omega|fail) [cnt]) smz) fun r s' hn' h=>AW ?_)
 obtain⟨rfl,nn',dd',q1,q2,q3,q4⟩:=h
 have hk:Kept s s':=GP q4 smz (by omega) soz
 simp -implicitDefEqProofs (disch:=first|omega|simp only[nx4]<;>omega|fail) [hk]
def Ht (n d:Int) (b:Bool):Ax:=.box [.int .i64 n,.int .i64 d,.bool b]
def R91 (t:Pl) (nn:Int) (o:Nat) (s:St) (r:AV) (s':St):Prop:=r=.tup []∧∃ nn' dd',nn≤nn'∧nn'≤nn+sz t∧s'.m o=some (Ht nn' dd' (!wf t))∧Ao s o s'
def C91 (t:Pl):Prop:=∀ (d nn dd:Int) (o:Nat) (s:St),1≤d→d+dw t≤201→0≤nn→nn+sz t≤4000→s.m o=some (Ht nn dd false)→o < s.nx →
 AB Tryz.prog 91 [.ptr o 0,t.av,.int .i64 d] s (R91 t nn o s)
def AJl (t:Pl) (d nn:Int) (o:Nat) (s:St) (m:Nat) (g:Env) (s1:St):Prop :=
 ∃ (i:Nat) (nb db:Int) (b:Bool),i≤t.alts.length∧m=t.alts.length - i∧(if b then wf t=false else wfa (t.alts.drop i)=wf t)∧nn≤nb∧nb+sza (t.alts.drop i)≤nn+sz t∧d+1+dwa (t.alts.drop i)≤201 ∧
  g.get 0=.ptr o 0∧g.get 2=.int .i64 d∧g.get 4=.ptr s.nx 0∧g.get 7=.int .i64 i∧s1.m s.nx=some (.box t.av.cells)∧s1.m o=some (Ht nb db b)∧Ao s o s1∧s.nx < s1.nx
theorem Sc (t:Pl) (ih2:∀ a∈t.alts,C91 a.2) (d nn:Int) (o:Nat) (s:St) (hd:1≤d) (hd2:d+1+dwa t.alts≤201) (b:Bool) (hw:if b then wf t=false else wfa t.alts=wf t) (hn:0≤nn) (hn2:nn+sz t≤4000) (nb db:Int) (hb1:nn≤nb) (hb2:nb+sza t.alts≤nn+sz t)
  (G:Env) (S:St) (g0:G.get 0=.ptr o 0) (g2:G.get 2=.int .i64 d) (g4:G.get 4=.ptr s.nx 0) (hbx:S.m s.nx=some (.box t.av.cells)) (hm:S.m o=some (Ht nb db b)) (hk:Ao s o S) (hnx:s.nx < S.nx) (ho:o < s.nx) (hlen:t.alts.length≤4000) :
  go (awp Tryz.prog (.seq (.reg false Nx) (.block 2 (.loop JS))) (Dd [] (R91 t nn o s)) G S):=by
 simp -implicitDefEqProofs (disch:=first|omega|simp only[nx4]<;>omega|fail) [Nx]
 refine AQ (AJl t d nn o s) t.alts.length ⟨0,nb,db,b,by omega,by omega,by simpa using hw,hb1,by simpa using hb2,by simpa using hd2,?_,?_,?_,?_,hbx,hm,hk,hnx⟩ ?_
 iterate 4 (simp -implicitDefEqProofs (disch:=first|omega|simp only[nx4]<;>omega|fail) [g0,g2,g4])
 rintro m g s1 ⟨i,nb,db,b,hi,rfl,hw,hb1,hb2,hd2,e0,e2,e4,e7,hbx,hm,hk,hnx⟩
 rw [Ht]at hm
 cases b with
 | true =>
  have hz:=Bg (t.alts.drop i) fun x _=>Al x.2
  rw [if_pos rfl]at hw
  by_cases hlt':(i:Int) < t.alts.length <;> simp -implicitDefEqProofs (disch:=first|omega|simp only[nx4]<;>omega|fail) [JS,Ny,e0,e2,e4,e7,hbx,hm,hlt']
  all_goals exact⟨rfl,nb,db,hb1,by omega,by rw [hm,hw];rfl,hk⟩
 | false =>
  rw [if_neg (by simp)]at hw
  by_cases hlt:i < t.alts.length
  ·have hlt':(i:Int) < t.alts.length:=by omega
   have w3:=wrapS (i:=i) (by omega)
   have w2:IntKind.i64.wrap (d+2)=d+2:=wrap64 (by omega) (by have:=FD (t.alts.drop i);omega)
   rw [List.drop_eq_getElem_cons hlt]at hw hb2 hd2
   have ihx:=ih2 _ (List.getElem_mem hlt)
   generalize hx:t.alts[i]=x at hw hb2 hd2 ihx
   obtain⟨xh,xb⟩:=x
   simp only [wfa]at hw
   simp only [sza]at hb2
   simp only [dwa]at hd2
   simp only at ihx
   have z1:=Al xb
   have z2:=Bg (t.alts.drop (i+1)) fun x _=>Al x.2
   have z3:=BA xb
   have w4:IntKind.i64.wrap (nb+1)=nb+1:=wrap64 (by omega) (by omega)
   have hne:s.nx≠o:=by omega
   simp -implicitDefEqProofs (disch:=first|omega|simp only[nx4]<;>omega|fail) [JS,Ny,WQ,WR,e0,e2,e4,e7,hbx,hm,hlt',hx,w2,w4,hne]
   refine AH (AB.mono (ihx (d+2) (nb+1) db o _ (by omega) (by omega) (by omega) (by omega) (by simp -implicitDefEqProofs (disch:=first|omega|simp only[nx4]<;>omega|fail) [Ht]) soz) fun r s' hn' h=>AW ?_)
   try simp only [St.Dr,St.Ec,St.GF,St.GG]at hn'
   obtain⟨rfl,nn',dd',q1,q2,q3,q4⟩:=h
   have hk':Ao s o s':=DL (by simp -implicitDefEqProofs (disch:=first|omega|simp only[nx4]<;>omega|fail) [hk]) q4 soz
   have hbx':s'.m s.nx=some (.box t.av.cells):=by
    rw [q4 s.nx soz (by omega)]
    simp -implicitDefEqProofs (disch:=first|omega|simp only[nx4]<;>omega|fail) [hbx,hne]
   simp -implicitDefEqProofs (disch:=first|omega|simp only[nx4]<;>omega|fail) [WS,e7,w3]
   refine AK (t.alts.length - (i+1)) (by omega) ⟨i+1,nn',dd',!wf xb,by omega,rfl,?_,by omega,by omega,by omega,?_,?_,?_,rfl,hbx',q3,hk',by omega⟩
   ·cases hb:wf xb with
    | false=>rw [hb,Bool.false_and]at hw;simp [← hw]
    | true=>rw [hb,Bool.true_and]at hw;simpa using hw
   all_goals simp -implicitDefEqProofs (disch:=first|omega|simp only[nx4]<;>omega|fail) [e0,e2,e4]
  ·have hlt':¬ (i:Int) < t.alts.length:=by omega
   rw [List.drop_eq_nil_of_le (by omega)]at hw hb2
   simp only [wfa]at hw
   simp only [sza]at hb2
   simp -implicitDefEqProofs (disch:=first|omega|simp only[nx4]<;>omega|fail) [JS,Ny,e0,e2,e4,e7,hbx,hm,hlt']
   exact⟨rfl,nb,db,hb1,by omega,by rw [hm,← hw];rfl,hk⟩
def AJm (t:Pl) (d nn:Int) (o:Nat) (s:St) (m:Nat) (g:Env) (s1:St):Prop :=
 ∃ (i:Nat) (nb db:Int) (b:Bool),i≤t.args.length∧m=t.args.length - i∧(if b then wf t=false else(wfs (t.args.drop i) && wfa t.alts)=wf t)∧nn≤nb∧nb+szs (t.args.drop i)+sza t.alts≤nn+sz t∧d+dws (t.args.drop i)≤200 ∧
  g.get 0=.ptr o 0∧g.get 2=.int .i64 d∧g.get 4=.ptr s.nx 0∧g.get 6=.int .i64 i∧s1.m s.nx=some (.box t.av.cells)∧s1.m o=some (Ht nb db b)∧Ao s o s1∧s.nx < s1.nx
theorem Se (t:Pl) (ih1:∀ x∈t.args,C91 x) (ih2:∀ a∈t.alts,C91 a.2) (d nn:Int) (o:Nat) (s:St) (hd:1≤d) (hd2:d+dw t≤201) (b:Bool) (hw:if b then wf t=false else(wfs t.args && wfa t.alts)=wf t) (hn:0≤nn) (hn2:nn+sz t≤4000) (nb db:Int) (hb1:nn≤nb) (hb2:nb+szs t.args+sza t.alts≤nn+sz t)
  (G:Env) (S:St) (g0:G.get 0=.ptr o 0) (g2:G.get 2=.int .i64 d) (g4:G.get 4=.ptr s.nx 0) (hbx:S.m s.nx=some (.box t.av.cells)) (hm:S.m o=some (Ht nb db b)) (hk:Ao s o S) (hnx:s.nx < S.nx) (ho:o < s.nx) (hla:t.args.length≤4000) (hlen:t.alts.length≤4000) :
  go (awp Tryz.prog (.seq (.seq (.reg false WT) (.block 0 (.loop PS))) (.seq (.reg false Nx) (.block 2 (.loop JS)))) (Dd [] (R91 t nn o s)) G S):=by
 have hde:=Fk t
 have hda:=FD t.alts
 have hza:=Bg t.alts fun x _=>Al x.2
 simp -implicitDefEqProofs (disch:=first|omega|simp only[nx4]<;>omega|fail) [WT]
 refine AQ (AJm t d nn o s) t.args.length ⟨0,nb,db,b,by omega,by omega,by simpa using hw,hb1,by simpa using hb2,by simp only [List.drop_zero];omega,?_,?_,?_,?_,hbx,hm,hk,hnx⟩ ?_
 iterate 4 (simp -implicitDefEqProofs (disch:=first|omega|simp only[nx4]<;>omega|fail) [g0,g2,g4])
 rintro m g s1 ⟨i,nb,db,b,hi,rfl,hw,hb1,hb2,hd3,e0,e2,e4,e6,hbx,hm,hk,hnx⟩
 have hzs:=By (t.args.drop i) fun x _=>Al x
 have hm0:=hm
 rw [Ht]at hm
 cases b with
 | true =>
  rw [if_pos rfl]at hw
  by_cases hlt':(i:Int) < t.args.length <;> simp -implicitDefEqProofs (disch:=first|omega|simp only[nx4]<;>omega|fail) [PS,Sf,e0,e2,e4,e6,hbx,hm,hlt']
  all_goals
   refine Sc t ih2 d nn o s hd (by omega) true (by rw [if_pos rfl];exact hw) hn hn2 nb db hb1 (by omega) _ _ ?_ ?_ ?_ hbx hm0 hk hnx ho hlen
   all_goals simp -implicitDefEqProofs (disch:=first|omega|simp only[nx4]<;>omega|fail) [e0,e2,e4]
 | false =>
  rw [if_neg (by simp)]at hw
  by_cases hlt:i < t.args.length
  ·have hlt':(i:Int) < t.args.length:=by omega
   have w3:=wrapS (i:=i) (by omega)
   have w1:IntKind.i64.wrap (d+1)=d+1:=wrap64 (by omega) (by have:=Ic (t.args.drop i);omega)
   rw [List.drop_eq_getElem_cons hlt]at hw hb2 hd3
   have ihx:=ih1 _ (List.getElem_mem hlt)
   generalize hx:t.args[i]=x at hw hb2 hd3 ihx
   simp only [wfs]at hw
   simp only [szs]at hb2
   simp only [dws]at hd3
   have z1:=Al x
   have z2:=By (t.args.drop (i+1)) fun x _=>Al x
   have z3:=BA x
   simp -implicitDefEqProofs (disch:=first|omega|simp only[nx4]<;>omega|fail) [PS,Sf,ABQ,e0,e2,e4,e6,hbx,hm,hlt',hx,w1]
   refine AH (AB.mono (ihx (d+1) nb db o _ (by omega) (by omega) (by omega) (by omega) (by simp -implicitDefEqProofs (disch:=first|omega|simp only[nx4]<;>omega|fail) [hm,Ht]) (by omega)) fun r s' hn' h=>AW ?_)
   obtain⟨rfl,nn',dd',q1,q2,q3,q4⟩:=h
   have hk':Ao s o s':=DL hk q4 (by omega)
   have hbx':s'.m s.nx=some (.box t.av.cells):=by
    rw [q4 s.nx (by omega) (by omega)]
    exact hbx
   simp -implicitDefEqProofs (disch:=first|omega|simp only[nx4]<;>omega|fail) [ABR,e6,w3]
   refine AK (t.args.length - (i+1)) (by omega) ⟨i+1,nn',dd',!wf x,by omega,rfl,?_,by omega,by omega,by omega,?_,?_,?_,rfl,hbx',q3,hk',by omega⟩
   ·cases hb:wf x with
    | false=>rw [hb,Bool.false_and,Bool.false_and]at hw;simp [← hw]
    | true=>rw [hb,Bool.true_and]at hw;simpa using hw
   all_goals simp -implicitDefEqProofs (disch:=first|omega|simp only[nx4]<;>omega|fail) [e0,e2,e4]
  ·have hlt':¬ (i:Int) < t.args.length:=by omega
   rw [List.drop_eq_nil_of_le (by omega)]at hw hb2
   simp only [wfs,Bool.true_and]at hw
   simp only [szs]at hb2
   simp -implicitDefEqProofs (disch:=first|omega|simp only[nx4]<;>omega|fail) [PS,Sf,e0,e2,e4,e6,hbx,hm,hlt']
   refine Sc t ih2 d nn o s hd (by omega) false (by rw [if_neg (by simp)];exact hw) hn hn2 nb db hb1 (by omega) _ _ ?_ ?_ ?_ hbx hm0 hk hnx ho hlen
   all_goals simp -implicitDefEqProofs (disch:=first|omega|simp only[nx4]<;>omega|fail) [e0,e2,e4]
theorem p91 (t:Pl):C91 t:=by
 induction t using Pl.ind with
 | h t ih1 ih2 =>
  intro d nn dd o s hd hd2 hn hn2 hm ho
  have hps:=Nv t.args
  have hpa:=Nw t.alts
  have hse:=Ew t
  have hde:=Fk t
  have hdp:=BA t
  have hz1:=Al t
  refine AD mixed Tryz.func91 Tryz.call91 c91 rfl (AE _ _ _ _ ?_)
  have h140:=AJg t
  have hwf:=LD t
  have w1:IntKind.i64.wrap (nn+1)=nn+1:=wrap64 (by omega) (by omega)
  have t1:nn+1≤4000:=by omega
  have t2:d≤200:=by omega
  have t1':¬ 4000 < nn+1:=by omega
  have t2':¬ 200 < d:=by omega
  have hne:o≠s.nx:=by omega
  rw [Ht]at hm
  cases hno:BI t <;> rw [hno]at h140 hwf
  ·simp -implicitDefEqProofs (disch:=first|omega|simp only[nx4]<;>omega|fail) [a91,AC5,WU,WV,WW,WX,hm,w1,t1',t2',hne]
   refine AA h140 fun mm1 hm1=>?_
   try simp only [nx4]at hm1
   simp -implicitDefEqProofs (disch:=first|omega|simp only[nx4]<;>omega|fail) [ABS,hm,hne]
   refine Se t ih1 ih2 d nn o s hd hd2 true (by rw [if_pos rfl,hwf];rfl) hn hn2 (nn+1) (if dd < d then d else dd) (by omega) (by omega) _ _ ?_ ?_ ?_ ?_ ?_ ?_ ?_ ho (by omega) (by omega)
   all_goals (try simp -implicitDefEqProofs (disch:=first|omega|simp only[nx4]<;>omega|fail) [Ht])
   all_goals omega
  ·simp -implicitDefEqProofs (disch:=first|omega|simp only[nx4]<;>omega|fail) [a91,AC5,WU,WV,WW,WX,hm,w1,t1',t2',hne]
   refine AA h140 fun mm2 hm2=>?_
   try simp only [nx4]at hm2
   simp -implicitDefEqProofs (disch:=first|omega|simp only[nx4]<;>omega|fail)
   refine Se t ih1 ih2 d nn o s hd hd2 false (by rw [if_neg (by simp),hwf,Bool.true_and]) hn hn2 (nn+1) (if dd < d then d else dd) (by omega) (by omega) _ _ ?_ ?_ ?_ ?_ ?_ ?_ ?_ ho (by omega) (by omega)
   all_goals (try simp -implicitDefEqProofs (disch:=first|omega|simp only[nx4]<;>omega|fail) [Ht])
   all_goals omega
theorem p51 (t:Pl) (h:small t) (s:St):AB Tryz.prog 51 [t.av] s fun r s'=>(∃ a b,r=.tup [.int .i64 a,.int .i64 b,.bool (wf t)])∧Kept s s':=by
 refine AD mixed Tryz.func51 Tryz.call51 k51.2 rfl (AE _ _ _ _ ?_)
 obtain⟨h1,h2⟩:=h
 simp -implicitDefEqProofs (disch:=first|omega|simp only[nx4]<;>omega|fail) [k51]
 refine AH (AB.mono (p91 t 1 0 0 (s.nx+1) _ (by omega) (by omega) (by omega) (by omega) (by simp -implicitDefEqProofs (disch:=first|omega|simp only[nx4]<;>omega|fail) [Ht]) smz) fun r s' hn' h=>AW ?_)
 obtain⟨rfl,nn',dd',q1,q2,q3,q4⟩:=h
 have hk:Kept s s':=GP q4 smz (by omega) soz
 rw [Ht]at q3
 cases hw:wf t <;> rw [hw]at q3
 ·simp -implicitDefEqProofs (disch:=first|omega|simp only[nx4]<;>omega|fail) [q3]
  exact hk
 ·simp -implicitDefEqProofs (disch:=first|omega|simp only[nx4]<;>omega|fail) [q3]
  exact fun m _=>hk
theorem p27 (t:Pl) (h:small t):AF Tryz.prog 27 [t.av] (.bool (wf t)):=by
 refine AF.intro fun s=>AD mixed Tryz.func27 Tryz.call27 k27.2 rfl (AE _ _ _ _ ?_)
 simp -implicitDefEqProofs (disch:=first|omega|simp only[nx4]<;>omega|fail) [k27]
 refine AH (AB.mono (p51 t h _) fun r s' hn' h=>AW ?_)
 obtain⟨⟨a,b,rfl⟩,hk⟩:=h
 have hk':Kept s s':=fun q hq=>(hk q soz).trans smz
 simp -implicitDefEqProofs (disch:=first|omega|simp only[nx4]<;>omega|fail) [hk']
end Go.AL.Dm
set_option maxRecDepth 100000
namespace Go.AL.Dm
open Go.Proofs
/- damask/damaskref15.below -/
def VY:Rg:=[oT 2 (.box (.g 0)),oT 4 (.mv cF)]
def VZ:Rg:=[oL 7 (.fa 0 (.g 2)),oL 8 (.ld (.l 7)),oT 9 (.bin .eql (.l 8) (ci 1))]
def AA6:Rg:=[oL 10 (.fa 1 (.g 2)),oL 11 (.ld (.l 10)),oL 12 (.mv (.g 1)),oL 13 (.bin .lss (.l 11) (.l 12)),oT 4 (.mv (.l 13))]
def AA7:Rg:=[oT 5 (.mv (ci 0))]
def Vb:Rg:=[oL 14 (.mv (.g 5)),oL 15 (.fa 3 (.g 2)),oL 16 (.ld (.l 15)),oL 17 (.len (.l 16)),oT 18 (.bin .lss (.l 14) (.l 17))]
def AA8:Rg:=[oL 21 (.fa 3 (.g 2)),oL 22 (.ld (.l 21)),oL 23 (.mv (.g 5)),oL 24 (.ia 5 (.l 22) (.l 23)),oL 25 (.load 5 true (.l 24)),oL 26 (.mv (.g 1)),oL 27 (.load 5 true (.g 2)),oL 28 (.ct 101 [(.l 27)]),oL 29 (.bin .add (.l 26) (.l 28)),oL 30 (.ct 61 [(.l 25),(.l 29)]),oT 31 (.un .not (.l 30))]
def ABA:Rg:=[oT 4 (.mv cF)]
def AA9:Rg:=[oL 19 (.mv (.g 5)),oL 20 (.bin .add (.l 19) (ci 1)),oT 5 (.mv (.l 20))]
def Va:Ae:=(.seq (.seq (rq Vb) (.cond (.g 18) .skip (.exit 0))) (.seq (.block 1 (.seq (.reg true AA8) (.cond (.g 31) (.seq (rq ABA) .ret) .skip))) (rq AA9)))
def ABB:Rg:=[oT 6 (.mv (ci 0))]
def Q2:Rg:=[oL 32 (.mv (.g 6)),oL 33 (.fa 4 (.g 2)),oL 34 (.ld (.l 33)),oL 35 (.len (.l 34)),oT 36 (.bin .lss (.l 32) (.l 35))]
def Vc:Rg:=[oL 39 (.fa 4 (.g 2)),oL 40 (.ld (.l 39)),oL 41 (.mv (.g 6)),oL 42 (.ia 8 (.l 40) (.l 41)),oL 43 (.fa 3 (.l 42)),oL 44 (.load 5 true (.l 43)),oL 45 (.mv (.g 1)),oL 46 (.fa 4 (.g 2)),oL 47 (.ld (.l 46)),oL 48 (.mv (.g 6)),oL 49 (.ia 8 (.l 47) (.l 48)),oL 50 (.load 8 true (.l 49)),oL 51 (.ct 95 [(.l 50)]),oL 52 (.bin .add (.l 45) (.l 51)),oL 53 (.ct 61 [(.l 44),(.l 52)]),oT 54 (.un .not (.l 53))]
def Ve:Rg:=[oT 4 (.mv cF)]
def Vd:Rg:=[oL 37 (.mv (.g 6)),oL 38 (.bin .add (.l 37) (ci 1)),oT 6 (.mv (.l 38))]
def Q1:Ae:=(.seq (.seq (rq Q2) (.cond (.g 36) .skip (.exit 2))) (.seq (.block 3 (.seq (.reg true Vc) (.cond (.g 54) (.seq (rq Ve) .ret) .skip))) (rq Vd)))
def Vf:Rg:=[oT 4 (.mv cT)]
def ACw:Ae:=(.seq (rq VY) (.seq (.seq (rq VZ) (.cond (.g 9) (.seq (rq AA6) .ret) .skip)) (.seq (.seq (rq AA7) (.block 0 (.loop Va))) (.seq (.seq (rq ABB) (.block 2 (.loop Q1))) (.seq (rq Vf) .ret)))))
def a61:F7:=⟨2,55,ACw,[.tmp (true,4)]⟩
theorem c61:A7 Tryz.prog [0,1,2,4,5,6,9,18,31,36,54] Tryz.f61=some a61:=by kernel_rfl
/- damask/damaskref15.named -/
def Vl:Rg:=[oT 2 (.box (.g 0)),oT 4 (.mv (.c nzl))]
def Vm:Rg:=[oL 7 (.fa 0 (.g 2)),oL 8 (.ld (.l 7)),oT 9 (.bin .eql (.l 8) (ci 2))]
def ABE:Rg:=[oL 10 (.mv (.g 1)),oL 11 (.fa 2 (.g 2)),oL 12 (.ld (.l 11)),oL 13 (.buildSlice 1 false [s0] 1 [(0,(.l 12))]),oL 14 (.append 1 16 (.l 10) (.l 13)),oT 1 (.mv (.l 14))]
def Vj:Rg:=[oT 5 (.mv (ci 0))]
def Vk:Rg:=[oL 15 (.mv (.g 5)),oL 16 (.fa 3 (.g 2)),oL 17 (.ld (.l 16)),oL 18 (.len (.l 17)),oT 19 (.bin .lss (.l 15) (.l 18))]
def ABC:Rg:=[oL 22 (.fa 3 (.g 2)),oL 23 (.ld (.l 22)),oL 24 (.mv (.g 5)),oL 25 (.ia 5 (.l 23) (.l 24)),oL 26 (.load 5 true (.l 25)),oL 27 (.mv (.g 1)),oL 28 (.cf 92 [(.l 26),(.l 27)]),oT 1 (.mv (.l 28))]
def ABD:Rg:=[oL 20 (.mv (.g 5)),oL 21 (.bin .add (.l 20) (ci 1)),oT 5 (.mv (.l 21))]
def SI:Ae:=(.seq (.seq (rq Vk) (.cond (.g 19) .skip (.exit 0))) (.seq (.block 1 (rq ABC)) (rq ABD)))
def SH:Rg:=[oT 6 (.mv (ci 0))]
def Vg:Rg:=[oL 29 (.mv (.g 6)),oL 30 (.fa 4 (.g 2)),oL 31 (.ld (.l 30)),oL 32 (.len (.l 31)),oT 33 (.bin .lss (.l 29) (.l 32))]
def Vh:Rg:=[oL 36 (.fa 4 (.g 2)),oL 37 (.ld (.l 36)),oL 38 (.mv (.g 6)),oL 39 (.ia 8 (.l 37) (.l 38)),oL 40 (.fa 3 (.l 39)),oL 41 (.load 5 true (.l 40)),oL 42 (.mv (.g 1)),oL 43 (.cf 92 [(.l 41),(.l 42)]),oT 1 (.mv (.l 43))]
def Vi:Rg:=[oL 34 (.mv (.g 6)),oL 35 (.bin .add (.l 34) (ci 1)),oT 6 (.mv (.l 35))]
def K5:Ae:=(.seq (.seq (rq Vg) (.cond (.g 33) .skip (.exit 2))) (.seq (.block 3 (rq Vh)) (rq Vi)))
def NP:Rg:=[oL 44 (.mv (.g 1)),oT 4 (.mv (.l 44))]
def ACx:Ae:=(.seq (rq Vl) (.seq (.seq (rq Vm) (.cond (.g 9) (rq ABE) .skip)) (.seq (.seq (rq Vj) (.block 0 (.loop SI))) (.seq (.seq (rq SH) (.block 2 (.loop K5))) (.seq (rq NP) .ret)))))
def a92:F7:=⟨2,45,ACx,[.tmp (true,4)]⟩
theorem c92:A7 Tryz.prog [0,1,2,4,5,6,9,19,33] Tryz.f92=some a92:=by kernel_rfl
def k103:CF [0,1,2,1000000000001] Tryz.f103:=by refine⟨?_,?_⟩;rotate_left;cbv;rfl
def k143:CF [0,1,3,5,7,11,12,13,14,21,24,25,26,27,36,10000000999999] Tryz.f143:=by refine⟨?_,?_⟩;rotate_left;cbv;rfl
def k104:CF [0,1,2,3,4,5,11,13,5000001] Tryz.f104:=by refine⟨?_,?_⟩;rotate_left;cbv;rfl
def k144:CF [0,1,2,3,4,5,6,7,10,14,21,22,23] Tryz.f144:=by refine⟨?_,?_⟩;rotate_left;cbv;rfl
def k47:CF [0,1,2,3,4,6,7,10] Tryz.f47:=by refine⟨?_,?_⟩;rotate_left;cbv;rfl
def k84:CF [0,1,2,1000000000001] Tryz.f84:=by refine⟨?_,?_⟩;rotate_left;cbv;rfl
def k118:CF [0,1] Tryz.f118:=by refine⟨?_,?_⟩;rotate_left;cbv;rfl
def k119:CF [0,1,2,3,4,6,10,12,14,18] Tryz.f119:=by refine⟨?_,?_⟩;rotate_left;cbv;rfl
def k75:CF [0,1,2,3,4] Tryz.f75:=by refine⟨?_,?_⟩;rotate_left;cbv;rfl
def k109:CF [0,1,3] Tryz.f109:=by refine⟨?_,?_⟩;rotate_left;cbv;rfl
def k46:CF [0,1,4] Tryz.f46:=by refine⟨?_,?_⟩;rotate_left;cbv;rfl
def k83:CF [0,1,4,5,7,8,9,16] Tryz.f83:=by refine⟨?_,?_⟩;rotate_left;cbv;rfl
def k36:CF [0,2,3,5,7,10,12,13,14,15,33,38,39,40,41,48] Tryz.f36:=by refine⟨?_,?_⟩;rotate_left;cbv;rfl
def k101:CF [0,1,2,4,5,9] Tryz.f101:=by refine⟨?_,?_⟩;rotate_left;cbv;rfl
def k95:CF [0,1,2,5] Tryz.f95:=by refine⟨?_,?_⟩;rotate_left;cbv;rfl
def k98:CF [0] Tryz.f98:=by refine⟨?_,?_⟩;rotate_left;cbv;rfl
def k31:CF [0,1,2,4,5,7,10,12,23,31] Tryz.f31:=by refine⟨?_,?_⟩;rotate_left;cbv;rfl
def k52:CF [0,1,2,3,4,5,13,29,5000001] Tryz.f52:=by refine⟨?_,?_⟩;rotate_left;cbv;rfl
def k93:CF [0] Tryz.f93:=by refine⟨?_,?_⟩;rotate_left;cbv;rfl
def k28:CF [0,1,3,4,5,6,12,21] Tryz.f28:=by refine⟨?_,?_⟩;rotate_left;cbv;rfl
def k23:CF [0,1,4,5,9,18] Tryz.f23:=by refine⟨?_,?_⟩;rotate_left;cbv;rfl
def k9:CF [0,2,3,6,10,49] Tryz.f9:=by refine⟨?_,?_⟩;rotate_left;cbv;rfl
def k141:CF [0,1,2,4,5,9] Tryz.f141:=by refine⟨?_,?_⟩;rotate_left;cbv;rfl
def k142:CF [0,1,2,5] Tryz.f142:=by refine⟨?_,?_⟩;rotate_left;cbv;rfl
end Go.AL.Dm
namespace Go.AL.Dm
open Go Go.Proofs
def inn (t:Pl):Int:=if t.op=5 then t.n else if t.op=7 then(t.args.length:Int) - 1 else 0
def bnd (a:Hd):Int:=if a.op=2 then a.n+1 else 1
theorem AHt (t:Pl) (h:t.args.length≤100000):AF Tryz.prog 141 [t.av] (.int .i64 (inn t)):=by
 refine AF.intro fun s=>AD mixed Tryz.func141 Tryz.call141 k141.2 rfl (AE _ _ _ _ ?_)
 have w1:IntKind.i64.wrap ((t.args.length:Int) - 1)=(t.args.length:Int) - 1:=wrap64 (by omega) (by omega)
 by_cases o5:t.op=5
 ·simp -implicitDefEqProofs (disch:=first|omega|simp only[nx4]<;>omega|fail) [k141,inn,o5]
 by_cases o7:t.op=7
 ·simp -implicitDefEqProofs (disch:=first|omega|simp only[nx4]<;>omega|fail) [k141,inn,o7,w1]
 simp -implicitDefEqProofs (disch:=first|omega|simp only[nx4]<;>omega|fail) [k141,inn,o5,o7]
theorem AHo (t:Pl) (h:t.args.length≤100000):AF Tryz.prog 101 [t.av] (.int .i64 (inn t)):=by
 refine AF.intro fun s=>AD mixed Tryz.func101 Tryz.call101 k101.2 rfl (AE _ _ _ _ ?_)
 have w1:IntKind.i64.wrap ((t.args.length:Int) - 1)=(t.args.length:Int) - 1:=wrap64 (by omega) (by omega)
 by_cases o5:t.op=5
 ·simp -implicitDefEqProofs (disch:=first|omega|simp only[nx4]<;>omega|fail) [k101,inn,o5]
 by_cases o7:t.op=7
 ·simp -implicitDefEqProofs (disch:=first|omega|simp only[nx4]<;>omega|fail) [k101,inn,o7,w1]
 simp -implicitDefEqProofs (disch:=first|omega|simp only[nx4]<;>omega|fail) [k101,inn,o5,o7]
theorem AC6 (a:Hd × Pl) (h:a.1.op=2→0≤a.1.n∧a.1.n≤100000):AF Tryz.prog 142 [Pl.BK a] (.int .i64 (bnd a.1)):=by
 refine AF.intro fun s=>AD mixed Tryz.func142 Tryz.call142 k142.2 rfl (AE _ _ _ _ ?_)
 by_cases o:a.1.op=2
 ·have w1:IntKind.i64.wrap (a.1.n+1)=a.1.n+1:=wrap64 (by have:=h o;omega) (by have:=h o;omega)
  simp -implicitDefEqProofs (disch:=first|omega|simp only[nx4]<;>omega|fail) [k142,bnd,o,w1]
 ·simp -implicitDefEqProofs (disch:=first|omega|simp only[nx4]<;>omega|fail) [k142,bnd,o]
theorem p95 (a:Hd × Pl) (h:a.1.op=2→0≤a.1.n∧a.1.n≤100000):AF Tryz.prog 95 [Pl.BK a] (.int .i64 (bnd a.1)):=by
 refine AF.intro fun s=>AD mixed Tryz.func95 Tryz.call95 k95.2 rfl (AE _ _ _ _ ?_)
 by_cases o:a.1.op=2
 ·have w1:IntKind.i64.wrap (1+a.1.n)=a.1.n+1:=by rw [wrap64 (by have:=h o;omega) (by have:=h o;omega)];omega
  simp -implicitDefEqProofs (disch:=first|omega|simp only[nx4]<;>omega|fail) [k95,bnd,o,w1]
 ·simp -implicitDefEqProofs (disch:=first|omega|simp only[nx4]<;>omega|fail) [k95,bnd,o]
theorem AC7 (t:Pl):AF Tryz.prog 103 [t.av] (.fn 143 [] [.Ai t.av.cells]):=by
 refine AF.intro fun s=>AD mixed Tryz.func103 Tryz.call103 k103.2 rfl (AE _ _ _ _ ?_)
 simp -implicitDefEqProofs (disch:=first|omega|simp only[nx4]<;>omega|fail) [k103]
theorem JT {P:Program} {o:Nat} {args:List AV} {s:St} {K:AV→St→Prop} (h:CL P o args s K):go (CL P o args s K):=h
def parts (t:Pl):List (Int × Pl):=t.args.map (fun x=>(inn t,x))++t.alts.map (fun a=>(bnd a.1,a.2))
theorem Dx (t:Pl):(parts t).length=t.args.length+t.alts.length:=by simp [parts]
theorem UM (t:Pl) (i:Nat) (h:i < t.args.length) (h':i < (parts t).length):(parts t)[i]=(inn t,t.args[i]):=by
 simp only [parts]
 rw [List.getElem_append_left (by simpa using h)]
 simp
theorem UN (t:Pl) (i:Nat) (h:i < t.alts.length) (h':t.args.length+i < (parts t).length):(parts t)[t.args.length+i]=(bnd t.alts[i].1,t.alts[i].2):=by
 simp only [parts]
 rw [List.getElem_append_right (by simp)]
 simp
def AHu (t:Pl) (o:Nat) (J:Nat→St→Prop) (m:Nat) (g:Env) (s1:St):Prop :=
 ∃ i:Nat,i≤t.args.length∧m=t.args.length - i∧g.get 0=.yld o∧g.get 1=.Ai t.av.cells∧g.get 3=.int .i64 (inn t)∧g.get 11=.list 5 .none (t.args.map Pl.av)∧g.get 12=.int .i64 t.args.length∧g.get 13=.int .i64 i∧J i s1
def AHv (t:Pl) (o:Nat) (J:Nat→St→Prop) (m:Nat) (g:Env) (s1:St):Prop :=
 ∃ i:Nat,i≤t.alts.length∧m=t.alts.length - i∧g.get 0=.yld o∧g.get 24=.list 8 .none (t.alts.map Pl.BK)∧g.get 25=.int .i64 t.alts.length∧g.get 26=.int .i64 i∧J (t.args.length+i) s1
theorem AC8 (t:Pl) (hla:t.args.length≤100000) (hlb:t.alts.length≤100000) (hbn:∀ a∈t.alts,a.1.op=2→0≤a.1.n∧a.1.n≤100000) (o:Nat) (J:Nat→St→Prop) (Jx:St→Prop)
  (hst:∀ i s s',J i s→(∀ q,q < s.nx→s'.m q=s.m q)→s.nx≤s'.nx→J i s')
  (hY:∀ i (hi:i < (parts t).length) s1,J i s1→CL Tryz.prog o [.int .i64 (parts t)[i].1,(parts t)[i].2.av] s1 fun r s'=>(r=.bool true∧J (i+1) s')∨(r=.bool false∧Jx s'))
  (s:St) (h0:J 0 s):AB Tryz.prog 143 [.yld o,.Ai t.av.cells] s fun _ s'=>J (parts t).length s'∨Jx s':=by
 refine AD mixed Tryz.func143 Tryz.call143 k143.2 rfl (AE _ _ _ _ ?_)
 have hpl:=Dx t
 simp -implicitDefEqProofs (disch:=first|omega|simp only[nx4]<;>omega|fail) [k143]
 refine AA (AHt t hla) fun mm1 hm1=>?_
 try simp only [nx4]at hm1
 simp -implicitDefEqProofs (disch:=first|omega|simp only[nx4]<;>omega|fail) []
 refine AQ (AHu t o J) t.args.length ⟨0,by omega,by omega,?_,?_,?_,?_,?_,?_,hst 0 s _ h0 (fun q hq=>by simp -implicitDefEqProofs (disch:=first|omega|simp only[nx4]<;>omega|fail)) soz⟩ ?_
 iterate 6 (simp -implicitDefEqProofs (disch:=first|omega|simp only[nx4]<;>omega|fail))
 rintro m g s1 ⟨i,hi,rfl,e0,e1,e3,e11,e12,e13,hJ⟩
 by_cases hlt:i < t.args.length
 ·have hlt':(i:Int) < t.args.length:=by omega
  have w3:=wrapS (i:=i) (by omega)
  have hy:=hY i (by omega)
  rw [UM t i hlt (by omega)]at hy
  generalize hx:t.args[i]=x at hy
  simp -implicitDefEqProofs (disch:=first|omega|simp only[nx4]<;>omega|fail) [e0,e1,e3,e11,e12,e13,hlt',hx]
  refine JT (CL.mono (hy _ (hst i s1 _ hJ (fun q hq=>by simp -implicitDefEqProofs (disch:=first|omega|simp only[nx4]<;>omega|fail)) smz)) fun r s' hn' h=>AW ?_)
  rcases h with ⟨rfl,hJ'⟩ | ⟨rfl,hx'⟩
  ·simp -implicitDefEqProofs (disch:=first|omega|simp only[nx4]<;>omega|fail) [e13,w3]
   refine AK (t.args.length - (i+1)) (by omega) ⟨i+1,by omega,rfl,?_,?_,?_,?_,?_,rfl,hJ'⟩
   all_goals simp -implicitDefEqProofs (disch:=first|omega|simp only[nx4]<;>omega|fail) [e0,e1,e3,e11,e12]
  ·simp -implicitDefEqProofs (disch:=first|omega|simp only[nx4]<;>omega|fail)
   exact .inr hx'
 ·have hlt':¬ (i:Int) < t.args.length:=by omega
  obtain rfl:i=t.args.length:=by omega
  simp -implicitDefEqProofs (disch:=first|omega|simp only[nx4]<;>omega|fail) [e0,e1,e3,e11,e12,e13,hlt']
  refine AQ (AHv t o J) t.alts.length ⟨0,by omega,by omega,?_,?_,?_,?_,hJ⟩ ?_
  iterate 4 (simp -implicitDefEqProofs (disch:=first|omega|simp only[nx4]<;>omega|fail) [e0])
  clear hJ e0 e1 e3 e11 e12 e13 hlt'
  rintro m g s1 ⟨i,hi,rfl,e0,e24,e25,e26,hJ⟩
  by_cases hlt:i < t.alts.length
  ·have hlt':(i:Int) < t.alts.length:=by omega
   have w3:=wrapS (i:=i) (by omega)
   have hy:=hY (t.args.length+i) (by omega)
   rw [UN t i hlt (by omega)]at hy
   have h142:=AC6 t.alts[i] (hbn _ (List.getElem_mem hlt))
   generalize hx:t.alts[i]=x at hy h142
   simp -implicitDefEqProofs (disch:=first|omega|simp only[nx4]<;>omega|fail) [e0,e24,e25,e26,hlt',hx]
   refine AO h142 ?_
   simp -implicitDefEqProofs (disch:=first|omega|simp only[nx4]<;>omega|fail)
   intro mm hmm
   refine JT (CL.mono (hy _ (hst _ s1 _ hJ (fun q hq=>by simp -implicitDefEqProofs (disch:=first|omega|simp only[nx4]<;>omega|fail)) (by show s1.nx≤mm;have h5:s1.nx+1≤mm:=hmm;omega))) fun r s' hn' h=>AW ?_)
   rcases h with ⟨rfl,hJ'⟩ | ⟨rfl,hx'⟩
   ·simp -implicitDefEqProofs (disch:=first|omega|simp only[nx4]<;>omega|fail) [e26,w3]
    refine AK (t.alts.length - (i+1)) (by omega) ⟨i+1,by omega,rfl,?_,?_,?_,rfl,hJ'⟩
    all_goals simp -implicitDefEqProofs (disch:=first|omega|simp only[nx4]<;>omega|fail) [e0,e24,e25]
   ·simp -implicitDefEqProofs (disch:=first|omega|simp only[nx4]<;>omega|fail)
    exact .inr hx'
  ·have hlt':¬ (i:Int) < t.alts.length:=by omega
   obtain rfl:i=t.alts.length:=by omega
   simp -implicitDefEqProofs (disch:=first|omega|simp only[nx4]<;>omega|fail) [e0,e24,e25,e26,hlt']
   rw [hpl]
   exact .inl hJ
end Go.AL.Dm
