/- The abstract layer: regions of open order with a call that turns objects, and a variable that is laid ahead of it or behind it. -/
import Derived.Test.YtlledcnjfgcipaaGreatDoorA12g
set_option linter.unusedVariables false
set_option linter.unusedSimpArgs false
namespace Go.AL
variable {ro:Option Nat} {P:Program} {gs:List Nat} {N:Nat} {ι ι':Nat→Option Nat} {g l:Env} {s s':St} {a:Act} {w w':World}
def lay (n:Nat) (f:Nat→Bool):Array Bool:=((List.range n).map f).toArray
theorem Oq (n:Nat) (f:Nat→Bool):(lay n f).size=n:=by simp [lay]
theorem DC (n:Nat) (f:Nat→Bool) (j:Nat):LA (lay n f) j=(decide (j < n) && f j):=by
 unfold LA lay
 by_cases h:j < n <;> simp [h]
theorem SA {n i:Nat} (f:Nat→Bool) (h:i < n):(lay n f).setIfInBounds i true=lay n (Bn i f):=by
 apply Array.ext_getElem?
 intro j
 rw [Array.getElem?_setIfInBounds]
 by_cases e:i=j
 ·subst e;simp [lay,h,Bn]
 ·simp only [e,if_false,lay,List.getElem?_toArray,List.getElem?_map]
  by_cases hj:j < n
  ·simp [List.getElem?_range hj,Bn,Ne.symm e]
  ·simp [List.getElem?_eq_none,hj]
theorem Fb {n:Nat} {f f':Nat→Bool} (h:∀ j,j < n→f j=f' j):lay n f=lay n f':=by
 unfold lay
 congr 1
 exact List.map_congr_left fun j hj=>h j (List.mem_range.1 hj)
theorem Tv [Glob] {n m:Nat} (h:m≤n):lay n (fun j=>decide (j < m))=Cm n m:=by
 apply Array.ext_getElem?
 intro j
 rw [Eo]
 simp only [lay,List.getElem?_toArray,List.getElem?_map]
 by_cases hj:j < n
 ·by_cases h2:j < m
  ·simp [List.getElem?_range hj,h2]
  ·simp [List.getElem?_range hj,h2,hj]
 ·have:¬ j < m:=by omega
  simp [List.getElem?_eq_none,hj,this]
structure ACk (ops:Array Oper) (k:Nat):Prop where
 le:k+2≤ops.size
 back:∀ (j:Nat) o,ops[j]?=some o→∀ e∈o.after.toList,Region.binds .any e=true→e.on < j
 call:∀ i,i < k→i∈(AN ops.toList []).getD k []
 AJT:k+1 ∉ (AN ops.toList []).getD k []
 free:∀ o,ops[k+1]?=some o→∀ e∈o.after.toList,Region.binds .any e=false
 all:∀ j,k+2≤j→j < ops.size→∀ i,i < j→i∈(AN ops.toList []).getD j []
 guard:∀ (j:Nat) o,ops[j]?=some o→j < k→∀ i want,o.guard=some (i,want)→i < k
theorem Ou {ops:Array Oper} {k:Nat} (h:Hh ops k=true):ACk ops k:=by
 simp only [Hh,Bool.and_eq_true,decide_eq_true_eq,List.all_eq_true,List.mem_range]at h
 obtain⟨h1,h2⟩:=h
 refine⟨h1,fun j o ho e he hb=>?_,fun i hi=>?_,?_,fun o ho e he=>?_,fun j hkj hj i hij=>?_,fun j o ho hjk i want hg=>?_⟩
 ·have:=(h2 j (Array.getElem?_eq_some_iff.1 ho).1).1.1.1.1
  rw [ho]at this
  simp only [List.all_eq_true]at this
  have:=this e he
  simpa [hb] using this
 ·have:=(h2 k (by omega)).1.1.1.2
  simp only [Bool.or_eq_true,Bool.not_eq_true',decide_eq_false_iff_not,not_true,false_or,Bool.and_eq_true,List.all_eq_true,List.mem_range,List.contains_iff_mem]at this
  exact this.1 i hi
 ·have:=(h2 k (by omega)).1.1.1.2
  simp only [Bool.or_eq_true,Bool.not_eq_true',decide_eq_false_iff_not,not_true,false_or,Bool.and_eq_true]at this
  have h3:=this.2
  intro hm
  rw [List.contains_iff_mem.2 hm]at h3
  cases h3
 ·have:=(h2 (k+1) (by omega)).1.1.2
  rw [ho]at this
  simp only [decide_true,Bool.not_true,Bool.false_or,List.all_eq_true]at this
  have:=this e he
  simpa using this
 ·have:=(h2 j hj).1.2
  simp only [Bool.or_eq_true,decide_eq_true_eq,List.all_eq_true,List.mem_range,List.contains_iff_mem]at this
  rcases this with h | h
  ·omega
  ·exact h i hij
 ·have:=(h2 j (Array.getElem?_eq_some_iff.1 ho).1).2
  rw [ho]at this
  simp only [hg,Bool.or_eq_true,decide_eq_true_eq]at this
  omega
theorem Tw [Glob] {ops:Array Oper} {k i:Nat} (hs:ACk ops k) (hi:i < k) {Q:Exit→Act→World→Prop} {K:Act→World→Prop} (h:Ba ro P (AI ops k) Q i K a w):Ba ro P ops Q i K a w:=by
 unfold Ba at h ⊢
 rw [BD hi]at h
 cases ho:ops[i]? with
 | none=>simpa only [ho] using h
 | some o =>
  simp only [ho]at h ⊢
  have:Region.wanted o (yielded (AI ops k) a.tmps)=Region.wanted o (yielded ops a.tmps):=by
   unfold Region.wanted
   cases hg:o.guard with
   | none=>rfl
   | some jw =>
    obtain⟨j,want⟩:=jw
    have:=hs.guard i o ho hi j want hg
    simp only [yielded,BD this]
  rw [this]at h
  exact h
theorem Tx {ops:Array Oper} {Q:Exit→Act→World→Prop} {K:Act→World→Prop} {i t:Nat} (ht:∀ o,ops[i]?=some o→o.dst≠some t) (h:Ba ro P ops Q i K a w) :
  Ba ro P ops Q i (fun a' w'=>K a' w'∧a'.tmps.getD t undef=a.tmps.getD t undef) a w:=by
 unfold Ba at h ⊢
 have hput:∀ (b:Act) (o:Oper) v,ops[i]?=some o→b.tmps=a.tmps→(b.put o.dst v).tmps.getD t undef=a.tmps.getD t undef:=by
  intro b o v ho hb
  have hne:=ht o ho
  cases hd:o.dst with
  | none=>simp [Act.put,hb]
  | some u =>
   have hu:u≠t:=fun e=>hne (by rw [hd,e])
   simp [Act.put,hb,Array.getElem?_setIfInBounds_ne hu]
 cases ho:ops[i]? with
 | none=>simp only [ho]at h ⊢;exact⟨h,trivial⟩
 | some o =>
  simp only [ho]at h ⊢
  split
  ·rename_i hw
   rw [if_pos hw]at h
   rcases h with h | h
   ·left
    unfold Oper.wpR at h ⊢
    generalize (execOp a.eval o).run P w=r at h ⊢
    cases r with
    | ok x w1 =>
     cases x with
     | value v=>exact⟨h,hput a o v ho rfl⟩
     | skip=>exact⟨h,hput a o _ ho rfl⟩
     | defer c=>exact⟨h,hput _ o _ ho rfl⟩
     | enter f args=>exact⟨h.1,CallsIn.mono h.2 fun e w' he=>by cases e <;> first | exact⟨he,hput a o _ ho rfl⟩ | exact he⟩
     | round l f tmps as bd=>exact⟨h.1,RoundIn.mono h.2 fun e w' he=>by cases e <;> first | exact⟨he,hput a o _ ho rfl⟩ | exact he⟩
     | row row args=>exact⟨h.1,RowsIn.mono h.2 fun v w' he=>⟨he,hput a o _ ho rfl⟩⟩
     | _=>exact h
    | halt x w1=>cases x <;> exact h
   ·exact .inr h
  ·rename_i hw
   rw [if_neg hw]at h
   exact⟨h,hput a o _ ho rfl⟩
theorem Qe [Glob] {S:AX} (hwf:WF ι S w) {X:Nat} (hι:ι X=none) {obj:Ax} (hX:S X=some obj) (o:Obj)
  (hrep:C1 (An ι X w.heap.size) (AZ (An ι X w.heap.size) S) (w.alloc o) w.heap.size obj) :
  Step ι S w (An ι X w.heap.size) S (w.alloc o)∧WF (An ι X w.heap.size) S (w.alloc o):=by
 have e:Au S X obj=S:=by
  funext q
  unfold Au
  split
  ·rename_i h;rw [h,hX]
  ·rfl
 have h1:=A8 hwf hι o obj
 have h2:=Bo hwf hι o obj
 rw [e]at h1 h2
 exact⟨h1,h2 hrep⟩
theorem Ov [Glob] {ops:Array Oper} {os:List AR} {kinds:List AOp} {K:Env→Env→St→Prop}
  (hchk:(Cp ops (AN ops.toList []) && Cq ops (AN ops.toList []))=true) (hk:B6 P gs ops.toList=some kinds) (hc:A0 P gs N ops (AN ops.toList []) kinds 0 ops.toList=some os)
  (h:BM P 0 [] os K g l s) (hrel:Rel gs N ι g l s a w) :
  ∃ rec E S nx ac M,CV P gs N ops os rec E S nx ac∧(∀ i,i < ops.size→(rec i).done=false)∧s.nx≤nx 0∧S 0=s.m∧E 0=merge gs g l∧(∀ i o,os[i]?=some o→kinds.getD i .Cj=o.op∨o.op.Ah=true)∧DI gs N ops os rec E S nx ι s w (Array.replicate ops.size false) ι M a w.drew ∧
   ∀ (ι0:Nat→Option Nat) (s0:St) (w0:World),s0.nx≤nx 0→∀ listed ι' M a' w',DI gs N ops os rec E S nx ι0 s0 w0 listed ι' M a' w'→(∀ i,i < ops.size→LA listed i=true) →
    ∃ g' l' s',Rel gs N ι' g' l' s' a' w'∧Step ι0 s0.m w0 ι' s'.m w'∧Inc ι0 ι' s0.nx s'.nx∧K g' l' s':=by
 obtain⟨hlen,hspec⟩:=Cs ops.toList 0 os hc
 simp only [Array.length_toList]at hlen
 have hop:∀ (i:Nat) o,ops[i]?=some o→∃ ao,os[i]?=some ao∧Aa P gs true o=some ao.op∧C9 gs N o.dst=some ao.dst∧EH gs ops o.guard=some ao.guard∧C6 gs (A1 ops o) ao=true:=by
  intro i o ho
  obtain⟨ao,h1,h2,h3,h4,h5,_⟩:=hspec i o (by simpa using ho)
  exact⟨ao,h1,h2,h3,h4,h5⟩
 have hkind:∀ (i:Nat) o ao,ops[i]?=some o→os[i]?=some ao→∃ kd,kinds.getD i .Cj=kd∧ao.op.Ah=kd.Ah∧(ao.op.Ah=true→∃ f as,ao.op=.call true f as)∧(ao.op.Ah=false→ao.op=kd):=by
  intro i o ao ho hao
  obtain⟨ao',h1,h2,_⟩:=hop i o ho
  rw [hao]at h1
  cases h1
  obtain⟨kd,k1,k2⟩:=Ea ops.toList kinds hk i o (by simpa using ho)
  obtain⟨f1,f2,f3⟩:=C8 h2 k2
  exact⟨kd,by simp [k1],f1,f2,f3⟩
 obtain⟨rec,E,S,nx,ac,e1,e2,e3,e4,e5,g',l',s',e6,e7,e8,e9⟩:=extract (gs:=gs) (A1:=fun i=>(ops[i]?).elim [] (A1 ops)) os 0 [] g l s (fun i ao hao=>by
  have hi:i < ops.size:=by rw [← hlen];exact(List.getElem?_eq_some_iff.1 hao).1
  have ho:ops[i]?=some ops[i]:=by simp [hi]
  obtain⟨ao',h1,h2,_,_,h5⟩:=hop i _ ho
  rw [hao]at h1
  cases h1
  obtain⟨_,_,_,hc2,_⟩:=hkind i _ ao ho hao
  refine⟨?_,hc2⟩
  rw [Nat.zero_add,ho]
  exact h5) h
 simp only [Nat.zero_add]at e5
 simp only [Bool.and_eq_true]at hchk
 obtain⟨hslots,hedges⟩:=hchk
 have D:CV P gs N ops os rec E S nx ac:=by
  refine⟨hlen,hop,fun i o h=>(e5 i o h).1,?_,?_,?_,?_⟩
  ·intro i j x y hij hx hy hcl
   have hj:j < ops.size:=(Array.getElem?_eq_some_iff.1 hy).1
   have h1:=List.all_eq_true.1 hslots j (by simpa using hj)
   have h2:=List.all_eq_true.1 h1 i (by simpa using hij)
   rw [hx,hy]at h2
   simp only [hcl,Bool.not_true,Bool.false_or,List.contains_iff_mem]at h2
   exact h2
  ·intro i j x y hij hx hy hl hw n1 n2
   have hj:j < ops.size:=by rw [← hlen];exact(List.getElem?_eq_some_iff.1 hy).1
   have hoi:ops[i]?=some (ops[i]'(by omega)):=by simp
   have hoj:ops[j]?=some ops[j]:=by simp [hj]
   obtain⟨ki,q1,q2,_,q3⟩:=hkind i _ x hoi hx
   obtain⟨kj,r1,r2,_,r3⟩:=hkind j _ y hoj hy
   obtain⟨y',s1,_,_,_,_,s6⟩:=hspec j ops[j] (by rw [Array.getElem?_toList];exact hoj)
   rw [hy]at s1
   cases s1
   simp only [Nat.zero_add]at s6
   by_cases hb:((AN ops.toList []).getD j []).contains i=true
   ·exact .inl (by simpa using hb)
   ·have s7:=s6 i hij (by simpa using hb)
    rw [q1,r1,← q3 n1,← r3 n2]at s7
    refine .inr (s7 hl ?_ n2 n1)
    rcases hw with hw | ⟨w1,w2⟩
    ·simp [hw]
    ·rcases w2 with w2 | w2 <;> simp [w1,w2]
  ·intro i o ho e he hb
   have hi:i < ops.size:=(Array.getElem?_eq_some_iff.1 ho).1
   have h1:=List.all_eq_true.1 hedges i (by simpa using hi)
   rw [ho]at h1
   simp only [Bool.and_eq_true]at h1
   have h2:=List.all_eq_true.1 h1.1 e he
   simpa [hb] using h2
  ·intro q ob hq
   rw [e2]at hq
   rw [e3]
   exact hrel.bnd.lt q ob hq
 have hs0:s.nx≤nx 0:=by rw [e3];exact Nat.le_refl _
 have hst:=Step.refl ι s.m w
 have hn:=Inc.refl ι s.nx
 have hnd:∀ i,i < ops.size→(rec i).done=false:=fun i hi=>(e5 i (os[i]'(by rw [hlen];exact hi)) (by simp [hlen,hi])).2
 refine⟨rec,E,S,nx,ac,max s.nx (nx ops.size),D,hnd,hs0,e2,e1,fun i o ho=>?_,?_,?_⟩
 ·have hi:i < ops.size:=by rw [← hlen];exact(List.getElem?_eq_some_iff.1 ho).1
  obtain⟨kd,q1,_,_,q3⟩:=hkind i ops[i] o (by simp [hi]) ho
  cases hcl:o.op.Ah with
  | true=>exact .inr rfl
  | false=>left;rw [q1,q3 hcl]
 rotate_left
 ·intro ι0 s0 w0 hs0 listed ι' M a' w' hdi hall
  have hpre:∀ j,j < ops.size→LA listed j=pre ops.size j:=fun j hj=>by rw [hall j hj];simp [pre,hj]
  have hE:∀ t,EL (Bv os) rec (E 0) ops.size (LA listed) t=E ops.size t:=fun t=>by
   rw [D.Tq ops.size (Nat.le_refl _) t]
   unfold EL
   rw [DS fun j hj _=>hpre j hj]
  have hS:SL rec (S 0) ops.size (LA listed)=s'.m:=by
   rw [e7,hlen]
   funext q
   rw [D.U9 ops.size (Nat.le_refl _) q]
   unfold SL
   rw [DS fun j hj _=>hpre j hj]
  rw [hlen]at e6 e8
  have hnM:=hdi.nM
  refine⟨g',l',s'.bump M,⟨by rw [St.bump,← hS];exact hdi.wf,⟨fun q ob hq=>?_,hdi.ιM⟩,hdi.size,hdi.defers,fun t ht=>?_,fun t ht=>?_⟩,by rw [St.bump,← hS];exact hdi.step,⟨?_,hdi.inc⟩,e9 M (by rw [e8];exact hnM)⟩
  ·simp only [St.bump]at hq ⊢
   rw [e7,hlen]at hq
   have:=D.MG ops.size (Nat.le_refl _) q ob hq
   omega
  ·have:=hdi.De t
   rw [hE,← e6,hS]at this
   simp only [merge,ht,if_true]at this
   exact this
  ·have:=hdi.De t
   rw [hE,← e6,hS]at this
   simp only [merge,ht,Bool.false_eq_true,if_false]at this
   exact this
  ·have:=D.Df (i:=0) (j:=ops.size) (Nat.zero_le _) (Nat.le_refl _)
   simp only [St.bump]
   omega
 ·have hLA:LA (Array.replicate ops.size false)=pre 0:=by
   funext j
   simp only [LA,pre]
   by_cases hj:j < ops.size <;> simp [hj]
  have hE0:∀ t,EL (Bv os) rec (E 0) ops.size (pre 0) t=E 0 t:=fun t=>(D.Tq 0 (Nat.zero_le _) t).symm
  have hS0:SL rec (S 0) ops.size (pre 0)=s.m:=by
   rw [← e2]
   funext q
   exact(D.U9 0 (Nat.zero_le _) q).symm
  refine⟨by simp,?_,?_,fun q b hq=>?_,Nat.le_max_right _ _,fun i hi _ hnew=>?_,hrel.size,hrel.defers,fun t=>?_,?_,fun q b hq hlt=>hn.2 q b hq hlt⟩
  ·rw [hLA]
   intro i o ho hL
   simp [pre]at hL
  ·rw [hLA,hS0];exact hrel.wf.drew
  ·have:=hrel.bnd.ilt q b hq
   omega
  ·cases hι:ι (nx i)with
   | none=>rfl
   | some b =>
    exfalso
    have h1:=hrel.bnd.ilt _ b hι
    have h2:=D.Df (i:=0) (j:=i) (Nat.zero_le _) (by omega)
    rw [e3]at h2
    omega
  ·rw [hLA,hE0,hS0,e1]
   refine Rep.step (CY ι s.m w) ?_
   simp only [merge]
   split
   ·rename_i ht;exact hrel.Ek t ht
   ·rename_i ht;exact hrel.loc t (by simpa using ht)
  ·rw [hLA,hS0]
   exact hst.trans (CY ι s.m w)
theorem MH [Glob] {S:AX} (hwf:WF ι S w) {X:Nat} (hι:ι X=none) {zs:List AV} (hX:S X=some (.box zs)) {e:TypeId} (hz:Ca P e=some zs) :
  ∃ z,(zeroValue e).run P w=.ok z w∧Step ι S w (An ι X w.heap.size) S (w.alloc (.cells z.cells e))∧WF (An ι X w.heap.size) S (w.alloc (.cells z.cells e)):=by
 obtain⟨i,z,hi,hiz,hzr,hz1,hzv,_⟩:=Br (ι:=ι) (F:=AZ ι S) (w:=w) hz
 have e0:Au S X (.box zs)=S:=by
  funext q
  unfold Au
  split
  ·rename_i h;rw [h,hX]
  ·rfl
 have hs:=A8 hwf hι (.cells z.cells e) (.box zs)
 rw [e0]at hs
 exact⟨z,hzv,Qe hwf hι hX _ ⟨z.cells,e,BH w _,Nat.le_of_eq hzr.1.symm,(hzr.step hs).2,fun j v _=>hz1 j v⟩⟩
theorem Km {ops:Array Oper} {Q:Exit→Act→World→Prop} {K:Act→World→Prop} {i t:Nat} {o:Oper} {e:TypeId} {z:Value} (ho:ops[i]?=some o) (hop:o.op=.alloc e) (hg:o.guard=none) (hd:o.dst=some t)
  (hzv:(zeroValue e).run P w=.ok z w) (h:K (a.put (some t) (.pointer (some ⟨w.heap.size,0,none⟩))) (w.alloc (.cells z.cells e))):Ba ro P ops Q i K a w:=by
 unfold Ba
 simp only [ho]
 have hw:Region.wanted o (yielded ops a.tmps)=true:=by simp [Region.wanted,hg]
 rw [if_pos hw]
 left
 unfold Oper.wpR
 have hr:(execOp a.eval o).run P w=.ok (.value (.pointer (some ⟨w.heap.size,0,none⟩))) (w.alloc (.cells z.cells e)):=by
  obtain⟨dst,op,type,pos,after,guard⟩:=o
  simp only at hop
  subst hop
  simp [execOp,Instr.alloc,hzv,newVar,newRow]
 rw [hr,Oper.uponIn_value,hd]
 exact h
end Go.AL
namespace Go.AL
variable {ro:Option Nat} {P:Program} {gs:List Nat} {N:Nat} {ι ι':Nat→Option Nat} {g l:Env} {s s':St} {a:Act} {w w':World}
def fOf (k:Nat) (L:Nat→Bool) (c d:Bool):Nat→Bool:=fun j=>if j < k then L j else if j=k then c else if j=k+1 then d else false
theorem Dq (k:Nat) (L:Nat→Bool) (c d:Bool):fOf k L c d (k+1)=d:=by
 unfold fOf
 rw [if_neg (by omega),if_neg (by omega),if_pos rfl]
theorem Ep (k:Nat) (L:Nat→Bool) (c d:Bool):fOf k L c d k=c:=by
 unfold fOf
 rw [if_neg (by omega),if_pos rfl]
theorem Cd {k j:Nat} (h:j < k) (L:Nat→Bool) (c d:Bool):fOf k L c d j=L j:=by
 unfold fOf
 rw [if_pos h]
theorem IK {k j:Nat} (h:k+2≤j) (L:Nat→Bool) (c d:Bool):fOf k L c d j=false:=by
 unfold fOf
 rw [if_neg (by omega),if_neg (by omega),if_neg (by omega)]
theorem Rel.YV [Glob] (h:Rel gs N ι g l s a w) {t:Nat} {v:AV} (hv:Rep ι (AZ ι s.m) w (a.tmps.getD t undef) v) {K:Env→Env→Prop} (hk:BY (some (gs.contains t,t)) v g l K) :
  ∃ g' l',K g' l'∧Rel gs N ι g' l' s a w:=by
 cases hg:gs.contains t with
 | true =>
  rw [hg]at hk
  refine⟨(t,v)::g,l,hk,h.wf,h.bnd,h.size,h.defers,fun u hu=>?_,h.loc⟩
  simp only [Env.get]
  split
  ·rename_i e;subst e;exact hv
  ·exact h.Ek u hu
 | false =>
  rw [hg]at hk
  refine⟨g,(t,v)::l,hk,h.wf,h.bnd,h.size,h.defers,h.Ek,fun u hu=>?_⟩
  simp only [Env.get]
  split
  ·rename_i e;subst e;exact hv
  ·exact h.loc u hu
theorem Ow [Glob] {ops:Array Oper} {k:Nat} {suf:List AR} {ι0:Nat→Option Nat} {s0:St} {w0:World} {K:Env→Env→St→Prop} {Q:Exit→Act→World→Prop} (hS:ACk ops k) {oc oa:Oper} (hoc:ops[k]?=some oc) (hgc:oc.guard=none)
  (hoa:ops[k+1]?=some oa) (hga:oa.guard=none) (hsuf:BC P gs N ops (ops.toList.drop (k+2))=some suf)
  (hQ:∀ ι' g' l' s' a' w',Rel gs N ι' g' l' s' a' w'→Step ι0 s0.m w0 ι' s'.m w'→Inc ι0 ι' s0.nx s'.nx→K g' l' s'→Q .normal a' w') (L:Nat→Bool) (hL:∀ j,j < k→L j=true)
  (fuel:Nat) (hf:ops.size - (k+2)≤fuel) (hrel:Rel gs N ι g l s a w) (hst:Step ι0 s0.m w0 ι s.m w) (hn:Inc ι0 ι s0.nx s.nx) (h:Cr P suf K g l s) :
  CB ro P .any ops Q fuel (lay ops.size (fOf k L true true)) a w:=by
 have hsuf':Suf ops (k+2):=⟨hS.le,hS.back,hS.all,fun j o ho hj i want hg=>by
  rcases Nat.lt_or_ge j k with h1 | h1
  ·have:=hS.guard j o ho h1 i want hg;omega
  ·rcases (show j=k∨j=k+1 by omega)with rfl | rfl
   ·rw [hoc]at ho;cases ho;rw [hgc]at hg;cases hg
   ·rw [hoa]at ho;cases ho;rw [hga]at hg;cases hg⟩
 have e:lay ops.size (fOf k L true true)=Cm ops.size (k+2):=by
  rw [← Tv hS.le]
  refine Fb fun j _=>?_
  unfold fOf
  by_cases h1:j < k
  ·rw [if_pos h1,hL j h1];simp;omega
  ·rw [if_neg h1]
   by_cases h2:j=k
   ·rw [if_pos h2];simp;omega
   ·rw [if_neg h2]
    by_cases h3:j=k+1
    ·rw [if_pos h3];simp;omega
    ·rw [if_neg h3];simp;omega
 rw [e]
 refine JJ hsuf' fuel (k+2) a w (Nat.le_refl _) hS.le hf ?_
 have:=IJ (ro:=ro) hQ (ops.toList.drop (k+2)) (k+2) suf rfl hsuf ι g l s a w h hrel hst hn
 simpa using this
theorem Ty [Glob] {ops:Array Oper} {k t:Nat} {os suf:List AR} {kinds:List AOp} {zs:List AV} {e:TypeId} {oc oa:Oper} {ac:AOp} {dc:Option (Bool × Nat)} {ι0:Nat→Option Nat} {s0:St} {w0:World} {K:Env→Env→St→Prop} {Q:Exit→Act→World→Prop}
  (hs:Hh ops k=true) (hchk:(Cp (AI ops k) (AN (AI ops k).toList []) && Cq (AI ops k) (AN (AI ops k).toList []))=true)
  (hk:B6 P gs (AI ops k).toList=some kinds) (hw:kinds.all (fun x=>x.Ah || !x.writes)=true) (hc:A0 P gs N (AI ops k) (AN (AI ops k).toList []) kinds 0 (AI ops k).toList=some os)
  (hoc:ops[k]?=some oc) (hac:Aa P gs false oc=some ac) (hgc:oc.guard=none) (hdc:C9 gs N oc.dst=some dc) (htc:oc.dst≠some t)
  (hoa:ops[k+1]?=some oa) (hae:oa.op=.alloc e) (hga:oa.guard=none) (hda:oa.dst=some t) (htN:t < N) (hz:Ca P e=some zs)
  (hnt:∀ i,i < k→∀ o,ops[i]?=some o→o.dst≠some t) (hsuf:BC P gs N ops (ops.toList.drop (k+2))=some suf)
  (hQ:∀ ι' g' l' s' a' w',Rel gs N ι' g' l' s' a' w'→Step ι0 s0.m w0 ι' s'.m w'→Inc ι0 ι' s0.nx s'.nx→K g' l' s'→Q .normal a' w')
  (h:BM P 0 [] os (U2 P (gs.contains t) ac dc t zs s.nx suf K) (OW (gs.contains t) t g) [] (s.new (.box zs)))
  (hrel:Rel gs N ι g [] s a w) (hst:Step ι0 s0.m w0 ι s.m w) (hn:Inc ι0 ι s0.nx s.nx):CB ro P .any ops Q ops.size (Array.replicate ops.size false) a { w with drawn:=w.drawn+1 }:=by
 have hS:=Ou hs
 have hkle:k≤ops.size:=by have:=hS.le;omega
 have hpsz:=D9 hkle
 obtain⟨X,hX⟩:∃ X,X=s.nx:=⟨_,rfl⟩
 have hιX:ι X=none:=by
  cases hι:ι X with
  | none=>rfl
  | some b=>exact absurd (hrel.bnd.ilt X b hι) (by rw [hX];exact Nat.lt_irrefl _)
 rw [← hX]at h
 -- the variable's object, without a block
 obtain⟨s1,hs1⟩:∃ s1,s1=s.new (.box zs):=⟨_,rfl⟩
 have hs1m:s1.m=Au s.m X (.box zs):=by rw [hs1,hX];rfl
 have hs1x:s1.m X=some (.box zs):=by rw [hs1m];simp [Au]
 have hs1n:s1.nx=s.nx+1:=by rw [hs1];rfl
 rw [← hs1]at h
 have hv1:Step ι s.m w ι s1.m w:=by rw [hs1m];exact CM hιX s.m w _
 have hrel1:Rel gs N ι (OW (gs.contains t) t g) [] s1 a w:=by
  refine⟨by rw [hs1m];exact hrel.wf.HC hιX _,⟨fun q ob hq=>?_,fun q b hq=>?_⟩,hrel.size,hrel.defers,fun u hu=>?_,fun u hu=>.any _⟩
  ·rw [hs1m]at hq
   unfold Au at hq
   split at hq
   ·rename_i e;rw [hs1n,e,hX];omega
   ·have:=hrel.bnd.lt q ob hq;rw [hs1n];omega
  ·have:=hrel.bnd.ilt q b hq;rw [hs1n];omega
  ·unfold OW
   split
   ·simp only [Env.get]
    split
    ·exact .any _
    ·exact(hrel.Ek u hu).step hv1
   ·exact(hrel.Ek u hu).step hv1
 obtain⟨rec,E,S,nx,acc,M,D,hnd,hnx0,hS0,hE0,hkw,hdi,hend⟩:=Ov hchk hk hc h hrel1
 have hXn:X < nx 0:=by omega
 -- no operation ahead of the call turns the variable's object
 have hSX:∀ L,SL rec (S 0) (AI ops k).size L X=some (.box zs):=by
  intro L
  have:lw L (Dl rec X) (AI ops k).size=none:=by
   have key:∀ m,m≤(AI ops k).size→lw L (Dl rec X) m=none:=by
    intro m
    induction m with
    | zero=>intro _;rfl
    | succ m ih =>
     intro hm
     have ho:Dl rec X m=none:=by
      cases hob:Dl rec X m with
      | none=>rfl
      | some x =>
       exfalso
       obtain⟨ai,hai⟩:=D.JH (i:=m) (by omega)
       rcases Cl (j:=m) (rec:=rec) (q:=X) (by rw [hob];simp)with ⟨h1,h2⟩ | ⟨h1,h2⟩
       ·have:=(D.step m ai hai).nid
        have h3:=D.Df (i:=0) (j:=m) (Nat.zero_le _) (by omega)
        omega
       ·have h3:=D.R8 hai h1 h2
        have h4:=(D.II hai h1).2.2.1
        rcases hkw m ai hai with h5 | h5
        ·rw [← h5]at h3 h4
         have:kinds.getD m .Cj∈kinds:=by
          by_cases hml:m < kinds.length
          ·simp [hml]
          ·simp [hml,AOp.writes]at h3
         have:=List.all_eq_true.1 hw _ this
         rw [h3,h4]at this
         cases this
        ·rw [h5]at h4;cases h4
     simp only [lw,ho,ih (by omega)]
     split <;> rfl
   exact key _ (Nat.le_refl _)
  unfold SL
  rw [this,hS0]
  exact hs1x
 have hEt:∀ L,EL (Bv os) rec (E 0) (AI ops k).size L t=.any:=by
  intro L
  have:lw L (DG (Bv os) rec t) (AI ops k).size=none:=by
   have hk':∀ m,m≤(AI ops k).size→lw L (DG (Bv os) rec t) m=none:=by
    intro m
    induction m with
    | zero=>intro _;rfl
    | succ m ih =>
     intro hm
     have ho:DG (Bv os) rec t m=none:=by
      have hmk:m < k:=by omega
      have hom:(AI ops k)[m]?=some ((AI ops k)[m]'(by omega)):=by simp
      obtain⟨ao,h1,_,h2,_⟩:=D.op m _ hom
      have hne:=hnt m hmk _ (by rw [← BD hmk];exact hom)
      unfold DG Bv
      rw [h1]
      simp only [Option.bind_some]
      cases hd:((AI ops k)[m]'(by omega)).dst with
      | none =>
       rw [hd]at h2
       simp only [C9,Option.some.injEq]at h2
       rw [← h2]
      | some u =>
       rw [hd]at h2 hne
       simp only [C9]at h2
       split at h2
       ·simp only [Option.some.injEq]at h2
        rw [← h2]
        have:u≠t:=fun e=>hne (by rw [e])
        simp [this]
       ·cases h2
     simp only [lw,ho,ih (by omega)]
     split <;> rfl
   exact hk' _ (Nat.le_refl _)
  unfold EL
  rw [this,hE0]
  simp only [Option.getD_none,merge,OW]
  cases hg:gs.contains t <;> simp [Env.get,hg]
 have hst1:Step ι0 s0.m w0 ι s1.m w:=hst.trans hv1
 have hn1:Inc ι0 ι s0.nx s1.nx:=⟨by have:=hn.1;omega,hn.2⟩
 have hdstt:C9 gs N (some t)=some (some (gs.contains t,t)):=by simp [C9,htN]
 -- the call, once all ahead of it are done
 have hcall:∀ {fuel:Nat} {ιr:Nat→Option Nat} {sr:St} {wr:World} {listed:Array Bool} {ι1:Nat→Option Nat} {M1:Nat} {a1:Act} {w1:World} (d:Bool),sr.nx≤nx 0→Step ι0 s0.m w0 ιr sr.m wr→Inc ι0 ιr s0.nx sr.nx→X < sr.nx →
   DI gs N (AI ops k) os rec E S nx ιr sr wr listed ι1 M1 a1 w1→(∀ i,i < k→LA listed i=true) →
   (match d with | true=>∃ b,ι1 X=some b∧a1.tmps.getD t undef=.pointer (some ⟨b,0,none⟩) | false=>ι1 X=none)→(if d then 0 else 1)+(ops.size - (k+2))≤fuel →
   Ba ro P ops Q k (CB ro P .any ops Q fuel (lay ops.size (fOf k (LA listed) true d))) a1 w1:=by
  intro fuel ιr sr wr listed ι1 M1 a1 w1 d hsr hstr hnr hXr hdi1 hall hd hfuel
  obtain⟨g2,l2,s2,k1,k2,k3,k4⟩:=hend ιr sr wr hsr listed ι1 M1 a1 w1 hdi1 (by rw [hpsz];exact hall)
  have hXs2:X < s2.nx:=by have:=k3.1;omega
  unfold Ba
  simp only [hoc]
  have hwn:Region.wanted oc (yielded ops a1.tmps)=true:=by simp [Region.wanted,hgc]
  rw [if_pos hwn]
  refine .inl (Hi hac rfl k1 k4 fun ι3 cv v s3 w3 q1 q2 q3 q4 q5 q6=>?_)
  obtain⟨hx3,q6⟩:=q6
  obtain⟨g3,l3,hg3,hr3⟩:=k1.put (S:=s2.m) q1 q2 q3 hdc q5 q6
  have hst3:=hstr.trans (k2.trans q1)
  have hn3:=hnr.trans (k3.trans q4)
  cases d with
  | true =>
   obtain⟨b,hb,ht⟩:=hd
   have hslot:(a1.put oc.dst cv).tmps.getD t undef=.pointer (some ⟨b,0,none⟩):=by
    rw [← ht]
    cases hd:oc.dst with
    | none=>rfl
    | some u =>
     have hu:u≠t:=fun e=>htc (by rw [hd,e])
     simp [Act.put,Array.getElem?_setIfInBounds_ne hu]
   have hb3:ι3 X=some b:=q1.ext X b hb
   obtain⟨g4,l4,hg4,hr4⟩:=hr3.YV (t:=t) (v:=.ptr X 0) (by rw [hslot];exact .ptr 0 hb3) hg3
   exact Ow hS hoc hgc hoa hga hsuf hQ _ hall fuel (by simpa using hfuel) hr4 hst3 hn3 hg4
  | false =>
   simp only at hd
   have hd3:ι3 X=none:=by
    cases h3:ι3 X with
    | none=>rfl
    | some b=>have:=q4.2 X b h3 hXs2;rw [hd]at this;cases this
   obtain⟨f,rfl⟩:∃ f,fuel=f+1:=⟨fuel - 1,by simp at hfuel;omega⟩
   have hlsz:=Oq ops.size (fOf k (LA listed) true false)
   have hk1:k+1 < ops.size:=by have:=hS.le;omega
   refine⟨fun hr=>?_,fun i hi=>?_⟩
   ·have:=mem_ready (listed:=lay ops.size (fOf k (LA listed) true false)) hlsz hoa (by rw [DC,Dq];simp) (fun e' he hb=>by
     rw [hS.free oa hoa e' he]at hb;cases hb)
    rw [hr]at this
    cases this
   ·obtain⟨o,ho,hL,hdd⟩:=Bx hlsz hi
    have hio:=(Array.getElem?_eq_some_iff.1 ho).1
    have hik:i=k+1:=by
     rw [DC]at hL
     simp only [hio,decide_true,Bool.true_and]at hL
     unfold fOf at hL
     by_cases h1:i < k
     ·rw [if_pos h1,hall i h1]at hL;cases hL
     ·rw [if_neg h1]at hL
      by_cases h2:i=k
      ·rw [if_pos h2]at hL;cases hL
      ·by_cases h3:i=k+1
       ·exact h3
       ·exfalso
        have hin:∀ i,LA (lay ops.size (fOf k (LA listed) true false)) i=true→i < ops.size:=fun i h'=>by rw [DC]at h';simp at h';exact h'.1
        have hcl:En ops (LA (lay ops.size (fOf k (LA listed) true false))):=by
         intro j oj hoj hLj e' he hb
         have hjs:=(Array.getElem?_eq_some_iff.1 hoj).1
         have hlt:=hS.back j oj hoj e' he hb
         rw [DC]at hLj ⊢
         simp only [hjs,decide_true,Bool.true_and]at hLj
         have hes:e'.on < ops.size:=by omega
         simp only [hes,decide_true,Bool.true_and]
         unfold fOf at hLj ⊢
         by_cases j1:e'.on < k
         ·rw [if_pos j1];exact hall _ j1
         ·rw [if_neg j1]
          by_cases j2:e'.on=k
          ·rw [if_pos j2]
          ·exfalso
           have:¬ j < k:=by omega
           rw [if_neg this]at hLj
           have:¬ j=k:=by omega
           rw [if_neg this]at hLj
           by_cases j3:j=k+1
           ·omega
           ·rw [if_neg j3]at hLj;cases hLj
        have:=Ar hcl hin i o ho hdd (k+1) (hS.all i (by omega) hio (k+1) (by omega))
        rw [DC,Dq]at this
        simp at this
    subst hik
    obtain⟨z,hzv,z1,z2⟩:=MH (P:=P) hr3.wf hd3 hx3 hz
    refine Km hoa hae hga hda hzv ?_
    rw [SA _ hk1]
    have hb4:Bnd (An ι3 X w3.heap.size) s3.m s3.nx:=⟨q3.lt,fun q b hq=>by
     unfold An at hq
     split at hq
     ·rename_i e;have:=q4.1;omega
     ·exact q3.ilt q b hq⟩
    obtain⟨g4,l4,hg4,hr4⟩:=hr3.put (S:=s3.m) z1 z2 hb4 hdstt (cv:=.pointer (some ⟨w3.heap.size,0,none⟩)) (v:=.ptr X 0) (.ptr 0 (by simp [An])) hg3
    have e1:lay ops.size (Bn (k+1) (fOf k (LA listed) true false))=lay ops.size (fOf k (LA listed) true true):=Fb fun j _=>by
     unfold Bn fOf
     by_cases h1:j < k
     ·have:¬ j=k+1:=by omega
      simp [h1,this]
     ·by_cases h2:j=k
      ·simp [h2]
      ·by_cases h3:j=k+1 <;> simp [h1,h2,h3]
    rw [e1]
    refine Ow hS hoc hgc hoa hga hsuf hQ _ hall f (by simp at hfuel;omega) hr4 (hst3.trans z1) ⟨hn3.1,fun q b hq hlt=>?_⟩ hg4
    unfold An at hq
    split at hq
    ·rename_i e;have:=hn.1;omega
    ·exact hn3.2 q b hq hlt
 -- the tree of orders
 have key:∀ (fuel:Nat) (d:Bool) (ιr:Nat→Option Nat) (sr:St) (wr:World) (listed:Array Bool) (ι1:Nat→Option Nat) (M1:Nat) (a1:Act) (w1:World),sr.nx=s1.nx→Step ι0 s0.m w0 ιr sr.m wr→Inc ι0 ιr s0.nx sr.nx →
   DI gs N (AI ops k) os rec E S nx ιr sr wr listed ι1 M1 a1 w1→(match d with | true=>∃ b,ιr X=some b∧a1.tmps.getD t undef=.pointer (some ⟨b,0,none⟩) | false=>ιr X=none) →
   ((List.range k).filter fun i=>!LA listed i).length+(if d then 0 else 1)+1+(ops.size - (k+2))≤fuel →
   CB ro P .any ops Q fuel (lay ops.size (fOf k (LA listed) false d)) a1 w1:=by
  intro fuel
  induction fuel with
  | zero=>intro d ιr sr wr listed ι1 M1 a1 w1 _ _ _ _ _ hf;omega
  | succ fuel ih =>
   intro d ιr sr wr listed ι1 M1 a1 w1 hsr hstr hnr hd1 hd hf
   have hlen:listed.size=k:=by rw [hd1.sz,hpsz]
   have hlsz:=Oq ops.size (fOf k (LA listed) false d)
   have hk1:k+1 < ops.size:=by have:=hS.le;omega
   have hin:∀ i,LA (lay ops.size (fOf k (LA listed) false d)) i=true→i < ops.size:=fun i h'=>by rw [DC]at h';simp at h';exact h'.1
   have hcl:En ops (LA (lay ops.size (fOf k (LA listed) false d))):=by
    intro j oj hoj hLj e' he hb
    have hjs:=(Array.getElem?_eq_some_iff.1 hoj).1
    have hlt:=hS.back j oj hoj e' he hb
    rw [DC]at hLj ⊢
    simp only [hjs,decide_true,Bool.true_and]at hLj
    have hes:e'.on < ops.size:=by omega
    simp only [hes,decide_true,Bool.true_and]
    by_cases j1:j < k
    ·rw [Cd j1]at hLj
     rw [Cd (by omega)]
     exact hd1.closed j oj (by rw [BD j1];exact hoj) hLj e' he hb
    ·exfalso
     rcases (show j=k∨j=k+1∨k+2≤j by omega)with rfl | rfl | h2
     ·rw [Ep]at hLj;cases hLj
     ·rw [hS.free oj hoj e' he]at hb;cases hb
     ·rw [IK h2]at hLj;cases hLj
   refine⟨fun hr=>?_,fun i hi=>?_⟩
   ·exfalso
    by_cases hall:∀ i,i < k→LA listed i=true
    ·have:=mem_ready (listed:=lay ops.size (fOf k (LA listed) false d)) hlsz hoc (by rw [DC,Ep];simp) (fun e' he hb=>by
      have hlt:=hS.back k oc hoc e' he hb
      rw [DC,Cd hlt,hall _ hlt]
      simp;omega)
     rw [hr]at this
     cases this
    ·have hless:∃ i,i∈Region.ready .any (AI ops k) listed:=by
      cases hr':Region.ready .any (AI ops k) listed with
      | nil=>exact(hall fun i hi=>GD D hd1.sz hr' i (by rw [hpsz];exact hi)).elim
      | cons i r=>exact⟨i,by simp⟩
     obtain⟨i,hi⟩:=hless
     obtain⟨o,ho,hL,hdd⟩:=Bx hd1.sz hi
     have hik:=(Array.getElem?_eq_some_iff.1 ho).1
     rw [hpsz]at hik
     rw [BD hik]at ho
     have:=mem_ready (listed:=lay ops.size (fOf k (LA listed) false d)) hlsz ho (by rw [DC,Cd hik,hL];simp) (fun e' he hb=>by
      have hlt:=hS.back i o ho e' he hb
      rw [DC,Cd (by omega),hdd e' he hb]
      simp;omega)
     rw [hr]at this
     cases this
   ·obtain⟨o,ho,hL,hdd⟩:=Bx hlsz hi
    have hio:=(Array.getElem?_eq_some_iff.1 ho).1
    rw [DC]at hL
    simp only [hio,decide_true,Bool.true_and]at hL
    rw [SA _ hio]
    by_cases hik:i < k
    ·-- one of those ahead of the call
     rw [Cd hik]at hL
     have e1:lay ops.size (Bn i (fOf k (LA listed) false d))=lay ops.size (fOf k (LA (listed.setIfInBounds i true)) false d):=Fb fun j _=>by
      rw [GC (by rw [hlen];exact hik)]
      by_cases h1:j < k
      ·rw [Cd h1];unfold Bn;rw [Cd h1]
      ·have h2:¬ j=i:=by omega
       unfold Bn fOf
       simp [h1,h2]
     rw [e1]
     have hlt:((List.range k).filter fun j=>!LA (listed.setIfInBounds i true) j).length < ((List.range k).filter fun j=>!LA listed j).length:=by
      rw [GC (by rw [hlen];exact hik)]
      have hsub:((List.range k).filter fun j=>!Bn i (LA listed) j)=(((List.range k).filter fun j=>!LA listed j).filter fun j=>j != i):=by
       rw [List.filter_filter]
       congr 1
       funext j
       simp only [Bn,Bool.not_or]
       cases LA listed j <;> simp [bne]
      rw [hsub]
      have hmem:i∈(List.range k).filter fun j=>!LA listed j:=by simp [List.mem_filter,hik,hL]
      exact List.length_filter_lt_length_iff_exists.2 ⟨i,hmem,by simp⟩
     refine Tw hS hik (Dj (fun a2 w2 (h2:(∃ ι2 M2,DI gs N (AI ops k) os rec E S nx ιr sr wr (listed.setIfInBounds i true) ι2 M2 a2 w2)∧a2.tmps.getD t undef=a1.tmps.getD t undef)=>?_) (Tx (t:=t) (fun o' ho'=>hnt i hik o' (by rw [BD hik]at ho';exact ho')) (HB D hd1 (by omega) (by rw [BD hik];exact ho) hL (hnd i (by rw [hpsz];exact hik)) (fun e' he hb=>?_) fun ι2 M2 a2 w2 h2=>⟨ι2,M2,h2⟩)))
     ·obtain⟨⟨ι2,M2,h2⟩,h3⟩:=h2
      refine ih d ιr sr wr _ ι2 M2 a2 w2 hsr hstr hnr h2 ?_ (by omega)
      cases d with
      | true=>obtain⟨b,hb,ht⟩:=hd;exact⟨b,hb,h3.trans ht⟩
      | false=>exact hd
     ·have:=hdd e' he hb
      have hlt:=hS.back i o ho e' he hb
      rw [DC,Cd (by omega)]at this
      simp at this
      exact this.2
    ·by_cases hik2:i=k
     ·-- the call
      subst hik2
      rw [hoc]at ho
      cases ho
      have hall:∀ j,j < i→LA listed j=true:=by
       intro j hj
       have:=Ar hcl hin i oc hoc hdd j (hS.call j hj)
       rw [DC,Cd hj]at this
       simp at this
       exact this.2
      have e1:lay ops.size (Bn i (fOf i (LA listed) false d))=lay ops.size (fOf i (LA listed) true d):=Fb fun j _=>by
       unfold Bn
       by_cases h1:j < i
       ·rw [Cd h1,Cd h1]
        have:¬ j=i:=by omega
        simp [this]
       ·rcases (show j=i∨j=i+1∨i+2≤j by omega)with rfl | rfl | h2
        ·rw [Ep,Ep];simp
        ·rw [Dq,Dq];simp
        ·rw [IK h2,IK h2]
         have:¬ j=i:=by omega
         simp [this]
      rw [e1]
      refine hcall d (by omega) hstr hnr (by omega) hd1 hall ?_ (by omega)
      cases d with
      | true =>
       obtain⟨b,hb,ht⟩:=hd
       exact⟨b,hd1.step.ext X b hb,ht⟩
      | false =>
       simp only at hd ⊢
       cases h3:ι1 X with
       | none=>rfl
       | some b=>have:=hd1.inc X b h3 (by omega);rw [hd]at this;cases this
     ·by_cases hik3:i=k+1
      ·-- the variable
       subst hik3
       rw [Dq]at hL
       subst hL
       rw [hoa]at ho
       cases ho
       simp only at hd
       have hι1:ι1 X=none:=by
        cases h3:ι1 X with
        | none=>rfl
        | some b=>have:=hd1.inc X b h3 (by omega);rw [hd]at this;cases this
       obtain⟨z,hzv,z1,z2⟩:=MH (P:=P) hd1.wf hι1 (hSX _) hz
       refine Km hoa hae hga hda hzv ?_
       have e1:lay ops.size (Bn (k+1) (fOf k (LA listed) false false))=lay ops.size (fOf k (LA listed) false true):=Fb fun j _=>by
        unfold Bn
        by_cases h1:j < k
        ·rw [Cd h1,Cd h1]
         have:¬ j=k+1:=by omega
         simp [this]
        ·rcases (show j=k∨j=k+1∨k+2≤j by omega)with rfl | rfl | h2
         ·rw [Ep,Ep];simp
         ·rw [Dq,Dq];simp
         ·rw [IK h2,IK h2]
          have:¬ j=k+1:=by omega
          simp [this]
       rw [e1]
       have hSe:(⟨SL rec (S 0) (AI ops k).size (LA listed),s1.nx⟩:St).m=SL rec (S 0) (AI ops k).size (LA listed):=rfl
       refine ih true (An ι1 X w1.heap.size) ⟨SL rec (S 0) (AI ops k).size (LA listed),s1.nx⟩ (w1.alloc (.cells z.cells e)) listed (An ι1 X w1.heap.size) M1 _ _ rfl ((hstr.trans hd1.step).trans z1) ⟨by have:=hnr.1;simp only;omega,fun q b hq hlt=>?_⟩ ?_ ⟨w1.heap.size,by simp [An],?_⟩ (by simp at hf ⊢;omega)
       ·unfold An at hq
        split at hq
        ·rename_i e2;have:=hn.1;omega
        ·exact hnr.2 q b (hd1.inc q b hq (by have:=hnr.1;omega)) hlt
       ·refine⟨hd1.sz,hd1.closed,z2,fun q b hq=>?_,hd1.nM,fun j hj hLj hnj=>?_,?_,?_,fun u=>?_,Step.refl _ _ _,fun q b hq _=>hq⟩
        ·unfold An at hq
         split at hq
         ·rename_i e2
          have:=D.Df (i:=0) (j:=(AI ops k).size) (Nat.zero_le _) (Nat.le_refl _)
          have:=hd1.nM
          omega
         ·exact hd1.ιM q b hq
        ·have:=D.Df (i:=0) (j:=j) (Nat.zero_le _) (by omega)
         unfold An
         rw [if_neg (by omega)]
         exact hd1.ACj j hj hLj hnj
        ·simp [Act.put,hd1.size]
        ·exact hd1.defers
        ·by_cases hut:u=t
         ·subst hut
          rw [hEt]
          exact .any _
         ·have:(a1.put (some t) (.pointer (some ⟨w1.heap.size,0,none⟩))).tmps.getD u undef=a1.tmps.getD u undef:=by
           simp [Act.put,Array.getElem?_setIfInBounds_ne (Ne.symm hut)]
          rw [this]
          exact(hd1.De u).step z1
       ·simp [Act.put,hd1.size,htN]
      ·exfalso
       have h2:k+2≤i:=by omega
       have:=Ar hcl hin i o ho hdd k (hS.all i h2 hio k (by omega))
       rw [DC,Ep]at this
       simp at this
 have e0:Array.replicate ops.size false=lay ops.size (fOf k (LA (Array.replicate (AI ops k).size false)) false false):=by
  apply Array.ext_getElem?
  intro j
  have hf0:fOf k (LA (Array.replicate (AI ops k).size false)) false false j=false:=by
   unfold fOf LA
   by_cases h1:j < (AI ops k).size <;> simp [h1]
  simp only [lay,List.getElem?_toArray,List.getElem?_map,Array.getElem?_replicate]
  by_cases hj:j < ops.size
  ·simp [List.getElem?_range hj,hj,hf0]
  ·simp [List.getElem?_eq_none,hj]
 rw [e0]
 refine key ops.size false ι s1 w _ ι M a _ rfl hst1 hn1 hdi hιX ?_
 have:=List.length_filter_le (fun i=>!LA (Array.replicate (AI ops k).size false) i) (List.range k)
 have:=hS.le
 simp only [List.length_range]at *
 simp
 omega
theorem Qf [Glob] {ops:Array Oper} {k t:Nat} {os suf:List AR} {kinds:List AOp} {zs:List AV} {e:TypeId} {oc oa:Oper} {ac:AOp} {dc:Option (Bool × Nat)} {id:Nat} {ι0:Nat→Option Nat} {s0:St} {w0:World} {K:Env→Env→St→Prop} {Q:Exit→Act→World→Prop}
  (d:List Deferred) (htame:J8 ops=true) (hdraws:P.follows .mixedOrders=true) (hs:Hh ops k=true) (hchk:(Cp (AI ops k) (AN (AI ops k).toList []) && Cq (AI ops k) (AN (AI ops k).toList []))=true)
  (hk:B6 P gs (AI ops k).toList=some kinds) (hw:kinds.all (fun x=>x.Ah || !x.writes)=true) (hc:A0 P gs N (AI ops k) (AN (AI ops k).toList []) kinds 0 (AI ops k).toList=some os)
  (hoc:ops[k]?=some oc) (hac:Aa P gs false oc=some ac) (hgc:oc.guard=none) (hdc:C9 gs N oc.dst=some dc) (htc:oc.dst≠some t)
  (hoa:ops[k+1]?=some oa) (hae:oa.op=.alloc e) (hga:oa.guard=none) (hda:oa.dst=some t) (htN:t < N) (hz:Ca P e=some zs)
  (hnt:∀ i,i < k→∀ o,ops[i]?=some o→o.dst≠some t) (hsuf:BC P gs N ops (ops.toList.drop (k+2))=some suf)
  (hQ:∀ ι' g' l' s' a' w',Rel gs N ι' g' l' s' a' w'→Step ι0 s0.m w0 ι' s'.m w'→Inc ι0 ι' s0.nx s'.nx→K g' l' s'→Q .normal (Bj d a') w')
  (h:BM P 0 [] os (U2 P (gs.contains t) ac dc t zs s.nx suf K) (OW (gs.contains t) t g) [] (s.new (.box zs)))
  (hrel:Rel gs N ι g [] s a w) (hst:Step ι0 s0.m w0 ι s.m w) (hn:Inc ι0 ι s0.nx s.nx):(Code.region id ops true).wpIn (inR ro) 0 P Q (Bj d a) w :=
 DP htame hdraws (Ty (Q:=fun e a w=>Q e (Bj d a) w) hs hchk hk hw hc hoc hac hgc hdc htc hoa hae hga hda htN hz hnt hsuf hQ h hrel hst hn)
end Go.AL
namespace Go.AL
variable {ro:Option Nat} {P:Program} {gs:List Nat} {N:Nat} {ι ι':Nat→Option Nat} {g l:Env} {s s':St} {a:Act} {w w':World}
def AOp.still (op:AOp):Bool:=op.Ah || (!op.writes && !op.makes)
theorem El.keep [Glob] {j:Nat} {o:AR} {E:Nat→AV} {S:AX} {nx:Nat} {acc:List (Nat × Nat)} {r:Rec} {E':Nat→AV} {S':AX} {nx':Nat} {Em:List (Nat × Nat)} (h:El P j o E S nx acc r E' S' nx' Em)
  (hst:o.op.still=true) (hnd:r.done=false) (hc:o.op.Ah=true→∃ f as,o.op=.call true f as):r.new=none∧(r.t=none∨r.u=.keep)∧S'=S∧nx'=nx:=by
 have key:r.new=none∧(r.t=none∨r.u=.keep):=by
  rcases h.how with ⟨_,_,h1,h2,_⟩ | ⟨_,_,hrun⟩ | ⟨h1,_⟩
  ·exact⟨h2,.inl h1⟩
  ·rcases hrun with ⟨_,_,_,_,_,_,_,_,h1,h2⟩ | ⟨h1,_,obj,_,hev,_⟩
   ·exact⟨h2,.inl h1⟩
   ·have hs:o.op.writes=false∧o.op.makes=false:=by
     simp only [AOp.still,h1,Bool.false_or,Bool.and_eq_true,Bool.not_eq_true']at hst
     exact hst
    constructor
    ·cases hn:r.new with
     | none=>rfl
     | some x =>
      have:=Oi hev (by simp [hn])
      rw [hs.2]at this;cases this
    ·right
     cases hu:r.u with
     | keep=>rfl
     | set x=>have:=JG hev (by simp [hu]);rw [hs.1]at this;cases this
     | del=>have:=JG hev (by simp [hu]);rw [hs.1]at this;cases this
  ·rw [hnd]at h1;cases h1
 obtain⟨h1,h2⟩:=key
 refine⟨h1,h2,?_,by rw [h.nx',h1];simp⟩
 rw [h.st,h1]
 rcases h2 with h2 | h2
 ·rw [h2];cases r.u <;> rfl
 ·rw [h2];cases r.t <;> rfl
def wkE (os:List AR) (rec:Nat→Rec) (E0:Nat→AV):Nat→Nat→AV
 | 0=>E0
 | i+1=>Gg (Bv os i) (rec i).v (wkE os rec E0 i)
def mkF (os:List AR) (i:Nat):Bool:=((os[i]?).map (·.op.makes)).getD false
def wkA (os:List AR) (rec:Nat→Rec) (n:Nat):Nat→List (Nat × Nat)
 | 0=>[]
 | i+1=>if (rec i).ran then EV i (rec i).t (mkF os i) n (wkA os rec n i)else wkA os rec n i
def Ko [Glob] (P:Program) (o:AR) (E:Nat→AV) (S:AX) (nx:Nat) (r:Rec):Prop :=
 r.nid=nx∧r.new=none∧(r.t=none∨r.u=.keep) ∧
 ((r.ran=false∧r.v=.tup []∧r.t=none∧r.new=none∧∃ gl t want,o.guard=some (gl,t,want)∧(E t=.bool (!want)∨E t=.tup []))∨(r.ran=true∧KK o.guard E∧AHj P o.op E S nx [] o.Dh r)∨(r.done=true∧r.t=none∧r.new=none))
theorem Ko.step [Glob] {j:Nat} {o:AR} {E:Nat→AV} {S:AX} {nx:Nat} {r:Rec} (h:Ko P o E S nx r) (hc:o.Dh=[]) (acc:List (Nat × Nat)) :
  El P j o E S nx acc r (Gg o.dst r.v E) S nx (if r.ran then EV j r.t o.op.makes nx acc else acc):=by
 obtain⟨h1,h2,h3,h4⟩:=h
 refine⟨h1,?_,rfl,?_,by rw [h2];simp,rfl⟩
 ·rcases h4 with h4 | ⟨k1,k2,k3⟩ | h4
  ·exact .inl h4
  ·refine .inr (.inl ⟨k1,k2,?_⟩)
   rcases k3 with k3 | ⟨m1,m2,obj,m3,m4,m5,m6⟩
   ·exact .inl k3
   ·exact .inr ⟨m1,m2,obj,m3,m4,m5,fun q _ p _ hp=>by rw [hc]at hp;cases hp⟩
  ·exact .inr (.inr h4)
 ·rw [h2]
  rcases h3 with h3 | h3
  ·rw [h3];cases r.u <;> rfl
  ·rw [h3];cases r.t <;> rfl
theorem Ko.of [Glob] {j:Nat} {o:AR} {E:Nat→AV} {S S2:AX} {nx nx2:Nat} {acc:List (Nat × Nat)} {r:Rec} {E':Nat→AV} {S':AX} {nx':Nat} {Em:List (Nat × Nat)} (h:El P j o E S nx acc r E' S' nx' Em)
  (hst:o.op.still=true) (hnd:r.done=false) (hc:o.op.Ah=true→∃ f as,o.op=.call true f as) (hS:∀ q,o.op.AT (Ev E)=some q→S2 q=S q):Ko P o E S2 nx2 { r with nid:=nx2 }:=by
 obtain⟨h1,h2,_,_⟩:=h.keep hst hnd hc
 refine⟨rfl,h1,h2,?_⟩
 rcases h.how with h4 | ⟨k1,k2,k3⟩ | ⟨h4,_⟩
 ·exact .inl h4
 ·refine .inr (.inl ⟨k1,k2,?_⟩)
  rcases k3 with k3 | ⟨m1,m2,obj,m3,m4,m5,m6⟩
  ·exact .inl k3
  ·refine .inr ⟨m1,m2,obj,?_,?_,m5,fun q _ p hp=>by cases hp⟩
   ·cases hq:r.t with
    | none=>rw [hq]at m3;simpa only [hq] using m3
    | some q =>
     rw [hq]at m3
     simp only [hq]
     rw [hS q (by rw [← m2,hq])]
     exact m3
   ·have e:(⟨r.v,r.u,r.new⟩:Res)=⟨r.v,r.u,none⟩:=by rw [h1]
    rw [e]at m4
    simp only [h1]
    exact U8 m4 rfl nx2
 ·rw [hnd]at h4;cases h4
structure Text [Glob] (P:Program) (gs:List Nat) (N:Nat) (ops:Array Oper) (os:List AR):Prop where
 len:os.length=ops.size
 op:∀ (i:Nat) o,ops[i]?=some o→∃ ao,os[i]?=some ao∧Aa P gs true o=some ao.op∧C9 gs N o.dst=some ao.dst∧EH gs ops o.guard=some ao.guard∧C6 gs (A1 ops o) ao=true
 De:∀ (i j:Nat) a b,i < j→ops[i]?=some a→ops[j]?=some b→MC ops a b=true→i∈(AN ops.toList []).getD j []
 back:∀ (i:Nat) o,ops[i]?=some o→∀ e∈o.after.toList,Region.binds .any e=true→e.on < i
 still:∀ (i:Nat) o,os[i]?=some o→o.op.still=true
 call:∀ (i:Nat) o,os[i]?=some o→o.op.Ah=true→∃ f as,o.op=.call true f as
 Dh:∀ (i:Nat) o,os[i]?=some o→o.Dh=[]
theorem YW [Glob] {ops:Array Oper} {os:List AR} {kinds:List AOp} (hchk:(Cp ops (AN ops.toList []) && Cq ops (AN ops.toList []))=true) (hk:B6 P gs ops.toList=some kinds)
  (hc:A0 P gs N ops (AN ops.toList []) kinds 0 ops.toList=some os) (hw:kinds.all (fun x=>x.Ah || (!x.writes && !x.makes))=true) (hconc:os.all (fun o=>o.Dh.isEmpty)=true):Text P gs N ops os:=by
 obtain⟨hlen,hspec⟩:=Cs ops.toList 0 os hc
 simp only [Array.length_toList]at hlen
 have hop:∀ (i:Nat) o,ops[i]?=some o→∃ ao,os[i]?=some ao∧Aa P gs true o=some ao.op∧C9 gs N o.dst=some ao.dst∧EH gs ops o.guard=some ao.guard∧C6 gs (A1 ops o) ao=true:=by
  intro i o ho
  obtain⟨ao,h1,h2,h3,h4,h5,_⟩:=hspec i o (by simpa using ho)
  exact⟨ao,h1,h2,h3,h4,h5⟩
 have hkind:∀ (i:Nat) ao,os[i]?=some ao→∃ kd,kd∈kinds∧ao.op.Ah=kd.Ah∧(ao.op.Ah=true→∃ f as,ao.op=.call true f as)∧(ao.op.Ah=false→ao.op=kd):=by
  intro i ao hao
  have hi:i < ops.size:=by rw [← hlen];exact(List.getElem?_eq_some_iff.1 hao).1
  have ho:ops[i]?=some ops[i]:=by simp [hi]
  obtain⟨ao',h1,h2,_⟩:=hop i _ ho
  rw [hao]at h1
  cases h1
  obtain⟨kd,k1,k2⟩:=Ea ops.toList kinds hk i ops[i] (by simp [hi])
  obtain⟨f1,f2,f3⟩:=C8 h2 k2
  exact⟨kd,List.mem_of_getElem? k1,f1,f2,f3⟩
 simp only [Bool.and_eq_true]at hchk
 obtain⟨hslots,hedges⟩:=hchk
 refine⟨hlen,hop,?_,?_,?_,?_,?_⟩
 ·intro i j x y hij hx hy hcl
  have hj:j < ops.size:=(Array.getElem?_eq_some_iff.1 hy).1
  have h1:=List.all_eq_true.1 hslots j (by simpa using hj)
  have h2:=List.all_eq_true.1 h1 i (by simpa using hij)
  rw [hx,hy]at h2
  simp only [hcl,Bool.not_true,Bool.false_or,List.contains_iff_mem]at h2
  exact h2
 ·intro i o ho e he hb
  have hi:i < ops.size:=(Array.getElem?_eq_some_iff.1 ho).1
  have h1:=List.all_eq_true.1 hedges i (by simpa using hi)
  rw [ho]at h1
  simp only [Bool.and_eq_true]at h1
  have h2:=List.all_eq_true.1 h1.1 e he
  simpa [hb] using h2
 ·intro i o ho
  obtain⟨kd,k1,k2,_,k4⟩:=hkind i o ho
  have:=List.all_eq_true.1 hw kd k1
  unfold AOp.still
  cases hcl:o.op.Ah with
  | true=>rfl
  | false =>
   rw [← k2,hcl]at this
   rw [k4 hcl]
   exact this
 ·intro i o ho hcl
  obtain⟨_,_,_,k3,_⟩:=hkind i o ho
  exact k3 hcl
 ·intro i o ho
  have:=List.all_eq_true.1 hconc o (List.mem_of_getElem? ho)
  simpa using this
theorem Text.draw [Glob] {ops:Array Oper} {os:List AR} (T:Text P gs N ops os) {rec:Nat→Rec} {E0:Nat→AV} {S0:AX} {n:Nat} (hb:∀ q ob,S0 q=some ob→q < n)
  (h:∀ (i:Nat) o,os[i]?=some o→Ko P o (wkE os rec E0 i) S0 n (rec i)):CV P gs N ops os rec (wkE os rec E0) (fun _=>S0) (fun _=>n) (wkA os rec n):=by
 refine⟨T.len,T.op,fun i o ho=>?_,T.De,fun i j x y hij hx hy hl hw n1 n2=>?_,T.back,hb⟩
 ·have:=(h i o ho).step (j:=i) (T.Dh i o ho) (wkA os rec n i)
  have e1:wkE os rec E0 (i+1)=Gg o.dst (rec i).v (wkE os rec E0 i):=by simp [wkE,Bv,ho]
  have e2:wkA os rec n (i+1)=if (rec i).ran then EV i (rec i).t o.op.makes n (wkA os rec n i)else wkA os rec n i:=by simp [wkA,mkF,ho]
  rw [e1,e2]
  exact this
 ·have h1:=T.still i x hx
  have h2:=T.still j y hy
  simp only [AOp.still,n1,n2,Bool.false_or,Bool.and_eq_true,Bool.not_eq_true']at h1 h2
  rcases hw with hw | ⟨_,hw | hw⟩
  ·rw [h1.2]at hw;cases hw
  ·rw [h1.1]at hw;cases hw
  ·rw [h2.1]at hw;cases hw
theorem Ox [Glob] {ops:Array Oper} {os:List AR} {rec:Nat→Rec} {S0:AX} {n:Nat} {E:Nat→Nat→AV} (hlen:os.length=ops.size) (h:∀ (i:Nat) o,os[i]?=some o→Ko P o (E i) S0 n (rec i)) (L:Nat→Bool):SL rec S0 ops.size L=S0:=by
 funext q
 have key:∀ m,m≤ops.size→lw L (Dl rec q) m=none:=by
  intro m
  induction m with
  | zero=>intro _;rfl
  | succ m ih =>
   intro hm
   have ho:Dl rec q m=none:=by
    obtain⟨_,h2,h3,_⟩:=h m (os[m]'(by omega)) (by simp)
    unfold Dl
    rw [h2]
    simp only [Option.isSome_none,Bool.false_eq_true,false_and,if_false]
    rcases h3 with h3 | h3
    ·rw [h3];simp
    ·rw [h3];split <;> rfl
   simp only [lw,ho,ih (by omega)]
   split <;> rfl
 simp [SL,key _ (Nat.le_refl _)]
theorem ACl {dst:Nat→Option (Bool × Nat)} {rec rec':Nat→Rec} {E0:Nat→AV} {n:Nat} {L:Nat→Bool} (h:∀ j,L j=true→(rec j).v=(rec' j).v) (t:Nat):EL dst rec E0 n L t=EL dst rec' E0 n L t:=by
 unfold EL
 congr 1
 induction n with
 | zero=>rfl
 | succ n ih =>
  simp only [lw,ih]
  cases hL:L n with
  | false=>rfl
  | true =>
   have:DG dst rec t n=DG dst rec' t n:=by unfold DG;rw [h n hL]
   rw [this]
theorem KB [Glob] {o:Oper} {f:AG} {as:List AG} {ac:AOp} (h:Aa P gs true o=some (.call true f as)) (h2:Aa P gs false o=some ac):ac=.call false f as:=by
 unfold Aa at h h2
 split at h
 ·rename_i fx xs hv
  simp only [hv]at h2
  simp only [Option.bind_eq_bind]at h h2
  cases h3:opd gs fx <;> cases h4:Lu gs xs <;> simp [h3,h4]at h h2
  obtain⟨rfl,rfl⟩:=h
  exact h2.symm
 ·rename_i hv
  simp only [hv]at h2
  split at h
  ·cases h
  split at h
  ·cases h
  ·exfalso
   cases hc:AY P gs o with
   | none=>simp [hc]at h
   | some x =>
    simp only [hc,Option.filter]at h
    split at h
    ·rename_i hx
     cases h
     simp [AOp.Ah]at hx
    ·cases h
end Go.AL
namespace Go.AL
variable {ro:Option Nat} {P:Program} {gs:List Nat} {N:Nat} {ι ι':Nat→Option Nat} {g l:Env} {s s':St} {a:Act} {w w':World}
theorem JK {os:List AR} {rec rec':Nat→Rec} {E0:Nat→AV}:∀ {n:Nat},(∀ j,j < n→(rec j).v=(rec' j).v)→wkE os rec E0 n=wkE os rec' E0 n
 | 0,_=>rfl
 | n+1,h=>by simp only [wkE];rw [JK fun j hj=>h j (by omega),h n (by omega)]
theorem VF {os:List AR} {rec:Nat→Rec} {E0:Nat→AV} {t i:Nat}:∀ {n:Nat},i≤n→(∀ j,i≤j→j < n→(match Bv os j with | some (_,u)=>u != t | none=>true)=true)→wkE os rec E0 n t=wkE os rec E0 i t:=by
 intro n
 induction n with
 | zero => intro h _;have:i=0:=by omega
           rw [this]
 | succ n ih =>
  intro h hd
  by_cases e:i=n+1
  ·rw [e]
  ·have h1:=ih (by omega) fun j h1 h2=>hd j h1 (by omega)
   have h2:=hd n (by omega) (by omega)
   simp only [wkE]
   cases hdd:Bv os n with
   | none=>exact h1
   | some p =>
    obtain⟨b,u⟩:=p
    rw [hdd]at h2
    have:¬ t=u:=fun e=>by rw [e]at h2;simp at h2
    simp only [Gg,if_neg this]
    exact h1
def Gs (E:Nat→AV):List Nat→Env
 | []=>[]
 | t::r=>(t,E t)::Gs E r
theorem Eb (E:Nat→AV) (t:Nat):∀ (ns:List Nat),(Gs E ns).get t=if ns.contains t=true then E t else .any
 | []=>by simp [Gs,Env.get]
 | u::r=>by
  simp only [Gs,Env.get,Eb E t r]
  by_cases e:u=t
  ·subst e;simp
  ·have e':¬ t=u:=fun h=>e h.symm
   simp [e,e']
theorem YX {fr:List AOp} {g l:Env} {s' s2:St} (h:frs g l s' s2 fr) {op:AOp} (ho:op∈fr) {q:Nat} (hq:op.AT (AG.val g l)=some q):s2.m q=s'.m q:=by
 induction fr with
 | nil=>cases ho
 | cons x r ih =>
  simp only [frs]at h
  rcases List.mem_cons.1 ho with rfl | ho
  ·have:=h.1;rw [hq]at this;exact this
  ·exact ih h.2 ho
theorem Qg [Glob] {ops:Array Oper} {k m:Nat} {os suf:List AR} {oc:Oper} {ac:AOp} {dc:Option (Bool × Nat)} {fr:List AOp} {ι0:Nat→Option Nat} {s0:St} {w0:World} {K:Env→Env→St→Prop} {Q:Exit→Act→World→Prop}
  (hkm:k < m) (hs:Gb ops m=true) (T:Text P gs N (AI ops m) os) (hafter:∀ j,k < j→j < m→k∈(AN (AI ops m).toList []).getD j [])
  (hoc:ops[k]?=some oc) (hac:Aa P gs false oc=some ac) (hcall:ac.Ah=true) (hgc:oc.guard=none) (hdc:C9 gs N oc.dst=some dc)
  (hF:∀ i,i < k→i ∉ (AN (AI ops m).toList []).getD k []→∃ o,os[i]?=some o∧o.op∈fr∧∀ x∈o.op.D6,Kd (((os.take k).drop i).map (·.dst)) x=true)
  (hsuf:BC P gs N ops (ops.toList.drop m)=some suf)
  (hQ:∀ ι' g' l' s' a' w',Rel gs N ι' g' l' s' a' w'→Step ι0 s0.m w0 ι' s'.m w'→Inc ι0 ι' s0.nx s'.nx→K g' l' s'→Q .normal a' w')
  (h:BM P 0 [] (os.take k) (My P fr ac dc k (os.drop (k+1)) suf K) g [] s)
  (hrel:Rel gs N ι g [] s a w) (hst:Step ι0 s0.m w0 ι s.m w) (hn:Inc ι0 ι s0.nx s.nx):CB ro P .any ops Q ops.size (Array.replicate ops.size false) a { w with drawn:=w.drawn+1 }:=by
 have hS:=Hk hs
 have hmn:=hS.le
 have hpsz:=D9 hmn
 have hlen:=T.len
 rw [hpsz]at hlen
 have hpoc:(AI ops m)[k]?=some oc:=by rw [BD hkm];exact hoc
 -- the walk ahead of the call
 obtain⟨rec1,E1,S1,nx1,ac1,e1,e2,e3,e4,e5,g',l',s',e6,e7,e8,e9⟩:=extract (gs:=gs) (A1:=fun i=>((AI ops m)[i]?).elim [] (A1 (AI ops m))) (os.take k) 0 [] g [] s (fun i ao hao=>by
  have hik:i < k:=by
   have:=(List.getElem?_eq_some_iff.1 hao).1
   simp at this;omega
  have hao':os[i]?=some ao:=by rwa [List.getElem?_take_of_lt hik]at hao
  have hi:i < (AI ops m).size:=by omega
  have ho:(AI ops m)[i]?=some (AI ops m)[i]:=by simp [hi]
  obtain⟨ao',h1,_,_,_,h5⟩:=T.op i _ ho
  rw [hao']at h1
  cases h1
  refine⟨?_,T.call i ao hao'⟩
  rw [Nat.zero_add,ho]
  exact h5) h
 simp only [Nat.zero_add]at e5
 have htk:(os.take k).length=k:=by simp;omega
 rw [htk]at e6 e7 e8
 have hstep1:∀ i,i < k→∃ o,os[i]?=some o∧El P i o (E1 i) (S1 i) (nx1 i) (ac1 i) (rec1 i) (E1 (i+1)) (S1 (i+1)) (nx1 (i+1)) (ac1 (i+1))∧(rec1 i).done=false:=by
  intro i hi
  have ho:os[i]?=some (os[i]'(by omega)):=by simp
  exact⟨_,ho,e5 i _ (by rw [List.getElem?_take_of_lt hi];exact ho)⟩
 have hconst:∀ i,i≤k→S1 i=s.m∧nx1 i=s.nx:=by
  intro i
  induction i with
  | zero=>intro _;exact⟨e2,e3⟩
  | succ i ih =>
   intro hi
   obtain⟨o,ho,st,hd⟩:=hstep1 i (by omega)
   obtain⟨_,_,k1,k2⟩:=st.keep (T.still i o ho) hd (T.call i o ho)
   obtain⟨k3,k4⟩:=ih (by omega)
   exact⟨k1.trans k3,k2.trans k4⟩
 have hE1:∀ i,i≤k→E1 i=wkE os rec1 (merge gs g []) i:=by
  intro i
  induction i with
  | zero=>intro _;exact e1
  | succ i ih =>
   intro hi
   obtain⟨o,ho,st,hd⟩:=hstep1 i (by omega)
   rw [st.env,ih (by omega)]
   simp [wkE,Bv,ho]
 rw [(hconst k (Nat.le_refl _)).1]at e7
 rw [(hconst k (Nat.le_refl _)).2]at e8
 -- the records ahead of the call
 obtain⟨recA,hrecA⟩:∃ recA:Nat→Rec,recA=fun i=>if i < k then { rec1 i with nid:=s.nx } else⟨false,.any,none,.keep,none,s.nx,true⟩:=⟨_,rfl⟩
 have hEA:∀ i,i≤k→wkE os recA (merge gs g []) i=E1 i:=by
  intro i hi
  rw [hE1 i hi]
  exact JK fun j hj=>by rw [hrecA];simp only;rw [if_pos (by omega)]
 have hhowA:∀ (i:Nat) o,os[i]?=some o→Ko P o (wkE os recA (merge gs g []) i) s.m s.nx (recA i):=by
  intro i o ho
  by_cases hik:i < k
  ·obtain⟨o',ho',st,hd⟩:=hstep1 i hik
   rw [ho]at ho';cases ho'
   rw [hEA i (by omega),hrecA]
   try simp only
   rw [if_pos hik]
   exact Ko.of st (T.still i o ho) hd (T.call i o ho) (fun q _=>by rw [(hconst i (by omega)).1])
  ·rw [hrecA]
   try simp only
   rw [if_neg hik]
   exact⟨rfl,rfl,.inl rfl,.inr (.inr ⟨rfl,rfl,rfl⟩)⟩
 have DA:=T.draw (rec:=recA) (E0:=merge gs g []) (S0:=s.m) (n:=s.nx) (fun q ob hq=>hrel.bnd.lt q ob hq) hhowA
 have hSLA:∀ L,SL recA s.m (AI ops m).size L=s.m:=Ox (by rw [hpsz];exact hlen) hhowA
 -- all that comes behind the call
 have hbehind:∀ (listed:Array Bool) (ι1:Nat→Option Nat) (M1:Nat) (a1:Act) (w1:World),DI gs N (AI ops m) os recA (wkE os recA (merge gs g [])) (fun _=>s.m) (fun _=>s.nx) ι0 s0 w0 listed ι1 M1 a1 w1 →
   (∀ i,LA listed i=true→i < k)→(∀ e∈oc.after.toList,Region.binds .any e=true→LA listed e.on=true)→∀ fuel,((List.range m).filter fun i=>!LA (listed.setIfInBounds k true) i).length+(ops.size - m)≤fuel→Ba ro P ops Q k (CB ro P .any ops Q fuel (Dp ops.size (listed.setIfInBounds k true))) a1 w1:=by
  intro listed ι1 M1 a1 w1 hd1 hlt hready fuel hfuel
  have hin:=Oj hd1.sz
  have hLk:LA listed k=false:=by
   cases hx:LA listed k with
   | false=>rfl
   | true=>have:=hlt k hx;omega
  have hlk:k < listed.size:=by rw [hd1.sz,hpsz];exact hkm
  have hbef:∀ i,i < k→LA listed i=false→i ∉ (AN (AI ops m).toList []).getD k []:=by
   intro i hi hL hm
   have:=Ar hd1.closed hin k oc hpoc hready i hm
   rw [hL]at this;cases this
  obtain⟨ao,hao,hcmp,hcd,hcg,haok⟩:=T.op k oc hpoc
  -- what the call is
  have hwf1:=hd1.wf
  try simp only at hwf1
  rw [hSLA]at hwf1
  have hslot:∀ t,(A1 (AI ops m) oc).contains t=true→EL (Bv os) recA (merge gs g []) (AI ops m).size (LA listed) t=E1 k t:=by
   intro t ht
   have:=DA.Kk hd1.closed hin hpoc hLk hready ht
   rw [← hEA k (Nat.le_refl _)]
   exact this
  have hsl1:=hd1.De
  have hbnd1:Bnd ι1 s.m M1:=by
   refine⟨fun q ob hq=>?_,hd1.ιM⟩
   have:=hrel.bnd.lt q ob hq
   have:=hd1.nM
   try simp only at this
   omega
  obtain⟨env,henv⟩:∃ env,env=Gs (E1 k) (A1 (AI ops m) oc):=⟨_,rfl⟩
  have hgetE:∀ t,Rep ι1 (AZ ι1 s.m) w1 (a1.tmps.getD t undef) (env.get t):=by
   intro t
   rw [henv,Eb]
   split
   ·rename_i ht
    rw [← hslot t ht]
    have:=hsl1 t
    try simp only at this
    rw [hSLA]at this
    exact this
   ·exact .any _
  have hrel0:Rel gs N ι1 env env ⟨s.m,M1⟩ a1 w1:=⟨hwf1,hbnd1,hd1.size,hd1.defers,fun t _=>hgetE t,fun t _=>hgetE t⟩
  have hMs:s'.nx≤M1:=by
   have:=hd1.nM
   try simp only at this
   omega
  have hK:=e9 M1 hMs
  have hbump:s'.bump M1=⟨s.m,M1⟩:=by rw [St.bump,e7]
  rw [hbump]at hK
  unfold My at hK
  simp only [C6,Bool.and_eq_true]at haok
  obtain⟨⟨hopn,hdstn⟩,_⟩:=haok
  have hcallA:ao.op.Ah=true:=by
   obtain⟨f1,_,_⟩:=C8 hcmp hac
   rw [f1];exact hcall
  obtain⟨f,as,hfas⟩:=T.call k ao hao hcallA
  rw [hfas]at hcmp hopn
  have hacc:=KB hcmp hac
  subst hacc
  have hopd:∀ x∈(AOp.call true f as).D6,AG.val g' l' x=AG.val env env x:=by
   intro x hx
   have hok:=List.all_eq_true.1 hopn x hx
   rw [Qa hok,e6]
   cases x with
   | g t =>
    simp only [F5,Bool.and_eq_true]at hok
    simp only [Ev,AG.val,henv,Eb,hok.2,if_true]
   | l t =>
    simp only [F5,Bool.and_eq_true]at hok
    simp only [Ev,AG.val,henv,Eb,hok.2,if_true]
   | c v=>rfl
  have hcs:AOp.step P (.call false f as) env env ⟨s.m,M1⟩ (fun v s2=>frs g' l' ⟨s.m,M1⟩ s2 fr∧BY dc v g' l' fun g1 l1=>BM P (k+1) [] (os.drop (k+1)) (fun g2 l2 s3=>Cr P suf K g2 l2 s3) g1 l1 s2):=by
   have e1':AG.val g' l' f=AG.val env env f:=hopd f (by simp [AOp.D6])
   have e2':as.map (AG.val g' l')=as.map (AG.val env env):=List.map_congr_left fun x hx=>hopd x (by simp [AOp.D6,hx])
   simp only [AOp.step,e1',e2']at hK ⊢
   exact hK
  unfold Ba
  simp only [hoc]
  have hwn:Region.wanted oc (yielded ops a1.tmps)=true:=by simp [Region.wanted,hgc]
  rw [if_pos hwn]
  refine .inl (Hi hac rfl hrel0 hcs fun ι3 cv v s3 w3 q1 q2 q3 q4 q5 q6=>?_)
  obtain⟨hfr,q6⟩:=q6
  have hdc':ao.dst=dc:=by rw [hcd]at hdc;cases hdc;rfl
  rw [hdc']at hdstn
  obtain⟨g1,l1,hpost,hm1⟩:=DR (gs:=gs) (names:=A1 (AI ops m) oc) hdstn q6
  -- the walk behind the call
  obtain⟨rec3,E3,S3,nx3,ac3,d1,d2,d3,d4,d5,g'',l'',s'',d6,d7,d8,d9⟩:=extract (gs:=gs) (A1:=fun i=>((AI ops m)[i]?).elim [] (A1 (AI ops m))) (os.drop (k+1)) (k+1) [] g1 l1 s3 (fun i ao hao=>by
   have hao':os[k+1+i]?=some ao:=by rwa [List.getElem?_drop]at hao
   have hi:k+1+i < (AI ops m).size:=by rw [hpsz,← hlen];exact(List.getElem?_eq_some_iff.1 hao').1
   have ho:(AI ops m)[k+1+i]?=some (AI ops m)[k+1+i]:=by simp [hi]
   obtain⟨ao',h1,_,_,_,h5⟩:=T.op _ _ ho
   rw [hao']at h1
   cases h1
   refine⟨?_,T.call _ ao hao'⟩
   rw [ho]
   exact h5) hpost
  have hdl:(os.drop (k+1)).length=m - (k+1):=by simp;omega
  rw [hdl]at d6 d7 d8
  have hstep3:∀ i,k < i→i < m→∃ o,os[i]?=some o∧El P i o (E3 (i - (k+1))) (S3 (i - (k+1))) (nx3 (i - (k+1))) (ac3 (i - (k+1))) (rec3 (i - (k+1))) (E3 (i - (k+1)+1)) (S3 (i - (k+1)+1)) (nx3 (i - (k+1)+1)) (ac3 (i - (k+1)+1))∧(rec3 (i - (k+1))).done=false:=by
   intro i hi him
   have ho:os[i]?=some (os[i]'(by omega)):=by simp
   have e:k+1+(i - (k+1))=i:=by omega
   have:=d5 (i - (k+1)) (os[i]'(by omega)) (by rw [List.getElem?_drop,e];exact ho)
   rw [e]at this
   exact⟨_,ho,this⟩
  have hconst3:∀ j,k+1+j≤m→S3 j=s3.m∧nx3 j=s3.nx:=by
   intro j
   induction j with
   | zero=>intro _;exact⟨d2,d3⟩
   | succ j ih =>
    intro hj
    obtain⟨o,ho,st,hd⟩:=hstep3 (k+1+j) (by omega) (by omega)
    rw [show k+1+j - (k+1)=j by omega]at st hd
    obtain⟨_,_,k1,k2⟩:=st.keep (T.still _ o ho) hd (T.call _ o ho)
    obtain⟨k3,k4⟩:=ih (by omega)
    exact⟨k1.trans k3,k2.trans k4⟩
  -- all records
  obtain⟨recB,hrecB⟩:∃ recB:Nat→Rec,recB=fun i=>if i < k then(if LA listed i then⟨(rec1 i).ran,(rec1 i).v,none,.keep,none,s3.nx,true⟩else { rec1 i with nid:=s3.nx })
    else if i=k then⟨true,v,none,.keep,none,s3.nx,true⟩else { rec3 (i - (k+1))with nid:=s3.nx }:=⟨_,rfl⟩
  have hBlt:∀ i,i < k→(recB i).v=(rec1 i).v:=by
   intro i hi
   rw [hrecB]
   try simp only
   rw [if_pos hi]
   split <;> rfl
  have hBk:recB k=⟨true,v,none,.keep,none,s3.nx,true⟩:=by
   rw [hrecB]
   try simp only
   rw [if_neg (by omega),if_pos trivial]
  have hBgt:∀ i,k < i→recB i={ rec3 (i - (k+1))with nid:=s3.nx }:=by
   intro i hi
   rw [hrecB]
   try simp only
   rw [if_neg (by omega),if_neg (by omega)]
  have hEB:∀ i,i≤k→wkE os recB (merge gs g []) i=E1 i:=by
   intro i hi
   rw [hE1 i hi]
   exact JK fun j hj=>hBlt j (by omega)
  have hEBk:wkE os recB (merge gs g []) (k+1)=E3 0:=by
   have hdk:Bv os k=dc:=by simp [Bv,hao,hdc']
   simp only [wkE]
   rw [hEB k (Nat.le_refl _),hBk,hdk,d1,hm1,e6]
  have hEB3:∀ j,k+1+j≤m→wkE os recB (merge gs g []) (k+1+j)=E3 j:=by
   intro j
   induction j with
   | zero=>intro _;exact hEBk
   | succ j ih =>
    intro hj
    obtain⟨o,ho,st,hd⟩:=hstep3 (k+1+j) (by omega) (by omega)
    rw [show k+1+j - (k+1)=j by omega]at st hd
    rw [show k+1+(j+1)=(k+1+j)+1 by omega]
    simp only [wkE]
    rw [ih (by omega),st.env,hBgt _ (by omega),show k+1+j - (k+1)=j by omega]
    simp [Bv,ho]
  have hhowB:∀ (i:Nat) o,os[i]?=some o→Ko P o (wkE os recB (merge gs g []) i) s3.m s3.nx (recB i):=by
   intro i o ho
   have him:i < m:=by rw [← hlen];exact(List.getElem?_eq_some_iff.1 ho).1
   rcases Nat.lt_trichotomy i k with hik | rfl | hik
   ·rw [hEB i (by omega),hrecB]
    try simp only
    rw [if_pos hik]
    split
    ·exact⟨rfl,rfl,.inl rfl,.inr (.inr ⟨rfl,rfl,rfl⟩)⟩
    ·rename_i hL
     obtain⟨o',ho',st,hd⟩:=hstep1 i hik
     rw [ho]at ho';cases ho'
     refine Ko.of st (T.still i o ho) hd (T.call i o ho) fun q hq=>?_
     rw [(hconst i (by omega)).1]
     obtain⟨o2,ho2,hmem,hfree⟩:=hF i hik (hbef i hik (by simpa using hL))
     rw [ho]at ho2;cases ho2
     have hval:∀ x∈o.op.D6,AG.val g' l' x=Ev (E1 i) x:=by
      intro x hx
      have hi':i < (AI ops m).size:=by rw [hpsz];exact him
      obtain⟨oi,hoi⟩:∃ oi,(AI ops m)[i]?=some oi:=⟨(AI ops m)[i],by simp [hi']⟩
      obtain⟨ao',h1,_,_,_,h5⟩:=T.op i _ hoi
      rw [ho]at h1;cases h1
      simp only [C6,Bool.and_eq_true]at h5
      have hok:=List.all_eq_true.1 h5.1.1 x hx
      rw [Qa hok,e6]
      have hsame:∀ t,(((os.take k).drop i).map (·.dst)).all (fun d=>match d with | some (_,u)=>u != t | none=>true)=true→E1 k t=E1 i t:=by
       intro t ht
       rw [hE1 k (Nat.le_refl _),hE1 i (by omega)]
       refine VF (by omega) fun j hj1 hj2=>?_
       have hoj:os[j]?=some (os[j]'(by omega)):=by simp
       have:(os[j]'(by omega)).dst∈((os.take k).drop i).map (·.dst):=by
        refine List.mem_map_of_mem (List.mem_of_getElem? (i:=j - i) ?_)
        rw [List.getElem?_drop,show i+(j - i)=j by omega,List.getElem?_take_of_lt hj2]
        exact hoj
       have:=List.all_eq_true.1 ht _ this
       simpa [Bv,hoj] using this
      have hfx:=hfree x hx
      cases x with
      | g t=>exact hsame t hfx
      | l t=>exact hsame t hfx
      | c v=>rfl
     obtain⟨c1,_,_⟩:=Kj o.op hval
     exact YX hfr hmem (by rw [c1];exact hq)
   ·rw [hBk]
    exact⟨rfl,rfl,.inl rfl,.inr (.inr ⟨rfl,rfl,rfl⟩)⟩
   ·obtain⟨o',ho',st,hd⟩:=hstep3 i hik him
    rw [ho]at ho';cases ho'
    have e:k+1+(i - (k+1))=i:=by omega
    have h1:=hEB3 (i - (k+1)) (by omega)
    rw [e]at h1
    rw [h1,hBgt i hik]
    exact Ko.of st (T.still i o ho) hd (T.call i o ho) (fun q _=>by rw [(hconst3 (i - (k+1)) (by omega)).1])
  have DB:=T.draw (rec:=recB) (E0:=merge gs g []) (S0:=s3.m) (n:=s3.nx) (fun q ob hq=>q3.lt q ob hq) hhowB
  have hSLB:∀ L,SL recB s3.m (AI ops m).size L=s3.m:=Ox (by rw [hpsz];exact hlen) hhowB
  have hLA:LA (listed.setIfInBounds k true)=Bn k (LA listed):=GC hlk
  have hstp:Step ι0 s0.m w0 ι1 s.m w1:=by have:=hd1.step;(try simp only at this);rwa [hSLA]at this
  have hst3:=hstp.trans q1
  have hs0M:s0.nx≤M1:=by have:=hd1.nM;have:=hn.1;(try simp only at *);omega
  have hdi2:DI gs N (AI ops m) os recB (wkE os recB (merge gs g [])) (fun _=>s3.m) (fun _=>s3.nx) ι0 s0 w0 (listed.setIfInBounds k true) ι3 s3.nx (a1.put oc.dst cv) w3:=by
   refine⟨by simp [hd1.sz],?_,?_,q3.ilt,Nat.le_refl _,fun i hi _ hnew=>?_,?_,?_,fun t=>?_,?_,fun q b hq hlt'=>?_⟩
   ·rw [hLA]
    intro j oj hoj hLj e he hb
    simp only [Bn,Bool.or_eq_true,beq_iff_eq]at hLj ⊢
    rcases hLj with hLj | rfl
    ·exact .inl (hd1.closed j oj hoj hLj e he hb)
    ·rw [hpoc]at hoj
     cases hoj
     exact .inl (hready e he hb)
   ·(try simp only);rw [hSLB];exact q2
   ·obtain⟨_,h2,_⟩:=hhowB i (os[i]'(by omega)) (by simp)
    rw [h2]at hnew;cases hnew
   ·cases oc.dst with
    | none=>exact hd1.size
    | some t=>simp [Act.put,hd1.size]
   ·cases oc.dst with
    | none=>exact hd1.defers
    | some t=>exact hd1.defers
   ·try simp only
    rw [hSLB,hLA,DB.VA hd1.closed hin hpoc hLk hao t]
    have heq:EL (Bv os) recB (merge gs g []) (AI ops m).size (LA listed)=EL (Bv os) recA (merge gs g []) (AI ops m).size (LA listed):=by
     funext u
     refine ACl (fun j hj=>?_) u
     have:=hlt j hj
     rw [hBlt j this,hrecA]
     try simp only
     rw [if_pos this]
    have e0:wkE os recB (merge gs g []) 0=merge gs g []:=rfl
    rw [e0,heq,hBk,hdc']
    have hold:∀ t,Rep ι3 (AZ ι3 s3.m) w3 (a1.tmps.getD t undef) (EL (Bv os) recA (merge gs g []) (AI ops m).size (LA listed) t):=by
     intro t
     have:=hsl1 t
     try simp only at this
     rw [hSLA]at this
     exact this.step q1
    cases hd:oc.dst with
    | none =>
     rw [hd]at hdc
     simp only [C9,Option.some.injEq]at hdc
     rw [← hdc]
     exact hold t
    | some u =>
     rw [hd]at hdc
     simp only [C9]at hdc
     split at hdc
     ·rename_i hu
      simp only [Option.some.injEq]at hdc
      rw [← hdc,FZ (by rw [hd1.size];exact hu)]
      simp only [Gg]
      split
      ·exact q5
      ·exact hold t
     ·cases hdc
   ·(try simp only);rw [hSLB];exact hst3
   ·exact hd1.inc q b (q4.2 q b hq (by(try simp only);omega)) hlt'
  refine Oo hS DB (by have:=q4.1;(try simp only at *);omega) (fun listed2 ι4 M4 a4 w4 k1 k2=>?_) fuel _ _ _ _ _ ?_ (fun i hi hx=>?_) hdi2
  ·-- at the end
   have hall:∀ t,EL (Bv os) recB (merge gs g []) (AI ops m).size (LA listed2) t=merge gs g'' l'' t:=by
    intro t
    have h1:=DB.Tq (AI ops m).size (Nat.le_refl _) t
    have h2:wkE os recB (merge gs g []) (AI ops m).size=E3 (m - (k+1)):=by
     rw [hpsz]
     have:=hEB3 (m - (k+1)) (by omega)
     rwa [show k+1+(m - (k+1))=m by omega]at this
    rw [h2]at h1
    rw [d6,h1]
    unfold EL
    rw [DS fun j hj _=>(by rw [k2 j hj];simp [pre,hj]:LA listed2 j=pre (AI ops m).size j)]
    rfl
   have hs4:s''.m=s3.m:=by rw [d7];exact(hconst3 _ (by omega)).1
   have hn4:s''.nx=s3.nx:=by rw [d8];exact(hconst3 _ (by omega)).2
   have hnM4:=k1.nM
   try simp only at hnM4
   have hwf4:=k1.wf
   have hstp4:=k1.step
   try simp only at hwf4 hstp4
   rw [hSLB]at hwf4 hstp4
   have hrel4:Rel gs N ι4 g'' l'' ⟨s3.m,M4⟩ a4 w4:=by
    refine⟨hwf4,⟨fun q ob hq=>?_,k1.ιM⟩,k1.size,k1.defers,fun t ht=>?_,fun t ht=>?_⟩
    ·have:=q3.lt q ob hq
     try simp only
     omega
    ·have:=k1.De t
     try simp only at this
     rw [hSLB]at this
     have e0:wkE os recB (merge gs g []) 0=merge gs g []:=rfl
     rw [e0,hall t]at this
     simp only [merge,ht,if_true]at this
     exact this
    ·have:=k1.De t
     try simp only at this
     rw [hSLB]at this
     have e0:wkE os recB (merge gs g []) 0=merge gs g []:=rfl
     rw [e0,hall t]at this
     simp only [merge,ht,Bool.false_eq_true,if_false]at this
     exact this
   have hfin:=d9 M4 (by omega)
   have hb4:s''.bump M4=⟨s3.m,M4⟩:=by rw [St.bump,hs4]
   rw [hb4]at hfin
   have:=IJ (ro:=ro) hQ (ops.toList.drop m) m suf rfl hsuf ι4 g'' l'' ⟨s3.m,M4⟩ a4 w4 hfin hrel4 hstp4 ⟨by have:=q4.1;(try simp only at *);omega,k1.inc⟩
   simpa using this
  ·exact hfuel
  ·rw [hLA]
   simp only [Bn,Bool.or_eq_true,beq_iff_eq]
   rcases Nat.lt_trichotomy i k with hik | rfl | hik
   ·left
    rw [hrecB]at hx
    try simp only at hx
    rw [if_pos hik]at hx
    split at hx
    ·assumption
    ·obtain⟨_,_,_,hd⟩:=hstep1 i hik
     rw [hd]at hx;cases hx
   ·exact .inr rfl
   ·exfalso
    rw [hBgt i hik]at hx
    obtain⟨_,_,_,hd⟩:=hstep3 i hik hi
    rw [hd]at hx;cases hx
 -- the tree of orders
 have key:∀ (fuel:Nat) (listed:Array Bool) (ι1:Nat→Option Nat) (M1:Nat) (a1:Act) (w1:World),DI gs N (AI ops m) os recA (wkE os recA (merge gs g [])) (fun _=>s.m) (fun _=>s.nx) ι0 s0 w0 listed ι1 M1 a1 w1 →
   (∀ i,LA listed i=true→i < k)→((List.range m).filter fun i=>!LA listed i).length+(ops.size - m)≤fuel→CB ro P .any ops Q fuel (Dp ops.size listed) a1 w1:=by
  intro fuel
  induction fuel with
  | zero =>
   intro listed ι1 M1 a1 w1 _ hlt hf
   exfalso
   have hLk:LA listed k=false:=by
    cases hx:LA listed k with
    | false=>rfl
    | true=>have:=hlt k hx;omega
   have hm:k∈(List.range m).filter fun i=>!LA listed i:=by simp [List.mem_filter,hkm,hLk]
   have:=List.length_pos_of_mem hm
   omega
  | succ fuel ih =>
   intro listed ι1 M1 a1 w1 hd1 hlt hf
   have hsz:listed.size=m:=by rw [hd1.sz,hpsz]
   have hin:=Oj hd1.sz
   have hpad:(Dp ops.size listed).size=ops.size:=Om (by rw [hsz];exact hmn)
   have hLk:LA listed k=false:=by
    cases hx:LA listed k with
    | false=>rfl
    | true=>have:=hlt k hx;omega
   have hcl:En ops (LA (Dp ops.size listed)):=by
    rw [DT]
    intro j o ho hj e he hb
    have hjk:=hlt j hj
    exact hd1.closed j o (by rw [BD (by omega)];exact ho) hj e he hb
   refine⟨fun hr=>?_,fun i hi=>?_⟩
   ·exfalso
    have hless:∃ i,i∈Region.ready .any (AI ops m) listed:=by
     cases hr':Region.ready .any (AI ops m) listed with
     | nil =>
      have:=GD DA hd1.sz hr' k (by rw [hpsz];exact hkm)
      rw [hLk]at this;cases this
     | cons i r=>exact⟨i,by simp⟩
    obtain⟨i,hi⟩:=hless
    obtain⟨o,ho,hL,hd⟩:=Bx hd1.sz hi
    have him:=(Array.getElem?_eq_some_iff.1 ho).1
    rw [hpsz]at him
    rw [BD him]at ho
    have:=mem_ready (listed:=Dp ops.size listed) hpad ho (by rw [DT];exact hL) (by rw [DT];exact hd)
    rw [hr]at this
    cases this
   ·obtain⟨o,ho,hL,hd⟩:=Bx hpad hi
    have hio:=(Array.getElem?_eq_some_iff.1 ho).1
    rw [DT]at hL hd
    have him:i < m:=by
     rcases Nat.lt_or_ge i m with h1 | h1
     ·exact h1
     ·exfalso
      have hin':∀ i,LA (Dp ops.size listed) i=true→i < ops.size:=fun i h'=>by rw [DT]at h';have:=hlt i h';omega
      have:=Ar hcl hin' i o ho (by rw [DT];exact hd) k (hS.all i h1 hio k (by omega))
      rw [DT,hLk]at this;cases this
    have hpo:(AI ops m)[i]?=some o:=by rw [BD him];exact ho
    have hik:i≤k:=by
     rcases Nat.lt_or_ge k i with h1 | h1
     ·exfalso
      have:=Ar hd1.closed hin i o hpo hd k (hafter i h1 him)
      rw [hLk]at this;cases this
     ·exact h1
    rw [R9 (by rw [hsz];exact him)]
    have hless:((List.range m).filter fun j=>!LA (listed.setIfInBounds i true) j).length < ((List.range m).filter fun j=>!LA listed j).length:=by
     rw [GC (by rw [hsz];exact him)]
     have hsub:((List.range m).filter fun j=>!Bn i (LA listed) j)=(((List.range m).filter fun j=>!LA listed j).filter fun j=>j != i):=by
      rw [List.filter_filter]
      congr 1
      funext j
      simp only [Bn,Bool.not_or]
      cases LA listed j <;> simp [bne]
     rw [hsub]
     have hmem:i∈(List.range m).filter fun j=>!LA listed j:=by simp [List.mem_filter,him,hL]
     exact List.length_filter_lt_length_iff_exists.2 ⟨i,hmem,by simp⟩
    by_cases e:i=k
    ·subst e
     rw [hoc]at ho
     cases ho
     exact hbehind listed ι1 M1 a1 w1 hd1 hlt hd fuel (by omega)
    ·have hik':i < k:=by omega
     refine Ol hS him (HB DA hd1 hn.1 hpo hL (by rw [hrecA];simp only;rw [if_pos hik'];exact(hstep1 i hik').elim fun _ h=>h.2.2) hd fun ι' M' a' w' h'=>ih _ ι' M' a' w' h' (fun j hj=>?_) ?_)
     ·rw [GC (by rw [hsz];exact him)]at hj
      simp only [Bn,Bool.or_eq_true,beq_iff_eq]at hj
      rcases hj with hj | rfl
      ·exact hlt j hj
      ·exact hik'
     ·omega
 have e:Dp ops.size (Array.replicate (AI ops m).size false)=Array.replicate ops.size false:=by
  apply Array.ext_getElem?
  intro j
  simp only [Dp,hpsz,Array.size_replicate]
  by_cases hj:j < m
  ·rw [Array.getElem?_append_left (by simpa using hj)]
   have:j < ops.size:=by omega
   simp [Array.getElem?_replicate,hj,this]
  ·rw [Array.getElem?_append_right (by simp;omega)]
   simp only [Array.getElem?_replicate,Array.size_replicate]
   by_cases h2:j < ops.size
   ·rw [if_pos (by omega),if_pos h2]
   ·rw [if_neg (by omega),if_neg h2]
 have hLA0:LA (Array.replicate (AI ops m).size false)=pre 0:=by
  funext j
  simp only [LA,pre]
  by_cases hj:j < (AI ops m).size <;> simp [hj]
 rw [← e]
 refine key ops.size _ ι (max s.nx s.nx) a _ ?_ (fun i hi=>?_) ?_
 ·refine⟨by simp,?_,?_,fun q b hq=>?_,Nat.le_max_right _ _,fun i hi _ hnew=>?_,hrel.size,hrel.defers,fun t=>?_,?_,fun q b hq hlt=>hn.2 q b hq hlt⟩
  ·rw [hLA0]
   intro i o ho hL
   simp [pre]at hL
  ·try simp only
   rw [hSLA];exact hrel.wf.drew
  ·have:=hrel.bnd.ilt q b hq
   omega
  ·obtain⟨_,h2,_⟩:=hhowA i (os[i]'(by omega)) (by simp)
   rw [h2]at hnew;cases hnew
  ·try simp only
   rw [hSLA,hLA0]
   have hlw:∀ n,lw (pre 0) (DG (Bv os) recA t) n=none:=by
    intro n
    induction n with
    | zero=>rfl
    | succ n ih=>simp [lw,pre,ih]
   have e0:wkE os recA (merge gs g []) 0=merge gs g []:=rfl
   rw [e0]
   simp only [EL,hlw,Option.getD_none]
   refine Rep.step (CY ι s.m w) ?_
   simp only [merge]
   split
   ·rename_i ht;exact hrel.Ek t ht
   ·rename_i ht;exact hrel.loc t (by simpa using ht)
  ·try simp only
   rw [hSLA]
   exact hst.trans (CY ι s.m w)
 ·rw [hLA0]at hi;simp [pre]at hi
 ·have:=List.length_filter_le (fun i=>!LA (Array.replicate (AI ops m).size false) i) (List.range m)
  simp only [List.length_range]at this
  omega
theorem Oy [Glob] {ops:Array Oper} {k m:Nat} {os suf:List AR} {oc:Oper} {ac:AOp} {dc:Option (Bool × Nat)} {fr:List AOp} {id:Nat} {ι0:Nat→Option Nat} {s0:St} {w0:World} {K:Env→Env→St→Prop} {Q:Exit→Act→World→Prop}
  (d:List Deferred) (htame:J8 ops=true) (hdraws:P.follows .mixedOrders=true) (hkm:k < m) (hs:Gb ops m=true) (T:Text P gs N (AI ops m) os) (hafter:∀ j,k < j→j < m→k∈(AN (AI ops m).toList []).getD j [])
  (hoc:ops[k]?=some oc) (hac:Aa P gs false oc=some ac) (hcall:ac.Ah=true) (hgc:oc.guard=none) (hdc:C9 gs N oc.dst=some dc)
  (hF:∀ i,i < k→i ∉ (AN (AI ops m).toList []).getD k []→∃ o,os[i]?=some o∧o.op∈fr∧∀ x∈o.op.D6,Kd (((os.take k).drop i).map (·.dst)) x=true)
  (hsuf:BC P gs N ops (ops.toList.drop m)=some suf)
  (hQ:∀ ι' g' l' s' a' w',Rel gs N ι' g' l' s' a' w'→Step ι0 s0.m w0 ι' s'.m w'→Inc ι0 ι' s0.nx s'.nx→K g' l' s'→Q .normal (Bj d a') w')
  (h:BM P 0 [] (os.take k) (My P fr ac dc k (os.drop (k+1)) suf K) g [] s)
  (hrel:Rel gs N ι g [] s a w) (hst:Step ι0 s0.m w0 ι s.m w) (hn:Inc ι0 ι s0.nx s.nx):(Code.region id ops true).wpIn (inR ro) 0 P Q (Bj d a) w :=
 DP htame hdraws (Qg (Q:=fun e a w=>Q e (Bj d a) w) hkm hs T hafter hoc hac hcall hgc hdc hF hsuf hQ h hrel hst hn)
end Go.AL
