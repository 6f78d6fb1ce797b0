/- The abstract layer: regions of open order with a call that turns objects, and a variable that is laid ahead of it or behind it. -/
import Derived.Test.YtlledcnjfgcipaaGreatDoorA12g
set_option linter.unusedVariables false
set_option linter.unusedSimpArgs false
namespace Go.AL
variable {ro:Option Nat} {P:Program} {gs:List Nat} {N:Nat} {ι ι':Nat→Option Nat} {g l:Env} {s s':St} {a:Act} {w w':World}
def lay (n:Nat) (f:Nat→Bool):Array Bool:=((List.range n).map f).toArray
theorem lay_size (n:Nat) (f:Nat→Bool):(lay n f).size=n:=by simp [lay]
theorem LA_lay (n:Nat) (f:Nat→Bool) (j:Nat):LA (lay n f) j=(decide (j < n) && f j):=by
 unfold LA lay
 by_cases h:j < n <;> simp [h]
theorem lay_set {n i:Nat} (f:Nat→Bool) (h:i < n):(lay n f).setIfInBounds i true=lay n (addL i f):=by
 apply Array.ext_getElem?
 intro j
 rw [Array.getElem?_setIfInBounds]
 by_cases e:i=j
 ·subst e;simp [lay,h,addL]
 ·simp only [e,if_false,lay,List.getElem?_toArray,List.getElem?_map]
  by_cases hj:j < n
  ·simp [List.getElem?_range hj,addL,Ne.symm e]
  ·simp [List.getElem?_eq_none,hj]
theorem lay_congr {n:Nat} {f f':Nat→Bool} (h:∀ j,j < n→f j=f' j):lay n f=lay n f':=by
 unfold lay
 congr 1
 exact List.map_congr_left fun j hj => h j (List.mem_range.1 hj)
theorem lay_first [Glob] {n m:Nat} (h:m≤n):lay n (fun j => decide (j < m))=firstN n m:=by
 apply Array.ext_getElem?
 intro j
 rw [firstN_get]
 simp only [lay,List.getElem?_toArray,List.getElem?_map]
 by_cases hj:j < n
 ·by_cases h2:j < m
  ·simp [List.getElem?_range hj,h2]
  ·simp [List.getElem?_range hj,h2,hj]
 ·have:¬ j < m:=by omega
  simp [List.getElem?_eq_none,hj,this]
structure Late (ops:Array Oper) (k:Nat):Prop where
 le:k+2≤ops.size
 back:∀ (j:Nat) o,ops[j]?=some o→∀ e∈o.after.toList,Region.binds .any e=true→e.on < j
 call:∀ i,i < k→i∈(befores ops.toList []).getD k []
 nocall:k+1 ∉ (befores ops.toList []).getD k []
 free:∀ o,ops[k+1]?=some o→∀ e∈o.after.toList,Region.binds .any e=false
 all:∀ j,k+2≤j→j < ops.size→∀ i,i < j→i∈(befores ops.toList []).getD j []
 guard:∀ (j:Nat) o,ops[j]?=some o→j < k→∀ i want,o.guard=some (i,want)→i < k
theorem lateOK_spec {ops:Array Oper} {k:Nat} (h:lateOK ops k=true):Late ops k:=by
 simp only [lateOK,Bool.and_eq_true,decide_eq_true_eq,List.all_eq_true,List.mem_range] at h
 obtain ⟨h1,h2⟩:=h
 refine ⟨h1,fun j o ho e he hb => ?_,fun i hi => ?_,?_,fun o ho e he => ?_,fun j hkj hj i hij => ?_,fun j o ho hjk i want hg => ?_⟩
 ·have:=(h2 j (Array.getElem?_eq_some_iff.1 ho).1).1.1.1.1
  rw [ho] at this
  simp only [List.all_eq_true] at this
  have:=this e he
  simpa [hb] using this
 ·have:=(h2 k (by omega)).1.1.1.2
  simp only [Bool.or_eq_true,Bool.not_eq_true',decide_eq_false_iff_not,not_true,false_or,Bool.and_eq_true,List.all_eq_true,List.mem_range,List.contains_iff_mem] at this
  exact this.1 i hi
 ·have:=(h2 k (by omega)).1.1.1.2
  simp only [Bool.or_eq_true,Bool.not_eq_true',decide_eq_false_iff_not,not_true,false_or,Bool.and_eq_true] at this
  have h3:=this.2
  intro hm
  rw [List.contains_iff_mem.2 hm] at h3
  cases h3
 ·have:=(h2 (k+1) (by omega)).1.1.2
  rw [ho] at this
  simp only [decide_true,Bool.not_true,Bool.false_or,List.all_eq_true] at this
  have:=this e he
  simpa using this
 ·have:=(h2 j hj).1.2
  simp only [Bool.or_eq_true,decide_eq_true_eq,List.all_eq_true,List.mem_range,List.contains_iff_mem] at this
  rcases this with h | h
  ·omega
  ·exact h i hij
 ·have:=(h2 j (Array.getElem?_eq_some_iff.1 ho).1).2
  rw [ho] at this
  simp only [hg,Bool.or_eq_true,decide_eq_true_eq] at this
  omega
theorem wpOp_pre' [Glob] {ops:Array Oper} {k i:Nat} (hs:Late ops k) (hi:i < k) {Q:Exit→Act→World→Prop} {K:Act→World→Prop} (h:wpOpR ro P (preOps ops k) Q i K a w):wpOpR ro P ops Q i K a w:=by
 unfold wpOpR at h ⊢
 rw [preOps_get hi] at h
 cases ho:ops[i]? with
 | none => simpa only [ho] using h
 | some o =>
  simp only [ho] at h ⊢
  have:Region.wanted o (yielded (preOps ops k) a.tmps)=Region.wanted o (yielded ops a.tmps):=by
   unfold Region.wanted
   cases hg:o.guard with
   | none => rfl
   | some jw =>
    obtain ⟨j,want⟩:=jw
    have:=hs.guard i o ho hi j want hg
    simp only [yielded,preOps_get this]
  rw [this] at h
  exact h
theorem wpOp_keep {ops:Array Oper} {Q:Exit→Act→World→Prop} {K:Act→World→Prop} {i t:Nat} (ht:∀ o,ops[i]?=some o→o.dst≠some t) (h:wpOpR ro P ops Q i K a w) :
  wpOpR ro P ops Q i (fun a' w' => K a' w'∧a'.tmps.getD t undef=a.tmps.getD t undef) a w:=by
 unfold wpOpR at h ⊢
 have hput:∀ (b:Act) (o:Oper) v,ops[i]?=some o→b.tmps=a.tmps→(b.put o.dst v).tmps.getD t undef=a.tmps.getD t undef:=by
  intro b o v ho hb
  have hne:=ht o ho
  cases hd:o.dst with
  | none => simp [Act.put,hb]
  | some u =>
   have hu:u≠t:=fun e => hne (by rw [hd,e])
   simp [Act.put,hb,Array.getElem?_setIfInBounds_ne hu]
 cases ho:ops[i]? with
 | none => simp only [ho] at h ⊢;exact ⟨h,trivial⟩
 | some o =>
  simp only [ho] at h ⊢
  split
  ·rename_i hw
   rw [if_pos hw] at h
   rcases h with h | h
   ·left
    unfold Oper.wpR at h ⊢
    generalize (execOp a.eval o).run P w=r at h ⊢
    cases r with
    | ok x w1 =>
     cases x with
     | value v => exact ⟨h,hput a o v ho rfl⟩
     | skip => exact ⟨h,hput a o _ ho rfl⟩
     | defer c => exact ⟨h,hput _ o _ ho rfl⟩
     | enter f args => exact ⟨h.1,CallsIn.mono h.2 fun e w' he => by cases e <;> first | exact ⟨he,hput a o _ ho rfl⟩ | exact he⟩
     | round l f tmps as bd => exact ⟨h.1,RoundIn.mono h.2 fun e w' he => by cases e <;> first | exact ⟨he,hput a o _ ho rfl⟩ | exact he⟩
     | row row args => exact ⟨h.1,RowsIn.mono h.2 fun v w' he => ⟨he,hput a o _ ho rfl⟩⟩
     | _ => exact h
    | halt x w1 => cases x <;> exact h
   ·exact .inr h
  ·rename_i hw
   rw [if_neg hw] at h
   exact ⟨h,hput a o _ ho rfl⟩
theorem late_block [Glob] {S:Store} (hwf:WF ι S w) {X:Nat} (hι:ι X=none) {obj:AObj} (hX:S X=some obj) (o:Obj)
  (hrep:ObjRep (putι ι X w.heap.size) (Foot (putι ι X w.heap.size) S) (w.alloc o) w.heap.size obj) :
  Step ι S w (putι ι X w.heap.size) S (w.alloc o)∧WF (putι ι X w.heap.size) S (w.alloc o):=by
 have e:putS S X obj=S:=by
  funext q
  unfold putS
  split
  ·rename_i h;rw [h,hX]
  ·rfl
 have h1:=alloc_obj_step hwf hι o obj
 have h2:=alloc_obj_wf hwf hι o obj
 rw [e] at h1 h2
 exact ⟨h1,h2 hrep⟩
theorem draw_setup2 [Glob] {ops:Array Oper} {os:List AOper} {kinds:List AOp} {K:Env→Env→St→Prop}
  (hchk:(slotsOK ops (befores ops.toList []) && edgesOK ops (befores ops.toList []))=true) (hk:kindsOf P gs ops.toList=some kinds) (hc:compileDraw P gs N ops (befores ops.toList []) kinds 0 ops.toList=some os)
  (h:aopsD P 0 [] os K g l s) (hrel:Rel gs N ι g l s a w) :
  ∃ rec E S nx ac M,Draw P gs N ops os rec E S nx ac∧(∀ i,i < ops.size→(rec i).done=false)∧s.nx≤nx 0∧S 0=s.m∧E 0=merge gs g l∧(∀ i o,os[i]?=some o→kinds.getD i .mkmap=o.op∨o.op.isCall=true)∧DI gs N ops os rec E S nx ι s w (Array.replicate ops.size false) ι M a w.drew ∧
   ∀ (ι0:Nat→Option Nat) (s0:St) (w0:World),s0.nx≤nx 0→∀ listed ι' M a' w',DI gs N ops os rec E S nx ι0 s0 w0 listed ι' M a' w'→(∀ i,i < ops.size→LA listed i=true) →
    ∃ g' l' s',Rel gs N ι' g' l' s' a' w'∧Step ι0 s0.m w0 ι' s'.m w'∧Inc ι0 ι' s0.nx s'.nx∧K g' l' s':=by
 obtain ⟨hlen,hspec⟩:=compileDraw_spec ops.toList 0 os hc
 simp only [Array.length_toList] at hlen
 have hop:∀ (i:Nat) o,ops[i]?=some o→∃ ao,os[i]?=some ao∧compileAny P gs true o=some ao.op∧cdst gs N o.dst=some ao.dst∧cguard gs ops o.guard=some ao.guard∧aoperOK gs (namesOf ops o) ao=true:=by
  intro i o ho
  obtain ⟨ao,h1,h2,h3,h4,h5,_⟩:=hspec i o (by simpa using ho)
  exact ⟨ao,h1,h2,h3,h4,h5⟩
 have hkind:∀ (i:Nat) o ao,ops[i]?=some o→os[i]?=some ao→∃ kd,kinds.getD i .mkmap=kd∧ao.op.isCall=kd.isCall∧(ao.op.isCall=true→∃ f as,ao.op=.call true f as)∧(ao.op.isCall=false→ao.op=kd):=by
  intro i o ao ho hao
  obtain ⟨ao',h1,h2,_⟩:=hop i o ho
  rw [hao] at h1
  cases h1
  obtain ⟨kd,k1,k2⟩:=kindsOf_spec ops.toList kinds hk i o (by simpa using ho)
  obtain ⟨f1,f2,f3⟩:=compileAny_flag h2 k2
  exact ⟨kd,by simp [k1],f1,f2,f3⟩
 obtain ⟨rec,E,S,nx,ac,e1,e2,e3,e4,e5,g',l',s',e6,e7,e8,e9⟩:=extract (gs:=gs) (namesOf:=fun i => (ops[i]?).elim [] (namesOf ops)) os 0 [] g l s (fun i ao hao => by
  have hi:i < ops.size:=by rw [← hlen];exact (List.getElem?_eq_some_iff.1 hao).1
  have ho:ops[i]?=some ops[i]:=by simp [hi]
  obtain ⟨ao',h1,h2,_,_,h5⟩:=hop i _ ho
  rw [hao] at h1
  cases h1
  obtain ⟨_,_,_,hc2,_⟩:=hkind i _ ao ho hao
  refine ⟨?_,hc2⟩
  rw [Nat.zero_add,ho]
  exact h5) h
 simp only [Nat.zero_add] at e5
 simp only [Bool.and_eq_true] at hchk
 obtain ⟨hslots,hedges⟩:=hchk
 have D:Draw P gs N ops os rec E S nx ac:=by
  refine ⟨hlen,hop,fun i o h => (e5 i o h).1,?_,?_,?_,?_⟩
  ·intro i j x y hij hx hy hcl
   have hj:j < ops.size:=(Array.getElem?_eq_some_iff.1 hy).1
   have h1:=List.all_eq_true.1 hslots j (by simpa using hj)
   have h2:=List.all_eq_true.1 h1 i (by simpa using hij)
   rw [hx,hy] at h2
   simp only [hcl,Bool.not_true,Bool.false_or,List.contains_iff_mem] at h2
   exact h2
  ·intro i j x y hij hx hy hl hw n1 n2
   have hj:j < ops.size:=by rw [← hlen];exact (List.getElem?_eq_some_iff.1 hy).1
   have hoi:ops[i]?=some (ops[i]'(by omega)):=by simp
   have hoj:ops[j]?=some ops[j]:=by simp [hj]
   obtain ⟨ki,q1,q2,_,q3⟩:=hkind i _ x hoi hx
   obtain ⟨kj,r1,r2,_,r3⟩:=hkind j _ y hoj hy
   obtain ⟨y',s1,_,_,_,_,s6⟩:=hspec j ops[j] (by rw [Array.getElem?_toList];exact hoj)
   rw [hy] at s1
   cases s1
   simp only [Nat.zero_add] at s6
   by_cases hb:((befores ops.toList []).getD j []).contains i=true
   ·exact .inl (by simpa using hb)
   ·have s7:=s6 i hij (by simpa using hb)
    rw [q1,r1,← q3 n1,← r3 n2] at s7
    refine .inr (s7 hl ?_ n2 n1)
    rcases hw with hw | ⟨w1,w2⟩
    ·simp [hw]
    ·rcases w2 with w2 | w2 <;> simp [w1,w2]
  ·intro i o ho e he hb
   have hi:i < ops.size:=(Array.getElem?_eq_some_iff.1 ho).1
   have h1:=List.all_eq_true.1 hedges i (by simpa using hi)
   rw [ho] at h1
   simp only [Bool.and_eq_true] at h1
   have h2:=List.all_eq_true.1 h1.1 e he
   simpa [hb] using h2
  ·intro q ob hq
   rw [e2] at hq
   rw [e3]
   exact hrel.bnd.lt q ob hq
 have hs0:s.nx≤nx 0:=by rw [e3];exact Nat.le_refl _
 have hst:=Step.refl ι s.m w
 have hn:=Inc.refl ι s.nx
 have hnd:∀ i,i < ops.size→(rec i).done=false:=fun i hi => (e5 i (os[i]'(by rw [hlen];exact hi)) (by simp [hlen,hi])).2
 refine ⟨rec,E,S,nx,ac,max s.nx (nx ops.size),D,hnd,hs0,e2,e1,fun i o ho => ?_,?_,?_⟩
 ·have hi:i < ops.size:=by rw [← hlen];exact (List.getElem?_eq_some_iff.1 ho).1
  obtain ⟨kd,q1,_,_,q3⟩:=hkind i ops[i] o (by simp [hi]) ho
  cases hcl:o.op.isCall with
  | true => exact .inr rfl
  | false => left;rw [q1,q3 hcl]
 rotate_left
 ·intro ι0 s0 w0 hs0 listed ι' M a' w' hdi hall
  have hpre:∀ j,j < ops.size→LA listed j=pre ops.size j:=fun j hj => by rw [hall j hj];simp [pre,hj]
  have hE:∀ t,EL (dstF os) rec (E 0) ops.size (LA listed) t=E ops.size t:=fun t => by
   rw [D.E_eq ops.size (Nat.le_refl _) t]
   unfold EL
   rw [lw_congr fun j hj _ => hpre j hj]
  have hS:SL rec (S 0) ops.size (LA listed)=s'.m:=by
   rw [e7,hlen]
   funext q
   rw [D.S_eq ops.size (Nat.le_refl _) q]
   unfold SL
   rw [lw_congr fun j hj _ => hpre j hj]
  rw [hlen] at e6 e8
  have hnM:=hdi.nM
  refine ⟨g',l',s'.bump M,⟨by rw [St.bump,← hS];exact hdi.wf,⟨fun q ob hq => ?_,hdi.ιM⟩,hdi.size,hdi.defers,fun t ht => ?_,fun t ht => ?_⟩,by rw [St.bump,← hS];exact hdi.step,⟨?_,hdi.inc⟩,e9 M (by rw [e8];exact hnM)⟩
  ·simp only [St.bump] at hq ⊢
   rw [e7,hlen] at hq
   have:=D.S_bnd ops.size (Nat.le_refl _) q ob hq
   omega
  ·have:=hdi.slots t
   rw [hE,← e6,hS] at this
   simp only [merge,ht,if_true] at this
   exact this
  ·have:=hdi.slots t
   rw [hE,← e6,hS] at this
   simp only [merge,ht,Bool.false_eq_true,if_false] at this
   exact this
  ·have:=D.nx_le (i:=0) (j:=ops.size) (Nat.zero_le _) (Nat.le_refl _)
   simp only [St.bump]
   omega
 ·have hLA:LA (Array.replicate ops.size false)=pre 0:=by
   funext j
   simp only [LA,pre]
   by_cases hj:j < ops.size <;> simp [hj]
  have hE0:∀ t,EL (dstF os) rec (E 0) ops.size (pre 0) t=E 0 t:=fun t => (D.E_eq 0 (Nat.zero_le _) t).symm
  have hS0:SL rec (S 0) ops.size (pre 0)=s.m:=by
   rw [← e2]
   funext q
   exact (D.S_eq 0 (Nat.zero_le _) q).symm
  refine ⟨by simp,?_,?_,fun q b hq => ?_,Nat.le_max_right _ _,fun i hi _ hnew => ?_,hrel.size,hrel.defers,fun t => ?_,?_,fun q b hq hlt => hn.2 q b hq hlt⟩
  ·rw [hLA]
   intro i o ho hL
   simp [pre] at hL
  ·rw [hLA,hS0];exact hrel.wf.drew
  ·have:=hrel.bnd.ilt q b hq
   omega
  ·cases hι:ι (nx i) with
   | none => rfl
   | some b =>
    exfalso
    have h1:=hrel.bnd.ilt _ b hι
    have h2:=D.nx_le (i:=0) (j:=i) (Nat.zero_le _) (by omega)
    rw [e3] at h2
    omega
  ·rw [hLA,hE0,hS0,e1]
   refine Rep.step (drew_step ι s.m w) ?_
   simp only [merge]
   split
   ·rename_i ht;exact hrel.glob t ht
   ·rename_i ht;exact hrel.loc t (by simpa using ht)
  ·rw [hLA,hS0]
   exact hst.trans (drew_step ι s.m w)
theorem late_zero [Glob] {S:Store} (hwf:WF ι S w) {X:Nat} (hι:ι X=none) {zs:List AV} (hX:S X=some (.box zs)) {e:TypeId} (hz:zeroAV P e=some zs) :
  ∃ z,(zeroValue e).run P w=.ok z w∧Step ι S w (putι ι X w.heap.size) S (w.alloc (.cells z.cells e))∧WF (putι ι X w.heap.size) S (w.alloc (.cells z.cells e)):=by
 obtain ⟨i,z,hi,hiz,hzr,hz1,hzv,_⟩:=zeroAV_spec (ι:=ι) (F:=Foot ι S) (w:=w) hz
 have e0:putS S X (.box zs)=S:=by
  funext q
  unfold putS
  split
  ·rename_i h;rw [h,hX]
  ·rfl
 have hs:=alloc_obj_step hwf hι (.cells z.cells e) (.box zs)
 rw [e0] at hs
 exact ⟨z,hzv,late_block hwf hι hX _ ⟨z.cells,e,heap_alloc_eq w _,Nat.le_of_eq hzr.1.symm,(hzr.step hs).2,fun j v _ => hz1 j v⟩⟩
theorem wpOp_alloc {ops:Array Oper} {Q:Exit→Act→World→Prop} {K:Act→World→Prop} {i t:Nat} {o:Oper} {e:TypeId} {z:Value} (ho:ops[i]?=some o) (hop:o.op=.alloc e) (hg:o.guard=none) (hd:o.dst=some t)
  (hzv:(zeroValue e).run P w=.ok z w) (h:K (a.put (some t) (.pointer (some ⟨w.heap.size,0,none⟩))) (w.alloc (.cells z.cells e))):wpOpR ro P ops Q i K a w:=by
 unfold wpOpR
 simp only [ho]
 have hw:Region.wanted o (yielded ops a.tmps)=true:=by simp [Region.wanted,hg]
 rw [if_pos hw]
 left
 unfold Oper.wpR
 have hr:(execOp a.eval o).run P w=.ok (.value (.pointer (some ⟨w.heap.size,0,none⟩))) (w.alloc (.cells z.cells e)):=by
  obtain ⟨dst,op,type,pos,after,guard⟩:=o
  simp only at hop
  subst hop
  simp [execOp,Instr.alloc,hzv,newVar,newRow]
 rw [hr,Oper.uponIn_value,hd]
 exact h
end Go.AL
namespace Go.AL
variable {ro:Option Nat} {P:Program} {gs:List Nat} {N:Nat} {ι ι':Nat→Option Nat} {g l:Env} {s s':St} {a:Act} {w w':World}
def fOf (k:Nat) (L:Nat→Bool) (c d:Bool):Nat→Bool:=fun j => if j < k then L j else if j=k then c else if j=k+1 then d else false
theorem fOf_alloc (k:Nat) (L:Nat→Bool) (c d:Bool):fOf k L c d (k+1)=d:=by
 unfold fOf
 rw [if_neg (by omega),if_neg (by omega),if_pos rfl]
theorem fOf_call (k:Nat) (L:Nat→Bool) (c d:Bool):fOf k L c d k=c:=by
 unfold fOf
 rw [if_neg (by omega),if_pos rfl]
theorem fOf_pre {k j:Nat} (h:j < k) (L:Nat→Bool) (c d:Bool):fOf k L c d j=L j:=by
 unfold fOf
 rw [if_pos h]
theorem fOf_suf {k j:Nat} (h:k+2≤j) (L:Nat→Bool) (c d:Bool):fOf k L c d j=false:=by
 unfold fOf
 rw [if_neg (by omega),if_neg (by omega),if_neg (by omega)]
theorem Rel.setSlot [Glob] (h:Rel gs N ι g l s a w) {t:Nat} {v:AV} (hv:Rep ι (Foot ι s.m) w (a.tmps.getD t undef) v) {K:Env→Env→Prop} (hk:setDst (some (gs.contains t,t)) v g l K) :
  ∃ g' l',K g' l'∧Rel gs N ι g' l' s a w:=by
 cases hg:gs.contains t with
 | true =>
  rw [hg] at hk
  refine ⟨(t,v)::g,l,hk,h.wf,h.bnd,h.size,h.defers,fun u hu => ?_,h.loc⟩
  simp only [Env.get]
  split
  ·rename_i e;subst e;exact hv
  ·exact h.glob u hu
 | false =>
  rw [hg] at hk
  refine ⟨g,(t,v)::l,hk,h.wf,h.bnd,h.size,h.defers,h.glob,fun u hu => ?_⟩
  simp only [Env.get]
  split
  ·rename_i e;subst e;exact hv
  ·exact h.loc u hu
theorem late_fin [Glob] {ops:Array Oper} {k:Nat} {suf:List AOper} {ι0:Nat→Option Nat} {s0:St} {w0:World} {K:Env→Env→St→Prop} {Q:Exit→Act→World→Prop} (hS:Late ops k) {oc oa:Oper} (hoc:ops[k]?=some oc) (hgc:oc.guard=none)
  (hoa:ops[k+1]?=some oa) (hga:oa.guard=none) (hsuf:compileSeq P gs N ops (ops.toList.drop (k+2))=some suf)
  (hQ:∀ ι' g' l' s' a' w',Rel gs N ι' g' l' s' a' w'→Step ι0 s0.m w0 ι' s'.m w'→Inc ι0 ι' s0.nx s'.nx→K g' l' s'→Q .normal a' w') (L:Nat→Bool) (hL:∀ j,j < k→L j=true)
  (fuel:Nat) (hf:ops.size - (k+2)≤fuel) (hrel:Rel gs N ι g l s a w) (hst:Step ι0 s0.m w0 ι s.m w) (hn:Inc ι0 ι s0.nx s.nx) (h:aops P suf K g l s) :
  wpAnyR ro P .any ops Q fuel (lay ops.size (fOf k L true true)) a w:=by
 have hsuf':Suf ops (k+2):=⟨hS.le,hS.back,hS.all,fun j o ho hj i want hg => by
  rcases Nat.lt_or_ge j k with h1 | h1
  ·have:=hS.guard j o ho h1 i want hg;omega
  ·rcases (show j=k∨j=k+1 by omega) with rfl | rfl
   ·rw [hoc] at ho;cases ho;rw [hgc] at hg;cases hg
   ·rw [hoa] at ho;cases ho;rw [hga] at hg;cases hg⟩
 have e:lay ops.size (fOf k L true true)=firstN ops.size (k+2):=by
  rw [← lay_first hS.le]
  refine lay_congr fun j _ => ?_
  unfold fOf
  by_cases h1:j < k
  ·rw [if_pos h1,hL j h1];simp;omega
  ·rw [if_neg h1]
   by_cases h2:j=k
   ·rw [if_pos h2];simp;omega
   ·rw [if_neg h2]
    by_cases h3:j=k+1
    ·rw [if_pos h3];simp;omega
    ·rw [if_neg h3];simp;omega
 rw [e]
 refine wpAny_seq hsuf' fuel (k+2) a w (Nat.le_refl _) hS.le hf ?_
 have:=seq_from (ro:=ro) hQ (ops.toList.drop (k+2)) (k+2) suf rfl hsuf ι g l s a w h hrel hst hn
 simpa using this
theorem late_any0 [Glob] {ops:Array Oper} {k t:Nat} {os suf:List AOper} {kinds:List AOp} {zs:List AV} {e:TypeId} {oc oa:Oper} {ac:AOp} {dc:Option (Bool × Nat)} {ι0:Nat→Option Nat} {s0:St} {w0:World} {K:Env→Env→St→Prop} {Q:Exit→Act→World→Prop}
  (hs:lateOK ops k=true) (hchk:(slotsOK (preOps ops k) (befores (preOps ops k).toList []) && edgesOK (preOps ops k) (befores (preOps ops k).toList []))=true)
  (hk:kindsOf P gs (preOps ops k).toList=some kinds) (hw:kinds.all (fun x => x.isCall || !x.writes)=true) (hc:compileDraw P gs N (preOps ops k) (befores (preOps ops k).toList []) kinds 0 (preOps ops k).toList=some os)
  (hoc:ops[k]?=some oc) (hac:compileAny P gs false oc=some ac) (hgc:oc.guard=none) (hdc:cdst gs N oc.dst=some dc) (htc:oc.dst≠some t)
  (hoa:ops[k+1]?=some oa) (hae:oa.op=.alloc e) (hga:oa.guard=none) (hda:oa.dst=some t) (htN:t < N) (hz:zeroAV P e=some zs)
  (hnt:∀ i,i < k→∀ o,ops[i]?=some o→o.dst≠some t) (hsuf:compileSeq P gs N ops (ops.toList.drop (k+2))=some suf)
  (hQ:∀ ι' g' l' s' a' w',Rel gs N ι' g' l' s' a' w'→Step ι0 s0.m w0 ι' s'.m w'→Inc ι0 ι' s0.nx s'.nx→K g' l' s'→Q .normal a' w')
  (h:aopsD P 0 [] os (lateE P (gs.contains t) ac dc t zs s.nx suf K) (clrE (gs.contains t) t g) [] (s.new (.box zs)))
  (hrel:Rel gs N ι g [] s a w) (hst:Step ι0 s0.m w0 ι s.m w) (hn:Inc ι0 ι s0.nx s.nx):wpAnyR ro P .any ops Q ops.size (Array.replicate ops.size false) a { w with drawn:=w.drawn+1 }:=by
 have hS:=lateOK_spec hs
 have hkle:k≤ops.size:=by have:=hS.le;omega
 have hpsz:=preOps_size hkle
 obtain ⟨X,hX⟩:∃ X,X=s.nx:=⟨_,rfl⟩
 have hιX:ι X=none:=by
  cases hι:ι X with
  | none => rfl
  | some b => exact absurd (hrel.bnd.ilt X b hι) (by rw [hX];exact Nat.lt_irrefl _)
 rw [← hX] at h
 -- the variable's object, without a block
 obtain ⟨s1,hs1⟩:∃ s1,s1=s.new (.box zs):=⟨_,rfl⟩
 have hs1m:s1.m=putS s.m X (.box zs):=by rw [hs1,hX];rfl
 have hs1x:s1.m X=some (.box zs):=by rw [hs1m];simp [putS]
 have hs1n:s1.nx=s.nx+1:=by rw [hs1];rfl
 rw [← hs1] at h
 have hv1:Step ι s.m w ι s1.m w:=by rw [hs1m];exact virtual_step hιX s.m w _
 have hrel1:Rel gs N ι (clrE (gs.contains t) t g) [] s1 a w:=by
  refine ⟨by rw [hs1m];exact hrel.wf.virtual hιX _,⟨fun q ob hq => ?_,fun q b hq => ?_⟩,hrel.size,hrel.defers,fun u hu => ?_,fun u hu => .any _⟩
  ·rw [hs1m] at hq
   unfold putS at hq
   split at hq
   ·rename_i e;rw [hs1n,e,hX];omega
   ·have:=hrel.bnd.lt q ob hq;rw [hs1n];omega
  ·have:=hrel.bnd.ilt q b hq;rw [hs1n];omega
  ·unfold clrE
   split
   ·simp only [Env.get]
    split
    ·exact .any _
    ·exact (hrel.glob u hu).step hv1
   ·exact (hrel.glob u hu).step hv1
 obtain ⟨rec,E,S,nx,acc,M,D,hnd,hnx0,hS0,hE0,hkw,hdi,hend⟩:=draw_setup2 hchk hk hc h hrel1
 have hXn:X < nx 0:=by omega
 -- no operation ahead of the call turns the variable's object
 have hSX:∀ L,SL rec (S 0) (preOps ops k).size L X=some (.box zs):=by
  intro L
  have:lw L (objW rec X) (preOps ops k).size=none:=by
   have key:∀ m,m≤(preOps ops k).size→lw L (objW rec X) m=none:=by
    intro m
    induction m with
    | zero => intro _;rfl
    | succ m ih =>
     intro hm
     have ho:objW rec X m=none:=by
      cases hob:objW rec X m with
      | none => rfl
      | some x =>
       exfalso
       obtain ⟨ai,hai⟩:=D.aget (i:=m) (by omega)
       rcases objW_cases (j:=m) (rec:=rec) (q:=X) (by rw [hob];simp) with ⟨h1,h2⟩ | ⟨h1,h2⟩
       ·have:=(D.step m ai hai).nid
        have h3:=D.nx_le (i:=0) (j:=m) (Nat.zero_le _) (by omega)
        omega
       ·have h3:=D.rec_u hai h1 h2
        have h4:=(D.rec_t hai h1).2.2.1
        rcases hkw m ai hai with h5 | h5
        ·rw [← h5] at h3 h4
         have:kinds.getD m .mkmap∈kinds:=by
          by_cases hml:m < kinds.length
          ·simp [hml]
          ·simp [hml,AOp.writes] at h3
         have:=List.all_eq_true.1 hw _ this
         rw [h3,h4] at this
         cases this
        ·rw [h5] at h4;cases h4
     simp only [lw,ho,ih (by omega)]
     split <;> rfl
   exact key _ (Nat.le_refl _)
  unfold SL
  rw [this,hS0]
  exact hs1x
 have hEt:∀ L,EL (dstF os) rec (E 0) (preOps ops k).size L t=.any:=by
  intro L
  have:lw L (slotW (dstF os) rec t) (preOps ops k).size=none:=by
   have hk':∀ m,m≤(preOps ops k).size→lw L (slotW (dstF os) rec t) m=none:=by
    intro m
    induction m with
    | zero => intro _;rfl
    | succ m ih =>
     intro hm
     have ho:slotW (dstF os) rec t m=none:=by
      have hmk:m < k:=by omega
      have hom:(preOps ops k)[m]?=some ((preOps ops k)[m]'(by omega)):=by simp
      obtain ⟨ao,h1,_,h2,_⟩:=D.op m _ hom
      have hne:=hnt m hmk _ (by rw [← preOps_get hmk];exact hom)
      unfold slotW dstF
      rw [h1]
      simp only [Option.bind_some]
      cases hd:((preOps ops k)[m]'(by omega)).dst with
      | none =>
       rw [hd] at h2
       simp only [cdst,Option.some.injEq] at h2
       rw [← h2]
      | some u =>
       rw [hd] at h2 hne
       simp only [cdst] at h2
       split at h2
       ·simp only [Option.some.injEq] at h2
        rw [← h2]
        have:u≠t:=fun e => hne (by rw [e])
        simp [this]
       ·cases h2
     simp only [lw,ho,ih (by omega)]
     split <;> rfl
   exact hk' _ (Nat.le_refl _)
  unfold EL
  rw [this,hE0]
  simp only [Option.getD_none,merge,clrE]
  cases hg:gs.contains t <;> simp [Env.get,hg]
 have hst1:Step ι0 s0.m w0 ι s1.m w:=hst.trans hv1
 have hn1:Inc ι0 ι s0.nx s1.nx:=⟨by have:=hn.1;omega,hn.2⟩
 have hdstt:cdst gs N (some t)=some (some (gs.contains t,t)):=by simp [cdst,htN]
 -- the call, once all ahead of it are done
 have hcall:∀ {fuel:Nat} {ιr:Nat→Option Nat} {sr:St} {wr:World} {listed:Array Bool} {ι1:Nat→Option Nat} {M1:Nat} {a1:Act} {w1:World} (d:Bool),sr.nx≤nx 0→Step ι0 s0.m w0 ιr sr.m wr→Inc ι0 ιr s0.nx sr.nx→X < sr.nx →
   DI gs N (preOps ops k) os rec E S nx ιr sr wr listed ι1 M1 a1 w1→(∀ i,i < k→LA listed i=true) →
   (match d with | true => ∃ b,ι1 X=some b∧a1.tmps.getD t undef=.pointer (some ⟨b,0,none⟩) | false => ι1 X=none)→(if d then 0 else 1)+(ops.size - (k+2))≤fuel →
   wpOpR ro P ops Q k (wpAnyR ro P .any ops Q fuel (lay ops.size (fOf k (LA listed) true d))) a1 w1:=by
  intro fuel ιr sr wr listed ι1 M1 a1 w1 d hsr hstr hnr hXr hdi1 hall hd hfuel
  obtain ⟨g2,l2,s2,k1,k2,k3,k4⟩:=hend ιr sr wr hsr listed ι1 M1 a1 w1 hdi1 (by rw [hpsz];exact hall)
  have hXs2:X < s2.nx:=by have:=k3.1;omega
  unfold wpOpR
  simp only [hoc]
  have hwn:Region.wanted oc (yielded ops a1.tmps)=true:=by simp [Region.wanted,hgc]
  rw [if_pos hwn]
  refine .inl (step_sound hac rfl k1 k4 fun ι3 cv v s3 w3 q1 q2 q3 q4 q5 q6 => ?_)
  obtain ⟨hx3,q6⟩:=q6
  obtain ⟨g3,l3,hg3,hr3⟩:=k1.put (S:=s2.m) q1 q2 q3 hdc q5 q6
  have hst3:=hstr.trans (k2.trans q1)
  have hn3:=hnr.trans (k3.trans q4)
  cases d with
  | true =>
   obtain ⟨b,hb,ht⟩:=hd
   have hslot:(a1.put oc.dst cv).tmps.getD t undef=.pointer (some ⟨b,0,none⟩):=by
    rw [← ht]
    cases hd:oc.dst with
    | none => rfl
    | some u =>
     have hu:u≠t:=fun e => htc (by rw [hd,e])
     simp [Act.put,Array.getElem?_setIfInBounds_ne hu]
   have hb3:ι3 X=some b:=q1.ext X b hb
   obtain ⟨g4,l4,hg4,hr4⟩:=hr3.setSlot (t:=t) (v:=.ptr X 0) (by rw [hslot];exact .ptr 0 hb3) hg3
   exact late_fin hS hoc hgc hoa hga hsuf hQ _ hall fuel (by simpa using hfuel) hr4 hst3 hn3 hg4
  | false =>
   simp only at hd
   have hd3:ι3 X=none:=by
    cases h3:ι3 X with
    | none => rfl
    | some b => have:=q4.2 X b h3 hXs2;rw [hd] at this;cases this
   obtain ⟨f,rfl⟩:∃ f,fuel=f+1:=⟨fuel - 1,by simp at hfuel;omega⟩
   have hlsz:=lay_size ops.size (fOf k (LA listed) true false)
   have hk1:k+1 < ops.size:=by have:=hS.le;omega
   refine ⟨fun hr => ?_,fun i hi => ?_⟩
   ·have:=mem_ready (listed:=lay ops.size (fOf k (LA listed) true false)) hlsz hoa (by rw [LA_lay,fOf_alloc];simp) (fun e' he hb => by
     rw [hS.free oa hoa e' he] at hb;cases hb)
    rw [hr] at this
    cases this
   ·obtain ⟨o,ho,hL,hdd⟩:=ready_mem hlsz hi
    have hio:=(Array.getElem?_eq_some_iff.1 ho).1
    have hik:i=k+1:=by
     rw [LA_lay] at hL
     simp only [hio,decide_true,Bool.true_and] at hL
     unfold fOf at hL
     by_cases h1:i < k
     ·rw [if_pos h1,hall i h1] at hL;cases hL
     ·rw [if_neg h1] at hL
      by_cases h2:i=k
      ·rw [if_pos h2] at hL;cases hL
      ·by_cases h3:i=k+1
       ·exact h3
       ·exfalso
        have hin:∀ i,LA (lay ops.size (fOf k (LA listed) true false)) i=true→i < ops.size:=fun i h' => by rw [LA_lay] at h';simp at h';exact h'.1
        have hcl:Closed ops (LA (lay ops.size (fOf k (LA listed) true false))):=by
         intro j oj hoj hLj e' he hb
         have hjs:=(Array.getElem?_eq_some_iff.1 hoj).1
         have hlt:=hS.back j oj hoj e' he hb
         rw [LA_lay] at hLj ⊢
         simp only [hjs,decide_true,Bool.true_and] at hLj
         have hes:e'.on < ops.size:=by omega
         simp only [hes,decide_true,Bool.true_and]
         unfold fOf at hLj ⊢
         by_cases j1:e'.on < k
         ·rw [if_pos j1];exact hall _ j1
         ·rw [if_neg j1]
          by_cases j2:e'.on=k
          ·rw [if_pos j2]
          ·exfalso
           have:¬ j < k:=by omega
           rw [if_neg this] at hLj
           have:¬ j=k:=by omega
           rw [if_neg this] at hLj
           by_cases j3:j=k+1
           ·omega
           ·rw [if_neg j3] at hLj;cases hLj
        have:=closed_before hcl hin i o ho hdd (k+1) (hS.all i (by omega) hio (k+1) (by omega))
        rw [LA_lay,fOf_alloc] at this
        simp at this
    subst hik
    obtain ⟨z,hzv,z1,z2⟩:=late_zero (P:=P) hr3.wf hd3 hx3 hz
    refine wpOp_alloc hoa hae hga hda hzv ?_
    rw [lay_set _ hk1]
    have hb4:Bnd (putι ι3 X w3.heap.size) s3.m s3.nx:=⟨q3.lt,fun q b hq => by
     unfold putι at hq
     split at hq
     ·rename_i e;have:=q4.1;omega
     ·exact q3.ilt q b hq⟩
    obtain ⟨g4,l4,hg4,hr4⟩:=hr3.put (S:=s3.m) z1 z2 hb4 hdstt (cv:=.pointer (some ⟨w3.heap.size,0,none⟩)) (v:=.ptr X 0) (.ptr 0 (by simp [putι])) hg3
    have e1:lay ops.size (addL (k+1) (fOf k (LA listed) true false))=lay ops.size (fOf k (LA listed) true true):=lay_congr fun j _ => by
     unfold addL fOf
     by_cases h1:j < k
     ·have:¬ j=k+1:=by omega
      simp [h1,this]
     ·by_cases h2:j=k
      ·simp [h2]
      ·by_cases h3:j=k+1 <;> simp [h1,h2,h3]
    rw [e1]
    refine late_fin hS hoc hgc hoa hga hsuf hQ _ hall f (by simp at hfuel;omega) hr4 (hst3.trans z1) ⟨hn3.1,fun q b hq hlt => ?_⟩ hg4
    unfold putι at hq
    split at hq
    ·rename_i e;have:=hn.1;omega
    ·exact hn3.2 q b hq hlt
 -- the tree of orders
 have key:∀ (fuel:Nat) (d:Bool) (ιr:Nat→Option Nat) (sr:St) (wr:World) (listed:Array Bool) (ι1:Nat→Option Nat) (M1:Nat) (a1:Act) (w1:World),sr.nx=s1.nx→Step ι0 s0.m w0 ιr sr.m wr→Inc ι0 ιr s0.nx sr.nx →
   DI gs N (preOps ops k) os rec E S nx ιr sr wr listed ι1 M1 a1 w1→(match d with | true => ∃ b,ιr X=some b∧a1.tmps.getD t undef=.pointer (some ⟨b,0,none⟩) | false => ιr X=none) →
   ((List.range k).filter fun i => !LA listed i).length+(if d then 0 else 1)+1+(ops.size - (k+2))≤fuel →
   wpAnyR ro P .any ops Q fuel (lay ops.size (fOf k (LA listed) false d)) a1 w1:=by
  intro fuel
  induction fuel with
  | zero => intro d ιr sr wr listed ι1 M1 a1 w1 _ _ _ _ _ hf;omega
  | succ fuel ih =>
   intro d ιr sr wr listed ι1 M1 a1 w1 hsr hstr hnr hd1 hd hf
   have hlen:listed.size=k:=by rw [hd1.sz,hpsz]
   have hlsz:=lay_size ops.size (fOf k (LA listed) false d)
   have hk1:k+1 < ops.size:=by have:=hS.le;omega
   have hin:∀ i,LA (lay ops.size (fOf k (LA listed) false d)) i=true→i < ops.size:=fun i h' => by rw [LA_lay] at h';simp at h';exact h'.1
   have hcl:Closed ops (LA (lay ops.size (fOf k (LA listed) false d))):=by
    intro j oj hoj hLj e' he hb
    have hjs:=(Array.getElem?_eq_some_iff.1 hoj).1
    have hlt:=hS.back j oj hoj e' he hb
    rw [LA_lay] at hLj ⊢
    simp only [hjs,decide_true,Bool.true_and] at hLj
    have hes:e'.on < ops.size:=by omega
    simp only [hes,decide_true,Bool.true_and]
    by_cases j1:j < k
    ·rw [fOf_pre j1] at hLj
     rw [fOf_pre (by omega)]
     exact hd1.closed j oj (by rw [preOps_get j1];exact hoj) hLj e' he hb
    ·exfalso
     rcases (show j=k∨j=k+1∨k+2≤j by omega) with rfl | rfl | h2
     ·rw [fOf_call] at hLj;cases hLj
     ·rw [hS.free oj hoj e' he] at hb;cases hb
     ·rw [fOf_suf h2] at hLj;cases hLj
   refine ⟨fun hr => ?_,fun i hi => ?_⟩
   ·exfalso
    by_cases hall:∀ i,i < k→LA listed i=true
    ·have:=mem_ready (listed:=lay ops.size (fOf k (LA listed) false d)) hlsz hoc (by rw [LA_lay,fOf_call];simp) (fun e' he hb => by
      have hlt:=hS.back k oc hoc e' he hb
      rw [LA_lay,fOf_pre hlt,hall _ hlt]
      simp;omega)
     rw [hr] at this
     cases this
    ·have hless:∃ i,i∈Region.ready .any (preOps ops k) listed:=by
      cases hr':Region.ready .any (preOps ops k) listed with
      | nil => exact (hall fun i hi => all_listed D hd1.sz hr' i (by rw [hpsz];exact hi)).elim
      | cons i r => exact ⟨i,by simp⟩
     obtain ⟨i,hi⟩:=hless
     obtain ⟨o,ho,hL,hdd⟩:=ready_mem hd1.sz hi
     have hik:=(Array.getElem?_eq_some_iff.1 ho).1
     rw [hpsz] at hik
     rw [preOps_get hik] at ho
     have:=mem_ready (listed:=lay ops.size (fOf k (LA listed) false d)) hlsz ho (by rw [LA_lay,fOf_pre hik,hL];simp) (fun e' he hb => by
      have hlt:=hS.back i o ho e' he hb
      rw [LA_lay,fOf_pre (by omega),hdd e' he hb]
      simp;omega)
     rw [hr] at this
     cases this
   ·obtain ⟨o,ho,hL,hdd⟩:=ready_mem hlsz hi
    have hio:=(Array.getElem?_eq_some_iff.1 ho).1
    rw [LA_lay] at hL
    simp only [hio,decide_true,Bool.true_and] at hL
    rw [lay_set _ hio]
    by_cases hik:i < k
    ·-- one of those ahead of the call
     rw [fOf_pre hik] at hL
     have e1:lay ops.size (addL i (fOf k (LA listed) false d))=lay ops.size (fOf k (LA (listed.setIfInBounds i true)) false d):=lay_congr fun j _ => by
      rw [LA_set (by rw [hlen];exact hik)]
      by_cases h1:j < k
      ·rw [fOf_pre h1];unfold addL;rw [fOf_pre h1]
      ·have h2:¬ j=i:=by omega
       unfold addL fOf
       simp [h1,h2]
     rw [e1]
     have hlt:((List.range k).filter fun j => !LA (listed.setIfInBounds i true) j).length < ((List.range k).filter fun j => !LA listed j).length:=by
      rw [LA_set (by rw [hlen];exact hik)]
      have hsub:((List.range k).filter fun j => !addL i (LA listed) j)=(((List.range k).filter fun j => !LA listed j).filter fun j => j != i):=by
       rw [List.filter_filter]
       congr 1
       funext j
       simp only [addL,Bool.not_or]
       cases LA listed j <;> simp [bne]
      rw [hsub]
      have hmem:i∈(List.range k).filter fun j => !LA listed j:=by simp [List.mem_filter,hik,hL]
      exact List.length_filter_lt_length_iff_exists.2 ⟨i,hmem,by simp⟩
     refine wpOp_pre' hS hik (wpOpR_mono (fun a2 w2 (h2:(∃ ι2 M2,DI gs N (preOps ops k) os rec E S nx ιr sr wr (listed.setIfInBounds i true) ι2 M2 a2 w2)∧a2.tmps.getD t undef=a1.tmps.getD t undef) => ?_) (wpOp_keep (t:=t) (fun o' ho' => hnt i hik o' (by rw [preOps_get hik] at ho';exact ho')) (draw_step D hd1 (by omega) (by rw [preOps_get hik];exact ho) hL (hnd i (by rw [hpsz];exact hik)) (fun e' he hb => ?_) fun ι2 M2 a2 w2 h2 => ⟨ι2,M2,h2⟩)))
     ·obtain ⟨⟨ι2,M2,h2⟩,h3⟩:=h2
      refine ih d ιr sr wr _ ι2 M2 a2 w2 hsr hstr hnr h2 ?_ (by omega)
      cases d with
      | true => obtain ⟨b,hb,ht⟩:=hd;exact ⟨b,hb,h3.trans ht⟩
      | false => exact hd
     ·have:=hdd e' he hb
      have hlt:=hS.back i o ho e' he hb
      rw [LA_lay,fOf_pre (by omega)] at this
      simp at this
      exact this.2
    ·by_cases hik2:i=k
     ·-- the call
      subst hik2
      rw [hoc] at ho
      cases ho
      have hall:∀ j,j < i→LA listed j=true:=by
       intro j hj
       have:=closed_before hcl hin i oc hoc hdd j (hS.call j hj)
       rw [LA_lay,fOf_pre hj] at this
       simp at this
       exact this.2
      have e1:lay ops.size (addL i (fOf i (LA listed) false d))=lay ops.size (fOf i (LA listed) true d):=lay_congr fun j _ => by
       unfold addL
       by_cases h1:j < i
       ·rw [fOf_pre h1,fOf_pre h1]
        have:¬ j=i:=by omega
        simp [this]
       ·rcases (show j=i∨j=i+1∨i+2≤j by omega) with rfl | rfl | h2
        ·rw [fOf_call,fOf_call];simp
        ·rw [fOf_alloc,fOf_alloc];simp
        ·rw [fOf_suf h2,fOf_suf h2]
         have:¬ j=i:=by omega
         simp [this]
      rw [e1]
      refine hcall d (by omega) hstr hnr (by omega) hd1 hall ?_ (by omega)
      cases d with
      | true =>
       obtain ⟨b,hb,ht⟩:=hd
       exact ⟨b,hd1.step.ext X b hb,ht⟩
      | false =>
       simp only at hd ⊢
       cases h3:ι1 X with
       | none => rfl
       | some b => have:=hd1.inc X b h3 (by omega);rw [hd] at this;cases this
     ·by_cases hik3:i=k+1
      ·-- the variable
       subst hik3
       rw [fOf_alloc] at hL
       subst hL
       rw [hoa] at ho
       cases ho
       simp only at hd
       have hι1:ι1 X=none:=by
        cases h3:ι1 X with
        | none => rfl
        | some b => have:=hd1.inc X b h3 (by omega);rw [hd] at this;cases this
       obtain ⟨z,hzv,z1,z2⟩:=late_zero (P:=P) hd1.wf hι1 (hSX _) hz
       refine wpOp_alloc hoa hae hga hda hzv ?_
       have e1:lay ops.size (addL (k+1) (fOf k (LA listed) false false))=lay ops.size (fOf k (LA listed) false true):=lay_congr fun j _ => by
        unfold addL
        by_cases h1:j < k
        ·rw [fOf_pre h1,fOf_pre h1]
         have:¬ j=k+1:=by omega
         simp [this]
        ·rcases (show j=k∨j=k+1∨k+2≤j by omega) with rfl | rfl | h2
         ·rw [fOf_call,fOf_call];simp
         ·rw [fOf_alloc,fOf_alloc];simp
         ·rw [fOf_suf h2,fOf_suf h2]
          have:¬ j=k+1:=by omega
          simp [this]
       rw [e1]
       have hSe:(⟨SL rec (S 0) (preOps ops k).size (LA listed),s1.nx⟩:St).m=SL rec (S 0) (preOps ops k).size (LA listed):=rfl
       refine ih true (putι ι1 X w1.heap.size) ⟨SL rec (S 0) (preOps ops k).size (LA listed),s1.nx⟩ (w1.alloc (.cells z.cells e)) listed (putι ι1 X w1.heap.size) M1 _ _ rfl ((hstr.trans hd1.step).trans z1) ⟨by have:=hnr.1;simp only;omega,fun q b hq hlt => ?_⟩ ?_ ⟨w1.heap.size,by simp [putι],?_⟩ (by simp at hf ⊢;omega)
       ·unfold putι at hq
        split at hq
        ·rename_i e2;have:=hn.1;omega
        ·exact hnr.2 q b (hd1.inc q b hq (by have:=hnr.1;omega)) hlt
       ·refine ⟨hd1.sz,hd1.closed,z2,fun q b hq => ?_,hd1.nM,fun j hj hLj hnj => ?_,?_,?_,fun u => ?_,Step.refl _ _ _,fun q b hq _ => hq⟩
        ·unfold putι at hq
         split at hq
         ·rename_i e2
          have:=D.nx_le (i:=0) (j:=(preOps ops k).size) (Nat.zero_le _) (Nat.le_refl _)
          have:=hd1.nM
          omega
         ·exact hd1.ιM q b hq
        ·have:=D.nx_le (i:=0) (j:=j) (Nat.zero_le _) (by omega)
         unfold putι
         rw [if_neg (by omega)]
         exact hd1.pend j hj hLj hnj
        ·simp [Act.put,hd1.size]
        ·exact hd1.defers
        ·by_cases hut:u=t
         ·subst hut
          rw [hEt]
          exact .any _
         ·have:(a1.put (some t) (.pointer (some ⟨w1.heap.size,0,none⟩))).tmps.getD u undef=a1.tmps.getD u undef:=by
           simp [Act.put,Array.getElem?_setIfInBounds_ne (Ne.symm hut)]
          rw [this]
          exact (hd1.slots u).step z1
       ·simp [Act.put,hd1.size,htN]
      ·exfalso
       have h2:k+2≤i:=by omega
       have:=closed_before hcl hin i o ho hdd k (hS.all i h2 hio k (by omega))
       rw [LA_lay,fOf_call] at this
       simp at this
 have e0:Array.replicate ops.size false=lay ops.size (fOf k (LA (Array.replicate (preOps ops k).size false)) false false):=by
  apply Array.ext_getElem?
  intro j
  have hf0:fOf k (LA (Array.replicate (preOps ops k).size false)) false false j=false:=by
   unfold fOf LA
   by_cases h1:j < (preOps ops k).size <;> simp [h1]
  simp only [lay,List.getElem?_toArray,List.getElem?_map,Array.getElem?_replicate]
  by_cases hj:j < ops.size
  ·simp [List.getElem?_range hj,hj,hf0]
  ·simp [List.getElem?_eq_none,hj]
 rw [e0]
 refine key ops.size false ι s1 w _ ι M a _ rfl hst1 hn1 hdi hιX ?_
 have:=List.length_filter_le (fun i => !LA (Array.replicate (preOps ops k).size false) i) (List.range k)
 have:=hS.le
 simp only [List.length_range] at *
 simp
 omega
theorem late_sound [Glob] {ops:Array Oper} {k t:Nat} {os suf:List AOper} {kinds:List AOp} {zs:List AV} {e:TypeId} {oc oa:Oper} {ac:AOp} {dc:Option (Bool × Nat)} {id:Nat} {ι0:Nat→Option Nat} {s0:St} {w0:World} {K:Env→Env→St→Prop} {Q:Exit→Act→World→Prop}
  (d:List Deferred) (htame:tame ops=true) (hdraws:P.follows .mixedOrders=true) (hs:lateOK ops k=true) (hchk:(slotsOK (preOps ops k) (befores (preOps ops k).toList []) && edgesOK (preOps ops k) (befores (preOps ops k).toList []))=true)
  (hk:kindsOf P gs (preOps ops k).toList=some kinds) (hw:kinds.all (fun x => x.isCall || !x.writes)=true) (hc:compileDraw P gs N (preOps ops k) (befores (preOps ops k).toList []) kinds 0 (preOps ops k).toList=some os)
  (hoc:ops[k]?=some oc) (hac:compileAny P gs false oc=some ac) (hgc:oc.guard=none) (hdc:cdst gs N oc.dst=some dc) (htc:oc.dst≠some t)
  (hoa:ops[k+1]?=some oa) (hae:oa.op=.alloc e) (hga:oa.guard=none) (hda:oa.dst=some t) (htN:t < N) (hz:zeroAV P e=some zs)
  (hnt:∀ i,i < k→∀ o,ops[i]?=some o→o.dst≠some t) (hsuf:compileSeq P gs N ops (ops.toList.drop (k+2))=some suf)
  (hQ:∀ ι' g' l' s' a' w',Rel gs N ι' g' l' s' a' w'→Step ι0 s0.m w0 ι' s'.m w'→Inc ι0 ι' s0.nx s'.nx→K g' l' s'→Q .normal (appD d a') w')
  (h:aopsD P 0 [] os (lateE P (gs.contains t) ac dc t zs s.nx suf K) (clrE (gs.contains t) t g) [] (s.new (.box zs)))
  (hrel:Rel gs N ι g [] s a w) (hst:Step ι0 s0.m w0 ι s.m w) (hn:Inc ι0 ι s0.nx s.nx):(Code.region id ops true).wpIn (inR ro) 0 P Q (appD d a) w :=
 wpR_region_any htame hdraws (late_any0 (Q:=fun e a w => Q e (appD d a) w) hs hchk hk hw hc hoc hac hgc hdc htc hoa hae hga hda htN hz hnt hsuf hQ h hrel hst hn)
end Go.AL
namespace Go.AL
variable {ro:Option Nat} {P:Program} {gs:List Nat} {N:Nat} {ι ι':Nat→Option Nat} {g l:Env} {s s':St} {a:Act} {w w':World}
def AOp.still (op:AOp):Bool:=op.isCall || (!op.writes && !op.makes)
theorem StepAt.keep [Glob] {j:Nat} {o:AOper} {E:Nat→AV} {S:Store} {nx:Nat} {acc:List (Nat × Nat)} {r:Rec} {E':Nat→AV} {S':Store} {nx':Nat} {acc':List (Nat × Nat)} (h:StepAt P j o E S nx acc r E' S' nx' acc')
  (hst:o.op.still=true) (hnd:r.done=false) (hc:o.op.isCall=true→∃ f as,o.op=.call true f as):r.new=none∧(r.t=none∨r.u=.keep)∧S'=S∧nx'=nx:=by
 have key:r.new=none∧(r.t=none∨r.u=.keep):=by
  rcases h.how with ⟨_,_,h1,h2,_⟩ | ⟨_,_,hrun⟩ | ⟨h1,_⟩
  ·exact ⟨h2,.inl h1⟩
  ·rcases hrun with ⟨_,_,_,_,_,_,_,_,h1,h2⟩ | ⟨h1,_,obj,_,hev,_⟩
   ·exact ⟨h2,.inl h1⟩
   ·have hs:o.op.writes=false∧o.op.makes=false:=by
     simp only [AOp.still,h1,Bool.false_or,Bool.and_eq_true,Bool.not_eq_true'] at hst
     exact hst
    constructor
    ·cases hn:r.new with
     | none => rfl
     | some x =>
      have:=ev_makes hev (by simp [hn])
      rw [hs.2] at this;cases this
    ·right
     cases hu:r.u with
     | keep => rfl
     | set x => have:=ev_writes hev (by simp [hu]);rw [hs.1] at this;cases this
     | del => have:=ev_writes hev (by simp [hu]);rw [hs.1] at this;cases this
  ·rw [hnd] at h1;cases h1
 obtain ⟨h1,h2⟩:=key
 refine ⟨h1,h2,?_,by rw [h.nx',h1];simp⟩
 rw [h.st,h1]
 rcases h2 with h2 | h2
 ·rw [h2];cases r.u <;> rfl
 ·rw [h2];cases r.t <;> rfl
def wkE (os:List AOper) (rec:Nat→Rec) (E0:Nat→AV):Nat→Nat→AV
 | 0 => E0
 | i+1 => setE (dstF os i) (rec i).v (wkE os rec E0 i)
def mkF (os:List AOper) (i:Nat):Bool:=((os[i]?).map (·.op.makes)).getD false
def wkA (os:List AOper) (rec:Nat→Rec) (n:Nat):Nat→List (Nat × Nat)
 | 0 => []
 | i+1 => if (rec i).ran then accTo i (rec i).t (mkF os i) n (wkA os rec n i) else wkA os rec n i
def HowR [Glob] (P:Program) (o:AOper) (E:Nat→AV) (S:Store) (nx:Nat) (r:Rec):Prop :=
 r.nid=nx∧r.new=none∧(r.t=none∨r.u=.keep) ∧
 ((r.ran=false∧r.v=.tup []∧r.t=none∧r.new=none∧∃ gl t want,o.guard=some (gl,t,want)∧(E t=.bool (!want)∨E t=.tup []))∨(r.ran=true∧guardOK o.guard E∧RunR P o.op E S nx [] o.conc r)∨(r.done=true∧r.t=none∧r.new=none))
theorem HowR.step [Glob] {j:Nat} {o:AOper} {E:Nat→AV} {S:Store} {nx:Nat} {r:Rec} (h:HowR P o E S nx r) (hc:o.conc=[]) (acc:List (Nat × Nat)) :
  StepAt P j o E S nx acc r (setE o.dst r.v E) S nx (if r.ran then accTo j r.t o.op.makes nx acc else acc):=by
 obtain ⟨h1,h2,h3,h4⟩:=h
 refine ⟨h1,?_,rfl,?_,by rw [h2];simp,rfl⟩
 ·rcases h4 with h4 | ⟨k1,k2,k3⟩ | h4
  ·exact .inl h4
  ·refine .inr (.inl ⟨k1,k2,?_⟩)
   rcases k3 with k3 | ⟨m1,m2,obj,m3,m4,m5,m6⟩
   ·exact .inl k3
   ·exact .inr ⟨m1,m2,obj,m3,m4,m5,fun q _ p _ hp => by rw [hc] at hp;cases hp⟩
  ·exact .inr (.inr h4)
 ·rw [h2]
  rcases h3 with h3 | h3
  ·rw [h3];cases r.u <;> rfl
  ·rw [h3];cases r.t <;> rfl
theorem HowR.of [Glob] {j:Nat} {o:AOper} {E:Nat→AV} {S S2:Store} {nx nx2:Nat} {acc:List (Nat × Nat)} {r:Rec} {E':Nat→AV} {S':Store} {nx':Nat} {acc':List (Nat × Nat)} (h:StepAt P j o E S nx acc r E' S' nx' acc')
  (hst:o.op.still=true) (hnd:r.done=false) (hc:o.op.isCall=true→∃ f as,o.op=.call true f as) (hS:∀ q,o.op.touch (Ev E)=some q→S2 q=S q):HowR P o E S2 nx2 { r with nid:=nx2 }:=by
 obtain ⟨h1,h2,_,_⟩:=h.keep hst hnd hc
 refine ⟨rfl,h1,h2,?_⟩
 rcases h.how with h4 | ⟨k1,k2,k3⟩ | ⟨h4,_⟩
 ·exact .inl h4
 ·refine .inr (.inl ⟨k1,k2,?_⟩)
  rcases k3 with k3 | ⟨m1,m2,obj,m3,m4,m5,m6⟩
  ·exact .inl k3
  ·refine .inr ⟨m1,m2,obj,?_,?_,m5,fun q _ p hp => by cases hp⟩
   ·cases hq:r.t with
    | none => rw [hq] at m3;simpa only [hq] using m3
    | some q =>
     rw [hq] at m3
     simp only [hq]
     rw [hS q (by rw [← m2,hq])]
     exact m3
   ·have e:(⟨r.v,r.u,r.new⟩:Res)=⟨r.v,r.u,none⟩:=by rw [h1]
    rw [e] at m4
    simp only [h1]
    exact ev_any m4 rfl nx2
 ·rw [hnd] at h4;cases h4
structure Text [Glob] (P:Program) (gs:List Nat) (N:Nat) (ops:Array Oper) (os:List AOper):Prop where
 len:os.length=ops.size
 op:∀ (i:Nat) o,ops[i]?=some o→∃ ao,os[i]?=some ao∧compileAny P gs true o=some ao.op∧cdst gs N o.dst=some ao.dst∧cguard gs ops o.guard=some ao.guard∧aoperOK gs (namesOf ops o) ao=true
 slots:∀ (i j:Nat) a b,i < j→ops[i]?=some a→ops[j]?=some b→clash ops a b=true→i∈(befores ops.toList []).getD j []
 back:∀ (i:Nat) o,ops[i]?=some o→∀ e∈o.after.toList,Region.binds .any e=true→e.on < i
 still:∀ (i:Nat) o,os[i]?=some o→o.op.still=true
 call:∀ (i:Nat) o,os[i]?=some o→o.op.isCall=true→∃ f as,o.op=.call true f as
 conc:∀ (i:Nat) o,os[i]?=some o→o.conc=[]
theorem text_of [Glob] {ops:Array Oper} {os:List AOper} {kinds:List AOp} (hchk:(slotsOK ops (befores ops.toList []) && edgesOK ops (befores ops.toList []))=true) (hk:kindsOf P gs ops.toList=some kinds)
  (hc:compileDraw P gs N ops (befores ops.toList []) kinds 0 ops.toList=some os) (hw:kinds.all (fun x => x.isCall || (!x.writes && !x.makes))=true) (hconc:os.all (fun o => o.conc.isEmpty)=true):Text P gs N ops os:=by
 obtain ⟨hlen,hspec⟩:=compileDraw_spec ops.toList 0 os hc
 simp only [Array.length_toList] at hlen
 have hop:∀ (i:Nat) o,ops[i]?=some o→∃ ao,os[i]?=some ao∧compileAny P gs true o=some ao.op∧cdst gs N o.dst=some ao.dst∧cguard gs ops o.guard=some ao.guard∧aoperOK gs (namesOf ops o) ao=true:=by
  intro i o ho
  obtain ⟨ao,h1,h2,h3,h4,h5,_⟩:=hspec i o (by simpa using ho)
  exact ⟨ao,h1,h2,h3,h4,h5⟩
 have hkind:∀ (i:Nat) ao,os[i]?=some ao→∃ kd,kd∈kinds∧ao.op.isCall=kd.isCall∧(ao.op.isCall=true→∃ f as,ao.op=.call true f as)∧(ao.op.isCall=false→ao.op=kd):=by
  intro i ao hao
  have hi:i < ops.size:=by rw [← hlen];exact (List.getElem?_eq_some_iff.1 hao).1
  have ho:ops[i]?=some ops[i]:=by simp [hi]
  obtain ⟨ao',h1,h2,_⟩:=hop i _ ho
  rw [hao] at h1
  cases h1
  obtain ⟨kd,k1,k2⟩:=kindsOf_spec ops.toList kinds hk i ops[i] (by simp [hi])
  obtain ⟨f1,f2,f3⟩:=compileAny_flag h2 k2
  exact ⟨kd,List.mem_of_getElem? k1,f1,f2,f3⟩
 simp only [Bool.and_eq_true] at hchk
 obtain ⟨hslots,hedges⟩:=hchk
 refine ⟨hlen,hop,?_,?_,?_,?_,?_⟩
 ·intro i j x y hij hx hy hcl
  have hj:j < ops.size:=(Array.getElem?_eq_some_iff.1 hy).1
  have h1:=List.all_eq_true.1 hslots j (by simpa using hj)
  have h2:=List.all_eq_true.1 h1 i (by simpa using hij)
  rw [hx,hy] at h2
  simp only [hcl,Bool.not_true,Bool.false_or,List.contains_iff_mem] at h2
  exact h2
 ·intro i o ho e he hb
  have hi:i < ops.size:=(Array.getElem?_eq_some_iff.1 ho).1
  have h1:=List.all_eq_true.1 hedges i (by simpa using hi)
  rw [ho] at h1
  simp only [Bool.and_eq_true] at h1
  have h2:=List.all_eq_true.1 h1.1 e he
  simpa [hb] using h2
 ·intro i o ho
  obtain ⟨kd,k1,k2,_,k4⟩:=hkind i o ho
  have:=List.all_eq_true.1 hw kd k1
  unfold AOp.still
  cases hcl:o.op.isCall with
  | true => rfl
  | false =>
   rw [← k2,hcl] at this
   rw [k4 hcl]
   exact this
 ·intro i o ho hcl
  obtain ⟨_,_,_,k3,_⟩:=hkind i o ho
  exact k3 hcl
 ·intro i o ho
  have:=List.all_eq_true.1 hconc o (List.mem_of_getElem? ho)
  simpa using this
theorem Text.draw [Glob] {ops:Array Oper} {os:List AOper} (T:Text P gs N ops os) {rec:Nat→Rec} {E0:Nat→AV} {S0:Store} {n:Nat} (hb:∀ q ob,S0 q=some ob→q < n)
  (h:∀ (i:Nat) o,os[i]?=some o→HowR P o (wkE os rec E0 i) S0 n (rec i)):Draw P gs N ops os rec (wkE os rec E0) (fun _ => S0) (fun _ => n) (wkA os rec n):=by
 refine ⟨T.len,T.op,fun i o ho => ?_,T.slots,fun i j x y hij hx hy hl hw n1 n2 => ?_,T.back,hb⟩
 ·have:=(h i o ho).step (j:=i) (T.conc i o ho) (wkA os rec n i)
  have e1:wkE os rec E0 (i+1)=setE o.dst (rec i).v (wkE os rec E0 i):=by simp [wkE,dstF,ho]
  have e2:wkA os rec n (i+1)=if (rec i).ran then accTo i (rec i).t o.op.makes n (wkA os rec n i) else wkA os rec n i:=by simp [wkA,mkF,ho]
  rw [e1,e2]
  exact this
 ·have h1:=T.still i x hx
  have h2:=T.still j y hy
  simp only [AOp.still,n1,n2,Bool.false_or,Bool.and_eq_true,Bool.not_eq_true'] at h1 h2
  rcases hw with hw | ⟨_,hw | hw⟩
  ·rw [h1.2] at hw;cases hw
  ·rw [h1.1] at hw;cases hw
  ·rw [h2.1] at hw;cases hw
theorem SL_still [Glob] {ops:Array Oper} {os:List AOper} {rec:Nat→Rec} {S0:Store} {n:Nat} {E:Nat→Nat→AV} (hlen:os.length=ops.size) (h:∀ (i:Nat) o,os[i]?=some o→HowR P o (E i) S0 n (rec i)) (L:Nat→Bool):SL rec S0 ops.size L=S0:=by
 funext q
 have key:∀ m,m≤ops.size→lw L (objW rec q) m=none:=by
  intro m
  induction m with
  | zero => intro _;rfl
  | succ m ih =>
   intro hm
   have ho:objW rec q m=none:=by
    obtain ⟨_,h2,h3,_⟩:=h m (os[m]'(by omega)) (by simp)
    unfold objW
    rw [h2]
    simp only [Option.isSome_none,Bool.false_eq_true,false_and,if_false]
    rcases h3 with h3 | h3
    ·rw [h3];simp
    ·rw [h3];split <;> rfl
   simp only [lw,ho,ih (by omega)]
   split <;> rfl
 simp [SL,key _ (Nat.le_refl _)]
theorem EL_rec {dst:Nat→Option (Bool × Nat)} {rec rec':Nat→Rec} {E0:Nat→AV} {n:Nat} {L:Nat→Bool} (h:∀ j,L j=true→(rec j).v=(rec' j).v) (t:Nat):EL dst rec E0 n L t=EL dst rec' E0 n L t:=by
 unfold EL
 congr 1
 induction n with
 | zero => rfl
 | succ n ih =>
  simp only [lw,ih]
  cases hL:L n with
  | false => rfl
  | true =>
   have:slotW dst rec t n=slotW dst rec' t n:=by unfold slotW;rw [h n hL]
   rw [this]
theorem compileAny_call [Glob] {o:Oper} {f:AOpd} {as:List AOpd} {ac:AOp} (h:compileAny P gs true o=some (.call true f as)) (h2:compileAny P gs false o=some ac):ac=.call false f as:=by
 unfold compileAny at h h2
 split at h
 ·rename_i fx xs hv
  simp only [hv] at h2
  simp only [Option.bind_eq_bind] at h h2
  cases h3:opd gs fx <;> cases h4:opds gs xs <;> simp [h3,h4] at h h2
  obtain ⟨rfl,rfl⟩:=h
  exact h2.symm
 ·rename_i hv
  simp only [hv] at h2
  split at h
  ·cases h
  split at h
  ·cases h
  ·exfalso
   cases hc:compileOp P gs o with
   | none => simp [hc] at h
   | some x =>
    simp only [hc,Option.filter] at h
    split at h
    ·rename_i hx
     cases h
     simp [AOp.isCall] at hx
    ·cases h
end Go.AL
namespace Go.AL
variable {ro:Option Nat} {P:Program} {gs:List Nat} {N:Nat} {ι ι':Nat→Option Nat} {g l:Env} {s s':St} {a:Act} {w w':World}
theorem wkE_congr {os:List AOper} {rec rec':Nat→Rec} {E0:Nat→AV}:∀ {n:Nat},(∀ j,j < n→(rec j).v=(rec' j).v)→wkE os rec E0 n=wkE os rec' E0 n
 | 0,_ => rfl
 | n+1,h => by simp only [wkE];rw [wkE_congr fun j hj => h j (by omega),h n (by omega)]
theorem wkE_same {os:List AOper} {rec:Nat→Rec} {E0:Nat→AV} {t i:Nat}:∀ {n:Nat},i≤n→(∀ j,i≤j→j < n→(match dstF os j with | some (_,u) => u != t | none => true)=true)→wkE os rec E0 n t=wkE os rec E0 i t:=by
 intro n
 induction n with
 | zero => intro h _;have:i=0:=by omega
           rw [this]
 | succ n ih =>
  intro h hd
  by_cases e:i=n+1
  ·rw [e]
  ·have h1:=ih (by omega) fun j h1 h2 => hd j h1 (by omega)
   have h2:=hd n (by omega) (by omega)
   simp only [wkE]
   cases hdd:dstF os n with
   | none => exact h1
   | some p =>
    obtain ⟨b,u⟩:=p
    rw [hdd] at h2
    have:¬ t=u:=fun e => by rw [e] at h2;simp at h2
    simp only [setE,if_neg this]
    exact h1
def namesEnv (E:Nat→AV):List Nat→Env
 | [] => []
 | t::r => (t,E t)::namesEnv E r
theorem namesEnv_get (E:Nat→AV) (t:Nat):∀ (ns:List Nat),(namesEnv E ns).get t=if ns.contains t=true then E t else .any
 | [] => by simp [namesEnv,Env.get]
 | u::r => by
  simp only [namesEnv,Env.get,namesEnv_get E t r]
  by_cases e:u=t
  ·subst e;simp
  ·have e':¬ t=u:=fun h => e h.symm
   simp [e,e']
theorem frs_mem {fr:List AOp} {g l:Env} {s' s2:St} (h:frs g l s' s2 fr) {op:AOp} (ho:op∈fr) {q:Nat} (hq:op.touch (AOpd.val g l)=some q):s2.m q=s'.m q:=by
 induction fr with
 | nil => cases ho
 | cons x r ih =>
  simp only [frs] at h
  rcases List.mem_cons.1 ho with rfl | ho
  ·have:=h.1;rw [hq] at this;exact this
  ·exact ih h.2 ho
theorem float_any0 [Glob] {ops:Array Oper} {k m:Nat} {os suf:List AOper} {oc:Oper} {ac:AOp} {dc:Option (Bool × Nat)} {fr:List AOp} {ι0:Nat→Option Nat} {s0:St} {w0:World} {K:Env→Env→St→Prop} {Q:Exit→Act→World→Prop}
  (hkm:k < m) (hs:sufOK ops m=true) (T:Text P gs N (preOps ops m) os) (hafter:∀ j,k < j→j < m→k∈(befores (preOps ops m).toList []).getD j [])
  (hoc:ops[k]?=some oc) (hac:compileAny P gs false oc=some ac) (hcall:ac.isCall=true) (hgc:oc.guard=none) (hdc:cdst gs N oc.dst=some dc)
  (hF:∀ i,i < k→i ∉ (befores (preOps ops m).toList []).getD k []→∃ o,os[i]?=some o∧o.op∈fr∧∀ x∈o.op.opnds,opndFree (((os.take k).drop i).map (·.dst)) x=true)
  (hsuf:compileSeq P gs N ops (ops.toList.drop m)=some suf)
  (hQ:∀ ι' g' l' s' a' w',Rel gs N ι' g' l' s' a' w'→Step ι0 s0.m w0 ι' s'.m w'→Inc ι0 ι' s0.nx s'.nx→K g' l' s'→Q .normal a' w')
  (h:aopsD P 0 [] (os.take k) (floatE P fr ac dc k (os.drop (k+1)) suf K) g [] s)
  (hrel:Rel gs N ι g [] s a w) (hst:Step ι0 s0.m w0 ι s.m w) (hn:Inc ι0 ι s0.nx s.nx):wpAnyR ro P .any ops Q ops.size (Array.replicate ops.size false) a { w with drawn:=w.drawn+1 }:=by
 have hS:=sufOK_spec hs
 have hmn:=hS.le
 have hpsz:=preOps_size hmn
 have hlen:=T.len
 rw [hpsz] at hlen
 have hpoc:(preOps ops m)[k]?=some oc:=by rw [preOps_get hkm];exact hoc
 -- the walk ahead of the call
 obtain ⟨rec1,E1,S1,nx1,ac1,e1,e2,e3,e4,e5,g',l',s',e6,e7,e8,e9⟩:=extract (gs:=gs) (namesOf:=fun i => ((preOps ops m)[i]?).elim [] (namesOf (preOps ops m))) (os.take k) 0 [] g [] s (fun i ao hao => by
  have hik:i < k:=by
   have:=(List.getElem?_eq_some_iff.1 hao).1
   simp at this;omega
  have hao':os[i]?=some ao:=by rwa [List.getElem?_take_of_lt hik] at hao
  have hi:i < (preOps ops m).size:=by omega
  have ho:(preOps ops m)[i]?=some (preOps ops m)[i]:=by simp [hi]
  obtain ⟨ao',h1,_,_,_,h5⟩:=T.op i _ ho
  rw [hao'] at h1
  cases h1
  refine ⟨?_,T.call i ao hao'⟩
  rw [Nat.zero_add,ho]
  exact h5) h
 simp only [Nat.zero_add] at e5
 have htk:(os.take k).length=k:=by simp;omega
 rw [htk] at e6 e7 e8
 have hstep1:∀ i,i < k→∃ o,os[i]?=some o∧StepAt P i o (E1 i) (S1 i) (nx1 i) (ac1 i) (rec1 i) (E1 (i+1)) (S1 (i+1)) (nx1 (i+1)) (ac1 (i+1))∧(rec1 i).done=false:=by
  intro i hi
  have ho:os[i]?=some (os[i]'(by omega)):=by simp
  exact ⟨_,ho,e5 i _ (by rw [List.getElem?_take_of_lt hi];exact ho)⟩
 have hconst:∀ i,i≤k→S1 i=s.m∧nx1 i=s.nx:=by
  intro i
  induction i with
  | zero => intro _;exact ⟨e2,e3⟩
  | succ i ih =>
   intro hi
   obtain ⟨o,ho,st,hd⟩:=hstep1 i (by omega)
   obtain ⟨_,_,k1,k2⟩:=st.keep (T.still i o ho) hd (T.call i o ho)
   obtain ⟨k3,k4⟩:=ih (by omega)
   exact ⟨k1.trans k3,k2.trans k4⟩
 have hE1:∀ i,i≤k→E1 i=wkE os rec1 (merge gs g []) i:=by
  intro i
  induction i with
  | zero => intro _;exact e1
  | succ i ih =>
   intro hi
   obtain ⟨o,ho,st,hd⟩:=hstep1 i (by omega)
   rw [st.env,ih (by omega)]
   simp [wkE,dstF,ho]
 rw [(hconst k (Nat.le_refl _)).1] at e7
 rw [(hconst k (Nat.le_refl _)).2] at e8
 -- the records ahead of the call
 obtain ⟨recA,hrecA⟩:∃ recA:Nat→Rec,recA=fun i => if i < k then { rec1 i with nid:=s.nx } else ⟨false,.any,none,.keep,none,s.nx,true⟩:=⟨_,rfl⟩
 have hEA:∀ i,i≤k→wkE os recA (merge gs g []) i=E1 i:=by
  intro i hi
  rw [hE1 i hi]
  exact wkE_congr fun j hj => by rw [hrecA];simp only;rw [if_pos (by omega)]
 have hhowA:∀ (i:Nat) o,os[i]?=some o→HowR P o (wkE os recA (merge gs g []) i) s.m s.nx (recA i):=by
  intro i o ho
  by_cases hik:i < k
  ·obtain ⟨o',ho',st,hd⟩:=hstep1 i hik
   rw [ho] at ho';cases ho'
   rw [hEA i (by omega),hrecA]
   try simp only
   rw [if_pos hik]
   exact HowR.of st (T.still i o ho) hd (T.call i o ho) (fun q _ => by rw [(hconst i (by omega)).1])
  ·rw [hrecA]
   try simp only
   rw [if_neg hik]
   exact ⟨rfl,rfl,.inl rfl,.inr (.inr ⟨rfl,rfl,rfl⟩)⟩
 have DA:=T.draw (rec:=recA) (E0:=merge gs g []) (S0:=s.m) (n:=s.nx) (fun q ob hq => hrel.bnd.lt q ob hq) hhowA
 have hSLA:∀ L,SL recA s.m (preOps ops m).size L=s.m:=SL_still (by rw [hpsz];exact hlen) hhowA
 -- all that comes behind the call
 have hbehind:∀ (listed:Array Bool) (ι1:Nat→Option Nat) (M1:Nat) (a1:Act) (w1:World),DI gs N (preOps ops m) os recA (wkE os recA (merge gs g [])) (fun _ => s.m) (fun _ => s.nx) ι0 s0 w0 listed ι1 M1 a1 w1 →
   (∀ i,LA listed i=true→i < k)→(∀ e∈oc.after.toList,Region.binds .any e=true→LA listed e.on=true)→∀ fuel,((List.range m).filter fun i => !LA (listed.setIfInBounds k true) i).length+(ops.size - m)≤fuel→wpOpR ro P ops Q k (wpAnyR ro P .any ops Q fuel (padA ops.size (listed.setIfInBounds k true))) a1 w1:=by
  intro listed ι1 M1 a1 w1 hd1 hlt hready fuel hfuel
  have hin:=LA_in hd1.sz
  have hLk:LA listed k=false:=by
   cases hx:LA listed k with
   | false => rfl
   | true => have:=hlt k hx;omega
  have hlk:k < listed.size:=by rw [hd1.sz,hpsz];exact hkm
  have hbef:∀ i,i < k→LA listed i=false→i ∉ (befores (preOps ops m).toList []).getD k []:=by
   intro i hi hL hm
   have:=closed_before hd1.closed hin k oc hpoc hready i hm
   rw [hL] at this;cases this
  obtain ⟨ao,hao,hcmp,hcd,hcg,haok⟩:=T.op k oc hpoc
  -- what the call is
  have hwf1:=hd1.wf
  try simp only at hwf1
  rw [hSLA] at hwf1
  have hslot:∀ t,(namesOf (preOps ops m) oc).contains t=true→EL (dstF os) recA (merge gs g []) (preOps ops m).size (LA listed) t=E1 k t:=by
   intro t ht
   have:=DA.slot_agree hd1.closed hin hpoc hLk hready ht
   rw [← hEA k (Nat.le_refl _)]
   exact this
  have hsl1:=hd1.slots
  have hbnd1:Bnd ι1 s.m M1:=by
   refine ⟨fun q ob hq => ?_,hd1.ιM⟩
   have:=hrel.bnd.lt q ob hq
   have:=hd1.nM
   try simp only at this
   omega
  obtain ⟨env,henv⟩:∃ env,env=namesEnv (E1 k) (namesOf (preOps ops m) oc):=⟨_,rfl⟩
  have hgetE:∀ t,Rep ι1 (Foot ι1 s.m) w1 (a1.tmps.getD t undef) (env.get t):=by
   intro t
   rw [henv,namesEnv_get]
   split
   ·rename_i ht
    rw [← hslot t ht]
    have:=hsl1 t
    try simp only at this
    rw [hSLA] at this
    exact this
   ·exact .any _
  have hrel0:Rel gs N ι1 env env ⟨s.m,M1⟩ a1 w1:=⟨hwf1,hbnd1,hd1.size,hd1.defers,fun t _ => hgetE t,fun t _ => hgetE t⟩
  have hMs:s'.nx≤M1:=by
   have:=hd1.nM
   try simp only at this
   omega
  have hK:=e9 M1 hMs
  have hbump:s'.bump M1=⟨s.m,M1⟩:=by rw [St.bump,e7]
  rw [hbump] at hK
  unfold floatE at hK
  simp only [aoperOK,Bool.and_eq_true] at haok
  obtain ⟨⟨hopn,hdstn⟩,_⟩:=haok
  have hcallA:ao.op.isCall=true:=by
   obtain ⟨f1,_,_⟩:=compileAny_flag hcmp hac
   rw [f1];exact hcall
  obtain ⟨f,as,hfas⟩:=T.call k ao hao hcallA
  rw [hfas] at hcmp hopn
  have hacc:=compileAny_call hcmp hac
  subst hacc
  have hopd:∀ x∈(AOp.call true f as).opnds,AOpd.val g' l' x=AOpd.val env env x:=by
   intro x hx
   have hok:=List.all_eq_true.1 hopn x hx
   rw [Ev_val hok,e6]
   cases x with
   | g t =>
    simp only [opndOK,Bool.and_eq_true] at hok
    simp only [Ev,AOpd.val,henv,namesEnv_get,hok.2,if_true]
   | l t =>
    simp only [opndOK,Bool.and_eq_true] at hok
    simp only [Ev,AOpd.val,henv,namesEnv_get,hok.2,if_true]
   | c v => rfl
  have hcs:AOp.step P (.call false f as) env env ⟨s.m,M1⟩ (fun v s2 => frs g' l' ⟨s.m,M1⟩ s2 fr∧setDst dc v g' l' fun g1 l1 => aopsD P (k+1) [] (os.drop (k+1)) (fun g2 l2 s3 => aops P suf K g2 l2 s3) g1 l1 s2):=by
   have e1':AOpd.val g' l' f=AOpd.val env env f:=hopd f (by simp [AOp.opnds])
   have e2':as.map (AOpd.val g' l')=as.map (AOpd.val env env):=List.map_congr_left fun x hx => hopd x (by simp [AOp.opnds,hx])
   simp only [AOp.step,e1',e2'] at hK ⊢
   exact hK
  unfold wpOpR
  simp only [hoc]
  have hwn:Region.wanted oc (yielded ops a1.tmps)=true:=by simp [Region.wanted,hgc]
  rw [if_pos hwn]
  refine .inl (step_sound hac rfl hrel0 hcs fun ι3 cv v s3 w3 q1 q2 q3 q4 q5 q6 => ?_)
  obtain ⟨hfr,q6⟩:=q6
  have hdc':ao.dst=dc:=by rw [hcd] at hdc;cases hdc;rfl
  rw [hdc'] at hdstn
  obtain ⟨g1,l1,hpost,hm1⟩:=merge_setDst (gs:=gs) (names:=namesOf (preOps ops m) oc) hdstn q6
  -- the walk behind the call
  obtain ⟨rec3,E3,S3,nx3,ac3,d1,d2,d3,d4,d5,g'',l'',s'',d6,d7,d8,d9⟩:=extract (gs:=gs) (namesOf:=fun i => ((preOps ops m)[i]?).elim [] (namesOf (preOps ops m))) (os.drop (k+1)) (k+1) [] g1 l1 s3 (fun i ao hao => by
   have hao':os[k+1+i]?=some ao:=by rwa [List.getElem?_drop] at hao
   have hi:k+1+i < (preOps ops m).size:=by rw [hpsz,← hlen];exact (List.getElem?_eq_some_iff.1 hao').1
   have ho:(preOps ops m)[k+1+i]?=some (preOps ops m)[k+1+i]:=by simp [hi]
   obtain ⟨ao',h1,_,_,_,h5⟩:=T.op _ _ ho
   rw [hao'] at h1
   cases h1
   refine ⟨?_,T.call _ ao hao'⟩
   rw [ho]
   exact h5) hpost
  have hdl:(os.drop (k+1)).length=m - (k+1):=by simp;omega
  rw [hdl] at d6 d7 d8
  have hstep3:∀ i,k < i→i < m→∃ o,os[i]?=some o∧StepAt P i o (E3 (i - (k+1))) (S3 (i - (k+1))) (nx3 (i - (k+1))) (ac3 (i - (k+1))) (rec3 (i - (k+1))) (E3 (i - (k+1)+1)) (S3 (i - (k+1)+1)) (nx3 (i - (k+1)+1)) (ac3 (i - (k+1)+1))∧(rec3 (i - (k+1))).done=false:=by
   intro i hi him
   have ho:os[i]?=some (os[i]'(by omega)):=by simp
   have e:k+1+(i - (k+1))=i:=by omega
   have:=d5 (i - (k+1)) (os[i]'(by omega)) (by rw [List.getElem?_drop,e];exact ho)
   rw [e] at this
   exact ⟨_,ho,this⟩
  have hconst3:∀ j,k+1+j≤m→S3 j=s3.m∧nx3 j=s3.nx:=by
   intro j
   induction j with
   | zero => intro _;exact ⟨d2,d3⟩
   | succ j ih =>
    intro hj
    obtain ⟨o,ho,st,hd⟩:=hstep3 (k+1+j) (by omega) (by omega)
    rw [show k+1+j - (k+1)=j by omega] at st hd
    obtain ⟨_,_,k1,k2⟩:=st.keep (T.still _ o ho) hd (T.call _ o ho)
    obtain ⟨k3,k4⟩:=ih (by omega)
    exact ⟨k1.trans k3,k2.trans k4⟩
  -- all records
  obtain ⟨recB,hrecB⟩:∃ recB:Nat→Rec,recB=fun i => if i < k then (if LA listed i then ⟨(rec1 i).ran,(rec1 i).v,none,.keep,none,s3.nx,true⟩ else { rec1 i with nid:=s3.nx })
    else if i=k then ⟨true,v,none,.keep,none,s3.nx,true⟩ else { rec3 (i - (k+1)) with nid:=s3.nx }:=⟨_,rfl⟩
  have hBlt:∀ i,i < k→(recB i).v=(rec1 i).v:=by
   intro i hi
   rw [hrecB]
   try simp only
   rw [if_pos hi]
   split <;> rfl
  have hBk:recB k=⟨true,v,none,.keep,none,s3.nx,true⟩:=by
   rw [hrecB]
   try simp only
   rw [if_neg (by omega),if_pos trivial]
  have hBgt:∀ i,k < i→recB i={ rec3 (i - (k+1)) with nid:=s3.nx }:=by
   intro i hi
   rw [hrecB]
   try simp only
   rw [if_neg (by omega),if_neg (by omega)]
  have hEB:∀ i,i≤k→wkE os recB (merge gs g []) i=E1 i:=by
   intro i hi
   rw [hE1 i hi]
   exact wkE_congr fun j hj => hBlt j (by omega)
  have hEBk:wkE os recB (merge gs g []) (k+1)=E3 0:=by
   have hdk:dstF os k=dc:=by simp [dstF,hao,hdc']
   simp only [wkE]
   rw [hEB k (Nat.le_refl _),hBk,hdk,d1,hm1,e6]
  have hEB3:∀ j,k+1+j≤m→wkE os recB (merge gs g []) (k+1+j)=E3 j:=by
   intro j
   induction j with
   | zero => intro _;exact hEBk
   | succ j ih =>
    intro hj
    obtain ⟨o,ho,st,hd⟩:=hstep3 (k+1+j) (by omega) (by omega)
    rw [show k+1+j - (k+1)=j by omega] at st hd
    rw [show k+1+(j+1)=(k+1+j)+1 by omega]
    simp only [wkE]
    rw [ih (by omega),st.env,hBgt _ (by omega),show k+1+j - (k+1)=j by omega]
    simp [dstF,ho]
  have hhowB:∀ (i:Nat) o,os[i]?=some o→HowR P o (wkE os recB (merge gs g []) i) s3.m s3.nx (recB i):=by
   intro i o ho
   have him:i < m:=by rw [← hlen];exact (List.getElem?_eq_some_iff.1 ho).1
   rcases Nat.lt_trichotomy i k with hik | rfl | hik
   ·rw [hEB i (by omega),hrecB]
    try simp only
    rw [if_pos hik]
    split
    ·exact ⟨rfl,rfl,.inl rfl,.inr (.inr ⟨rfl,rfl,rfl⟩)⟩
    ·rename_i hL
     obtain ⟨o',ho',st,hd⟩:=hstep1 i hik
     rw [ho] at ho';cases ho'
     refine HowR.of st (T.still i o ho) hd (T.call i o ho) fun q hq => ?_
     rw [(hconst i (by omega)).1]
     obtain ⟨o2,ho2,hmem,hfree⟩:=hF i hik (hbef i hik (by simpa using hL))
     rw [ho] at ho2;cases ho2
     have hval:∀ x∈o.op.opnds,AOpd.val g' l' x=Ev (E1 i) x:=by
      intro x hx
      have hi':i < (preOps ops m).size:=by rw [hpsz];exact him
      obtain ⟨oi,hoi⟩:∃ oi,(preOps ops m)[i]?=some oi:=⟨(preOps ops m)[i],by simp [hi']⟩
      obtain ⟨ao',h1,_,_,_,h5⟩:=T.op i _ hoi
      rw [ho] at h1;cases h1
      simp only [aoperOK,Bool.and_eq_true] at h5
      have hok:=List.all_eq_true.1 h5.1.1 x hx
      rw [Ev_val hok,e6]
      have hsame:∀ t,(((os.take k).drop i).map (·.dst)).all (fun d => match d with | some (_,u) => u != t | none => true)=true→E1 k t=E1 i t:=by
       intro t ht
       rw [hE1 k (Nat.le_refl _),hE1 i (by omega)]
       refine wkE_same (by omega) fun j hj1 hj2 => ?_
       have hoj:os[j]?=some (os[j]'(by omega)):=by simp
       have:(os[j]'(by omega)).dst∈((os.take k).drop i).map (·.dst):=by
        refine List.mem_map_of_mem (List.mem_of_getElem? (i:=j - i) ?_)
        rw [List.getElem?_drop,show i+(j - i)=j by omega,List.getElem?_take_of_lt hj2]
        exact hoj
       have:=List.all_eq_true.1 ht _ this
       simpa [dstF,hoj] using this
      have hfx:=hfree x hx
      cases x with
      | g t => exact hsame t hfx
      | l t => exact hsame t hfx
      | c v => rfl
     obtain ⟨c1,_,_⟩:=op_congr o.op hval
     exact frs_mem hfr hmem (by rw [c1];exact hq)
   ·rw [hBk]
    exact ⟨rfl,rfl,.inl rfl,.inr (.inr ⟨rfl,rfl,rfl⟩)⟩
   ·obtain ⟨o',ho',st,hd⟩:=hstep3 i hik him
    rw [ho] at ho';cases ho'
    have e:k+1+(i - (k+1))=i:=by omega
    have h1:=hEB3 (i - (k+1)) (by omega)
    rw [e] at h1
    rw [h1,hBgt i hik]
    exact HowR.of st (T.still i o ho) hd (T.call i o ho) (fun q _ => by rw [(hconst3 (i - (k+1)) (by omega)).1])
  have DB:=T.draw (rec:=recB) (E0:=merge gs g []) (S0:=s3.m) (n:=s3.nx) (fun q ob hq => q3.lt q ob hq) hhowB
  have hSLB:∀ L,SL recB s3.m (preOps ops m).size L=s3.m:=SL_still (by rw [hpsz];exact hlen) hhowB
  have hLA:LA (listed.setIfInBounds k true)=addL k (LA listed):=LA_set hlk
  have hstp:Step ι0 s0.m w0 ι1 s.m w1:=by have:=hd1.step;(try simp only at this);rwa [hSLA] at this
  have hst3:=hstp.trans q1
  have hs0M:s0.nx≤M1:=by have:=hd1.nM;have:=hn.1;(try simp only at *);omega
  have hdi2:DI gs N (preOps ops m) os recB (wkE os recB (merge gs g [])) (fun _ => s3.m) (fun _ => s3.nx) ι0 s0 w0 (listed.setIfInBounds k true) ι3 s3.nx (a1.put oc.dst cv) w3:=by
   refine ⟨by simp [hd1.sz],?_,?_,q3.ilt,Nat.le_refl _,fun i hi _ hnew => ?_,?_,?_,fun t => ?_,?_,fun q b hq hlt' => ?_⟩
   ·rw [hLA]
    intro j oj hoj hLj e he hb
    simp only [addL,Bool.or_eq_true,beq_iff_eq] at hLj ⊢
    rcases hLj with hLj | rfl
    ·exact .inl (hd1.closed j oj hoj hLj e he hb)
    ·rw [hpoc] at hoj
     cases hoj
     exact .inl (hready e he hb)
   ·(try simp only);rw [hSLB];exact q2
   ·obtain ⟨_,h2,_⟩:=hhowB i (os[i]'(by omega)) (by simp)
    rw [h2] at hnew;cases hnew
   ·cases oc.dst with
    | none => exact hd1.size
    | some t => simp [Act.put,hd1.size]
   ·cases oc.dst with
    | none => exact hd1.defers
    | some t => exact hd1.defers
   ·try simp only
    rw [hSLB,hLA,DB.EL_add hd1.closed hin hpoc hLk hao t]
    have heq:EL (dstF os) recB (merge gs g []) (preOps ops m).size (LA listed)=EL (dstF os) recA (merge gs g []) (preOps ops m).size (LA listed):=by
     funext u
     refine EL_rec (fun j hj => ?_) u
     have:=hlt j hj
     rw [hBlt j this,hrecA]
     try simp only
     rw [if_pos this]
    have e0:wkE os recB (merge gs g []) 0=merge gs g []:=rfl
    rw [e0,heq,hBk,hdc']
    have hold:∀ t,Rep ι3 (Foot ι3 s3.m) w3 (a1.tmps.getD t undef) (EL (dstF os) recA (merge gs g []) (preOps ops m).size (LA listed) t):=by
     intro t
     have:=hsl1 t
     try simp only at this
     rw [hSLA] at this
     exact this.step q1
    cases hd:oc.dst with
    | none =>
     rw [hd] at hdc
     simp only [cdst,Option.some.injEq] at hdc
     rw [← hdc]
     exact hold t
    | some u =>
     rw [hd] at hdc
     simp only [cdst] at hdc
     split at hdc
     ·rename_i hu
      simp only [Option.some.injEq] at hdc
      rw [← hdc,getD_put (by rw [hd1.size];exact hu)]
      simp only [setE]
      split
      ·exact q5
      ·exact hold t
     ·cases hdc
   ·(try simp only);rw [hSLB];exact hst3
   ·exact hd1.inc q b (q4.2 q b hq (by (try simp only);omega)) hlt'
  refine draw_pre hS DB (by have:=q4.1;(try simp only at *);omega) (fun listed2 ι4 M4 a4 w4 k1 k2 => ?_) fuel _ _ _ _ _ ?_ (fun i hi hx => ?_) hdi2
  ·-- at the end
   have hall:∀ t,EL (dstF os) recB (merge gs g []) (preOps ops m).size (LA listed2) t=merge gs g'' l'' t:=by
    intro t
    have h1:=DB.E_eq (preOps ops m).size (Nat.le_refl _) t
    have h2:wkE os recB (merge gs g []) (preOps ops m).size=E3 (m - (k+1)):=by
     rw [hpsz]
     have:=hEB3 (m - (k+1)) (by omega)
     rwa [show k+1+(m - (k+1))=m by omega] at this
    rw [h2] at h1
    rw [d6,h1]
    unfold EL
    rw [lw_congr fun j hj _ => (by rw [k2 j hj];simp [pre,hj]:LA listed2 j=pre (preOps ops m).size j)]
    rfl
   have hs4:s''.m=s3.m:=by rw [d7];exact (hconst3 _ (by omega)).1
   have hn4:s''.nx=s3.nx:=by rw [d8];exact (hconst3 _ (by omega)).2
   have hnM4:=k1.nM
   try simp only at hnM4
   have hwf4:=k1.wf
   have hstp4:=k1.step
   try simp only at hwf4 hstp4
   rw [hSLB] at hwf4 hstp4
   have hrel4:Rel gs N ι4 g'' l'' ⟨s3.m,M4⟩ a4 w4:=by
    refine ⟨hwf4,⟨fun q ob hq => ?_,k1.ιM⟩,k1.size,k1.defers,fun t ht => ?_,fun t ht => ?_⟩
    ·have:=q3.lt q ob hq
     try simp only
     omega
    ·have:=k1.slots t
     try simp only at this
     rw [hSLB] at this
     have e0:wkE os recB (merge gs g []) 0=merge gs g []:=rfl
     rw [e0,hall t] at this
     simp only [merge,ht,if_true] at this
     exact this
    ·have:=k1.slots t
     try simp only at this
     rw [hSLB] at this
     have e0:wkE os recB (merge gs g []) 0=merge gs g []:=rfl
     rw [e0,hall t] at this
     simp only [merge,ht,Bool.false_eq_true,if_false] at this
     exact this
   have hfin:=d9 M4 (by omega)
   have hb4:s''.bump M4=⟨s3.m,M4⟩:=by rw [St.bump,hs4]
   rw [hb4] at hfin
   have:=seq_from (ro:=ro) hQ (ops.toList.drop m) m suf rfl hsuf ι4 g'' l'' ⟨s3.m,M4⟩ a4 w4 hfin hrel4 hstp4 ⟨by have:=q4.1;(try simp only at *);omega,k1.inc⟩
   simpa using this
  ·exact hfuel
  ·rw [hLA]
   simp only [addL,Bool.or_eq_true,beq_iff_eq]
   rcases Nat.lt_trichotomy i k with hik | rfl | hik
   ·left
    rw [hrecB] at hx
    try simp only at hx
    rw [if_pos hik] at hx
    split at hx
    ·assumption
    ·obtain ⟨_,_,_,hd⟩:=hstep1 i hik
     rw [hd] at hx;cases hx
   ·exact .inr rfl
   ·exfalso
    rw [hBgt i hik] at hx
    obtain ⟨_,_,_,hd⟩:=hstep3 i hik hi
    rw [hd] at hx;cases hx
 -- the tree of orders
 have key:∀ (fuel:Nat) (listed:Array Bool) (ι1:Nat→Option Nat) (M1:Nat) (a1:Act) (w1:World),DI gs N (preOps ops m) os recA (wkE os recA (merge gs g [])) (fun _ => s.m) (fun _ => s.nx) ι0 s0 w0 listed ι1 M1 a1 w1 →
   (∀ i,LA listed i=true→i < k)→((List.range m).filter fun i => !LA listed i).length+(ops.size - m)≤fuel→wpAnyR ro P .any ops Q fuel (padA ops.size listed) a1 w1:=by
  intro fuel
  induction fuel with
  | zero =>
   intro listed ι1 M1 a1 w1 _ hlt hf
   exfalso
   have hLk:LA listed k=false:=by
    cases hx:LA listed k with
    | false => rfl
    | true => have:=hlt k hx;omega
   have hm:k∈(List.range m).filter fun i => !LA listed i:=by simp [List.mem_filter,hkm,hLk]
   have:=List.length_pos_of_mem hm
   omega
  | succ fuel ih =>
   intro listed ι1 M1 a1 w1 hd1 hlt hf
   have hsz:listed.size=m:=by rw [hd1.sz,hpsz]
   have hin:=LA_in hd1.sz
   have hpad:(padA ops.size listed).size=ops.size:=pad_size (by rw [hsz];exact hmn)
   have hLk:LA listed k=false:=by
    cases hx:LA listed k with
    | false => rfl
    | true => have:=hlt k hx;omega
   have hcl:Closed ops (LA (padA ops.size listed)):=by
    rw [LA_pad]
    intro j o ho hj e he hb
    have hjk:=hlt j hj
    exact hd1.closed j o (by rw [preOps_get (by omega)];exact ho) hj e he hb
   refine ⟨fun hr => ?_,fun i hi => ?_⟩
   ·exfalso
    have hless:∃ i,i∈Region.ready .any (preOps ops m) listed:=by
     cases hr':Region.ready .any (preOps ops m) listed with
     | nil =>
      have:=all_listed DA hd1.sz hr' k (by rw [hpsz];exact hkm)
      rw [hLk] at this;cases this
     | cons i r => exact ⟨i,by simp⟩
    obtain ⟨i,hi⟩:=hless
    obtain ⟨o,ho,hL,hd⟩:=ready_mem hd1.sz hi
    have him:=(Array.getElem?_eq_some_iff.1 ho).1
    rw [hpsz] at him
    rw [preOps_get him] at ho
    have:=mem_ready (listed:=padA ops.size listed) hpad ho (by rw [LA_pad];exact hL) (by rw [LA_pad];exact hd)
    rw [hr] at this
    cases this
   ·obtain ⟨o,ho,hL,hd⟩:=ready_mem hpad hi
    have hio:=(Array.getElem?_eq_some_iff.1 ho).1
    rw [LA_pad] at hL hd
    have him:i < m:=by
     rcases Nat.lt_or_ge i m with h1 | h1
     ·exact h1
     ·exfalso
      have hin':∀ i,LA (padA ops.size listed) i=true→i < ops.size:=fun i h' => by rw [LA_pad] at h';have:=hlt i h';omega
      have:=closed_before hcl hin' i o ho (by rw [LA_pad];exact hd) k (hS.all i h1 hio k (by omega))
      rw [LA_pad,hLk] at this;cases this
    have hpo:(preOps ops m)[i]?=some o:=by rw [preOps_get him];exact ho
    have hik:i≤k:=by
     rcases Nat.lt_or_ge k i with h1 | h1
     ·exfalso
      have:=closed_before hd1.closed hin i o hpo hd k (hafter i h1 him)
      rw [hLk] at this;cases this
     ·exact h1
    rw [pad_set (by rw [hsz];exact him)]
    have hless:((List.range m).filter fun j => !LA (listed.setIfInBounds i true) j).length < ((List.range m).filter fun j => !LA listed j).length:=by
     rw [LA_set (by rw [hsz];exact him)]
     have hsub:((List.range m).filter fun j => !addL i (LA listed) j)=(((List.range m).filter fun j => !LA listed j).filter fun j => j != i):=by
      rw [List.filter_filter]
      congr 1
      funext j
      simp only [addL,Bool.not_or]
      cases LA listed j <;> simp [bne]
     rw [hsub]
     have hmem:i∈(List.range m).filter fun j => !LA listed j:=by simp [List.mem_filter,him,hL]
     exact List.length_filter_lt_length_iff_exists.2 ⟨i,hmem,by simp⟩
    by_cases e:i=k
    ·subst e
     rw [hoc] at ho
     cases ho
     exact hbehind listed ι1 M1 a1 w1 hd1 hlt hd fuel (by omega)
    ·have hik':i < k:=by omega
     refine wpOp_pre hS him (draw_step DA hd1 hn.1 hpo hL (by rw [hrecA];simp only;rw [if_pos hik'];exact (hstep1 i hik').elim fun _ h => h.2.2) hd fun ι' M' a' w' h' => ih _ ι' M' a' w' h' (fun j hj => ?_) ?_)
     ·rw [LA_set (by rw [hsz];exact him)] at hj
      simp only [addL,Bool.or_eq_true,beq_iff_eq] at hj
      rcases hj with hj | rfl
      ·exact hlt j hj
      ·exact hik'
     ·omega
 have e:padA ops.size (Array.replicate (preOps ops m).size false)=Array.replicate ops.size false:=by
  apply Array.ext_getElem?
  intro j
  simp only [padA,hpsz,Array.size_replicate]
  by_cases hj:j < m
  ·rw [Array.getElem?_append_left (by simpa using hj)]
   have:j < ops.size:=by omega
   simp [Array.getElem?_replicate,hj,this]
  ·rw [Array.getElem?_append_right (by simp;omega)]
   simp only [Array.getElem?_replicate,Array.size_replicate]
   by_cases h2:j < ops.size
   ·rw [if_pos (by omega),if_pos h2]
   ·rw [if_neg (by omega),if_neg h2]
 have hLA0:LA (Array.replicate (preOps ops m).size false)=pre 0:=by
  funext j
  simp only [LA,pre]
  by_cases hj:j < (preOps ops m).size <;> simp [hj]
 rw [← e]
 refine key ops.size _ ι (max s.nx s.nx) a _ ?_ (fun i hi => ?_) ?_
 ·refine ⟨by simp,?_,?_,fun q b hq => ?_,Nat.le_max_right _ _,fun i hi _ hnew => ?_,hrel.size,hrel.defers,fun t => ?_,?_,fun q b hq hlt => hn.2 q b hq hlt⟩
  ·rw [hLA0]
   intro i o ho hL
   simp [pre] at hL
  ·try simp only
   rw [hSLA];exact hrel.wf.drew
  ·have:=hrel.bnd.ilt q b hq
   omega
  ·obtain ⟨_,h2,_⟩:=hhowA i (os[i]'(by omega)) (by simp)
   rw [h2] at hnew;cases hnew
  ·try simp only
   rw [hSLA,hLA0]
   have hlw:∀ n,lw (pre 0) (slotW (dstF os) recA t) n=none:=by
    intro n
    induction n with
    | zero => rfl
    | succ n ih => simp [lw,pre,ih]
   have e0:wkE os recA (merge gs g []) 0=merge gs g []:=rfl
   rw [e0]
   simp only [EL,hlw,Option.getD_none]
   refine Rep.step (drew_step ι s.m w) ?_
   simp only [merge]
   split
   ·rename_i ht;exact hrel.glob t ht
   ·rename_i ht;exact hrel.loc t (by simpa using ht)
  ·try simp only
   rw [hSLA]
   exact hst.trans (drew_step ι s.m w)
 ·rw [hLA0] at hi;simp [pre] at hi
 ·have:=List.length_filter_le (fun i => !LA (Array.replicate (preOps ops m).size false) i) (List.range m)
  simp only [List.length_range] at this
  omega
theorem float_sound [Glob] {ops:Array Oper} {k m:Nat} {os suf:List AOper} {oc:Oper} {ac:AOp} {dc:Option (Bool × Nat)} {fr:List AOp} {id:Nat} {ι0:Nat→Option Nat} {s0:St} {w0:World} {K:Env→Env→St→Prop} {Q:Exit→Act→World→Prop}
  (d:List Deferred) (htame:tame ops=true) (hdraws:P.follows .mixedOrders=true) (hkm:k < m) (hs:sufOK ops m=true) (T:Text P gs N (preOps ops m) os) (hafter:∀ j,k < j→j < m→k∈(befores (preOps ops m).toList []).getD j [])
  (hoc:ops[k]?=some oc) (hac:compileAny P gs false oc=some ac) (hcall:ac.isCall=true) (hgc:oc.guard=none) (hdc:cdst gs N oc.dst=some dc)
  (hF:∀ i,i < k→i ∉ (befores (preOps ops m).toList []).getD k []→∃ o,os[i]?=some o∧o.op∈fr∧∀ x∈o.op.opnds,opndFree (((os.take k).drop i).map (·.dst)) x=true)
  (hsuf:compileSeq P gs N ops (ops.toList.drop m)=some suf)
  (hQ:∀ ι' g' l' s' a' w',Rel gs N ι' g' l' s' a' w'→Step ι0 s0.m w0 ι' s'.m w'→Inc ι0 ι' s0.nx s'.nx→K g' l' s'→Q .normal (appD d a') w')
  (h:aopsD P 0 [] (os.take k) (floatE P fr ac dc k (os.drop (k+1)) suf K) g [] s)
  (hrel:Rel gs N ι g [] s a w) (hst:Step ι0 s0.m w0 ι s.m w) (hn:Inc ι0 ι s0.nx s.nx):(Code.region id ops true).wpIn (inR ro) 0 P Q (appD d a) w :=
 wpR_region_any htame hdraws (float_any0 (Q:=fun e a w => Q e (appD d a) w) hkm hs T hafter hoc hac hcall hgc hdc hF hsuf hQ h hrel hst hn)
end Go.AL
