/- Maps that are written no more: frozen, thawed for a call; objects lent to a call. -/
import Derived.Test.YtlledcnjfgcipaaGreatDoorG8
import Derived.Shelf.Sort.Plain
import Derived.Shelf.Slices.In.SortNone
import Derived.Test.YtlledcnjfgcipaaGreatDoorProg
import Derived.KernelRfl
import Derived.Shelf.Slices.CompactS
set_option linter.unusedVariables false
set_option linter.unusedSimpArgs false
namespace Go.AL
variable {P:Program} {ι ι':Nat→Option Nat} {S:AX} {F:Nat→Nat→Prop} {w w':World}
theorem Fm {α:Type}:∀ {l:List α} (_:l.Nodup) {i j:Nat} {x:α},l[i]?=some x→l[j]?=some x→i=j
 | [],_,i,j,x,h,_=>by simp at h
 | a::l,hn,i,j,x,h1,h2=>by
  obtain⟨hn1,hn2⟩:=List.nodup_cons.1 hn
  cases i <;> cases j <;> simp at h1 h2
  ·rfl
  ·subst h1;exact absurd (List.mem_of_getElem? h2) hn1
  ·subst h2;exact absurd (List.mem_of_getElem? h1) hn1
  ·rw [Fm hn2 h1 h2]
theorem PT {α:Type} {a b:List α} (h:a.Perm b):∃ σ:Nat→Nat,(∀ j,j < a.length→σ j < a.length)∧(∀ i j,i < a.length→j < a.length→σ i=σ j→i=j)∧(∀ i,i < a.length→∃ j,j < a.length∧σ j=i)∧∀ j,j < a.length→b[σ j]?=a[j]?:=by
 induction h with
 | nil=>exact⟨id,by simp,by simp,by simp,by simp⟩
 | @cons x a b h ih =>
  obtain⟨σ,h1,h2,h3,h4⟩:=ih
  refine⟨fun j=>match j with | 0=>0 | j+1=>σ j+1,?_,?_,?_,?_⟩
  ·intro j hj
   cases j with
   | zero=>simp
   | succ j=>simp at hj ⊢;exact h1 j hj
  ·intro i j hi hj e
   cases i <;> cases j <;> simp at hi hj e ⊢
   exact h2 _ _ hi hj e
  ·intro i hi
   cases i with
   | zero=>exact⟨0,by simp,rfl⟩
   | succ i =>
    simp at hi
    obtain⟨j,hj,rfl⟩:=h3 i hi
    exact⟨j+1,by simpa using hj,rfl⟩
  ·intro j hj
   cases j with
   | zero=>simp
   | succ j=>simp at hj ⊢;exact h4 j hj
 | swap x y l =>
  refine⟨fun j=>match j with | 0=>1 | 1=>0 | j+2=>j+2,?_,?_,?_,?_⟩
  ·intro j hj
   match j with
   | 0=>simp
   | 1=>simp
   | j+2=>simpa using hj
  ·intro i j hi hj e
   match i,j with
   | 0,0=>rfl
   | 0,1=>simp at e
   | 0,j+2=>simp at e
   | 1,0=>simp at e
   | 1,1=>rfl
   | 1,j+2=>simp at e
   | i+2,0=>simp at e
   | i+2,1=>simp at e
   | i+2,j+2=>simpa using e
  ·intro i hi
   match i with
   | 0=>exact⟨1,by simp,rfl⟩
   | 1=>exact⟨0,by simp,rfl⟩
   | i+2=>exact⟨i+2,hi,rfl⟩
  ·intro j hj
   match j with
   | 0=>simp
   | 1=>simp
   | j+2=>simp
 | @trans a b c h1 h2 ih1 ih2 =>
  obtain⟨σ,a1,a2,a3,a4⟩:=ih1
  obtain⟨τ,b1,b2,b3,b4⟩:=ih2
  have hl:=h1.length_eq
  rw [← hl]at b1 b2 b3 b4
  refine⟨fun j=>τ (σ j),fun j hj=>b1 _ (a1 j hj),fun i j hi hj e=>a2 i j hi hj (b2 _ _ (a1 i hi) (a1 j hj) e),fun i hi=>?_,fun j hj=>(b4 _ (a1 j hj)).trans (a4 j hj)⟩
  obtain⟨j,hj,rfl⟩:=b3 i hi
  obtain⟨k,hk,rfl⟩:=a3 j hj
  exact⟨k,hk,rfl⟩
def Ii:AV→Prop
 | .int .i64 _ | .str _=>True
 | _=>False
theorem AC9 {v:Value} {x y:AV} (hx:Rep ι F w v x) (hy:Rep ι F w v y) (kx:Ii x) (ky:Ii y):x=y:=by
 cases x <;> simp only [Ii]at kx <;> cases y <;> simp only [Ii]at ky <;> cases hx <;> cases hy <;> rfl
def DM (kes:List (AV × AV)):List (Nat × AV × AV):=kes.mapIdx fun j p=>(j,p)
theorem HG {kes:List (AV × AV)} {j:Nat}:(DM kes)[j]?=(kes[j]?).map fun p=>(j,p):=by simp [DM]
theorem JU (kes:List (AV × AV)):(DM kes).length=kes.length:=by simp [DM]
theorem KU [Glob] (hwf:WF ι S w) {o b:Nat} {kes kes':List (AV × AV)} (ho:S o=some (.map (DM kes) kes.length)) (hb:ι o=some b) (hp:kes.Perm kes') (hk:∀ p∈kes,Ii p.1) (hnd:(kes.map (·.1)).Nodup) :
  Rep ι (AZ ι (CO S o)) w (.map (some b)) (.Bp kes'):=by
 obtain⟨ces,h1,h2,h3⟩:=hwf.rep o _ b ho hb
 rw [JU]at h2
 obtain⟨σ,s1,s2,s3,s4⟩:=PT hp
 have hl:=hp.length_eq
 have hst:=BG S (CO S o) (Ap S o) ι w
 have hent:∀ (j:Nat) (e:MapEntry),ces[j]?=some e→∃ p,kes[j]?=some p∧kes'[σ j]?=some p∧e.born=j∧Rep ι (AZ ι S) w e.key p.1∧Rep ι (AZ ι S) w e.val p.2:=by
  intro j e he
  have hj:j < kes.length:=by have:=(Array.getElem?_eq_some_iff.1 he).1;omega
  have hg:(DM kes)[j]?=some (j,kes[j]):=by rw [HG];simp [hj]
  obtain⟨k1,k2,k3⟩:=h3 j e _ he hg
  exact⟨kes[j],by simp [hj],by rw [s4 j hj];simp [hj],k1,k2,k3⟩
 rw [hl]at s1 s2 s3
 refine .Bp σ (by rw [h1,h2]) ?_ (by omega) s1 s2 s3 (fun j e he=>?_) (fun i j e e' he he' heq=>?_) (fun j e p he hp'=>?_) (fun j e p he hp'=>?_)
 ·rintro off ⟨q,ob,k1,k2,k3⟩
  have hq:q≠o:=by
   intro e
   simp [CO,e]at k1
  exact hq (hwf.inj q o ob _ b (Ap S o q ob k1) ho k2 hb)
 ·obtain⟨p,_,_,h,_⟩:=hent j e he;exact h
 ·obtain⟨p,hp1,_,_,hr,_⟩:=hent i e he
  obtain⟨q,hq1,_,_,hr',_⟩:=hent j e' he'
  rw [heq]at hr
  have hpq:=AC9 hr hr' (hk _ (List.mem_of_getElem? hp1)) (hk _ (List.mem_of_getElem? hq1))
  refine Fm hnd (i:=i) (j:=j) (x:=p.1) ?_ ?_
  ·rw [List.getElem?_map,hp1];rfl
  ·rw [List.getElem?_map,hq1,hpq];rfl
 ·obtain⟨q,_,hq,_,hr,_⟩:=hent j e he
  rw [hq]at hp';cases hp';exact hr.step hst
 ·obtain⟨q,_,hq,_,_,hr⟩:=hent j e he
  rw [hq]at hp';cases hp';exact hr.step hst
section
variable {f:FuncId} {args:List AV} {s:St} {K:AV→St→Prop}
theorem AB.Nz [Glob] (h:AB P f args s fun r s'=>∃ r' S2,(∀ q ob,S2 q=some ob→s'.m q=some ob)∧(∀ ι w v,WF ι s'.m w→Rep ι (AZ ι s'.m) w v r→Rep ι (AZ ι S2) w v r')∧K r' ⟨S2,s'.nx⟩):AB P f args s K:=by
 refine⟨h.1,fun ι w vs h1 h2 h3=>Calls.mono (h.2 ι w vs h1 h2 h3) ?_⟩
 rintro e w' ⟨v,r,s',ι',k1,k2,k3,k4,k5,k6,r',S2,hS,hr,hk⟩
 exact⟨v,r',⟨S2,s'.nx⟩,ι',k1,k2.trans (BG s'.m S2 hS ι' w'),k3.drop hS,⟨fun q ob hq=>k4.lt q ob (hS q ob hq),k4.ilt⟩,k5,hr ι' w' v k3 k6,hk⟩
def AJn (K:AV→St→Prop) (r:AV) (s':St):Prop:=∃ o kes kes',r=.map o∧s'.m o=some (.map (DM kes) kes.length)∧kes.Perm kes'∧(∀ p∈kes,Ii p.1)∧(kes.map (·.1)).Nodup∧K (.Bp kes') (s'.del o)
theorem AB.ADA [Glob] (h:AB P f args s (AJn K)):AB P f args s K:=by
 refine AB.Nz (AB.mono h fun r s' hn hh=>?_)
 obtain⟨o,kes,kes',rfl,ho,hp,hk,hnd,hK⟩:=hh
 refine⟨.Bp kes',(s'.del o).m,Ap s'.m o,fun ι w v hwf hv=>?_,hK⟩
 obtain⟨b,hb,rfl⟩:=DW hv
 exact KU hwf ho hb hp hk hnd
def AHw (x:AV) (K:AV→St→Prop) (r:AV) (s':St):Prop:=∃ o kes kes',r=.agg [x,.map o]∧s'.m o=some (.map (DM kes) kes.length)∧kes.Perm kes'∧(∀ p∈kes,Ii p.1)∧(kes.map (·.1)).Nodup∧K (.agg [x,.Bp kes']) (s'.del o)
theorem AB.Sh [Glob] {x:AV} (hx:∀ (ι ι':Nat→Option Nat) (F F':Nat→Nat→Prop) w v,Rep ι F w v x→Rep ι' F' w v x) (h:AB P f args s (AHw x K)):AB P f args s K:=by
 refine AB.Nz (AB.mono h fun r s' hn hh=>?_)
 obtain⟨o,kes,kes',rfl,ho,hp,hk,hnd,hK⟩:=hh
 refine⟨.agg [x,.Bp kes'],(s'.del o).m,Ap s'.m o,fun ι w v hwf hv=>?_,hK⟩
 cases hv with
 | agg hl hc hr =>
  refine .agg hl hc fun j u y hu hy=>?_
  match j with
  | 0 =>
   simp at hy;subst hy
   exact hx _ _ _ _ _ _ (hr 0 u _ hu rfl)
  | 1 =>
   simp at hy;subst hy
   obtain⟨b,hb,rfl⟩:=DW (hr 1 u _ hu rfl)
   exact KU hwf ho hb hp hk hnd
  | j+2=>simp at hy
end
def A6 (l:List Int):List (AV × AV):=l.map fun k=>(.int .i64 k,.bool true)
theorem Gw:∀ (l:List Int) (i:Nat),BP i l=(A6 l).mapIdx fun j p=>(i+j,p)
 | [],i=>rfl
 | a::r,i=>by
  simp only [BP,A6,List.map_cons,List.mapIdx_cons]
  rw [Gw r (i+1)]
  simp only [A6,Nat.add_zero]
  congr 2
  funext j p
  congr 1
  omega
theorem JV [Glob] (l:List Int):obS l=.map (DM (A6 l)) (A6 l).length:=by
 rw [obS,Gw,DM]
 simp [A6]
theorem UO (l:List Int):∀ p∈A6 l,Ii p.1:=by
 intro p hp
 simp only [A6,List.mem_map]at hp
 obtain⟨k,_,rfl⟩:=hp
 trivial
theorem PU {l:List Int} (h:l.Nodup):((A6 l).map (·.1)).Nodup:=by
 simp only [A6,List.map_map]
 exact List.Pairwise.map _ (fun a b h=>by simpa using h) h
theorem Hu {a b:List Int} (h:a.Perm b):(A6 a).Perm (A6 b):=h.map _
def CG (l:List Int):Array MapEntry:=(l.mapIdx fun j k=>(⟨.int .i64 k,.bool true,j⟩:MapEntry)).toArray
theorem LI [Glob] {b:Nat} {l:List Int} (h:C1 ι F w b (obS l)):w.heap[b]?=some (.map (CG l) l.length):=by
 rw [JV]at h
 obtain⟨ces,h1,h2,h3⟩:=h
 rw [h1]
 have hil:(A6 l).length=l.length:=by simp [A6]
 rw [JU]at h2
 have:ces=CG l:=by
  apply Array.ext_getElem?
  intro j
  by_cases hj:j < l.length
  ·have hjc:j < ces.size:=by omega
   have hp:(DM (A6 l))[j]?=some (j,.int .i64 l[j],.bool true):=by rw [HG];simp [A6,hj]
   obtain⟨k1,k2,k3⟩:=h3 j ces[j] _ (by simp [hjc]) hp
   have e:ces[j]=⟨.int .i64 l[j],.bool true,j⟩:=by
    generalize ces[j]=e at k1 k2 k3
    obtain⟨a,b,c⟩:=e
    simp only at k1 k2 k3
    have:=Bt k2
    have:=CC k3
    simp [*]
   simp [hjc,e,CG,hj]
  ·have hjc:¬ j < ces.size:=by omega
   simp [CG,hj,hjc]
 rw [this,hil]
theorem PV [Glob] {b:Nat} {l:List Int} (h:w.heap[b]?=some (.map (CG l) l.length)):C1 ι F w b (obS l):=by
 rw [JV]
 have hil:(A6 l).length=l.length:=by simp [A6]
 refine⟨CG l,by rw [h,hil],by simp [CG,JU,hil],fun j e p he hp=>?_⟩
 rw [HG]at hp
 have hj:j < l.length:=by have:=(Array.getElem?_eq_some_iff.1 he).1;simpa [CG] using this
 simp [CG,hj]at he
 simp [A6,hj]at hp
 subst he hp
 exact⟨rfl,.int _ _,.bool _⟩
theorem PW [Glob] {v:Value} {l:List Int} (h:Rep ι F w v (.Bp (A6 l))):∃ b l',v=.map (some b)∧l'.Perm l∧w.heap[b]?=some (.map (CG l') l'.length)∧∀ off,¬ F b off:=by
 cases h with
 | @Bp b ces _ σ h1 hf hsz hσ hinj hsur hborn hnd hkk hvv =>
  have hil:(A6 l).length=l.length:=by simp [A6]
  rw [hil]at hsz hσ hinj hsur
  refine⟨b,(List.range l.length).map fun j=>l.getD (σ j) 0,rfl,?_,?_,hf⟩
  ·have e:((List.range l.length).map σ).Perm (List.range l.length):=by
    rw [List.perm_ext_iff_of_nodup ?_ List.nodup_range]
    ·intro i
     simp only [List.mem_map,List.mem_range]
     constructor
     ·rintro⟨j,hj,rfl⟩;exact hσ j hj
     ·intro hi;exact hsur i hi
    ·unfold List.Nodup
     rw [List.pairwise_map]
     refine List.Pairwise.imp_of_mem (fun {a b} ha hb hab e=>?_) List.nodup_range
     exact hab (hinj a b (by simpa using ha) (by simpa using hb) e)
   have e2:=e.map fun j=>l.getD j 0
   rw [List.map_map]at e2
   have e3:(List.range l.length).map (fun j=>l.getD j 0)=l:=by
    apply List.ext_getElem
    ·simp
    ·intro i h1 h2;simp [h2]
   rw [e3]at e2
   exact e2
  ·rw [h1]
   have:ces=CG ((List.range l.length).map fun j=>l.getD (σ j) 0):=by
    apply Array.ext_getElem?
    intro j
    by_cases hj:j < l.length
    ·have hjc:j < ces.size:=by omega
     have hsj:=hσ j hj
     have hp:(A6 l)[σ j]?=some (.int .i64 l[σ j],.bool true):=by simp [A6,hsj]
     have k1:=hborn j ces[j] (by simp [hjc])
     have k2:=hkk j ces[j] _ (by simp [hjc]) hp
     have k3:=hvv j ces[j] _ (by simp [hjc]) hp
     have e:ces[j]=⟨.int .i64 l[σ j],.bool true,j⟩:=by
      generalize ces[j]=e at k1 k2 k3
      obtain⟨a,b,c⟩:=e
      simp only at k1 k2 k3
      have:=Bt k2
      have:=CC k3
      simp [*]
     simp [hjc,e,CG,hj,hsj]
    ·have hjc:¬ j < ces.size:=by omega
     simp [CG,hj,hjc]
   rw [this]
   simp [CG]
theorem RX [Glob] {b:Nat} {l' lr:List Int} (hh:w.heap[b]?=some (.map (CG l') l'.length)) (hnd:l'.Nodup) (hp:l'.Perm lr) (hf:∀ off,¬ F b off):Rep ι F w (.map (some b)) (.Bp (A6 lr)):=by
 obtain⟨σ,s1,s2,s3,s4⟩:=PT (Hu hp)
 have hil:∀ l:List Int,(A6 l).length=l.length:=fun l=>by simp [A6]
 have hl:(A6 l').length=(A6 lr).length:=(Hu hp).length_eq
 rw [hl]at s1 s2 s3 s4
 have hsz:(CG l').size=l'.length:=by simp [CG]
 have hent:∀ (j:Nat) (e:MapEntry),(CG l')[j]?=some e→∃ k,l'[j]?=some k∧e=⟨.int .i64 k,.bool true,j⟩∧(A6 lr)[σ j]?=some (.int .i64 k,.bool true):=by
  intro j e he
  have hj:j < l'.length:=by have:=(Array.getElem?_eq_some_iff.1 he).1;omega
  simp [CG,hj]at he
  refine⟨l'[j],by simp [hj],he.symm,?_⟩
  rw [s4 j (by rw [← hl,hil];exact hj)]
  simp [A6,hj]
 refine .Bp σ (by rw [hh,hsz]) hf (by rw [hsz,← hl,hil]) s1 s2 s3 (fun j e he=>?_) (fun i j e e' he he' heq=>?_) (fun j e p he hp'=>?_) (fun j e p he hp'=>?_)
 ·obtain⟨k,_,rfl,_⟩:=hent j e he;rfl
 ·obtain⟨k,h1,rfl,_⟩:=hent i e he
  obtain⟨k',h1',rfl,_⟩:=hent j e' he'
  simp only [Value.int.injEq,true_and]at heq
  subst heq
  exact Fm hnd h1 h1'
 ·obtain⟨k,_,rfl,h⟩:=hent j e he
  rw [h]at hp';cases hp';exact .int _ _
 ·obtain⟨k,_,rfl,h⟩:=hent j e he
  rw [h]at hp';cases hp';exact .bool _
def WY [Glob]:Prop:=∀ g x,Glob.gt g=some x→∀ (ι ι':Nat→Option Nat) (F F':Nat→Nat→Prop) w v,Rep ι F w v x→(∀ b off,F' b off→∃ l:List Int,w.heap[b]?=some (.map (CG l) l.length))→Rep ι' F' w v x
theorem ADB [Glob] {f:FuncId} {Ak:List AV} {A:Nat→Nat→List AV} {l1 l2 lr:List Int} {x:AV} (hG:WY) (hcb:D7 P f) (hx:x.isVal=true) (hx1:∀ (ι ι':Nat→Option Nat) (F F':Nat→Nat→Prop) w v,Rep ι F w v x→Rep ι' F' w v x)
  (hA:∀ (ι:Nat→Option Nat) (F:Nat→Nat→Prop) w vs,Bs ι F w vs Ak→∃ v1 v2,Rep ι F w v1 (.Bp (A6 l1))∧Rep ι F w v2 (.Bp (A6 l2)) ∧
   ∀ (ι':Nat→Option Nat) (F':Nat→Nat→Prop) o1 o2,Rep ι' F' w v1 (.map o1)→Rep ι' F' w v2 (.map o2)→Bs ι' F' w vs (A o1 o2))
  (h:∀ o1 o2 l1' l2' s,l1'.Perm l1→l2'.Perm l2→o1 < s.nx→o2 < s.nx→s.m o1=some (obS l1')→s.m o2=some (obS l2')→AB P f (A o1 o2) s fun r s'=>∃ o' l',r=.agg [x,.map o']∧s.nx≤o'∧s'.m o'=some (obS l')∧l'.Perm lr∧l'.Nodup∧s'.m o1=some (obS l1')∧s'.m o2=some (obS l2')) :
  AF P f Ak (.agg [x,.Bp (A6 lr)]):=by
 intro s
 refine⟨hcb,fun ι w vs hwf hbnd hvs=>?_⟩
 obtain⟨v1,v2,hv1,hv2,hvA⟩:=hA ι _ w vs hvs
 obtain⟨b1,l1',rfl,hp1,hh1,hf1⟩:=PW hv1
 obtain⟨b2,l2',rfl,hp2,hh2,hf2⟩:=PW hv2
 have hb1:b1 < w.heap.size:=(Array.getElem?_eq_some_iff.1 hh1).1
 have hb2:b2 < w.heap.size:=(Array.getElem?_eq_some_iff.1 hh2).1
 -- the numbers of the two, above all others; one if they are one
 obtain⟨o1,ho1⟩:∃ o,o=s.nx:=⟨_,rfl⟩
 obtain⟨o2,ho2⟩:∃ o,o=if b2=b1 then s.nx else s.nx+1:=⟨_,rfl⟩
 have ho12:o1=o2↔b2=b1:=by
  rw [ho1,ho2]
  split
  ·simp [*]
  ·constructor
   ·intro h;omega
   ·intro h;contradiction
 have hl12:b2=b1→obS l2'=obS l1':=by
  intro e
  subst e
  rw [hh1]at hh2
  injection hh2 with e
  injection e with e1 e2
  have:l1'=l2':=by
   apply List.ext_getElem e2
   intro j k1 k2
   have:=congrArg (fun(a:Array MapEntry)=>(a[j]?).map (·.key)) e1
   simpa [CG,k1,k2] using this
  rw [this]
 let ι1:Nat→Option Nat:=fun q=>if q=o1 then some b1 else if q=o2 then some b2 else ι q
 let S1:AX:=fun q=>if q=o1 then some (obS l1')else if q=o2 then some (obS l2')else none
 have hι1:ι1 o1=some b1:=by simp [ι1]
 have hι2:ι1 o2=some b2:=by
  by_cases e:o2=o1
  ·have:=ho12.1 e.symm;simp [ι1,e,this]
  ·simp [ι1,e]
 have hS1:S1 o1=some (obS l1'):=by simp [S1]
 have hS2:S1 o2=some (obS l2'):=by
  by_cases e:o2=o1
  ·have:=hl12 (ho12.1 e.symm);simp [S1,e,this]
  ·simp [S1,e]
 have hSonly:∀ q ob,S1 q=some ob→(q=o1∨q=o2):=by
  intro q ob hq
  simp only [S1]at hq
  split at hq
  ·exact .inl (by assumption)
  ·split at hq
   ·exact .inr (by assumption)
   ·cases hq
 have hge:s.nx≤o1∧s.nx≤o2∧o1 < s.nx+2∧o2 < s.nx+2:=by
  rw [ho1,ho2];split <;> omega
 have hext:∀ q b,ι q=some b→ι1 q=some b:=by
  intro q b hq
  have:=hbnd.ilt q b hq
  have h1:q≠o1:=by omega
  have h2:q≠o2:=by omega
  simp [ι1,h1,h2,hq]
 have hfoot1:∀ b off,AZ ι1 S1 b off→b=b1∨b=b2:=by
  rintro b off ⟨q,ob,k1,k2,_⟩
  rcases hSonly q ob k1 with rfl | rfl
  ·rw [hι1]at k2;cases k2;exact .inl rfl
  ·rw [hι2]at k2;cases k2;exact .inr rfl
 have hblk1:∀ b,Blk ι1 S1 b→b=b1∨b=b2:=by
  rintro b ⟨q,ob,k1,k2⟩
  rcases hSonly q ob k1 with rfl | rfl
  ·rw [hι1]at k2;cases k2;exact .inl rfl
  ·rw [hι2]at k2;cases k2;exact .inr rfl
 have hwf1:WF ι1 S1 w:=by
  refine⟨fun q b hq=>?_,fun q q' ob ob' b k1 k2 k3 k4=>?_,fun q ob b k1 k2=>?_,fun g x hg=>hG g x hg _ _ _ _ _ _ (hwf.laid g x hg) fun b off hf=>?_⟩
  ·simp only [ι1]at hq
   split at hq
   ·cases hq;exact hb1
   ·split at hq
    ·cases hq;exact hb2
    ·exact hwf.blt q b hq
  ·rcases hSonly q ob k1 with rfl | rfl <;> rcases hSonly q' ob' k2 with h' | h' <;> subst h' <;> try rfl
   ·rw [hι1]at k3;rw [hι2]at k4;cases k3;cases k4;exact ho12.2 rfl
   ·rw [hι2]at k3;rw [hι1]at k4;cases k3;cases k4;exact(ho12.2 rfl).symm
  ·rcases hSonly q ob k1 with rfl | rfl
   ·rw [hS1]at k1;rw [hι1]at k2;cases k1;cases k2;exact PV hh1
   ·rw [hS2]at k1;rw [hι2]at k2;cases k1;cases k2;exact PV hh2
  ·rcases hfoot1 b off hf with rfl | rfl
   ·exact⟨_,hh1⟩
   ·exact⟨_,hh2⟩
 have hbnd1:Bnd ι1 S1 (s.nx+2):=by
  refine⟨fun q ob hq=>?_,fun q b hq=>?_⟩
  ·rcases hSonly q ob hq with rfl | rfl <;> omega
  ·simp only [ι1]at hq
   split at hq
   ·omega
   ·split at hq
    ·omega
    ·have:=hbnd.ilt q b hq;omega
 refine Calls.mono ((h o1 o2 l1' l2' ⟨S1,s.nx+2⟩ hp1 hp2 hge.2.2.1 hge.2.2.2 hS1 hS2).2 ι1 w vs hwf1 hbnd1 (hvA ι1 _ o1 o2 (.map hι1) (.map hι2))) ?_
 rintro e w' ⟨v,r,s',ι',rfl,hst,hwf',hbnd',hinc,hrep,o',l',rfl,ho',hSo',hperm,hnd',hk1,hk2⟩
 have hsame:∀ b,b < w.heap.size→w'.heap[b]?=w.heap[b]?:=by
  intro b hb
  by_cases e1:b=b1
  ·subst e1
   rw [LI (hwf'.rep o1 _ _ hk1 (hst.ext _ _ hι1)),hh1]
  ·by_cases e2:b=b2
   ·subst e2
    rw [LI (hwf'.rep o2 _ _ hk2 (hst.ext _ _ hι2)),hh2]
   ·exact hst.blk b hb fun hk=>(hblk1 b hk).elim e1 e2
 have hstep:Step ι s.m w ι s.m w':=grow_step hst.size hst.os hst.tape hst.output hsame (fun _ _ h=>h) (fun _ _ _ h=>h) (fun _ _ h=>h)
 refine⟨v,.agg [x,.Bp (A6 lr)],s,ι,rfl,hstep,hwf.Ct hstep (fun q b hq=>Nat.lt_of_lt_of_le (hwf.blt q b hq) hst.size) hwf.inj (fun q ob b k1 k2=>.inl ⟨k1,k2,hsame b (hwf.blt q b k2)⟩),hbnd,Inc.refl _ _,?_,rfl,fun _ _=>rfl⟩
 cases hrep with
 | agg hl hc hr =>
  refine .agg hl hc fun j u y hu hy=>?_
  match j with
  | 0 =>
   simp at hy;subst hy
   exact hx1 _ _ _ _ _ _ (hr 0 u _ hu rfl)
  | 1 =>
   simp at hy;subst hy
   obtain⟨b',hb',rfl⟩:=DW (hr 1 u _ hu rfl)
   have hnew:¬ b' < w.heap.size:=by
    intro hlt
    have hB:=hblk1 b' (hst.Lv b' hlt ⟨o',_,hSo',hb'⟩)
    rcases hB with rfl | rfl
    ·have:=hwf'.inj o' o1 _ _ _ hSo' hk1 hb' (hst.ext _ _ hι1)
     simp only at ho';omega
    ·have:=hwf'.inj o' o2 _ _ _ hSo' hk2 hb' (hst.ext _ _ hι2)
     simp only at ho';omega
   refine RX (LI (hwf'.rep o' _ _ hSo' hb')) hnd' hperm ?_
   rintro off ⟨q,ob,_,k2,_⟩
   exact hnew (hwf.blt q _ k2)
  | j+2=>simp at hy
def Plain (x:AV):Prop:=∀ (ι ι':Nat→Option Nat) (F F':Nat→Nat→Prop) w v,Rep ι F w v x→Rep ι' F' w v x
theorem Fo (k:IntKind) (n:Int):Plain (.int k n):=fun _ _ _ _ _ _ h=>by cases h;exact .int _ _
theorem Co (b:Bool):Plain (.bool b):=fun _ _ _ _ _ _ h=>by cases h;exact .bool _
theorem UP {l:List AV} (hl:∀ x∈l,Plain x):Plain (.agg l):=fun ι ι' F F' w v h=>by
 cases h with
 | agg h1 h2 h3=>exact .agg h1 h2 fun j v x hv hx=>hl x (List.mem_of_getElem? hx) _ _ _ _ _ _ (h3 j v x hv hx)
theorem borrow [Glob] {f:FuncId} {rest:List AV} {r:AV} {oa og:Nat} {kes:List (AV × AV)} {s:St} (h:AF P f (.Ai [.Bp kes]::rest) r) (hr:Plain r) (hoa:s.m oa=some (.box [.map og])) (hog:s.m og=some (.map (DM kes) kes.length))
  (hk:∀ p∈kes,Ii p.1) (hnd:(kes.map (·.1)).Nodup):AB P f (.ptr oa 0::rest) s fun r' s'=>r'=r∧∀ q,q < s.nx→s'.m q=s.m q:=by
 refine⟨(h s).1,fun ι w vs hwf hbnd hvs=>?_⟩
 have hS0:∀ o obj,(fun _=>none:AX) o=some obj→s.m o=some obj:=fun _ _ h=>by cases h
 have hd:=BG s.m (fun _=>none) hS0 ι w
 have hF0:∀ b off,¬ AZ ι (fun _=>none) b off:=by rintro b off ⟨q,ob,k1,_⟩;cases k1
 have hargs:Bs ι (AZ ι (fun _=>none)) w vs (.Ai [.Bp kes]::rest):=by
  refine⟨hvs.1,fun j v x hv hx=>?_⟩
  cases j with
  | succ j=>exact(hvs.2 (j+1) v x hv (by simpa using hx)).step hd
  | zero =>
   simp at hx
   subst hx
   have hp:=hvs.2 0 v _ hv rfl
   cases hp with
   | @ptr _ b _ hb =>
    obtain⟨cvs,e,h1,h2,h3,h4⟩:=hwf.rep oa _ b hoa hb
    have hc0:0 < cvs.size:=by simp only [List.length_singleton]at h2;omega
    have hcell:=h3 0 cvs[0] _ (by simp [hc0]) rfl
    obtain⟨bg,hbg,hcv⟩:=DW hcell
    have hfr:=KU hwf hog hbg (List.Perm.refl _) hk hnd
    have hfr2:=hfr.step (S':=fun _=>none) (ι':=ι) (w':=w) (BG _ _ (fun _ _ h=>by cases h) ι w)
    refine .Ai (fun _=>cvs[0]) rfl (fun j hj=>?_) (fun j x hx=>?_)
    ·simp at hj
     subst hj
     refine⟨by simp [World.cell?,h1,hc0],hF0 _ _,?_⟩
     rw [hcv];rfl
    ·cases j with
     | zero=>simp at hx;subst hx;rw [hcv];exact hfr2
     | succ j=>simp at hx
 refine Calls.mono ((h ⟨fun _=>none,s.nx⟩).2 ι w vs (hwf.drop hS0) ⟨fun _ _ h=>(by cases h),hbnd.ilt⟩ hargs) ?_
 rintro e w' ⟨v,r',s',ι',rfl,hst,hwf',hbnd',hinc,hrep,rfl,_⟩
 have hsame:∀ b,b < w.heap.size→w'.heap[b]?=w.heap[b]?:=fun b hb=>hst.blk b hb (by rintro⟨q,ob,k1,_⟩;cases k1)
 have hstep:Step ι s.m w ι s.m w':=grow_step hst.size hst.os hst.tape hst.output hsame (fun _ _ h=>h) (fun _ _ _ h=>h) (fun _ _ h=>h)
 exact⟨v,r',s,ι,rfl,hstep,hwf.Ct hstep (fun q b hq=>Nat.lt_of_lt_of_le (hwf.blt q b hq) hst.size) hwf.inj (fun q ob b k1 k2=>.inl ⟨k1,k2,hsame b (hwf.blt q b k2)⟩),hbnd,Inc.refl _ _,hr _ _ _ _ _ _ hrep,rfl,fun _ _=>rfl⟩
end Go.AL
namespace Go.AL
def wkn (x y:AV):Prop:=wk x y∨(x=.list 0 .full []∧∃ sz o,y=.Ag sz o 0 0)
def PX:List AV→List AV→Prop
 | [],[]=>True
 | x::xs,y::ys=>wkn x y∧PX xs ys
 | _,_=>False
theorem PY:∀ {xs ys:List AV},PX xs ys→xs.length=ys.length∧∀ (i:Nat) x y,xs[i]?=some x→ys[i]?=some y→wkn x y
 | [],[],_=>⟨rfl,by simp⟩
 | x::xs,y::ys,h=>by
  simp only [PX]at h
  obtain⟨h1,h2⟩:=PY h.2
  refine⟨by simp [h1],fun i a b ha hb=>?_⟩
  cases i with
  | zero=>simp at ha hb;subst ha hb;exact h.1
  | succ i=>simp at ha hb;exact h2 i a b ha hb
 | [],_::_,h=>by simp [PX]at h
 | _::_,[],h=>by simp [PX]at h
theorem N0:∀ {xs ys:List AV},wkL xs ys→PX xs ys
 | [],[],_=>trivial
 | x::xs,y::ys,h=>by
  simp only [wkL]at h
  exact⟨.inl h.1,N0 h.2⟩
 | [],_::_,h=>by simp [wkL]at h
 | _::_,[],h=>by simp [wkL]at h
variable {P:Program} {ι ι':Nat→Option Nat} {S S':AX} {F:Nat→Nat→Prop} {w w':World}
theorem Rep.wkn [Glob] {v:Value} {x y:AV} (h:Rep ι F w v x) (hw:wkn x y):Rep ι F w v y:=by
 rcases hw with hw | ⟨rfl,sz,o,rfl⟩
 ·exact h.wk hw
 ·cases h with
  | list cs hlen hcap hsz ht hnone hc hr =>
   simp only [List.length_nil]at hlen
   subst hlen
   have:_=0:=ht
   subst this
   exact .FN
structure WkS (ι:Nat→Option Nat) (S S':AX):Prop where
 up:∀ o ob,S' o=some ob→S o=some ob∨(∃ cs cs',S o=some (.box cs)∧ob=.box cs'∧PX cs cs')∨(S o=none∧ι o=none)
 dn:∀ o ob,S o=some ob→∃ ob',S' o=some ob'
theorem WkS.IL (h:WkS ι S S') (b off:Nat):AZ ι S' b off↔AZ ι S b off:=by
 constructor
 ·rintro⟨o,ob,h1,h2,h3⟩
  rcases h.up o ob h1 with h4 | ⟨cs,cs',h4,rfl,_⟩ | ⟨_,h4⟩
  ·exact⟨o,ob,h4,h2,h3⟩
  ·exact⟨o,_,h4,h2,trivial⟩
  ·rw [h4]at h2;cases h2
 ·rintro⟨o,ob,h1,h2,h3⟩
  obtain⟨ob',h5⟩:=h.dn o ob h1
  rcases h.up o ob' h5 with h4 | ⟨cs,cs',h4,rfl,_⟩ | ⟨h4,_⟩
  ·rw [h1]at h4;cases h4
   exact⟨o,_,h5,h2,h3⟩
  ·exact⟨o,_,h5,h2,trivial⟩
  ·rw [h1]at h4;cases h4
theorem WkS.blk (h:WkS ι S S') (b:Nat):Blk ι S' b↔Blk ι S b:=by
 constructor
 ·rintro⟨o,ob,h1,h2⟩
  rcases h.up o ob h1 with h4 | ⟨cs,cs',h4,_⟩ | ⟨_,h4⟩
  ·exact⟨o,ob,h4,h2⟩
  ·exact⟨o,_,h4,h2⟩
  ·rw [h4]at h2;cases h2
 ·rintro⟨o,ob,h1,h2⟩
  obtain⟨ob',h5⟩:=h.dn o ob h1
  exact⟨o,ob',h5,h2⟩
theorem WkS.LJ [Glob] (h:WkS ι S S'):AZ ι S'=AZ ι S:=by
 funext b off
 exact propext (h.IL b off)
theorem WkS.ABT [Glob] (h:WkS ι S S'):Blk ι S'=Blk ι S:=by
 funext b
 exact propext (h.blk b)
theorem WkS.wf [Glob] (h:WkS ι S S') (hwf:WF ι S w):WF ι S' w:=by
 have he:=h.LJ
 have hS:∀ o ob b,S' o=some ob→ι o=some b→∃ ob0,S o=some ob0:=fun o ob b h1 h2=>by
  rcases h.up o ob h1 with h4 | ⟨cs,cs',h4,_⟩ | ⟨_,h4⟩
  ·exact⟨_,h4⟩
  ·exact⟨_,h4⟩
  ·rw [h4]at h2;cases h2
 refine⟨hwf.blt,fun o o' ob ob' b h1 h2 h3 h4=>?_,fun o ob b h1 h2=>?_,by rw [he];exact hwf.laid⟩
 ·obtain⟨_,k1⟩:=hS o ob b h1 h3
  obtain⟨_,k2⟩:=hS o' ob' b h2 h4
  exact hwf.inj o o' _ _ b k1 k2 h3 h4
 ·rw [he]
  rcases h.up o ob h1 with h4 | ⟨cs,cs',h4,rfl,hw⟩ | ⟨_,h4⟩
  ·exact hwf.rep o ob b h4 h2
  ·obtain⟨vs,e,k1,k2,k3,k4⟩:=hwf.rep o _ b h4 h2
   obtain⟨hl,hw⟩:=PY hw
   refine⟨vs,e,k1,by omega,fun j v y hv hy=>?_,fun j v hj hv=>k4 j v (by omega) hv⟩
   have hj:j < cs.length:=by rw [hl];exact(List.getElem?_eq_some_iff.1 hy).1
   have hx:cs[j]?=some cs[j]:=List.getElem?_eq_getElem hj
   exact(k3 j v _ hv hx).wkn (hw j _ y hx hy)
  ·rw [h4]at h2;cases h2
theorem WkS.pre [Glob] (h:WkS ι S S') {S2:AX} (k:Step ι S' w ι' S2 w'):Step ι S w ι' S2 w':=by
 have he:=h.LJ
 have hb:=h.ABT
 obtain⟨k1,k2,k3,k4,k5,k6,k7,k8,k9,k10,k11⟩:=k
 rw [he]at k6 k8 k10
 rw [hb]at k5 k11
 exact⟨k1,k2,k3,k4,k5,k6,k7,k8,k9,k10,k11⟩
theorem WkS.post [Glob] (h:WkS ι' S S') {S0:AX} (k:Step ι S0 w ι' S w'):Step ι S0 w ι' S' w':=by
 have he:=h.LJ
 have hb:=h.ABT
 obtain⟨k1,k2,k3,k4,k5,k6,k7,k8,k9,k10,k11⟩:=k
 rw [← he]at k10
 rw [← hb]at k11
 exact⟨k1,k2,k3,k4,k5,k6,k7,k8,k9,k10,k11⟩
section
variable {f:FuncId} {args:List AV} {s:St} {K:AV→St→Prop}
theorem AB.pre [Glob] {s1:St} (hn:s.nx≤s1.nx) (hup:∀ o ob,s1.m o=some ob→s.m o=some ob∨(∃ cs cs',s.m o=some (.box cs)∧ob=.box cs'∧PX cs cs')∨(s.m o=none∧s.nx≤o∧o < s1.nx))
  (hdn:∀ o ob,s.m o=some ob→∃ ob',s1.m o=some ob') (h:AB P f args s1 K):AB P f args s K:=by
 refine⟨h.1,fun ι w vs h1 h2 h3=>?_⟩
 have hk:WkS ι s.m s1.m:=⟨fun o ob ho=>by
  rcases hup o ob ho with h4 | h4 | ⟨h4,h5,_⟩
  ·exact .inl h4
  ·exact .inr (.inl h4)
  ·refine .inr (.inr ⟨h4,?_⟩)
   cases hi:ι o with
   | none=>rfl
   | some b=>have:=h2.ilt o b hi;omega,hdn⟩
 have hB:Bnd ι s1.m s1.nx:=⟨fun o ob ho=>by
  rcases hup o ob ho with h4 | ⟨cs,cs',h4,_⟩ | ⟨h4,h5,h6⟩
  ·have:=h2.lt o ob h4;omega
  ·have:=h2.lt o _ h4;omega
  ·exact h6,fun o b ho=>by have:=h2.ilt o b ho;omega⟩
 refine Calls.mono (h.2 ι w vs (hk.wf h1) hB (by rw [hk.LJ];exact h3)) ?_
 rintro e w' ⟨v,r,s',ι',k1,k2,k3,k4,k5,k6,k7⟩
 exact⟨v,r,s',ι',k1,hk.pre k2,k3,k4,⟨by have:=k5.1;omega,fun q b hq hlt=>k5.2 q b hq (by omega)⟩,k6,k7⟩
theorem AB.ADC [Glob] (h:AB P f args s fun r s'=>∃ S2:AX,(∀ o ob,S2 o=some ob→s'.m o=some ob∨∃ cs cs',s'.m o=some (.box cs)∧ob=.box cs'∧wkL cs cs')∧K r ⟨S2,s'.nx⟩):AB P f args s K:=by
 refine⟨h.1,fun ι w vs h1 h2 h3=>Calls.mono (h.2 ι w vs h1 h2 h3) ?_⟩
 rintro e w' ⟨v,r,s',ι',k1,k2,k3,k4,k5,k6,S2,hS,hk⟩
 let S1:AX:=fun o=>match S2 o with | some ob=>some ob | none=>s'.m o
 have hW:WkS ι' s'.m S1:=by
  refine⟨fun o ob ho=>?_,fun o ob ho=>?_⟩
  ·show s'.m o=some ob∨_
   have ho:(match S2 o with | some ob=>some ob | none=>s'.m o)=some ob:=ho
   cases h2:S2 o with
   | none=>rw [h2]at ho;exact .inl ho
   | some ob2 =>
    rw [h2]at ho;cases ho
    rcases hS o _ h2 with h4 | ⟨cs,cs',h4,h5,h6⟩
    ·exact .inl h4
    ·exact .inr (.inl ⟨cs,cs',h4,h5,N0 h6⟩)
  ·show ∃ ob',(match S2 o with | some ob=>some ob | none=>s'.m o)=some ob'
   cases h2:S2 o with
   | none=>exact⟨ob,ho⟩
   | some ob2=>exact⟨ob2,rfl⟩
 have hsub:∀ q ob,S2 q=some ob→S1 q=some ob:=fun q ob hq=>by
  show (match S2 q with | some ob=>some ob | none=>s'.m q)=some ob
  rw [hq]
 have hst:=BG S1 S2 hsub ι' w'
 refine⟨v,r,⟨S2,s'.nx⟩,ι',k1,(hW.post k2).trans hst,(hW.wf k3).drop hsub,⟨fun q ob hq=>?_,k4.ilt⟩,k5,?_,hk⟩
 ·rcases hS q ob hq with h4 | ⟨cs,cs',h4,_⟩
  ·exact k4.lt q ob h4
  ·exact k4.lt q _ h4
 ·have:Rep ι' (AZ ι' S1) w' v r:=by rw [hW.LJ];exact k6
  exact this.step hst
end
end Go.AL
namespace Go.Proofs
open Go.Shelf
def Tryz.WZ:Go.Shelf.Ren:=⟨fun | 189=>50 | 125=>90 | 257=>89 | 128=>138 | 129=>139 | 294=>129 | 295=>130 | 296=>131 | 297=>132 | 298=>133 | 299=>134 | 216=>135 | 300=>136 | 301=>137 | 328=>169 | 329=>170 | 330=>171 | 331=>172 | 332=>173 | 215=>174 | 343=>185 | n=>n,fun | 28=>55 | 3=>3 | 46=>75 | 0=>0 | 51=>186 | 53=>188 | 4=>4 | 183=>179 | 182=>178 | 131=>171 | 5=>5 | 9=>9 | 218=>208 | 222=>212 | 228=>220 | 229=>221 | n=>n,fun  | n=>n⟩
theorem Tryz.AHx:Lays.n189 Tryz.prog Tryz.WZ:={
 mixed:=by kernel_rfl,
 f125:=Tryz.func90.trans (congrArg some (by kernel_rfl)),
 f128:=Tryz.func138.trans (congrArg some (by kernel_rfl)),
 f129:=Tryz.func139.trans (congrArg some (by kernel_rfl)),
 f189:=Tryz.func50.trans (congrArg some (by kernel_rfl)),
 f215:=Tryz.func174.trans (congrArg some (by kernel_rfl)),
 f216:=Tryz.func135.trans (congrArg some (by kernel_rfl)),
 f257:=Tryz.func89.trans (congrArg some (by kernel_rfl)),
 f294:=Tryz.func129.trans (congrArg some (by kernel_rfl)),
 f295:=Tryz.func130.trans (congrArg some (by kernel_rfl)),
 f296:=Tryz.func131.trans (congrArg some (by kernel_rfl)),
 f297:=Tryz.func132.trans (congrArg some (by kernel_rfl)),
 f298:=Tryz.func133.trans (congrArg some (by kernel_rfl)),
 f299:=Tryz.func134.trans (congrArg some (by kernel_rfl)),
 f300:=Tryz.func136.trans (congrArg some (by kernel_rfl)),
 f301:=Tryz.func137.trans (congrArg some (by kernel_rfl)),
 f328:=Tryz.func169.trans (congrArg some (by kernel_rfl)),
 f329:=Tryz.func170.trans (congrArg some (by kernel_rfl)),
 f330:=Tryz.func171.trans (congrArg some (by kernel_rfl)),
 f331:=Tryz.func172.trans (congrArg some (by kernel_rfl)),
 f332:=Tryz.func173.trans (congrArg some (by kernel_rfl)),
 f343:=Tryz.func185.trans (congrArg some (by kernel_rfl)),
 t0:=Tryz.underlying0,
 a0:=Tryz.isAgg0,
 z0:=Tryz.sizeOf0,
 v0:=Tryz.zeroValue0,
 t3:=Tryz.underlying3,
 a3:=Tryz.isAgg3,
 z3:=Tryz.sizeOf3,
 v3:=Tryz.zeroValue3,
 t4:=Tryz.underlying4,
 a4:=Tryz.isAgg4,
 z4:=Tryz.sizeOf4,
 v4:=Tryz.zeroValue4,
 t5:=Tryz.underlying5,
 a5:=Tryz.isAgg5,
 z5:=Tryz.sizeOf5,
 v5:=Tryz.zeroValue5,
 t9:=Tryz.underlying9,
 a9:=Tryz.isAgg9,
 z9:=Tryz.sizeOf9,
 v9:=Tryz.zeroValue9,
 t28:=Tryz.underlying55,
 a28:=Tryz.isAgg55,
 z28:=Tryz.sizeOf55,
 v28:=Tryz.zeroValue55,
 t46:=Tryz.underlying75,
 a46:=Tryz.isAgg75,
 z46:=Tryz.sizeOf75,
 v46:=Tryz.zeroValue75,
 t51:=Tryz.underlying186,
 a51:=Tryz.isAgg186,
 z51:=Tryz.sizeOf186,
 v51:=Tryz.zeroValue186,
 t53:=Tryz.underlying188,
 a53:=Tryz.isAgg188,
 z53:=Tryz.sizeOf188,
 v53:=Tryz.zeroValue188,
 t131:=Tryz.underlying171,
 a131:=Tryz.isAgg171,
 z131:=Tryz.sizeOf171,
 v131:=Tryz.zeroValue171,
 t182:=Tryz.underlying178,
 a182:=Tryz.isAgg178,
 z182:=Tryz.sizeOf178,
 v182:=Tryz.zeroValue178,
 t183:=Tryz.underlying179,
 a183:=Tryz.isAgg179,
 z183:=Tryz.sizeOf179,
 v183:=Tryz.zeroValue179,
 t218:=Tryz.underlying208,
 a218:=Tryz.isAgg208,
 z218:=Tryz.sizeOf208,
 v218:=Tryz.zeroValue208,
 t222:=Tryz.underlying212,
 a222:=Tryz.isAgg212,
 z222:=Tryz.sizeOf212,
 v222:=Tryz.zeroValue212,
 t228:=Tryz.underlying220,
 a228:=Tryz.isAgg220,
 z228:=Tryz.sizeOf220,
 v228:=Tryz.zeroValue220,
 t229:=Tryz.underlying221,
 a229:=Tryz.isAgg221,
 z229:=Tryz.sizeOf221,
 v229:=Tryz.zeroValue221 }
end Go.Proofs
namespace Go.AL.Dm
open Go Go.Proofs
theorem p50 (zs:List Int) (o:Nat) (s:St) (K:AV→St→Prop) (hlen:zs.length≤1000000) (ho:s.m o=some (.box (Af zs))) (hK:K (.tup []) (s.set o (.box (Af (BX zs))))):AB Tryz.prog 50 [.Ag 1 o 0 zs.length] s K :=
 RY Tryz.call50 (fun p cap w=>Any.slices_Sort_int_none Tryz.AHx p cap w) (fun blk off cap zs w h1 h2 h3=>Any.slices_Sort_int Tryz.AHx blk off cap zs w h1 h2 h3) zs o (by omega) ho hK
def fvl (t:Pl):List Int:=BX (FU [] (fv t 0))
theorem Yu {t:Pl} {k:Int}:k∈fvl t↔k∈fv t 0:=by
 rw [fvl,BX,List.mem_mergeSort,PZ];simp
theorem N1 (t:Pl):∀ u,((fv t u).length:Int)≤sz t:=by
 induction t using Pl.ind with
 | h t ih1 ih2 =>
  intro u
  have h0:=Al t
  have hs:=Ew t
  rw [IW]
  split
  ·split
   ·simp;omega
   ·simp;omega
  ·have k1:∀ (l:List Pl) (u:Int),(∀ x∈l,∀ u,((fv x u).length:Int)≤sz x)→((fvs l u).length:Int)≤szs l:=by
    intro l u h
    induction l with
    | nil=>simp [fvs,szs]
    | cons x l ih =>
     have:=h x (by simp) u
     have:=ih fun y hy=>h y (by simp [hy])
     simp only [fvs,szs,List.length_append];omega
   have k2:∀ (l:List (Hd × Pl)) (u:Int),(∀ x∈l,∀ u,((fv x.2 u).length:Int)≤sz x.2)→((fva l u).length:Int)≤sza l:=by
    intro l u h
    induction l with
    | nil=>simp [fva,sza]
    | cons x l ih =>
     have h1:=h x (by simp) (u+bnd x.1)
     have:=ih fun y hy=>h y (by simp [hy])
     obtain⟨a,b⟩:=x
     simp only [fva,sza,List.length_append]at *;omega
   have:=k1 t.args (u+inn t) ih1
   have:=k2 t.alts u ih2
   simp only [List.length_append];omega
def AJo (s:St) (l:List Int) (o k:Nat) (it:Nat) (g:Env) (s1:St):Prop :=
 ∃ (seen:List Nat) (acc:List Int) (oa:Nat),k=l.length - seen.length∧seen.length=acc.length∧seen.Nodup∧(∀ j∈seen,j < l.length)∧acc=seen.map (fun j=>l.getD j 0) ∧
  g.get 11=.ptr it 0∧g.get 4=.Ag 1 oa 0 acc.length∧s1.m oa=some (.box (Af acc))∧s.nx≤oa∧oa < s1.nx∧oa≠it∧oa≠o ∧
  s1.m it=some (.iter (some o) l.length seen l.length)∧s1.m o=some (obS l)∧Kept s s1∧it < s1.nx∧o < s1.nx
theorem AJp (t:Pl) (hw:wf t=true) (hs:small t) (hr:rng t):AF Tryz.prog 104 [t.av] (.list 1 .none (Af (fvl t))):=by
 refine AF.intro fun s=>KM (AD mixed Tryz.func104 Tryz.call104 k104.2 rfl (AE _ _ _ _ ?_))
 have hlen:(FU [] (fv t 0)).length≤4000:=by
  have h1:=Pa (fv t 0) []
  have h2:=N1 t 0
  have h3:=hs.1
  simp only [List.length_nil]at h1
  omega
 have hnd:(FU [] (fv t 0)).Nodup:=LK _ (by simp)
 have hfv:fvl t=BX (FU [] (fv t 0)):=rfl
 simp -implicitDefEqProofs (disch:=first|omega|simp only[nx4]<;>omega|fail) [k104]
 refine AH (AJq t 0 [] (s.nx+1) _ _ hw hs hr (by omega) (by have:=hs.2;omega) (by simp -implicitDefEqProofs (disch:=first|omega|simp only[nx4]<;>omega|fail) [obS,BP]) smz fun m hm=>AW ?_)
 generalize FU [] (fv t 0)=l at hlen hnd hfv ⊢
 simp only [nx4]at hm
 simp -implicitDefEqProofs (disch:=first|omega|simp only[nx4]<;>omega|fail) [obS]
 refine AQ (fun k g s1=>AJo s l (s.nx+1) k (m+1) g s1) l.length ⟨[],[],m,by simp,rfl,by simp,by simp,rfl,?_,?_,?_,by omega,?_,by omega,by omega,?_,?_,?_,?_,?_⟩ ?_
 iterate 9 (simp -implicitDefEqProofs (disch:=first|omega|simp only[nx4]<;>omega|fail) [Af,obS] <;> omega)
 rintro n g s1 ⟨seen,acc,oa,hn,hsl,hsn,hlt,hacc,h6,h3,hOA,hoa1,hoa2,hoa3,hoa4,hIT,hO,hk,hnx,hnx2⟩
 have hsle:seen.length≤l.length:=ED hsn hlt
 simp -implicitDefEqProofs (disch:=first|omega|simp only[nx4]<;>omega|fail) [h6,hIT,hO]
 rw [obS]
 refine Ij ?_ (fun hall=>?_) (fun e he hes=>?_)
 ·cases l with
  | nil=>exact .inr (.inl rfl)
  | cons a r=>exact .inr (.inr ⟨_,by rw [BP];exact List.mem_cons_self ..,by simp⟩)
 ·have hp:acc.Perm l:=by
   rw [hacc]
   refine JW l seen hsn hlt fun j hj=>?_
   have:=hall _ (Ik l 0 j hj) (by simpa using hj)
   simpa using this
  have hal:acc.length=l.length:=hp.length_eq
  simp -implicitDefEqProofs (disch:=first|omega|simp only[nx4]<;>omega|fail) [h3]
  refine AH (p50 acc oa _ _ (by omega) hOA (AW ?_))
  simp -implicitDefEqProofs (disch:=first|omega|simp only[nx4]<;>omega|fail) [h3]
  refine⟨1,oa,acc.length,⟨rfl,rfl,rfl⟩,Af (BX acc),by rw [Si];simp,?_,?_,?_,?_⟩
  ·intro x hx
   simp only [Af,List.mem_map]at hx
   obtain⟨y,_,rfl⟩:=hx
   rfl
  ·simp [Ee]
  ·rw [hfv,LL hp]
   simp
  ·simp -implicitDefEqProofs (disch:=first|omega|simp only[nx4]<;>omega|fail) [hk]
 ·obtain⟨j,hj,rfl⟩:=Fp l 0 e he
  have hj':j ∉ seen:=by simpa using hes
  have hf:=Dy l 0 j hj
  simp only [Nat.zero_add]at hf ⊢
  simp -implicitDefEqProofs (disch:=first|omega|simp only[nx4]<;>omega|fail) [h6,hO]
  rw [obS]
  refine Il (st:=j) (by simp) rfl hf ?_
  simp -implicitDefEqProofs (disch:=first|omega|simp only[nx4]<;>omega|fail) [h3,hOA]
  have hsn':(seen++[j]).Nodup:=by
   rw [List.nodup_append]
   refine⟨hsn,by simp,fun a ha b hb=>?_⟩
   simp at hb;subst hb
   exact fun e=>hj' (e ▸ ha)
  have hlt':∀ k∈seen++[j],k < l.length:=by
   intro k hk
   rcases List.mem_append.1 hk with h | h
   ·exact hlt k h
   ·simp at h;subst h;exact hj
  have hle':=ED hsn' hlt'
  simp only [List.length_append,List.length_singleton]at hle'
  have hgd:l[j]=l.getD j 0:=by simp [hj]
  refine AK (l.length - (seen.length+1)) (by omega) ⟨seen++[j],acc++[l[j]],s1.nx,by simp,by simp [hsl],hsn',hlt',by rw [List.map_append,← hacc,hgd];rfl,?_,?_,?_,?_,?_,?_,?_,?_,?_,?_,?_,?_⟩
  all_goals (try simp -implicitDefEqProofs (disch:=first|omega|simp only[nx4]<;>omega|fail) [h6,Af,hO,hk])
  all_goals omega
end Go.AL.Dm
namespace Go.AL.Dm
open Go Go.Proofs
mutual
def pre:Pl→List Pl
 | .mk op n s args alts=>.mk op n s args alts::(Gh args++FP alts)
def Gh:List Pl→List Pl
 | []=>[]
 | t::ts=>pre t++Gh ts
def FP:List (Hd × Pl)→List Pl
 | []=>[]
 | (_,t)::ts=>pre t++FP ts
end
def FV:List (Int × Pl)→List Pl
 | []=>[]
 | (_,x)::r=>pre x++FV r
theorem FE:∀ (l r:List (Int × Pl)),FV (l++r)=FV l++FV r
 | [],r=>rfl
 | (n,x)::l,r=>by simp [FV,FE l r]
theorem pre_parts (t:Pl):pre t=t::FV (parts t):=by
 have h1:∀ (l:List Pl) (n:Int),Gh l=FV (l.map fun x=>(n,x)):=by
  intro l n
  induction l with
  | nil=>rfl
  | cons x l ih=>simp [Gh,FV,ih]
 have h2:∀ l:List (Hd × Pl),FP l=FV (l.map fun a=>(bnd a.1,a.2)):=by
  intro l
  induction l with
  | nil=>rfl
  | cons x l ih=>obtain⟨a,b⟩:=x;simp [FP,FV,ih]
 rw [parts,FE,← h1,← h2]
 cases t;rw [pre];rfl
theorem MO {l:List (Int × Pl)} {i:Nat} (h:i < l.length):FV (l.take (i+1))=FV (l.take i)++pre l[i].2:=by
 rw [List.take_succ_eq_append_getElem h,FE]
 simp [FV]
def Ext (F F':Nat→Prop) (s s':St):Prop:=(∀ q,F' q→F q∨s.nx≤q)∧∀ q,q < s.nx→¬ F q→s'.m q=s.m q
def OkL {σ:Type} (f:σ→Pl→σ) (ok:σ→Pl→Prop):σ→List Pl→Prop
 | _,[]=>True
 | x,e::l=>ok x e∧OkL f ok (f x e) l
theorem Hv {σ:Type} {f:σ→Pl→σ} {ok:σ→Pl→Prop}:∀ {a b:List Pl} {x:σ},OkL f ok x (a++b)↔OkL f ok x a∧OkL f ok (a.foldl f x) b
 | [],b,x=>by simp [OkL]
 | e::a,b,x=>by simp [OkL,Hv (a:=a),and_assoc]
theorem Wa {σ:Type} {f:σ→Pl→σ} {ok:σ→Pl→Prop} {x:σ} {l:List (Int × Pl)} (h:OkL f ok x (FV l)) {i:Nat} (hi:i < l.length):OkL f ok ((FV (l.take i)).foldl f x) (pre l[i].2):=by
 rw [← List.take_append_drop (i+1) l,FE,MO hi,Hv,Hv]at h
 exact h.1.2
structure Vis {σ:Type} (f:σ→Pl→σ) (ok:σ→Pl→Prop) (J:σ→(Nat→Prop)→St→Prop) (o:Nat):Prop where
 st:∀ x F s s',J x F s→(∀ q,F q→s'.m q=s.m q)→s.nx≤s'.nx→J x F s'
 bd:∀ x F s,J x F s→∀ q,F q→q < s.nx
 Y:∀ x F e s1,ok x e→J x F s1→CL Tryz.prog o [e.av] s1 fun r s'=>r=.bool true∧∃ F',J (f x e) F' s'∧Ext F F' s1 s'
def AJr {σ:Type} (f:σ→Pl→σ) (J:σ→(Nat→Prop)→St→Prop) (x:σ) (t:Pl) (F1:Nat→Prop) (lo:Nat) (E:Env) (ca cb:Code) (s2:St) (i:Nat) (s':St):Prop :=
 s'.m lo=some (.loop 0 none E [13,14] 19 ca cb)∧lo < s'.nx∧∃ F',J ((FV ((parts t).take i)).foldl f (f x t)) F' s'∧(∀ q,F' q→F1 q∨lo < q)∧∀ q,q < lo→¬ F1 q→s'.m q=s2.m q
def AJs (t:Pl):Prop:=∀ (σ:Type) (f:σ→Pl→σ) (ok:σ→Pl→Prop) (J:σ→(Nat→Prop)→St→Prop) (o:Nat) (_:Vis f ok J o) (x:σ) (F:Nat→Prop) (s:St),wf t=true→small t→OkL f ok x (pre t)→J x F s →
 AB Tryz.prog 119 [t.av,.yld o] s fun r s'=>r=.bool true∧∃ F',J ((pre t).foldl f x) F' s'∧Ext F F' s s'
theorem AJt (t:Pl):AJs t:=by
 induction t using HH with
 | h t ih =>
 intro σ f ok J o V x F s hw hsm hok hJ
 refine AD mixed Tryz.func119 Tryz.call119 k119.2 rfl (AE _ _ _ _ ?_)
 obtain⟨hnd,hwa,hwb⟩:=A5 hw
 have hFb:=V.bd _ _ _ hJ
 rw [pre_parts]at hok
 obtain⟨hokt,hok⟩:=hok
 simp -implicitDefEqProofs (disch:=first|omega|simp only[nx4]<;>omega|fail) [k119]
 refine JT (CL.mono (V.Y x F t _ hokt (V.st _ _ s _ hJ (fun q hq=>by have:=hFb q hq;simp -implicitDefEqProofs (disch:=first|omega|simp only[nx4]<;>omega|fail)) soz)) fun r s1 hn1 h=>AW ?_)
 obtain⟨rfl,F1,hJ1,hE1,hE2⟩:=h
 have hF1:=V.bd _ _ _ hJ1
 have b0:=hE2 s.nx (by simp only [St.Dr];omega) (fun h=>by have:=hFb _ h;omega)
 have b1:=hE2 (s.nx+1) (by simp only [St.Dr];omega) (fun h=>by have:=hFb _ h;omega)
 have b2:=hE2 (s.nx+1+1) (by simp only [St.Dr];omega) (fun h=>by have:=hFb _ h;omega)
 simp -implicitDefEqProofs (disch:=first|omega|simp only[nx4]<;>omega|fail)at b0 b1 b2 hn1
 have hE1':∀ q,F1 q→F q∨s.nx+1+1+1≤q:=fun q hq=>by have:=hE1 q hq;simp -implicitDefEqProofs (disch:=first|omega|simp only[nx4]<;>omega|fail)at this;exact this
 simp -implicitDefEqProofs (disch:=first|omega|simp only[nx4]<;>omega|fail) [b0,b1,b2]
 refine AA (AC7 t) fun mm1 hm1=>?_
 try simp only [nx4]at hm1
 simp -implicitDefEqProofs (disch:=first|omega|simp only[nx4]<;>omega|fail)
 refine Gx rfl fun ca cb hY=>?_
 simp -implicitDefEqProofs (disch:=first|omega|simp only[nx4]<;>omega|fail)at hY ⊢
 have hpl:(parts t).length≤100:=by
  rw [Dx]
  have:=hnd.len
  by_cases o8:t.op=8
  ·have:=hnd.cas o8;omega
  ·rw [hnd.GJ o8];simp;omega
 have hpl2:=hpl
 rw [Dx]at hpl2
 rw [← Pl.Am t]
 generalize hE:[(3,AV.ptr (s.nx+1) 0),(4,AV.ptr (s.nx+1+1) 0),(6,AV.any),(14,AV.any),(18,AV.any)]=E at hY ⊢
 have hm:∀ (k:Nat),k < 3→s.nx+k < mm1∧¬ F1 (s.nx+k):=fun k hk=>⟨by omega,fun h=>(hE1' _ h).elim (fun h=>by have:=hFb _ h;omega) (fun h=>by omega)⟩
 have m1:=hm 1 (by omega)
 have m2:=hm 2 (by omega)
 have hmL:¬ F1 mm1:=fun h=>by have:=hF1 _ h;omega
 refine AB.mono (AC8 t (by omega) (by omega) (fun a ha h2=>by have:=hnd.hd a ha h2;omega) mm1 (AJr f J x t F1 mm1 E ca cb s1) (fun _=>False) ?_ ?_ _ ?_) fun _ s' hn' hJ=>?_
 ·rintro i s1 s2 ⟨j1,j2,F',j3,j4,j5⟩ h1 h2
  have hb:=V.bd _ _ _ j3
  exact⟨(h1 _ j2).trans j1,by omega,F',V.st _ _ _ _ j3 (fun q hq=>h1 q (hb q hq)) h2,j4,fun q hq hq2=>(h1 q (by omega)).trans (j5 q hq hq2)⟩
 ·rintro i hi s3 ⟨j1,j2,F',j3,j4,j5⟩
  have hp:=LM hw hsm (List.getElem_mem hi)
  have ihp:=ih _ (List.getElem_mem hi)
  have hokp:=Wa hok hi
  have htk:=MO hi
  generalize hx:(parts t)[i]=p at hp ihp hokp htk ⊢
  obtain⟨q1,q2,q3,q4,q5,q6⟩:=hp
  have hb:=V.bd _ _ _ j3
  have c1:=(j5 _ m1.1 m1.2).trans b1
  have c2:=(j5 _ m2.1 m2.2).trans b2
  have hLF:¬ F' mm1:=fun h=>(j4 _ h).elim hmL (fun h=>by omega)
  refine LN hY j1 rfl ?_
  subst hE
  simp -implicitDefEqProofs (disch:=first|omega|simp only[nx4]<;>omega|fail) [j1,c1,c2]
  have hJ':=V.st _ F' s3 ((s3.new (Ax.box [AV.int IntKind.i64 0,AV.int IntKind.i64 0,AV.str { data:=#[] },AV.list 0 Tok.full [],AV.list 0 Tok.full []])).set s3.nx (.box p.2.av.cells) |>.set mm1 (Ax.loop 1 none [(3,AV.ptr (s.nx+1) 0),(4,AV.ptr (s.nx+1+1) 0),(6,AV.any),(14,AV.any),(18,AV.any)] [13,14] 19 ca cb)) j3 (fun q hq=>by
   have h1:=hb q hq
   have h2:q≠mm1:=fun e=>hLF (e ▸ hq)
   simp -implicitDefEqProofs (disch:=first|omega|simp only[nx4]<;>omega|fail) [h2]) smz
  simp only [Pl.Am]at hJ'
  refine AH (AB.mono (ihp σ f ok J o V _ F' _ q1 q2 hokp hJ') fun r s4 hn4 h=>AW ?_)
  obtain⟨rfl,F2,k1,k2,k3⟩:=h
  have hL:=k3 mm1 soz hLF
  simp -implicitDefEqProofs (disch:=first|omega|simp only[nx4]<;>omega|fail)at hL hn4 k2
  simp -implicitDefEqProofs (disch:=first|omega|simp only[nx4]<;>omega|fail) [hL]
  have hF2:∀ q,F2 q→F' q∨mm1 < q:=fun q hq=>(k2 q hq).imp id (fun h=>by omega)
  have hF2L:¬ F2 mm1:=fun h=>(hF2 _ h).elim hLF (fun h=>by omega)
  refine⟨smz,by simp -implicitDefEqProofs (disch:=first|omega|simp only[nx4]<;>omega|fail);omega,F2,?_,?_,?_⟩
  ·rw [htk,List.foldl_append]
   exact V.st _ _ s4 _ k1 (fun q hq=>by have h2:q≠mm1:=fun e=>hF2L (e ▸ hq);simp -implicitDefEqProofs (disch:=first|omega|simp only[nx4]<;>omega|fail) [h2]) smz
  ·exact fun q hq=>(hF2 q hq).elim (j4 q) .inr
  ·intro q hq hq2
   have hnF:¬ F' q:=fun h=>(j4 _ h).elim hq2 (fun h=>by omega)
   have h3:=k3 q soz hnF
   simp -implicitDefEqProofs (disch:=first|omega|simp only[nx4]<;>omega|fail)at h3
   simp -implicitDefEqProofs (disch:=first|omega|simp only[nx4]<;>omega|fail) [h3,j5 q hq hq2]
 ·refine⟨?_,?_,F1,?_,fun q hq=>.inl hq,?_⟩
  ·exact smz
  ·exact smz
  ·simp only [List.take_zero,FV,List.foldl_nil]
   exact V.st _ _ s1 _ hJ1 (fun q hq=>by have:=hF1 q hq;simp -implicitDefEqProofs (disch:=first|omega|simp only[nx4]<;>omega|fail)) soz
  ·intro q hq _
   simp -implicitDefEqProofs (disch:=first|omega|simp only[nx4]<;>omega|fail)
 ·rcases hJ with ⟨j1,j2,F',j3,j4,j5⟩ | h
  ·refine Ez j1 (by omega) ?_
   have c2:=(j5 _ m2.1 m2.2).trans b2
   have hLF:¬ F' mm1:=fun h=>(j4 _ h).elim hmL (fun h=>by omega)
   have h2F:¬ F' (s.nx+1+1):=fun h=>(j4 _ h).elim m2.2 (fun h=>by omega)
   simp -implicitDefEqProofs (disch:=first|omega|simp only[nx4]<;>omega|fail) [c2]
   refine⟨F',?_,fun q hq=>?_,fun q hq hq2=>?_⟩
   ·rw [pre_parts,List.foldl_cons]
    rw [List.take_length]at j3
    exact V.st _ _ s' _ j3 (fun q hq=>by
     have h1:q≠mm1:=fun e=>hLF (e ▸ hq)
     have h2:q≠s.nx+1+1:=fun e=>h2F (e ▸ hq)
     simp -implicitDefEqProofs (disch:=first|omega|simp only[nx4]<;>omega|fail) [h1,h2]) smz
   ·rcases j4 q hq with h | h
    ·exact(hE1' q h).imp id (fun h=>by omega)
    ·exact .inr (by omega)
   ·have h1:¬ F1 q:=fun h=>(hE1' q h).elim hq2 (fun h=>by omega)
    have h3:=hE2 q (by simp only [St.Dr];omega) hq2
    simp -implicitDefEqProofs (disch:=first|omega|simp only[nx4]<;>omega|fail)at h3
    simp -implicitDefEqProofs (disch:=first|omega|simp only[nx4]<;>omega|fail) [j5 q (by omega) h1,h3]
  ·exact h.elim
end Go.AL.Dm
namespace Go.Proofs
open Go.Shelf
def Tryz.Wb:Go.Shelf.Ren:=⟨fun | 190=>85 | 125=>90 | 258=>120 | 128=>138 | 129=>139 | 302=>155 | 303=>156 | 304=>157 | 305=>158 | 306=>159 | 307=>160 | 308=>161 | 309=>162 | 310=>163 | 333=>181 | 329=>170 | 330=>171 | 334=>182 | 335=>183 | 336=>184 | 344=>187 | n=>n,fun | 31=>65 | 9=>9 | 3=>3 | 46=>75 | 0=>0 | 51=>186 | 53=>188 | 4=>4 | 183=>179 | 182=>178 | 131=>171 | 5=>5 | 218=>208 | 222=>212 | 228=>220 | 229=>221 | n=>n,fun  | n=>n⟩
theorem Tryz.AHy:Lays.n190 Tryz.prog Tryz.Wb:={
 mixed:=by kernel_rfl,
 f125:=Tryz.func90.trans (congrArg some (by kernel_rfl)),
 f128:=Tryz.func138.trans (congrArg some (by kernel_rfl)),
 f129:=Tryz.func139.trans (congrArg some (by kernel_rfl)),
 f190:=Tryz.func85.trans (congrArg some (by kernel_rfl)),
 f258:=Tryz.func120.trans (congrArg some (by kernel_rfl)),
 f302:=Tryz.func155.trans (congrArg some (by kernel_rfl)),
 f303:=Tryz.func156.trans (congrArg some (by kernel_rfl)),
 f304:=Tryz.func157.trans (congrArg some (by kernel_rfl)),
 f305:=Tryz.func158.trans (congrArg some (by kernel_rfl)),
 f306:=Tryz.func159.trans (congrArg some (by kernel_rfl)),
 f307:=Tryz.func160.trans (congrArg some (by kernel_rfl)),
 f308:=Tryz.func161.trans (congrArg some (by kernel_rfl)),
 f309:=Tryz.func162.trans (congrArg some (by kernel_rfl)),
 f310:=Tryz.func163.trans (congrArg some (by kernel_rfl)),
 f329:=Tryz.func170.trans (congrArg some (by kernel_rfl)),
 f330:=Tryz.func171.trans (congrArg some (by kernel_rfl)),
 f333:=Tryz.func181.trans (congrArg some (by kernel_rfl)),
 f334:=Tryz.func182.trans (congrArg some (by kernel_rfl)),
 f335:=Tryz.func183.trans (congrArg some (by kernel_rfl)),
 f336:=Tryz.func184.trans (congrArg some (by kernel_rfl)),
 f344:=Tryz.func187.trans (congrArg some (by kernel_rfl)),
 t0:=Tryz.underlying0,
 a0:=Tryz.isAgg0,
 z0:=Tryz.sizeOf0,
 v0:=Tryz.zeroValue0,
 t3:=Tryz.underlying3,
 a3:=Tryz.isAgg3,
 z3:=Tryz.sizeOf3,
 v3:=Tryz.zeroValue3,
 t4:=Tryz.underlying4,
 a4:=Tryz.isAgg4,
 z4:=Tryz.sizeOf4,
 v4:=Tryz.zeroValue4,
 t5:=Tryz.underlying5,
 a5:=Tryz.isAgg5,
 z5:=Tryz.sizeOf5,
 v5:=Tryz.zeroValue5,
 t9:=Tryz.underlying9,
 a9:=Tryz.isAgg9,
 z9:=Tryz.sizeOf9,
 v9:=Tryz.zeroValue9,
 t31:=Tryz.underlying65,
 a31:=Tryz.isAgg65,
 z31:=Tryz.sizeOf65,
 v31:=Tryz.zeroValue65,
 t46:=Tryz.underlying75,
 a46:=Tryz.isAgg75,
 z46:=Tryz.sizeOf75,
 v46:=Tryz.zeroValue75,
 t51:=Tryz.underlying186,
 a51:=Tryz.isAgg186,
 z51:=Tryz.sizeOf186,
 v51:=Tryz.zeroValue186,
 t53:=Tryz.underlying188,
 a53:=Tryz.isAgg188,
 z53:=Tryz.sizeOf188,
 v53:=Tryz.zeroValue188,
 t131:=Tryz.underlying171,
 a131:=Tryz.isAgg171,
 z131:=Tryz.sizeOf171,
 v131:=Tryz.zeroValue171,
 t182:=Tryz.underlying178,
 a182:=Tryz.isAgg178,
 z182:=Tryz.sizeOf178,
 v182:=Tryz.zeroValue178,
 t183:=Tryz.underlying179,
 a183:=Tryz.isAgg179,
 z183:=Tryz.sizeOf179,
 v183:=Tryz.zeroValue179,
 t218:=Tryz.underlying208,
 a218:=Tryz.isAgg208,
 z218:=Tryz.sizeOf208,
 v218:=Tryz.zeroValue208,
 t222:=Tryz.underlying212,
 a222:=Tryz.isAgg212,
 z222:=Tryz.sizeOf212,
 v222:=Tryz.zeroValue212,
 t228:=Tryz.underlying220,
 a228:=Tryz.isAgg220,
 z228:=Tryz.sizeOf220,
 v228:=Tryz.zeroValue220,
 t229:=Tryz.underlying221,
 a229:=Tryz.isAgg221,
 z229:=Tryz.sizeOf221,
 v229:=Tryz.zeroValue221 }
end Go.Proofs
namespace Go.Proofs
open Go.Shelf
def Tryz.Wc:Go.Shelf.Ren:=⟨fun | 194=>86 | n=>n,fun | 31=>65 | 9=>9 | 3=>3 | 4=>4 | 0=>0 | n=>n,fun  | n=>n⟩
theorem Tryz.AHz:Lays.n194 Tryz.prog Tryz.Wc:={
 mixed:=by kernel_rfl,
 f194:=Tryz.func86.trans (congrArg some (by kernel_rfl)),
 t0:=Tryz.underlying0,
 a0:=Tryz.isAgg0,
 z0:=Tryz.sizeOf0,
 v0:=Tryz.zeroValue0,
 t3:=Tryz.underlying3,
 a3:=Tryz.isAgg3,
 z3:=Tryz.sizeOf3,
 v3:=Tryz.zeroValue3,
 t4:=Tryz.underlying4,
 a4:=Tryz.isAgg4,
 z4:=Tryz.sizeOf4,
 v4:=Tryz.zeroValue4,
 t9:=Tryz.underlying9,
 a9:=Tryz.isAgg9,
 z9:=Tryz.sizeOf9,
 v9:=Tryz.zeroValue9,
 t31:=Tryz.underlying65,
 a31:=Tryz.isAgg65,
 z31:=Tryz.sizeOf65,
 v31:=Tryz.zeroValue65 }
end Go.Proofs
namespace Go.AL.Dm
open Go Go.Proofs
theorem AH0 (t:Pl) {σ:Type} (f:σ→Pl→σ) (ok:σ→Pl→Prop) (J:σ→(Nat→Prop)→St→Prop) (o:Nat) (V:Vis f ok J o) (x:σ) (F:Nat→Prop) (s:St) (hw:wf t=true) (hs:small t) (hok:OkL f ok x (pre t)) (hJ:J x F s) :
  AB Tryz.prog 118 [.yld o,.Ai t.av.cells] s fun r s'=>∃ F',J ((pre t).foldl f x) F' s'∧Ext F F' s s':=by
 refine AD mixed Tryz.func118 Tryz.call118 k118.2 rfl (AE _ _ _ _ ?_)
 simp -implicitDefEqProofs (disch:=first|omega|simp only[nx4]<;>omega|fail) [k118]
 refine AH (AB.mono (AJt t σ f ok J o V x F _ hw hs hok hJ) fun r s' hn h=>AW ?_)
 simp -implicitDefEqProofs (disch:=first|omega|simp only[nx4]<;>omega|fail)
 exact h.2
theorem p84 (t:Pl):AF Tryz.prog 84 [t.av] (.fn 118 [] [.Ai t.av.cells]):=by
 refine AF.intro fun s=>AD mixed Tryz.func84 Tryz.call84 k84.2 rfl (AE _ _ _ _ ?_)
 simp -implicitDefEqProofs (disch:=first|omega|simp only[nx4]<;>omega|fail) [k84]
theorem p85 (zs:List (List UInt8)) (o:Nat) (s:St) (K:AV→St→Prop) (hlen:zs.length≤1000000) (ho:s.m o=some (.box (Ac zs))) (hK:K (.tup []) (s.set o (.box (Ac (CE zs))))):AB Tryz.prog 85 [.Ag 1 o 0 zs.length] s K :=
 Pb Tryz.call85 (fun p cap w=>Any.slices_Sort_string_none Tryz.AHy p cap w) (fun blk off cap zs w h1 h2 h3=>Any.slices_Sort_string Tryz.AHy blk off cap zs w h1 h2 h3) zs o (by omega) ho hK
theorem p86 (zs:List (List UInt8)) (o:Nat) (s:St) (K:AV→St→Prop) (hlen:zs.length≤1000000) (ho:s.m o=some (.box (Ac zs))) (hK:K (.Ag 1 o 0 (Lib.compact zs).length) (s.set o (.box (Ac (Lib.compact zs))))):AB Tryz.prog 86 [.Ag 1 o 0 zs.length] s K :=
 LO Tryz.call86 (fun p cap w=>Any.slices_Compact_string_empty Tryz.AHz p cap w) (fun blk off cap zs w h1 h2 h3=>Any.slices_Compact_string Tryz.AHz blk off cap zs w h1 h2 h3) zs o (by omega) ho hK
@[simp] theorem ADD (a b c d:Nat):(AV.Ag a b c d).cells=[.Ag a b c d]:=rfl
@[simp] theorem ADE (a b c d:Nat):(AV.Ag a b c d).isVal=true:=rfl
@[simp] theorem N2 (l:List (List UInt8)):(Ac l).length=l.length:=by simp [Ac]
theorem SJ (l:List (List UInt8)):flat (Ac l)=Ac l:=by
 induction l with
 | nil=>rfl
 | cons a r ih=>simp [Ac]at ih ⊢;exact ih
theorem K6 (l:List (List UInt8)) (s:ByteArray):Ac l++[AV.str s]=Ac (l++[s.data.toList]):=by
 obtain⟨d⟩:=s
 simp [Ac]
def Ch (l:List (List UInt8)) (e:Pl):List (List UInt8):=if e.op=2 then l++[e.s.data.toList]else l
def gnm (t:Pl):List (List UInt8):=(pre t).foldl Ch []
def gls (t:Pl):List (List UInt8):=Lib.compact (CE (gnm t))
theorem Pc:∀ (l:List Pl) (a:List (List UInt8)) (x:List UInt8),x∈l.foldl Ch a↔x∈a∨∃ e∈l,e.op=2∧e.s.data.toList=x
 | [],a,x=>by simp
 | e::l,a,x=>by
  rw [List.foldl_cons,Pc l]
  unfold Ch
  by_cases h:e.op=2
  ·rw [if_pos h]
   simp only [List.mem_append,List.mem_cons,List.not_mem_nil,or_false,or_assoc]
   constructor
   ·rintro(h1 | h1 | ⟨y,h1,h2⟩)
    ·exact .inl h1
    ·exact .inr ⟨e,.inl rfl,h,h1.symm⟩
    ·exact .inr ⟨y,.inr h1,h2⟩
   ·rintro(h1 | ⟨y,rfl | h1,h2⟩)
    ·exact .inl h1
    ·exact .inr (.inl h2.2.symm)
    ·exact .inr (.inr ⟨y,h1,h2⟩)
  ·rw [if_neg h]
   constructor
   ·rintro(h1 | ⟨y,h1,h2⟩)
    ·exact .inl h1
    ·exact .inr ⟨y,List.mem_cons_of_mem _ h1,h2⟩
   ·rintro(h1 | ⟨y,h1,h2⟩)
    ·exact .inl h1
    ·rcases List.mem_cons.1 h1 with rfl | h1
     ·exact absurd h2.1 h
     ·exact .inr ⟨y,h1,h2⟩
theorem Fh:∀ (l:List Pl) (a:List (List UInt8)),(l.foldl Ch a).length≤a.length+l.length
 | [],a=>by simp
 | e::l,a=>by
  have:=Fh l (Ch a e)
  have h2:(Ch a e).length≤a.length+1:=by unfold Ch;split <;> simp
  simp only [List.foldl_cons,List.length_cons];omega
theorem HI {t:Pl} {x:List UInt8}:x∈gls t↔∃ e∈pre t,e.op=2∧e.s.data.toList=x:=by
 rw [gls,Pd,CE,List.mem_mergeSort,gnm,Pc]
 simp
theorem GL (t:Pl):((pre t).length:Int)≤sz t:=by
 induction t using Pl.ind with
 | h t ih1 ih2 =>
  have hs:=Ew t
  have k1:∀ (l:List Pl),(∀ x∈l,((pre x).length:Int)≤sz x)→((Gh l).length:Int)≤szs l:=by
   intro l h
   induction l with
   | nil=>simp [Gh,szs]
   | cons x l ih =>
    have:=h x (by simp)
    have:=ih fun y hy=>h y (by simp [hy])
    simp only [Gh,szs,List.length_append];omega
  have k2:∀ (l:List (Hd × Pl)),(∀ x∈l,((pre x.2).length:Int)≤sz x.2)→((FP l).length:Int)≤sza l:=by
   intro l h
   induction l with
   | nil=>simp [FP,sza]
   | cons x l ih =>
    have h1:=h x (by simp)
    have:=ih fun y hy=>h y (by simp [hy])
    obtain⟨a,b⟩:=x
    simp only [FP,sza,List.length_append]at *;omega
  have:=k1 _ ih1
  have:=k2 _ ih2
  have e:pre t=t::(Gh t.args++FP t.alts):=by cases t;rw [pre];rfl
  rw [e]
  simp only [List.length_cons,List.length_append];omega
theorem Sj:∀ (l:List Pl) (a:List (List UInt8)) (n:Nat),a.length+l.length≤n→OkL Ch (fun a _=>a.length < n) a l
 | [],a,n,h=>trivial
 | e::l,a,n,h=>by
  have h2:(Ch a e).length≤a.length+1:=by unfold Ch;split <;> simp
  simp only [List.length_cons]at h
  exact⟨by omega,Sj l _ n (by omega)⟩
def J47 (lo bx:Nat) (L:Ax) (l:List (List UInt8)) (F:Nat→Prop) (s:St):Prop :=
 ∃ oa,(∀ q,F q↔q=lo∨q=bx∨q=oa)∧s.m lo=some L∧s.m bx=some (.box [.Ag 1 oa 0 l.length])∧s.m oa=some (.box (Ac l))∧lo≠bx∧lo≠oa∧bx≠oa∧lo < s.nx∧bx < s.nx∧oa < s.nx
theorem p47 (t:Pl) (hw:wf t=true) (hs:small t):AF Tryz.prog 47 [t.av] (.list 1 .none (Ac (gls t))):=by
 refine AF.intro fun s=>KM (AD mixed Tryz.func47 Tryz.call47 k47.2 rfl (AE _ _ _ _ ?_))
 have hpl:(pre t).length≤4000:=by have:=GL t;have:=hs.1;omega
 simp -implicitDefEqProofs (disch:=first|omega|simp only[nx4]<;>omega|fail) [k47]
 refine AA (p84 t) fun mm1 hm1=>?_
 try simp only [nx4]at hm1
 simp -implicitDefEqProofs (disch:=first|omega|simp only[nx4]<;>omega|fail)
 refine Gx rfl fun ca cb hY=>?_
 simp -implicitDefEqProofs (disch:=first|omega|simp only[nx4]<;>omega|fail)at hY ⊢
 generalize hE:[(3,AV.ptr (s.nx+1) 0),(4,AV.any),(7,AV.any),(10,AV.any)]=E at hY ⊢
 refine AB.ADF (o:=s.nx+1) 1 smz ?_
 rw [← Pl.Am t]
 have V:Vis Ch (fun a _=>a.length < 4000) (J47 mm1 (s.nx+1) (.loop 0 none E [7] 20 ca cb)) mm1:=by
  refine⟨?_,?_,?_⟩
  ·rintro l F s1 s2 ⟨oa,hF,j1,j2,j3,d1,d2,d3,n1,n2,n3⟩ h hn
   exact⟨oa,hF,(h _ ((hF _).2 (.inl rfl))).trans j1,(h _ ((hF _).2 (.inr (.inl rfl)))).trans j2,(h _ ((hF _).2 (.inr (.inr rfl)))).trans j3,d1,d2,d3,by omega,by omega,by omega⟩
  ·rintro l F s1 ⟨oa,hF,j1,j2,j3,d1,d2,d3,n1,n2,n3⟩ q hq
   rcases (hF q).1 hq with rfl | rfl | rfl <;> omega
  ·rintro l F e s1 hok ⟨oa,hF,j1,j2,j3,d1,d2,d3,n1,n2,n3⟩
   refine LN hY j1 rfl ?_
   subst hE
   by_cases o2:e.op=2
   ·simp -implicitDefEqProofs (disch:=first|omega|simp only[nx4]<;>omega|fail) [o2,j1,j2,j3]
    refine⟨fun q=>q=mm1∨q=s.nx+1∨q=s1.nx+1,⟨s1.nx+1,fun q=>Iff.rfl,?_,?_,?_,d1,by omega,by omega,?_,?_,?_⟩,?_,?_⟩
    ·exact smz
    ·simp -implicitDefEqProofs (disch:=first|omega|simp only[nx4]<;>omega|fail) [Ch,o2]
    ·simp -implicitDefEqProofs (disch:=first|omega|simp only[nx4]<;>omega|fail) [Ch,o2,K6]
    ·simp -implicitDefEqProofs (disch:=first|omega|simp only[nx4]<;>omega|fail)
     omega
    ·simp -implicitDefEqProofs (disch:=first|omega|simp only[nx4]<;>omega|fail)
     omega
    ·exact smz
    ·intro q hq
     rcases hq with h | h | h
     ·exact .inl ((hF q).2 (.inl h))
     ·exact .inl ((hF q).2 (.inr (.inl h)))
     ·exact .inr (by omega)
    ·intro q hq hn
     have h1:q≠mm1:=fun h=>hn ((hF q).2 (.inl h))
     have h2:q≠s.nx+1:=fun h=>hn ((hF q).2 (.inr (.inl h)))
     have h3:q≠oa:=fun h=>hn ((hF q).2 (.inr (.inr h)))
     simp -implicitDefEqProofs (disch:=first|omega|simp only[nx4]<;>omega|fail) [h1,h2,h3]
   ·simp -implicitDefEqProofs (disch:=first|omega|simp only[nx4]<;>omega|fail) [o2,j1,j2,j3]
    refine⟨F,⟨oa,hF,?_,?_,?_,d1,d2,d3,?_,?_,?_⟩,fun q hq=>.inl hq,?_⟩
    ·exact smz
    ·simp -implicitDefEqProofs (disch:=first|omega|simp only[nx4]<;>omega|fail) [Ch,o2,j2]
    ·simp -implicitDefEqProofs (disch:=first|omega|simp only[nx4]<;>omega|fail) [Ch,o2,j3]
    ·simp -implicitDefEqProofs (disch:=first|omega|simp only[nx4]<;>omega|fail)
     omega
    ·simp -implicitDefEqProofs (disch:=first|omega|simp only[nx4]<;>omega|fail)
     omega
    ·simp -implicitDefEqProofs (disch:=first|omega|simp only[nx4]<;>omega|fail)
     omega
    ·intro q hq hn
     have h1:q≠mm1:=fun h=>hn ((hF q).2 (.inl h))
     simp -implicitDefEqProofs (disch:=first|omega|simp only[nx4]<;>omega|fail) [h1]
 refine AB.mono (AH0 t Ch _ _ mm1 V [] (fun q=>q=mm1∨q=s.nx+1∨q=mm1+1) _ hw hs (Sj _ _ _ (by simpa using hpl)) ?_) fun _ s' hn' h=>?_
 ·refine⟨mm1+1,fun q=>Iff.rfl,?_,?_,?_,by omega,by omega,by omega,?_,?_,?_⟩
  all_goals (try simp -implicitDefEqProofs (disch:=first|omega|simp only[nx4]<;>omega|fail) [Ac])
  all_goals (try omega)
 ·obtain⟨F',⟨oa,hF,j1,j2,j3,d1,d2,d3,n1,n2,n3⟩,hE1,hE2⟩:=h
  refine Ez j1 (by omega) ?_
  simp -implicitDefEqProofs (disch:=first|omega|simp only[nx4]<;>omega|fail) [j2,j3]
  have hl:((pre t).foldl Ch []).length≤4000:=by have:=Fh (pre t) [];simp only [List.length_nil]at this;omega
  have hg:(pre t).foldl Ch []=gnm t:=rfl
  rw [hg]at hl j2 j3 ⊢
  refine AH (p85 _ oa _ _ (by omega) (by simp -implicitDefEqProofs (disch:=first|omega|simp only[nx4]<;>omega|fail) [j3]) (AW ?_))
  simp -implicitDefEqProofs (disch:=first|omega|simp only[nx4]<;>omega|fail) [j2]
  rw [← Cu]
  refine AH (p86 _ oa _ _ (by rw [Cu];omega) smz (AW ?_))
  simp -implicitDefEqProofs (disch:=first|omega|simp only[nx4]<;>omega|fail)
  refine⟨1,oa,_,⟨rfl,rfl,rfl⟩,Ac (gls t),by rw [SJ];simp -implicitDefEqProofs (disch:=first|omega|simp only[nx4]<;>omega|fail);rfl,?_,?_,?_,?_⟩
  ·intro x hx
   simp only [Ac,List.mem_map]at hx
   obtain⟨y,_,rfl⟩:=hx
   rfl
  ·rw [N2];rfl
  ·simp
  ·intro q hq
   have hnF:¬ (q=mm1∨q=s.nx+1∨q=mm1+1):=by omega
   have h3:=hE2 q soz hnF
   simp -implicitDefEqProofs (disch:=first|omega|simp only[nx4]<;>omega|fail)at h3
   have hne:q≠oa:=fun e=>by
    rcases hE1 oa ((hF oa).2 (.inr (.inr rfl)))with h | h
    ·omega
    ·simp -implicitDefEqProofs (disch:=first|omega|simp only[nx4]<;>omega|fail)at h;omega
   simp -implicitDefEqProofs (disch:=first|omega|simp only[nx4]<;>omega|fail) [h3,hne]
end Go.AL.Dm
namespace Go.AL.Dm
open Go Go.Proofs
def ba (x:List UInt8):ByteArray:=⟨x.toArray⟩
theorem Fi {zs:List (List UInt8)} {i:Nat} (h:i < zs.length):(Ac zs)[i]'(by simpa using h)=.str (ba zs[i]):=by simp [Ac,ba]
theorem slist_get? {zs:List (List UInt8)} {i:Nat} (h:i < zs.length):(Ac zs)[i]?=some (.str (ba zs[i])):=by simp [Ac,ba,h]
def DO {α:Type} (q:α→Bool):List α→Int→Int
 | [],_=>-1
 | x::r,i=>if q x then i else DO q r (i+1)
theorem Gu {α:Type} (q:α→Bool):∀ (l:List α) (i:Int),0≤i→(0≤DO q l i↔∃ x∈l,q x=true)
 | [],i,_=>by simp [DO]
 | x::r,i,h=>by
  have:=Gu q r (i+1) (by omega)
  rw [DO]
  split
  ·rename_i hq;exact⟨fun _=>⟨x,by simp,hq⟩,fun _=>h⟩
  ·rename_i hq
   rw [this]
   simp [hq]
def I83 (zs:List (List UInt8)) (q:List UInt8→Bool) (f c:AV) (s:St) (m:Nat) (g:Env) (s1:St):Prop :=
 ∃ i:Nat,i≤zs.length∧m=zs.length - i∧DO q (zs.drop i) i=DO q zs 0∧g.get 0=.list 1 .none (Ac zs)∧g.get 1=f∧g.get 7=.int .i64 zs.length∧g.get 8=.int .i64 i∧Kept s s1∧s.nx≤s1.nx
theorem RZ {s s1 s2:St} (h1:Kept s s1) (h2:Kept s1 s2) (hn:s.nx≤s1.nx):Kept s s2:=fun q hq=>(h2 q (by omega)).trans (h1 q hq)
theorem p83 (zs:List (List UInt8)) (q:List UInt8→Bool) (fid:FuncId) (c:AV) (s:St) (hlen:zs.length≤1000000) (h:∀ x∈zs,∀ s1,Kept s s1→s.nx≤s1.nx→AB Tryz.prog fid [.str (ba x),c] s1 fun r s'=>r=.bool (q x)∧Kept s1 s') :
  AB Tryz.prog 83 [.list 1 .none (Ac zs),.fn fid [] [c]] s fun r s'=>r=.int .i64 (DO q zs 0)∧Kept s s':=by
 refine AD mixed Tryz.func83 Tryz.call83 k83.2 rfl (AE _ _ _ _ ?_)
 simp -implicitDefEqProofs (disch:=first|omega|simp only[nx4]<;>omega|fail) [k83]
 refine AQ (I83 zs q (.fn fid [] [c]) c s) zs.length ⟨0,by omega,by omega,rfl,?_,?_,?_,?_,?_,?_⟩ ?_
 iterate 6 (simp -implicitDefEqProofs (disch:=first|omega|simp only[nx4]<;>omega|fail))
 rintro m g s1 ⟨i,hi,rfl,hw,e0,e1,e7,e8,hk,hn⟩
 by_cases hlt:i < zs.length
 ·have hlt':(i:Int) < zs.length:=by omega
  have w3:=wrapS (i:=i) (by omega)
  rw [List.drop_eq_getElem_cons hlt,DO]at hw
  have hgt:=Fi hlt
  have hgt?:=slist_get? hlt
  have hc:=h _ (List.getElem_mem hlt)
  generalize zs[i]=x at hw hgt hgt? hc
  simp -implicitDefEqProofs (disch:=first|omega|simp only[nx4]<;>omega|fail) [e0,e1,e7,e8,hlt',hlt,hgt,hgt?]
  refine AH (AB.mono (hc _ hk hn) fun r s' hn' h=>AW ?_)
  obtain⟨rfl,hk'⟩:=h
  have hk2:=RZ hk hk' hn
  cases hq:q x with
  | true =>
   rw [if_pos hq]at hw
   simp -implicitDefEqProofs (disch:=first|omega|simp only[nx4]<;>omega|fail) [hw,hk2]
  | false =>
   rw [if_neg (by rw [hq];simp)]at hw
   simp -implicitDefEqProofs (disch:=first|omega|simp only[nx4]<;>omega|fail) [e8,w3]
   refine AK (zs.length - (i+1)) (by omega) ⟨i+1,by omega,rfl,hw,?_,?_,?_,rfl,hk2,by omega⟩
   ·simp -implicitDefEqProofs (disch:=first|omega|simp only[nx4]<;>omega|fail) [e0]
   ·simp -implicitDefEqProofs (disch:=first|omega|simp only[nx4]<;>omega|fail) [e1]
   ·simp -implicitDefEqProofs (disch:=first|omega|simp only[nx4]<;>omega|fail) [e7]
 ·have hlt':¬ (i:Int) < zs.length:=by omega
  obtain rfl:i=zs.length:=by omega
  rw [List.drop_length,DO]at hw
  simp -implicitDefEqProofs (disch:=first|omega|simp only[nx4]<;>omega|fail) [e0,e1,e7,e8,hlt',← hw,hk]
theorem p46 (zs:List (List UInt8)) (q:List UInt8→Bool) (fid:FuncId) (c:AV) (s:St) (hlen:zs.length≤1000000) (h:∀ x∈zs,∀ s1,Kept s s1→s.nx≤s1.nx→AB Tryz.prog fid [.str (ba x),c] s1 fun r s'=>r=.bool (q x)∧Kept s1 s') :
  AB Tryz.prog 46 [.list 1 .none (Ac zs),.fn fid [] [c]] s fun r s'=>r=.bool (zs.any q)∧Kept s s':=by
 refine AD mixed Tryz.func46 Tryz.call46 k46.2 rfl (AE _ _ _ _ ?_)
 simp -implicitDefEqProofs (disch:=first|omega|simp only[nx4]<;>omega|fail) [k46]
 refine AH (AB.mono (p83 zs q fid c s hlen h) fun r s' hn' h=>AW ?_)
 obtain⟨rfl,hk⟩:=h
 have h1:=Gu q zs 0 (by omega)
 have h2:decide (0≤DO q zs 0)=zs.any q:=by
  rw [Bool.eq_iff_iff]
  simpa using h1
 simp -implicitDefEqProofs (disch:=first|omega|simp only[nx4]<;>omega|fail) [hk,h2]
theorem AJu (x:List UInt8) (b o:Nat) (es:List (Nat × AV × AV)) (clock:Nat) (l:List ByteArray) (hk:E9 .str es l) (s:St) (hb:s.m b=some (.box [.map o])) (ho:s.m o=some (.map es clock)) :
  AB Tryz.prog 109 [.str (ba x),.ptr b 0] s fun r s'=>r=.bool (!decide (ba x∈l))∧Kept s s':=by
 refine AD mixed Tryz.func109 Tryz.call109 k109.2 rfl (AE _ _ _ _ ?_)
 have hl:=HF GN (ba x) hk
 simp -implicitDefEqProofs (disch:=first|omega|simp only[nx4]<;>omega|fail) [k109,hb,ho,hl]
def clo (l:List ByteArray) (t:Pl):Bool:=decide (fv t 0=[]) && (gls t).all fun x=>decide (ba x∈l)
theorem NQ (t:Pl):(gls t).length≤(pre t).length:=by
 have h1:=E2 (CE (gnm t))
 have h2:=Fh (pre t) []
 rw [Cu]at h1
 simp only [List.length_nil]at h2
 unfold gls gnm at *
 omega
theorem Yv (t:Pl):fvl t=[]↔fv t 0=[]:=by
 constructor
 ·intro h
  cases hf:fv t 0 with
  | nil=>rfl
  | cons a r =>
   have:a∈fvl t:=Yu.2 (by rw [hf];simp)
   rw [h]at this;simp at this
 ·intro h
  rw [fvl,h];simp [BX]
theorem p75 (t:Pl) (hw:wf t=true) (hs:small t) (hr:rng t) (o:Nat) (es:List (Nat × AV × AV)) (clock:Nat) (l:List ByteArray) (hk:E9 .str es l) (s:St) (ho:s.m o=some (.map es clock)) (hon:o < s.nx) :
  AB Tryz.prog 75 [t.av,.map o] s fun r s'=>r=.bool (clo l t)∧Kept s s':=by
 refine AD mixed Tryz.func75 Tryz.call75 k75.2 rfl (AE _ _ _ _ ?_)
 have hgl:(gls t).length≤4000:=by have:=GL t;have:=NQ t;have:=hs.1;omega
 simp -implicitDefEqProofs (disch:=first|omega|simp only[nx4]<;>omega|fail) [k75]
 refine AA (AJp t hw hs hr) fun mm1 hm1=>?_
 try simp only [nx4]at hm1
 have hf:=Yv t
 by_cases h0:fv t 0=[]
 ·have h1:=hf.2 h0
  simp -implicitDefEqProofs (disch:=first|omega|simp only[nx4]<;>omega|fail) [h1]
  refine AA (p47 t hw hs) fun mm2 hm2=>?_
  try simp only [nx4]at hm2
  simp -implicitDefEqProofs (disch:=first|omega|simp only[nx4]<;>omega|fail) []
  refine AH (AB.mono (p46 (gls t) (fun x=>!decide (ba x∈l)) 109 _ _ (by omega) fun x _ s1 k1 k2=>AJu x (s.nx+1) o es clock l hk s1 ?_ ?_) fun r s' hn' h=>AW ?_)
  ·rw [k1 _ soz]
   simp -implicitDefEqProofs (disch:=first|omega|simp only[nx4]<;>omega|fail)
  ·rw [k1 _ soz]
   simp -implicitDefEqProofs (disch:=first|omega|simp only[nx4]<;>omega|fail) [ho]
  ·obtain⟨rfl,hk'⟩:=h
   have hk2:Kept s s':=fun q hq=>(hk' q soz).trans smz
   have e1:(!(gls t).any fun x=>!decide (ba x∈l))=clo l t:=by
    rw [clo,List.not_any_eq_all_not]
    simp [h0]
   simp -implicitDefEqProofs (disch:=first|omega|simp only[nx4]<;>omega|fail) [hk2,e1]
 ·have h1:¬ fvl t=[]:=fun h=>h0 (hf.1 h)
  have e1:clo l t=false:=by rw [clo];simp [h0]
  simp -implicitDefEqProofs (disch:=first|omega|simp only[nx4]<;>omega|fail) [h1,e1]
end Go.AL.Dm
namespace Go.AL.Dm
open Go Go.Proofs
def Few (p:List Gl):Prop:=p.length≤3000∧∀ g∈p,small g.body∧rng g.body
def nms (p:List Gl):List ByteArray:=p.map (·.name)
theorem PI {p:List Gl} {i:Nat} (h:i < p.length):(nms p).take (i+1)=(nms p).take i++[p[i].name]:=by
 rw [nms,List.take_succ_eq_append_getElem (by simpa using h)];simp
theorem Yw (p:List Gl):(nms p).length=p.length:=by simp [nms]
def B8:List ByteArray→List Gl→Bool
 | _,[]=>true
 | pre,g::r=>nm g.name && !decide (g.name∈pre) && wf g.body && B8 (pre++[g.name]) r
def isP (p:List Gl):Bool:=decide (p.length≤400) && (B8 [] p && p.all fun g=>clo (nms p) g.body)
theorem Hw:∀ {p:List Gl} {pre:List ByteArray},B8 pre p=true→∀ g∈p,wf g.body=true
 | [],_,_,g,hg=>by simp at hg
 | x::p,pre,h,g,hg=>by
  simp only [B8,Bool.and_eq_true]at h
  rcases List.mem_cons.1 hg with rfl | hg
  ·exact h.1.2
  ·exact Hw h.2 g hg
def AJv (p:List Gl) (s:St) (m:Nat) (g:Env) (s1:St):Prop :=
 ∃ (i:Nat) (es:List (Nat × AV × AV)) (clock:Nat),i≤p.length∧m=p.length - i∧B8 ((nms p).take i) (p.drop i)=B8 [] p∧E9 .str es ((nms p).take i) ∧
  g.get 0=.list 6 .none (p.map Gl.av)∧g.get 3=.map s.nx∧g.get 12=.list 6 .none (p.map Gl.av)∧g.get 13=.int .i64 p.length∧g.get 14=.int .i64 i∧s1.m s.nx=some (.map es clock)∧Kept s s1∧s.nx < s1.nx
def AJw (p:List Gl) (es:List (Nat × AV × AV)) (clock:Nat) (s:St) (m:Nat) (g:Env) (s1:St):Prop :=
 ∃ (i:Nat),i≤p.length∧m=p.length - i∧((p.drop i).all fun g=>clo (nms p) g.body)=(p.all fun g=>clo (nms p) g.body) ∧
  g.get 3=.map s.nx∧g.get 38=.list 6 .none (p.map Gl.av)∧g.get 39=.int .i64 p.length∧g.get 40=.int .i64 i∧s1.m s.nx=some (.map es clock)∧Kept s s1∧s.nx < s1.nx
theorem p36 (p:List Gl) (hp:Few p):AF Tryz.prog 36 [.list 6 .none (p.map Gl.av)] (.bool (isP p)):=by
 refine AF.intro fun s=>AD mixed Tryz.func36 Tryz.call36 k36.2 rfl (AE _ _ _ _ ?_)
 obtain⟨hpl,hpb⟩:=hp
 by_cases hl0:400 < p.length
 ·have h1:(400:Int) < p.length:=by omega
  have hl:¬ p.length≤400:=by omega
  have h2:isP p=false:=by simp [isP,hl]
  simp -implicitDefEqProofs (disch:=first|omega|simp only[nx4]<;>omega|fail) [k36,h1,h2]
 have hl:p.length≤400:=by omega
 have hdef:isP p=(B8 [] p && p.all fun g=>clo (nms p) g.body):=by simp [isP,hl]
 rw [hdef]
 have h1:¬ (400:Int) < p.length:=by omega
 simp -implicitDefEqProofs (disch:=first|omega|simp only[nx4]<;>omega|fail) [k36,h1]
 refine AQ (AJv p s) p.length ⟨0,[],0,by omega,by omega,rfl,Pe _,?_,?_,?_,?_,?_,?_,?_,?_⟩ ?_
 iterate 8 (simp -implicitDefEqProofs (disch:=first|omega|simp only[nx4]<;>omega|fail))
 rintro m g s1 ⟨i,es,clock,hi,rfl,hw,hks,e0,e3,e12,e13,e14,hM,hk,hn⟩
 by_cases hlt:i < p.length
 ·have hlt':(i:Int) < p.length:=by omega
  have w3:=wrapS (i:=i) (by omega)
  rw [List.drop_eq_getElem_cons hlt,B8]at hw
  have htk:(nms p).take (i+1)=(nms p).take i++[p[i].name]:=PI hlt
  obtain⟨hsm,hrg⟩:=hpb _ (List.getElem_mem hlt)
  generalize hx:p[i]=x at hw htk hsm hrg
  have h74:=p74 x.name
  have h45:=p45 x.body hsm
  have v1:=fun s K=>HF GN x.name hks s K
  obtain⟨es',clock',k1,u1⟩:=KR GN x.name hks clock
  cases hnm:nm x.name with
  | false =>
   rw [hnm]at h74 hw
   simp only [Bool.false_and]at hw
   simp -implicitDefEqProofs (disch:=first|omega|simp only[nx4]<;>omega|fail) [e0,e3,e12,e13,e14,hlt',hx]
   refine AA h74 fun mm1 hm1=>?_
   try simp only [nx4]at hm1
   simp -implicitDefEqProofs (disch:=first|omega|simp only[nx4]<;>omega|fail) [← hw,hk]
  | true =>
   rw [hnm]at h74 hw
   by_cases hmem:x.name∈(nms p).take i
   ·rw [decide_eq_true hmem]at hw
    simp only [Bool.not_true,Bool.and_false,Bool.false_and]at hw
    simp -implicitDefEqProofs (disch:=first|omega|simp only[nx4]<;>omega|fail) [e0,e3,e12,e13,e14,hlt',hx]
    refine AA h74 fun mm2 hm2=>?_
    try simp only [nx4]at hm2
    simp -implicitDefEqProofs (disch:=first|omega|simp only[nx4]<;>omega|fail) [← hw,hk,e3,hM,v1,hmem]
   ·rw [decide_eq_false hmem]at hw
    rw [if_neg hmem]at k1
    cases hwf:wf x.body with
    | false =>
     rw [hwf]at h45 hw
     simp only [Bool.and_false,Bool.false_and]at hw
     simp -implicitDefEqProofs (disch:=first|omega|simp only[nx4]<;>omega|fail) [e0,e3,e12,e13,e14,hlt',hx]
     refine AA h74 fun mm3 hm3=>?_
     try simp only [nx4]at hm3
     simp -implicitDefEqProofs (disch:=first|omega|simp only[nx4]<;>omega|fail) [e3,hM,v1,hmem]
     refine AA h45 fun mm4 hm4=>?_
     try simp only [nx4]at hm4
     simp -implicitDefEqProofs (disch:=first|omega|simp only[nx4]<;>omega|fail) [← hw,hk]
    | true =>
     rw [hwf]at h45 hw
     simp only [Bool.not_false,Bool.and_true,Bool.true_and]at hw
     simp -implicitDefEqProofs (disch:=first|omega|simp only[nx4]<;>omega|fail) [e0,e3,e12,e13,e14,hlt',hx]
     refine AA h74 fun mm5 hm5=>?_
     try simp only [nx4]at hm5
     simp -implicitDefEqProofs (disch:=first|omega|simp only[nx4]<;>omega|fail) [e3,hM,v1,hmem]
     refine AA h45 fun mm6 hm6=>?_
     try simp only [nx4]at hm6
     simp -implicitDefEqProofs (disch:=first|omega|simp only[nx4]<;>omega|fail) [e3,hM,u1,e14,w3]
     refine AK (p.length - (i+1)) (by omega) ⟨i+1,es',clock',by omega,rfl,by rw [htk];exact hw,by rw [htk];exact k1,?_,?_,?_,?_,?_,?_,?_,?_⟩
     all_goals (try simp -implicitDefEqProofs (disch:=first|omega|simp only[nx4]<;>omega|fail) [e0,e3,e12,e13,hk])
     all_goals (try omega)
 ·have hlt':¬ (i:Int) < p.length:=by omega
  obtain rfl:i=p.length:=by omega
  rw [List.drop_length,B8]at hw
  rw [← Yw,List.take_length]at hks
  have hwf:=Hw hw.symm
  rw [← hw,Bool.true_and]
  simp -implicitDefEqProofs (disch:=first|omega|simp only[nx4]<;>omega|fail) [e0,e3,e12,e13,e14,hlt']
  refine AQ (AJw p es clock s) p.length ⟨0,by omega,by omega,rfl,?_,?_,?_,?_,?_,?_,?_⟩ ?_
  iterate 7 (simp -implicitDefEqProofs (disch:=first|omega|simp only[nx4]<;>omega|fail) [e0,e3,hM,hk,hn])
  clear hM hk hn e0 e3 e12 e13 e14
  rintro m g s1 ⟨i,hi,rfl,hw,e3,e38,e39,e40,hM,hk,hn⟩
  by_cases hlt:i < p.length
  ·have hlt':(i:Int) < p.length:=by omega
   have w3:=wrapS (i:=i) (by omega)
   rw [List.drop_eq_getElem_cons hlt,List.all_cons]at hw
   obtain⟨hsm,hrg⟩:=hpb _ (List.getElem_mem hlt)
   have hwx:=hwf _ (List.getElem_mem hlt)
   generalize hx:p[i]=x at hw hsm hrg hwx
   simp -implicitDefEqProofs (disch:=first|omega|simp only[nx4]<;>omega|fail) [e3,e38,e39,e40,hlt',hx]
   refine AH (AB.mono (p75 x.body hwx hsm hrg s.nx es clock (nms p) hks _ ?_ ?_) fun r s' hn' h=>AW ?_)
   ·simp -implicitDefEqProofs (disch:=first|omega|simp only[nx4]<;>omega|fail) [hM]
   ·simp -implicitDefEqProofs (disch:=first|omega|simp only[nx4]<;>omega|fail)
    omega
   obtain⟨rfl,hk'⟩:=h
   have hk2:Kept s s':=fun q hq=>(hk' q soz).trans (by simp -implicitDefEqProofs (disch:=first|omega|simp only[nx4]<;>omega|fail) [hk q hq])
   have hM2:s'.m s.nx=some (.map es clock):=(hk' _ soz).trans (by simp -implicitDefEqProofs (disch:=first|omega|simp only[nx4]<;>omega|fail) [hM])
   simp -implicitDefEqProofs (disch:=first|omega|simp only[nx4]<;>omega|fail)at hn'
   cases hc:clo (nms p) x.body with
   | false =>
    rw [hc,Bool.false_and]at hw
    simp -implicitDefEqProofs (disch:=first|omega|simp only[nx4]<;>omega|fail) [← hw,hk2]
   | true =>
    rw [hc,Bool.true_and]at hw
    simp -implicitDefEqProofs (disch:=first|omega|simp only[nx4]<;>omega|fail) [e40,w3]
    refine AK (p.length - (i+1)) (by omega) ⟨i+1,by omega,rfl,hw,?_,?_,?_,?_,?_,?_,?_⟩
    all_goals (try simp -implicitDefEqProofs (disch:=first|omega|simp only[nx4]<;>omega|fail) [e3,e38,e39,hk2,hM2])
    all_goals (try omega)
  ·have hlt':¬ (i:Int) < p.length:=by omega
   obtain rfl:i=p.length:=by omega
   rw [List.drop_length,List.all_nil]at hw
   simp -implicitDefEqProofs (disch:=first|omega|simp only[nx4]<;>omega|fail) [e3,e38,e39,e40,hlt',← hw,hk]
end Go.AL.Dm
