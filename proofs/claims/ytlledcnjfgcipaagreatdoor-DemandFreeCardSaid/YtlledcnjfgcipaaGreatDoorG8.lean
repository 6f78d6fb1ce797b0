/- Free variables: the program. -/
import Derived.Test.YtlledcnjfgcipaaGreatDoorF16
import Derived.Test.YtlledcnjfgcipaaGreatDoorG1
import Derived.Sort.Row
import Derived.Sort.Grow
import Derived.Sort.EncStr
import Derived.Lib.SlicesCompact
import Derived.Test.YtlledcnjfgcipaaGreatDoorF5
import Derived.ChangeMaps5
import Derived.Test.YtlledcnjfgcipaaGreatDoorRows
import Derived.WideKeyElems2
import Derived.OpenShut
import Derived.FnData
import Derived.MakeChecks
set_option linter.unusedVariables false
set_option linter.unusedSimpArgs false
namespace Go.AL.Dm
open Go Go.Proofs
mutual
def fv:Pl→Int→List Int
 | .mk op n s args alts,u=>if op=1 then(if u≤n then [n - u]else [])else fvs args (u+inn (.mk op n s args alts))++fva alts u
def fvs:List Pl→Int→List Int
 | [],_=>[]
 | t::ts,u=>fv t u++fvs ts u
def fva:List (Hd × Pl)→Int→List Int
 | [],_=>[]
 | (h,b)::ts,u=>fv b (u+bnd h)++fva ts u
end
theorem IW (t:Pl) (u:Int):fv t u=if t.op=1 then(if u≤t.n then [t.n - u]else [])else fvs t.args (u+inn t)++fva t.alts u:=by cases t;rw [fv];rfl
def fvp:List (Int × Pl)→Int→List Int
 | [],_=>[]
 | (n,x)::r,u=>fv x (u+n)++fvp r u
theorem H5:∀ (l r:List (Int × Pl)) (u:Int),fvp (l++r) u=fvp l u++fvp r u
 | [],r,u=>rfl
 | (n,x)::l,r,u=>by simp [fvp,H5 l r u]
theorem XR (t:Pl) (u:Int) (h:t.op≠1):fv t u=fvp (parts t) u:=by
 rw [IW,if_neg h,parts,H5]
 have h1:∀ (l:List Pl) (n:Int),fvs l (u+n)=fvp (l.map fun x=>(n,x)) u:=by
  intro l n
  induction l with
  | nil=>rfl
  | cons x l ih=>simp [fvs,fvp,ih]
 have h2:∀ l:List (Hd × Pl),fva l u=fvp (l.map fun a=>(bnd a.1,a.2)) u:=by
  intro l
  induction l with
  | nil=>rfl
  | cons x l ih=>obtain⟨a,b⟩:=x;simp [fva,fvp,ih]
 rw [h1,h2]
end Go.AL.Dm
namespace Go.AL
open Go.Sort
variable {P:Program} {ι ι':Nat→Option Nat} {s s':St} {w w':World}
def Af (zs:List Int):List AV:=zs.map (AV.int .i64)
def BX (zs:List Int):List Int:=zs.mergeSort fun x y=>decide (x≤y)
theorem Ee (zs:List Int):(BX zs).length=zs.length:=by simp [BX]
theorem E5 [Glob] (ι:Nat→Option Nat) (S:AX) (w:World) (n:Nat):Step ι S w ι S (Sort.ahead w n) :=
 grow_step (Nat.le_refl _) rfl rfl rfl (fun _ _=>rfl) (fun _ _ h=>h) (fun _ _ _ h=>h) (fun _ _ h=>h)
theorem WF.ahead [Glob] {S:AX} (hwf:WF ι S w) (n:Nat):WF ι S (Sort.ahead w n) :=
 hwf.Ct (E5 ι S w n) hwf.blt hwf.inj fun _ _ b h1 h2=>.inl ⟨h1,h2,rfl⟩
theorem L9 {enc:Int→Value} {w:World} {b:Nat} {vs:Array Value} {e:TypeId} {fr:Nat × Nat} (d:Array Int) (h:w.heap[b]?=some (.cells vs e fr)):putRow enc w b 0 d=w.setRow b (putCells enc 0 d vs):=by
 unfold putRow mapBlock World.setRow
 congr 1
 apply Array.ext_getElem?
 intro k
 simp only [Array.getElem?_modify]
 by_cases hk:b=k
 ·subst hk
  simp only [if_true,h,Option.map_some,onCells]
 ·simp [hk]
theorem RY [Glob] {f:FuncId} (hcb:D7 P f) (hnone:∀ (p:Option Addr) (cap:Nat) (w:World),Calls P f #[.slice p 0 cap] w fun e w'=>e=.returned (.tuple #[])∧w'=w)
  (hsort:∀ (blk off cap:Nat) (zs:List Int) (w:World),Holds (Value.int .i64) w blk off zs.toArray→blk < w.heap.size→zs.length < 4611686018427387904 →
   Calls P f #[.slice (some ⟨blk,off,none⟩) zs.length cap] w fun e w'=>e=.returned (.tuple #[])∧∃ n os,w'=Go.Sort.grow (putRow (Value.int .i64) (Sort.ahead w n) blk off (zs.mergeSort fun x y=>decide (x≤y)).toArray) os)
  (zs:List Int) (o:Nat) {K:AV→St→Prop} (hlen:zs.length < 4611686018427387904) (ho:s.m o=some (.box (Af zs))) (hK:K (.tup []) (s.set o (.box (Af (BX zs))))):AB P f [.Ag 1 o 0 zs.length] s K:=by
 refine⟨hcb,fun ι w vs hwf hbnd hvs=>?_⟩
 obtain⟨v,rfl⟩:∃ v,vs=#[v]:=by
  obtain⟨l⟩:=vs
  match l,hvs.1 with
  | [v],_=>exact⟨v,rfl⟩
 have hv:=hvs.2 0 v _ rfl rfl
 have hbnd':Bnd ι (s.set o (.box (Af (BX zs)))).m s.nx:=⟨fun q ob hq=>by
  by_cases e:q=o
  ·subst e;exact hbnd.lt q _ ho
  ·simp [St.set,e]at hq;exact hbnd.lt q ob hq,hbnd.ilt⟩
 cases zs with
 | nil =>
  have hvv:∃ p cap,v=.slice p 0 cap:=by
   cases hv with
   | Ag h hcap hb=>exact⟨_,_,rfl⟩
   | FN=>exact⟨_,_,rfl⟩
  obtain⟨p,cap,rfl⟩:=hvv
  refine(hnone p cap w).mono ?_
  rintro e w' ⟨rfl,rfl⟩
  have hm:(s.set o (.box (Af (BX [])))).m=s.m:=by
   funext q
   by_cases e:q=o
   ·subst e;simp [St.set,ho,BX,Af]
   ·simp [St.set,e]
  refine⟨_,_,s.set o (.box (Af (BX []))),ι,rfl,?_,?_,?_,Inc.refl _ _,.tup rfl (by simp),hK⟩
  ·rw [hm];exact Step.refl _ _ _
  ·rw [hm];exact hwf
  ·exact hbnd'
 | cons z zs =>
  generalize hzz:z::zs=zl at *
  have hne:zl.length≠0:=by rw [← hzz];simp
  generalize hln:zl.length=ln at hv
  cases hv with
  | FN=>exact absurd hln hne
  | @Ag _ _ b _ _ cap h hcap hb =>
   subst hln
   obtain⟨cvs,e,h1,h2,h3,h4⟩:=hwf.rep o _ b ho h
   simp only [Af,List.length_map]at h2
   have hcell:∀ j,j < zl.length→cvs[j]?=some (.int .i64 zl[j]!):=by
    intro j hj
    have hjc:j < cvs.size:=by omega
    have hx:(Af zl)[j]?=some (.int .i64 zl[j]!):=by simp [Af,hj]
    have:=h3 j cvs[j] _ (by simp [hjc]) hx
    rw [Array.getElem?_eq_getElem hjc]
    generalize cvs[j]=u at this
    cases this
    rfl
   have hH:Holds (Value.int .i64) w b (0 * 1) zl.toArray:=by
    intro j hj
    have hj':j < zl.length:=by simpa using hj
    refine⟨?_,?_⟩
    ·simp [World.cell?,h1,hcell j hj']
    ·simp [World.frozen?,h1]
   have hblk:b < w.heap.size:=(Array.getElem?_eq_some_iff.1 h1).1
   refine(hsort b (0 * 1) cap zl w hH hblk hlen).mono ?_
   rintro e' w' ⟨rfl,n,os,hw'⟩
   have h1a:(Sort.ahead w n).heap[b]?=some (.cells cvs e (0,0)):=h1
   rw [Nat.zero_mul,L9 _ h1a]at hw'
   have hszp:(putCells (Value.int .i64) 0 (BX zl).toArray cvs).size=cvs.size:=by simp [putCells]
   have hget:∀ (j:Nat) v x,(putCells (Value.int .i64) 0 (BX zl).toArray cvs)[j]?=some v→(Af (BX zl))[j]?=some x→∃ m,v=.int .i64 m∧x=.int .i64 m:=by
    intro j v x hv hx
    simp only [Af,List.getElem?_map,Option.map_eq_some_iff]at hx
    obtain⟨m,hm,rfl⟩:=hx
    have hjl:j < (BX zl).length:=(List.getElem?_eq_some_iff.1 hm).1
    have hjc:j < cvs.size:=by rw [Ee]at hjl;omega
    rw [putCells,Array.getElem?_mapIdx,Array.getElem?_eq_getElem hjc]at hv
    simp only [Option.map_some,Option.some.injEq,Nat.zero_add,Nat.zero_le,true_and,Nat.sub_zero,List.size_toArray]at hv
    rw [if_pos hjl]at hv
    subst hv
    refine⟨m,?_,rfl⟩
    simp [hm]
   obtain⟨q1,q2⟩:=HD (obj':=.box (Af (BX zl))) (cs:=putCells (Value.int .i64) 0 (BX zl).toArray cvs) (hwf.ahead n) ho h h1a hszp (fun _=>trivial) fun hR hh =>
    ⟨_,e,hh,by rw [hszp];simp only [Af,List.length_map,Ee];exact h2,fun j v x hv hx=>by obtain⟨m,rfl,rfl⟩:=hget j v x hv hx;exact .int _ _,
     fun j v hj hv=>by
      have hx:(Af (BX zl))[j]?=some (Af (BX zl))[j]:=by simp [hj]
      obtain⟨m,rfl,_⟩:=hget j v _ hv hx
      rfl⟩
   obtain⟨w2,hw2⟩:∃ w2,w2=(Sort.ahead w n).setRow b (putCells (Value.int .i64) 0 (BX zl).toArray cvs):=⟨_,rfl⟩
   change w'=Go.Sort.grow ((Sort.ahead w n).setRow b (putCells (Value.int .i64) 0 (BX zl).toArray cvs)) os at hw'
   rw [← hw2]at q1 q2 hw'
   subst hw'
   have hgr:Grown (Au s.m o (.box (Af (BX zl)))) ι w2 (Go.Sort.grow w2 os) none :=
    ⟨⟨rfl,rfl,rfl,by simp [Go.Sort.grow],fun k hk _=>by simp [Go.Sort.grow,Array.getElem?_append_left hk]⟩,fun r e=>by cases e⟩
   exact⟨_,_,s.set o (.box (Af (BX zl))),ι,rfl,hgr.step ((E5 ι s.m w n).trans q1) (fun r e=>by cases e),hgr.wf q2,hbnd',Inc.refl _ _,.tup rfl (by simp),hK⟩
end Go.AL
namespace Go.AL
open Go.Sort
variable {P:Program} {ι ι':Nat→Option Nat} {s s':St} {w w':World}
open Go.Proofs (encStr)
def Ac (zs:List (List UInt8)):List AV:=zs.map fun x=>.str ⟨x.toArray⟩
def CE (zs:List (List UInt8)):List (List UInt8):=zs.mergeSort fun x y=>decide (x≤y)
theorem Cu (zs:List (List UInt8)):(CE zs).length=zs.length:=by simp [CE]
theorem G3 {enc:List UInt8→Value} {w:World} {b:Nat} {vs:Array Value} {e:TypeId} {fr:Nat × Nat} (d:Array (List UInt8)) (h:w.heap[b]?=some (.cells vs e fr)):putRow enc w b 0 d=w.setRow b (putCells enc 0 d vs):=by
 unfold putRow mapBlock World.setRow
 congr 1
 apply Array.ext_getElem?
 intro k
 simp only [Array.getElem?_modify]
 by_cases hk:b=k
 ·subst hk
  simp only [if_true,h,Option.map_some,onCells]
 ·simp [hk]
theorem Pb [Glob] {f:FuncId} (hcb:D7 P f) (hnone:∀ (p:Option Addr) (cap:Nat) (w:World),Calls P f #[.slice p 0 cap] w fun e w'=>e=.returned (.tuple #[])∧w'=w)
  (hsort:∀ (blk off cap:Nat) (zs:List (List UInt8)) (w:World),Holds encStr w blk off zs.toArray→blk < w.heap.size→zs.length < 4611686018427387904 →
   Calls P f #[.slice (some ⟨blk,off,none⟩) zs.length cap] w fun e w'=>e=.returned (.tuple #[])∧∃ n os,w'=Go.Sort.grow (putRow encStr (Sort.ahead w n) blk off (zs.mergeSort fun x y=>decide (x≤y)).toArray) os)
  (zs:List (List UInt8)) (o:Nat) {K:AV→St→Prop} (hlen:zs.length < 4611686018427387904) (ho:s.m o=some (.box (Ac zs))) (hK:K (.tup []) (s.set o (.box (Ac (CE zs))))):AB P f [.Ag 1 o 0 zs.length] s K:=by
 refine⟨hcb,fun ι w vs hwf hbnd hvs=>?_⟩
 obtain⟨v,rfl⟩:∃ v,vs=#[v]:=by
  obtain⟨l⟩:=vs
  match l,hvs.1 with
  | [v],_=>exact⟨v,rfl⟩
 have hv:=hvs.2 0 v _ rfl rfl
 have hbnd':Bnd ι (s.set o (.box (Ac (CE zs)))).m s.nx:=⟨fun q ob hq=>by
  by_cases e:q=o
  ·subst e;exact hbnd.lt q _ ho
  ·simp [St.set,e]at hq;exact hbnd.lt q ob hq,hbnd.ilt⟩
 cases zs with
 | nil =>
  have hvv:∃ p cap,v=.slice p 0 cap:=by
   cases hv with
   | Ag h hcap hb=>exact⟨_,_,rfl⟩
   | FN=>exact⟨_,_,rfl⟩
  obtain⟨p,cap,rfl⟩:=hvv
  refine(hnone p cap w).mono ?_
  rintro e w' ⟨rfl,rfl⟩
  have hm:(s.set o (.box (Ac (CE [])))).m=s.m:=by
   funext q
   by_cases e:q=o
   ·subst e;simp [St.set,ho,CE,Ac]
   ·simp [St.set,e]
  refine⟨_,_,s.set o (.box (Ac (CE []))),ι,rfl,?_,?_,?_,Inc.refl _ _,.tup rfl (by simp),hK⟩
  ·rw [hm];exact Step.refl _ _ _
  ·rw [hm];exact hwf
  ·exact hbnd'
 | cons z zs =>
  generalize hzz:z::zs=zl at *
  have hne:zl.length≠0:=by rw [← hzz];simp
  generalize hln:zl.length=ln at hv
  cases hv with
  | FN=>exact absurd hln hne
  | @Ag _ _ b _ _ cap h hcap hb =>
   subst hln
   obtain⟨cvs,e,h1,h2,h3,h4⟩:=hwf.rep o _ b ho h
   simp only [Ac,List.length_map]at h2
   have hcell:∀ j,j < zl.length→cvs[j]?=some (encStr zl[j]!):=by
    intro j hj
    have hjc:j < cvs.size:=by omega
    have hx:(Ac zl)[j]?=some (.str ⟨zl[j]!.toArray⟩):=by simp [Ac,hj]
    have:=h3 j cvs[j] _ (by simp [hjc]) hx
    rw [Array.getElem?_eq_getElem hjc]
    generalize cvs[j]=u at this
    cases this
    rfl
   have hH:Holds encStr w b (0 * 1) zl.toArray:=by
    intro j hj
    have hj':j < zl.length:=by simpa using hj
    refine⟨?_,?_⟩
    ·simp [World.cell?,h1,hcell j hj']
    ·simp [World.frozen?,h1]
   have hblk:b < w.heap.size:=(Array.getElem?_eq_some_iff.1 h1).1
   refine(hsort b (0 * 1) cap zl w hH hblk hlen).mono ?_
   rintro e' w' ⟨rfl,n,os,hw'⟩
   have h1a:(Sort.ahead w n).heap[b]?=some (.cells cvs e (0,0)):=h1
   rw [Nat.zero_mul,G3 _ h1a]at hw'
   have hszp:(putCells encStr 0 (CE zl).toArray cvs).size=cvs.size:=by simp [putCells]
   have hget:∀ (j:Nat) v x,(putCells encStr 0 (CE zl).toArray cvs)[j]?=some v→(Ac (CE zl))[j]?=some x→∃ m,v=encStr m∧x=.str ⟨m.toArray⟩:=by
    intro j v x hv hx
    simp only [Ac,List.getElem?_map,Option.map_eq_some_iff]at hx
    obtain⟨m,hm,rfl⟩:=hx
    have hjl:j < (CE zl).length:=(List.getElem?_eq_some_iff.1 hm).1
    have hjc:j < cvs.size:=by rw [Cu]at hjl;omega
    rw [putCells,Array.getElem?_mapIdx,Array.getElem?_eq_getElem hjc]at hv
    simp only [Option.map_some,Option.some.injEq,Nat.zero_add,Nat.zero_le,true_and,Nat.sub_zero,List.size_toArray]at hv
    rw [if_pos hjl]at hv
    subst hv
    refine⟨m,?_,rfl⟩
    simp [hm]
   obtain⟨q1,q2⟩:=HD (obj':=.box (Ac (CE zl))) (cs:=putCells encStr 0 (CE zl).toArray cvs) (hwf.ahead n) ho h h1a hszp (fun _=>trivial) fun hR hh =>
    ⟨_,e,hh,by rw [hszp];simp only [Ac,List.length_map,Cu];exact h2,fun j v x hv hx=>by obtain⟨m,rfl,rfl⟩:=hget j v x hv hx;exact .str _,
     fun j v hj hv=>by
      have hx:(Ac (CE zl))[j]?=some (Ac (CE zl))[j]:=by simp [hj]
      obtain⟨m,rfl,_⟩:=hget j v _ hv hx
      rfl⟩
   obtain⟨w2,hw2⟩:∃ w2,w2=(Sort.ahead w n).setRow b (putCells encStr 0 (CE zl).toArray cvs):=⟨_,rfl⟩
   change w'=Go.Sort.grow ((Sort.ahead w n).setRow b (putCells encStr 0 (CE zl).toArray cvs)) os at hw'
   rw [← hw2]at q1 q2 hw'
   subst hw'
   have hgr:Grown (Au s.m o (.box (Ac (CE zl)))) ι w2 (Go.Sort.grow w2 os) none :=
    ⟨⟨rfl,rfl,rfl,by simp [Go.Sort.grow],fun k hk _=>by simp [Go.Sort.grow,Array.getElem?_append_left hk]⟩,fun r e=>by cases e⟩
   exact⟨_,_,s.set o (.box (Ac (CE zl))),ι,rfl,hgr.step ((E5 ι s.m w n).trans q1) (fun r e=>by cases e),hgr.wf q2,hbnd',Inc.refl _ _,.tup rfl (by simp),hK⟩
theorem Pd {zs:List (List UInt8)} {x:List UInt8}:x∈Lib.compact zs↔x∈zs:=by
 have key:∀ j,j < zs.length→zs[j]! ∈ Lib.compact zs:=by
  intro j
  induction j using Nat.strongRecOn with
  | ind j ih =>
   intro hj
   by_cases hk:Lib.keeps zs.toArray j=true
   ·simp only [Lib.compact,Lib.compactUpTo,List.mem_map,List.mem_filter,List.mem_range]
    exact⟨j,⟨hj,hk⟩,by simp⟩
   ·have h2:¬ (j=0∨zs[j]! ≠ zs[j - 1]!):=by simpa [Lib.keeps] using hk
    have h3:j≠0:=fun e=>h2 (.inl e)
    have h4:zs[j]! = zs[j - 1]! := Decidable.byContradiction fun e=>h2 (.inr e)
    rw [h4]
    exact ih (j - 1) (by omega) (by omega)
 constructor
 ·intro h
  simp only [Lib.compact,Lib.compactUpTo,List.mem_map,List.mem_filter,List.mem_range]at h
  obtain⟨j,⟨hj,_⟩,rfl⟩:=h
  simp [hj]
 ·intro h
  obtain⟨j,hj,rfl⟩:=List.mem_iff_getElem.1 h
  have:=key j hj
  simpa [hj] using this
theorem E2 (zs:List (List UInt8)):(Lib.compact zs).length≤zs.length:=by
 simp only [Lib.compact,Lib.compactUpTo,List.length_map]
 refine Nat.le_trans (List.length_filter_le _ _) ?_
 simp
theorem LO [Glob] {f:FuncId} (hcb:D7 P f) (hnone:∀ (p:Option Addr) (cap:Nat) (w:World),Calls P f #[.slice p 0 cap] w fun e w'=>e=.returned (.slice p 0 cap)∧w'=w)
  (hcomp:∀ (blk off cap:Nat) (zs:List (List UInt8)) (w:World),Holds encStr w blk off zs.toArray→zs.length≤9223372036854775807→zs.length≤cap →
   Calls P f #[.slice (some ⟨blk,off,none⟩) zs.length cap] w fun e w'=>e=.returned (.slice (some ⟨blk,off,none⟩) (Lib.compact zs).length cap)∧∃ q,w'=putRow encStr (Sort.ahead w q) blk off (Lib.compact zs++List.replicate (zs.length - (Lib.compact zs).length) []).toArray)
  (zs:List (List UInt8)) (o:Nat) {K:AV→St→Prop} (hlen:zs.length < 4611686018427387904) (ho:s.m o=some (.box (Ac zs))) (hK:K (.Ag 1 o 0 (Lib.compact zs).length) (s.set o (.box (Ac (Lib.compact zs))))):AB P f [.Ag 1 o 0 zs.length] s K:=by
 refine⟨hcb,fun ι w vs hwf hbnd hvs=>?_⟩
 obtain⟨v,rfl⟩:∃ v,vs=#[v]:=by
  obtain⟨l⟩:=vs
  match l,hvs.1 with
  | [v],_=>exact⟨v,rfl⟩
 have hv:=hvs.2 0 v _ rfl rfl
 have hbnd':Bnd ι (s.set o (.box (Ac (Lib.compact zs)))).m s.nx:=⟨fun q ob hq=>by
  by_cases e:q=o
  ·subst e;exact hbnd.lt q _ ho
  ·simp [St.set,e]at hq;exact hbnd.lt q ob hq,hbnd.ilt⟩
 cases zs with
 | nil =>
  have hvv:∃ p cap,v=.slice p 0 cap:=by
   cases hv with
   | Ag h hcap hb=>exact⟨_,_,rfl⟩
   | FN=>exact⟨_,_,rfl⟩
  obtain⟨p,cap,rfl⟩:=hvv
  refine(hnone p cap w).mono ?_
  rintro e w' ⟨rfl,rfl⟩
  have hm:(s.set o (.box (Ac (Lib.compact [])))).m=s.m:=by
   funext q
   by_cases e:q=o
   ·subst e;simp [St.set,ho,Lib.compact,Lib.compactUpTo,Ac]
   ·simp [St.set,e]
  refine⟨_,_,s.set o (.box (Ac (Lib.compact []))),ι,rfl,?_,?_,?_,Inc.refl _ _,?_,hK⟩
  ·rw [hm];exact Step.refl _ _ _
  ·rw [hm];exact hwf
  ·exact hbnd'
  ·rw [hm];exact hv
 | cons z zs =>
  generalize hzz:z::zs=zl at *
  have hne:zl.length≠0:=by rw [← hzz];simp
  generalize hln:zl.length=ln at hv
  cases hv with
  | FN=>exact absurd hln hne
  | @Ag _ _ b _ _ cap h hcap hb =>
   subst hln
   obtain⟨cvs,e,h1,h2,h3,h4⟩:=hwf.rep o _ b ho h
   simp only [Ac,List.length_map]at h2
   have hcell:∀ j,j < zl.length→cvs[j]?=some (encStr zl[j]!):=by
    intro j hj
    have hjc:j < cvs.size:=by omega
    have hx:(Ac zl)[j]?=some (.str ⟨zl[j]!.toArray⟩):=by simp [Ac,hj]
    have:=h3 j cvs[j] _ (by simp [hjc]) hx
    rw [Array.getElem?_eq_getElem hjc]
    generalize cvs[j]=u at this
    cases this
    rfl
   have hH:Holds encStr w b (0 * 1) zl.toArray:=by
    intro j hj
    have hj':j < zl.length:=by simpa using hj
    refine⟨?_,?_⟩
    ·simp [World.cell?,h1,hcell j hj']
    ·simp [World.frozen?,h1]
   refine(hcomp b (0 * 1) cap zl w hH (by omega) hcap).mono ?_
   rintro e' w' ⟨rfl,n,hw'⟩
   have h1a:(Sort.ahead w n).heap[b]?=some (.cells cvs e (0,0)):=h1
   generalize hrow:Lib.compact zl++List.replicate (zl.length - (Lib.compact zl).length) []=row at hw'
   have hrl:row.length=zl.length:=by
    have:=E2 zl
    rw [← hrow];simp;omega
   have hcl:=E2 zl
   rw [Nat.zero_mul,G3 _ h1a]at hw'
   have hszp:(putCells encStr 0 row.toArray cvs).size=cvs.size:=by simp [putCells]
   have hget:∀ (j:Nat) v x,(putCells encStr 0 row.toArray cvs)[j]?=some v→(Ac (Lib.compact zl))[j]?=some x→∃ m,v=encStr m∧x=.str ⟨m.toArray⟩:=by
    intro j v x hv hx
    simp only [Ac,List.getElem?_map,Option.map_eq_some_iff]at hx
    obtain⟨m,hm,rfl⟩:=hx
    have hjk:j < (Lib.compact zl).length:=(List.getElem?_eq_some_iff.1 hm).1
    have hjl:j < row.length:=by omega
    have hjc:j < cvs.size:=by omega
    rw [putCells,Array.getElem?_mapIdx,Array.getElem?_eq_getElem hjc]at hv
    simp only [Option.map_some,Option.some.injEq,Nat.zero_add,Nat.zero_le,true_and,Nat.sub_zero,List.size_toArray]at hv
    rw [if_pos hjl]at hv
    subst hv
    refine⟨m,?_,rfl⟩
    have:row[j]?=some m:=by rw [← hrow,List.getElem?_append_left hjk];exact hm
    simp [this]
   obtain⟨q1,q2⟩:=HD (obj':=.box (Ac (Lib.compact zl))) (cs:=putCells encStr 0 row.toArray cvs) (hwf.ahead n) ho h h1a hszp (fun _=>trivial) fun hR hh =>
    ⟨_,e,hh,by rw [hszp];simp only [Ac,List.length_map];omega,fun j v x hv hx=>by obtain⟨m,rfl,rfl⟩:=hget j v x hv hx;exact .str _,
     fun j v hj hv=>by
      have hx:(Ac (Lib.compact zl))[j]?=some (Ac (Lib.compact zl))[j]:=by simp [hj]
      obtain⟨m,rfl,_⟩:=hget j v _ hv hx
      rfl⟩
   subst hw'
   refine⟨_,_,s.set o (.box (Ac (Lib.compact zl))),ι,rfl,(E5 ι s.m w n).trans q1,q2,hbnd',Inc.refl _ _,?_,hK⟩
   have hst:=(E5 ι s.m w n).trans q1
   exact .Ag h (Nat.le_trans hcl hcap) (hst.shape _ _ hb)
end Go.AL
namespace Go.AL
variable {P:Program}
def BP:Nat→List Int→List (Nat × AV × AV)
 | _,[]=>[]
 | i,n::r=>(i,.int .i64 n,.bool true)::BP (i+1) r
def obS (l:List Int):Ax:=.map (BP 0 l) l.length
def HU (l:List Int) (n:Int):List Int:=if n∈l then l else l++[n]
theorem P0 {a n:Int} {r:List Int} (h:¬ a=n):(a::r).idxOf n=r.idxOf n+1:=by
 rw [List.idxOf_cons]
 have:(a == n)=false:=by simpa using h
 rw [this];rfl
theorem Lh [Glob] (n:Int):∀ (l:List Int) (i k:Nat),BL (.int .i64 n) (BP i l) k=some (if n∈l then some (k+l.idxOf n)else none)
 | [],i,k=>by simp [BP,BL]
 | a::r,i,k=>by
  simp only [BP,BL,keq,if_true]
  by_cases h:n=a
  ·subst h;simp
  ·have ha:¬ a=n:=fun e=>h e.symm
   rw [decide_eq_false h]
   simp only [Lh n r (i+1) (k+1),List.mem_cons,h,false_or]
   by_cases hm:n∈r
   ·simp only [hm,if_true,P0 ha]
    congr 2
    omega
   ·simp [hm]
theorem J5 [Glob] (n:Int):∀ (l:List Int) (i:Nat),n∈l→(BP i l).modify (l.idxOf n) (fun e=>(e.1,.int .i64 n,.bool true))=BP i l
 | [],i,h=>by simp at h
 | a::r,i,h=>by
  by_cases e:a=n
  ·subst e;simp [BP]
  ·have hm:n∈r:=by
    rcases List.mem_cons.1 h with h | h
    ·exact absurd h.symm e
    ·exact h
   rw [P0 e]
   simp [BP,J5 n r (i+1) hm]
theorem J6 (n:Int):∀ (l:List Int) (i:Nat),BP i l++[(i+l.length,.int .i64 n,.bool true)]=BP i (l++[n])
 | [],i=>by simp [BP]
 | a::r,i=>by
  simp only [BP,List.cons_append,List.length_cons]
  rw [← J6 n r (i+1)]
  congr 3
  congr 1
  omega
theorem N4 [Glob] (n:Int) (l:List Int) (o:Nat) (s:St) (K:AV→St→Prop) (hk:go (K (.tup []) (s.set o (obS (HU l n))))):go (upO o (.int .i64 n) (.bool true) (some (obS l)) s K):=by
 rw [obS,Rm,Lh]
 by_cases h:n∈l
 ·rw [if_pos h,Pv,Nat.zero_add,J5 n l 0 h]
  rw [HU,if_pos h]at hk
  exact hk
 ·rw [if_neg h,Pu]
  rw [HU,if_neg h,obS,← J6,Nat.zero_add,List.length_append]at hk
  exact hk
theorem Fp:∀ (l:List Int) (i:Nat) (e:Nat × AV × AV),e∈BP i l→∃ j,j < l.length∧e=(i+j,.int .i64 (l.getD j 0),.bool true)
 | [],i,e,h=>by simp [BP]at h
 | a::r,i,e,h=>by
  simp only [BP,List.mem_cons]at h
  rcases h with rfl | h
  ·exact⟨0,by simp,by simp⟩
  ·obtain⟨j,hj,rfl⟩:=Fp r (i+1) e h
   exact⟨j+1,by simpa using hj,by simp;omega⟩
theorem Dy:∀ (l:List Int) (i j:Nat),j < l.length→((BP i l).find? fun e=>e.1 == i+j)=some (i+j,.int .i64 (l.getD j 0),.bool true)
 | [],i,j,h=>by simp at h
 | a::r,i,0,h=>by simp [BP]
 | a::r,i,j+1,h=>by
  have:=Dy r (i+1) j (by simpa using h)
  have e1:i+1+j=i+(j+1):=by omega
  rw [e1]at this
  have e2:¬ i=i+(j+1):=by omega
  simp only [BP,List.find?_cons]
  have e3:(i == i+(j+1))=false:=by simp
  rw [e3,this]
  simp
theorem Ik [Glob]:∀ (l:List Int) (i j:Nat),j < l.length→(i+j,AV.int .i64 (l.getD j 0),AV.bool true)∈BP i l:=fun l i j h=>List.mem_of_find?_eq_some (Dy l i j h)
theorem LL {a b:List Int} (h:a.Perm b):BX a=BX b:=by
 have h1:(BX a).Perm (BX b):=(List.mergeSort_perm a _).trans (h.trans (List.mergeSort_perm b _).symm)
 refine List.Perm.eq_of_pairwise (le:=fun x y=>x≤y) (fun x y _ _ h1 h2=>Int.le_antisymm h1 h2) ?_ ?_ h1
 ·exact(List.pairwise_mergeSort (le:=fun x y:Int=>decide (x≤y)) (fun a b c h1 h2=>by simp at *;omega) (fun a b=>by simp;omega) a).imp (by simp)
 ·exact(List.pairwise_mergeSort (le:=fun x y:Int=>decide (x≤y)) (fun a b c h1 h2=>by simp at *;omega) (fun a b=>by simp;omega) b).imp (by simp)
theorem JW (l:List Int) (seen:List Nat) (hnd:seen.Nodup) (hlt:∀ j∈seen,j < l.length) (hall:∀ j,j < l.length→j∈seen):(seen.map fun j=>l.getD j 0).Perm l:=by
 have h1:seen.Perm (List.range l.length):=by
  rw [List.perm_ext_iff_of_nodup hnd List.nodup_range]
  intro j
  rw [List.mem_range]
  exact⟨hlt j,hall j⟩
 have h2:(List.range l.length).map (fun j=>l.getD j 0)=l:=by
  apply List.ext_getElem
  ·simp
  ·intro i h1 h2;simp [h2]
 have:=h1.map fun j=>l.getD j 0
 rw [h2]at this
 exact this
theorem ED {seen:List Nat} {n:Nat} (hnd:seen.Nodup) (hlt:∀ j∈seen,j < n):seen.length≤n:=by
 have h:seen.Perm ((List.range n).filter fun j=>decide (j∈seen)):=by
  rw [List.perm_ext_iff_of_nodup hnd (List.nodup_range.filter _)]
  intro j
  simp only [List.mem_filter,List.mem_range,decide_eq_true_eq]
  exact⟨fun h=>⟨hlt j h,h⟩,fun h=>h.2⟩
 have h1:=h.length_eq
 have h2:=List.length_filter_le (fun j=>decide (j∈seen)) (List.range n)
 simp only [List.length_range]at h2
 omega
theorem Rep.AIf {ι:Nat→Option Nat} {F:Nat→Nat→Prop} {w:World} {v:Value} (h:Rep ι F w v (.list 0 .full [])) (sz o:Nat):Rep ι F w v (.Ag sz o 0 0):=by
 generalize hx:AV.list 0 .full []=x at h
 cases h <;> try (cases hx;done)
 rename_i cs hlen hcap hsz ht hnone hc hr
 injection hx with e1 e2 e3
 subst e1 e2 e3
 cases hlen
 cases ht
 exact .FN
theorem AEl [Glob] {ι:Nat→Option Nat} {S:AX} {w:World} {o:Nat} {cs cs':List AV} (hwf:WF ι S w) (ho:S o=some (.box cs)) (hr:∀ b,ι o=some b→C1 ι (AZ ι S) w b (.box cs)→C1 ι (AZ ι S) w b (.box cs')) :
  Step ι S w ι (Au S o (.box cs')) w∧WF ι (Au S o (.box cs')) w:=by
 have hf:∀ b off,AZ ι (Au S o (.box cs')) b off→AZ ι S b off:=by
  rintro b off ⟨q,ob,h1,h2,h3⟩
  unfold Au at h1
  split at h1
  ·rename_i e;subst e;exact⟨q,_,ho,h2,trivial⟩
  ·exact⟨q,ob,h1,h2,h3⟩
 have hst:Step ι S w ι (Au S o (.box cs')) w:=by
  refine grow_step (Nat.le_refl _) rfl rfl rfl (fun _ _=>rfl) (fun _ _ h=>h) (fun b off _ h=>hf b off h) ?_
  rintro b hb ⟨q,ob,h1,h2⟩
  unfold Au at h1
  split at h1
  ·rename_i e;subst e;exact⟨q,_,ho,h2⟩
  ·exact⟨q,ob,h1,h2⟩
 refine⟨hst,hwf.Ct hst hwf.blt ?_ ?_⟩
 ·intro q q' ob ob' b h1 h2 h3 h4
  unfold Au at h1 h2
  by_cases e:q=o <;> by_cases e':q'=o <;> simp only [e,e',if_true,if_false]at h1 h2 h3 h4 ⊢
  ·exact hwf.inj o q' _ ob' b ho h2 h3 h4
  ·exact e (hwf.inj q o ob _ b h1 ho h3 h4)
  ·exact hwf.inj q q' ob ob' b h1 h2 h3 h4
 ·intro q ob b h1 h2
  unfold Au at h1
  split at h1
  ·rename_i e
   subst e
   cases h1
   refine .inr ?_
   obtain⟨vs,e,k1,k2,k3,k4⟩:=hr b h2 (hwf.rep _ _ b ho h2)
   exact⟨vs,e,k1,k2,fun j v x hv hx=>(k3 j v x hv hx).step hst,k4⟩
  ·exact .inl ⟨h1,h2,rfl⟩
section
variable {f:FuncId} {args:List AV} {s:St} {K:AV→St→Prop}
theorem AB.AIg [Glob] (ob:Ax) (h:AB P f args (s.new ob) K):AB P f args s K:=by
 refine⟨h.1,fun ι w vs h1 h2 h3=>?_⟩
 have hn:ι s.nx=none:=by
  cases e:ι s.nx with
  | none=>rfl
  | some b=>exact absurd (h2.ilt _ b e) (by omega)
 have hst:=CM hn s.m w ob
 have hb:Bnd ι (s.new ob).m (s.new ob).nx:=by
  refine⟨fun q o hq=>?_,fun q b hq=>Nat.lt_succ_of_lt (h2.ilt q b hq)⟩
  by_cases e:q=s.nx
  ·subst e;exact Nat.lt_succ_self _
  ·rw [St.B0 _ _ _ e]at hq;exact Nat.lt_succ_of_lt (h2.lt q o hq)
 refine Calls.mono (h.2 ι w vs (h1.HC hn ob) hb ⟨h3.1,fun j v x hv hx=>(h3.2 j v x hv hx).step hst⟩) ?_
 rintro e w' ⟨v,r,s',ι',k1,k2,k3,k4,k5,k6,k7⟩
 exact⟨v,r,s',ι',k1,hst.trans k2,k3,k4,⟨Nat.le_trans (Nat.le_succ _) k5.1,fun q b hq hlt=>k5.2 q b hq (Nat.lt_succ_of_lt hlt)⟩,k6,k7⟩
theorem AB.ADF [Glob] {o:Nat} (sz:Nat) (ho:s.m o=some (.box [.list 0 .full []])) (h:AB P f args ((s.new (.box [])).set o (.box [.Ag sz s.nx 0 0])) K):AB P f args s K:=by
 refine AB.bnd h.1 fun hb0=>AB.AIg (.box []) ⟨h.1,fun ι w vs h1 h2 h3=>?_⟩
 have hon:o≠s.nx:=by have:=hb0 o _ ho;omega
 have ho':(s.new (.box [])).m o=some (.box [.list 0 .full []]):=by rw [St.B0 _ _ _ hon];exact ho
 obtain⟨hst,hwf⟩:=AEl (cs':=[.Ag sz s.nx 0 0]) h1 ho' fun b hob ⟨vs,e,k1,k2,k3,k4⟩=>⟨vs,e,k1,k2,fun j v x hv hx=>by
  cases j with
  | zero =>
   simp only [List.getElem?_cons_zero,Option.some.injEq]at hx
   subst hx
   exact(k3 0 v _ hv rfl).AIf _ _
  | succ j=>simp at hx,k4⟩
 have hb:Bnd ι ((s.new (.box [])).set o (.box [.Ag sz s.nx 0 0])).m (s.new (.box [])).nx:=by
  refine⟨fun q ob hq=>?_,h2.ilt⟩
  by_cases e:q=o
  ·subst e;exact h2.lt _ _ ho'
  ·rw [St.Bq _ _ _ _ e]at hq;exact h2.lt q ob hq
 refine Calls.mono (h.2 ι w vs hwf hb ⟨h3.1,fun j v x hv hx=>(h3.2 j v x hv hx).step hst⟩) ?_
 rintro e w' ⟨v,r,s',ι',k1,k2,k3,k4,k5,k6,k7⟩
 exact⟨v,r,s',ι',k1,hst.trans k2,k3,k4,k5,k6,k7⟩
theorem AB.Vn [Glob] {i:Nat} (sz:Nat) (hi:args[i]?=some (.list 0 .full [])) (h:AB P f (args.set i (.Ag sz s.nx 0 0)) (s.new (.box [])) K):AB P f args s K:=by
 refine AB.AIg (.box []) ⟨h.1,fun ι w vs h1 h2 h3=>h.2 ι w vs h1 h2 ⟨by simpa using h3.1,fun j v x hv hx=>?_⟩⟩
 by_cases e:i=j
 ·subst e
  have hj:i < args.length:=(List.getElem?_eq_some_iff.1 hi).1
  simp [hj]at hx
  subst hx
  exact(h3.2 i v _ hv hi).AIf _ _
 ·rw [List.getElem?_set_ne e]at hx
  exact h3.2 j v x hv hx
end
theorem Si (l:List Int):flat (Af l)=Af l:=by
 induction l with
 | nil=>rfl
 | cons a r ih=>simp [Af]at ih ⊢;exact ih
theorem Mg {l:List Int} {i:Nat} {n:Int} (h:l[i]?=some n):(Af l)[i]?=some (.int .i64 n):=by simp [Af,h]
@[simp] theorem Zd (l:List Int):(Af l).length=l.length:=by simp [Af]
theorem GQ {l:List Int} (h:l.Nodup) (n:Int):(HU l n).Nodup:=by
 unfold HU
 by_cases hm:n∈l
 ·rw [if_pos hm];exact h
 ·rw [if_neg hm,List.nodup_append]
  refine⟨h,by simp,fun a ha b hb=>?_⟩
  simp at hb;subst hb
  exact fun e=>hm (e ▸ ha)
theorem XS (l:List Int) (n:Int):(HU l n).length≤l.length+1:=by
 unfold HU
 by_cases hm:n∈l
 ·rw [if_pos hm];omega
 ·rw [if_neg hm];simp
theorem Io {l:List Int} {n k:Int}:k∈HU l n↔k∈l∨k=n:=by
 unfold HU
 by_cases hm:n∈l
 ·rw [if_pos hm];exact⟨.inl,fun h=>h.elim id fun e=>e ▸ hm⟩
 ·rw [if_neg hm];simp
def FU (l ns:List Int):List Int:=ns.foldl HU l
@[simp] theorem AIh (l:List Int):FU l []=l:=rfl
theorem XT (l:List Int) (n:Int):FU l [n]=HU l n:=rfl
theorem P1 (l a b:List Int):FU l (a++b)=FU (FU l a) b:=by simp [FU]
theorem LK [Glob]:∀ (ns:List Int) {l:List Int} (_:l.Nodup),(FU l ns).Nodup
 | [],l,h=>h
 | n::ns,l,h=>by simp only [FU,List.foldl_cons];exact LK ns (GQ h n)
theorem Pa [Glob]:∀ (ns:List Int) (l:List Int),(FU l ns).length≤l.length+ns.length
 | [],l=>by simp
 | n::ns,l=>by
  have:=Pa ns (HU l n)
  have:=XS l n
  simp only [FU,List.foldl_cons,List.length_cons]at *
  omega
theorem PZ [Glob] {k:Int}:∀ (ns:List Int) {l:List Int},k∈FU l ns↔k∈l∨k∈ns
 | [],l=>by simp
 | n::ns,l=>by
  have:=PZ ns (l:=HU l n) (k:=k)
  simp only [FU,List.foldl_cons]at *
  rw [this,Io,List.mem_cons,or_assoc]
theorem KM [Glob] {f:FuncId} {args:List AV} {s:St} {K:AV→St→Prop} (h:AB P f args s fun r s'=>∃ sz o len xs,r=.Ag sz o 0 len∧s'.m o=some (.box (flat xs))∧(∀ x∈xs,x.cells.length=sz)∧xs.length=len ∧
  K (.list sz .none xs) (s'.del o)):AB P f args s K:=by
 refine⟨h.1,fun ι w ws h1 h2 h3=>Calls.mono (h.2 ι w ws h1 h2 h3) ?_⟩
 rintro e w' ⟨v,r,s',ι',k1,k2,k3,k4,k5,k6,sz,o,len,xs,rfl,ho,hsz,hlen,hk⟩
 have hst:Step ι' s'.m w' ι' (s'.del o).m w':=BG s'.m (CO s'.m o) (Ap s'.m o) ι' w'
 exact⟨v,_,_,ι',k1,k2.trans hst,k3.drop (Ap s'.m o),⟨fun q ob hq=>k4.lt q ob (Ap s'.m o q ob hq),k4.ilt⟩,k5,k6.freeze k3 ho hsz hlen,hk⟩
end Go.AL
namespace Go.AL.Dm
open Go Go.Proofs
theorem G4:∀ (l:List (Hd × Pl)) (pre:List Hd),As pre l=true→∀ a∈l,a.1.op=2→0≤a.1.n∧a.1.n≤12
 | [],_,_,a,ha,_=>by simp at ha
 | b::r,pre,h,a,ha,h2=>by
  rw [As,Bool.and_eq_true]at h
  obtain⟨h1,h3⟩:=h
  rcases List.mem_cons.1 ha with rfl | ha
  ·rw [Aq,if_neg (by omega),if_pos h2]at h1
   simp at h1
   exact h1.2
  ·split at h3
   ·exact G4 r pre h3 a ha h2
   ·rw [Bool.and_eq_true]at h3
    exact G4 r _ h3.2 a ha h2
structure Nd (t:Pl):Prop where
 var:t.op=1→0≤t.n∧t.args=[]∧t.alts=[]
 lam:t.op=5→1≤t.n∧t.n≤8∧t.args.length=1
 app:t.op=6→2≤t.args.length∧t.args.length≤9
 lt:t.op=7→2≤t.args.length∧t.args.length≤13
 cas:t.op=8→t.args.length=1∧1≤t.alts.length∧t.alts.length≤40
 len:t.args.length≤13
 GJ:t.op≠8→t.alts=[]
 hd:∀ a∈t.alts,a.1.op=2→0≤a.1.n∧a.1.n≤12
 prm:t.op=9→∃ k,arI t.s=some k∧(t.args.length:Int)=k
 op:1≤t.op∧t.op≤9
theorem Ze {s:ByteArray} {k:Int} (h:arI s=some k):0≤k∧k≤2:=by
 unfold arI at h
 split at h
 ·cases h
 ·have hm:k∈ars:=List.mem_of_getElem? h
  simp [ars]at hm
  omega
theorem AIi {t:Pl} (h:BI t=true):Nd t:=by
 simp only [BI,Bool.and_eq_true,Bool.not_eq_true',Bool.and_eq_false_iff,decide_eq_false_iff_not,decide_eq_true_eq]at h
 obtain⟨⟨⟨h1,h2⟩,h3⟩,h4⟩:=h
 have hna:t.op≠8→t.alts=[]:=fun h8=>by
  rcases h1 with h1 | h1
  ·exact absurd h8 h1
  ·exact List.eq_nil_of_length_eq_zero (by omega)
 unfold BW at h4
 refine⟨fun e=>?_,fun e=>?_,fun e=>?_,fun e=>?_,fun e=>?_,?_,hna,?_,fun e=>?_,?_⟩
 ·rw [if_pos e]at h4
  simp at h4
  exact⟨h4.1,h4.2,hna (by omega)⟩
 ·simp [e]at h4
  omega
 ·simp [e]at h4
  omega
 ·simp [e]at h4
  omega
 ·simp [e]at h4
  omega
 ·by_cases e9:t.op=9
  ·simp [e9]at h4
   cases ha:arI t.s with
   | none=>simp [ha]at h4
   | some k=>simp [ha]at h4;have:=Ze ha;omega
  repeat' split at h4
  all_goals (try (simp at h4;omega))
  all_goals simp at h4
  all_goals (try simp [h4])
 ·intro a ha
  by_cases e:t.op=8
  ·simp [e]at h4
   exact G4 _ _ h4.2.2 a ha
  ·rw [hna e]at ha;simp at ha
 ·simp [e]at h4
  cases ha:arI t.s with
  | none=>simp [ha]at h4
  | some k=>simp [ha]at h4;exact⟨k,rfl,h4⟩
 ·repeat' split at h4
  all_goals (first | omega | (simp at h4))
theorem TA:∀ {l:List Pl},wfs l=true→∀ x∈l,wf x=true
 | [],_,x,hx=>by simp at hx
 | y::l,h,x,hx=>by
  rw [wfs,Bool.and_eq_true]at h
  rcases List.mem_cons.1 hx with rfl | hx
  ·exact h.1
  ·exact TA h.2 x hx
theorem TB:∀ {l:List (Hd × Pl)},wfa l=true→∀ x∈l,wf x.2=true
 | [],_,x,hx=>by simp at hx
 | (hh,y)::l,h,x,hx=>by
  rw [wfa,Bool.and_eq_true]at h
  rcases List.mem_cons.1 hx with rfl | hx
  ·exact h.1
  ·exact TB h.2 x hx
theorem A5 {t:Pl} (h:wf t=true):Nd t∧(∀ x∈t.args,wf x=true)∧(∀ a∈t.alts,wf a.2=true):=by
 rw [LD,Bool.and_eq_true,Bool.and_eq_true]at h
 exact⟨AIi h.1.1,TA h.1.2,TB h.2⟩
theorem OH:∀ {l:List Pl} {x:Pl},x∈l→sz x≤szs l
 | y::l,x,hx=>by
  have h2:=By l fun x _=>Al x
  have h3:=Al y
  rcases List.mem_cons.1 hx with rfl | hx
  ·simp only [szs];omega
  ·have:=OH hx;simp only [szs];omega
theorem TC:∀ {l:List (Hd × Pl)} {x:Hd × Pl},x∈l→1+sz x.2≤sza l
 | (hh,y)::l,x,hx=>by
  have h2:=Bg l fun x _=>Al x.2
  have h3:=Al y
  rcases List.mem_cons.1 hx with rfl | hx
  ·simp only [sza];omega
  ·have:=TC hx;simp only [sza];omega
theorem TD:∀ {l:List Pl} {x:Pl},x∈l→dw x≤dws l
 | y::l,x,hx=>by
  rcases List.mem_cons.1 hx with rfl | hx
  ·simp only [dws];omega
  ·have:=TD hx;simp only [dws];omega
theorem TE:∀ {l:List (Hd × Pl)} {x:Hd × Pl},x∈l→1+dw x.2≤dwa l
 | (hh,y)::l,x,hx=>by
  rcases List.mem_cons.1 hx with rfl | hx
  ·simp only [dwa];omega
  ·have:=TE hx;simp only [dwa];omega
theorem Du {t x:Pl} (h:x∈t.args):sz x < sz t∧dw x < dw t:=by
 have h1:=OH h
 have h2:=TD h
 have h3:=Bg t.alts fun x _=>Al x.2
 rw [Ew t,Fk t];omega
theorem GK {t:Pl} {x:Hd × Pl} (h:x∈t.alts):sz x.2+1 < sz t∧dw x.2+1 < dw t:=by
 have h1:=TC h
 have h2:=TE h
 have h3:=By t.args fun x _=>Al x
 rw [Ew t,Fk t];omega
theorem BS {t x:Pl} (h:small t) (hx:x∈t.args):small x:=by have:=Du hx;have:=h.1;have:=h.2;exact⟨by omega,by omega⟩
theorem Eg {t:Pl} {a:Hd × Pl} (h:small t) (hx:a∈t.alts):small a.2:=by have:=GK hx;have:=h.1;have:=h.2;exact⟨by omega,by omega⟩
theorem Nd.inn {t:Pl} (h:Nd t):0≤inn t∧inn t≤12:=by
 unfold Dm.inn
 split
 ·rename_i e;have:=h.lam e;omega
 ·split
  ·rename_i e;have:=h.lt e;omega
  ·omega
theorem Nd.bnd {t:Pl} (h:Nd t) {a:Hd × Pl} (ha:a∈t.alts):1≤bnd a.1∧bnd a.1≤13:=by
 unfold Dm.bnd
 split
 ·rename_i e;have:=h.hd a ha e;omega
 ·omega
theorem HN {t:Pl} {p:Int × Pl} (h:p∈parts t):(p.1=inn t∧p.2∈t.args)∨∃ a∈t.alts,p=(bnd a.1,a.2):=by
 simp only [parts,List.mem_append,List.mem_map]at h
 rcases h with ⟨x,hx,rfl⟩ | ⟨a,ha,rfl⟩
 ·exact .inl ⟨rfl,hx⟩
 ·exact .inr ⟨a,ha,rfl⟩
theorem LM {t:Pl} (h:wf t=true) (hs:small t) {p:Int × Pl} (hp:p∈parts t):wf p.2=true∧small p.2∧0≤p.1∧p.1≤13∧sz p.2 < sz t∧dw p.2 < dw t:=by
 obtain⟨h1,h2,h3⟩:=A5 h
 rcases HN hp with ⟨e,hx⟩ | ⟨a,ha,rfl⟩
 ·have:=Du hx
  have:=h1.inn
  exact⟨h2 _ hx,BS hs hx,by omega,by omega,by omega,by omega⟩
 ·have:=GK ha
  have:=h1.bnd ha
  exact⟨h3 _ ha,Eg hs ha,by simp only;omega,by simp only;omega,by simp only;omega,by simp only;omega⟩
theorem HH {C:Pl→Prop} (h:∀ t,(∀ p∈parts t,C p.2)→C t) (t:Pl):C t:=by
 induction t using Pl.ind with
 | h t ih1 ih2 =>
  refine h t fun p hp=>?_
  rcases HN hp with ⟨e,hx⟩ | ⟨a,ha,rfl⟩
  ·exact ih1 _ hx
  ·exact ih2 a ha
theorem XU {l:List (Int × Pl)} {i:Nat} (h:i < l.length) (u:Int):fvp (l.take (i+1)) u=fvp (l.take i) u++fv l[i].2 (u+l[i].1):=by
 rw [List.take_succ_eq_append_getElem h,H5]
 simp [fvp]
def i64 (n:Int):Prop:=-9223372036854775808≤n∧n≤9223372036854775807
mutual
def rng:Pl→Prop
 | .mk op n s args alts=>i64 op∧i64 n∧OI args∧OJ alts
def OI:List Pl→Prop
 | []=>True
 | t::ts=>rng t∧OI ts
def OJ:List (Hd × Pl)→Prop
 | []=>True
 | (h,b)::ts=>(i64 h.op∧i64 h.n∧rng b)∧OJ ts
end
theorem Li:∀ (l:List Pl),OI l↔∀ x∈l,rng x
 | []=>by simp [OI]
 | y::l=>by simp [OI,Li l]
theorem P2:∀ (l:List (Hd × Pl)),OJ l↔∀ x∈l,i64 x.1.op∧i64 x.1.n∧rng x.2
 | []=>by simp [OJ]
 | (hh,y)::l=>by simp [OJ,P2 l]
theorem Cc (t:Pl):rng t↔i64 t.op∧i64 t.n∧(∀ x∈t.args,rng x)∧∀ a∈t.alts,i64 a.1.op∧i64 a.1.n∧rng a.2:=by
 cases t;rw [rng,Li,P2];rfl
theorem XV {t:Pl} (h:rng t) {p:Int × Pl} (hp:p∈parts t):rng p.2:=by
 rw [Cc]at h
 rcases HN hp with ⟨e,hx⟩ | ⟨a,ha,rfl⟩
 ·exact h.2.2.1 _ hx
 ·exact(h.2.2.2 a ha).2.2
def AKd (t:Pl):Prop:=∀ (u:Int) (l:List Int) (o:Nat) (s:St) (K:AV→St→Prop),wf t=true→small t→rng t→0≤u→u+13 * dw t≤100000→s.m o=some (obS l)→o < s.nx →
 (∀ m,s.nx≤m→K (.tup []) ((s.set o (obS (FU l (fv t u)))).bump m))→AB Tryz.prog 144 [.map o,t.av,.int .i64 u] s K
def AKe (t:Pl) (o:Nat) (u:Int) (l:List Int) (lo:Nat) (E:Env) (ca cb:Code) (s:St) (i:Nat) (s':St):Prop :=
 s'.m lo=some (.loop 0 none E [22,23] 30 ca cb)∧s'.m o=some (obS (FU l (fvp ((parts t).take i) u)))∧s'.m s.nx=some (.box [.map o])∧s'.m (s.nx+1+1)=some (.box [.int .i64 u])∧Ao s o s'∧lo < s'.nx
theorem AJq (t:Pl):AKd t:=by
 induction t using HH with
 | h t ih =>
 intro u l o s K hw hsm hr hu hu2 ho hon hK
 refine AB.upd (r:=.tup []) (ob:=obS (FU l (fv t u))) hon (AD mixed Tryz.func144 Tryz.call144 k144.2 rfl (AE _ _ _ _ ?_)) hK
 obtain⟨hnd,hwa,hwb⟩:=A5 hw
 have hr':=(Cc t).1 hr
 by_cases o1:t.op=1
 ·have hn:=(hnd.var o1).1
  have h64:=hr'.2.1
  unfold i64 at h64
  have hdw:=BA t
  have w1:IntKind.i64.wrap (t.n - u)=t.n - u:=wrap64 (by omega) (by omega)
  rw [IW,if_pos o1]
  simp -implicitDefEqProofs (disch:=first|omega|simp only[nx4]<;>omega|fail) [k144,o1,w1]
  refine⟨fun h=>?_,fun h=>?_⟩
  ·rw [if_pos h]
   rw [ho]
   refine N4 _ _ _ _ _ ?_
   simp -implicitDefEqProofs (disch:=first|omega|simp only[nx4]<;>omega|fail) [XT]
   exact AS _
  ·rw [if_neg (by omega)]
   simp -implicitDefEqProofs (disch:=first|omega|simp only[nx4]<;>omega|fail) [ho]
   exact AS _
 ·simp -implicitDefEqProofs (disch:=first|omega|simp only[nx4]<;>omega|fail) [k144,o1]
  refine AA (AC7 t) fun mm1 hm1=>?_
  try simp only [nx4]at hm1
  simp -implicitDefEqProofs (disch:=first|omega|simp only[nx4]<;>omega|fail) []
  refine Gx rfl fun ca cb hY=>?_
  simp -implicitDefEqProofs (disch:=first|omega|simp only[nx4]<;>omega|fail)at hY ⊢
  have hpl:(parts t).length≤100:=by
   rw [Dx]
   have:=hnd.len
   by_cases o8:t.op=8
   ·have:=hnd.cas o8;omega
   ·rw [hnd.GJ o8];simp;omega
  generalize hE:[(3,AV.ptr s.nx 0),(5,AV.ptr (s.nx+1+1) 0),(6,AV.any),(7,AV.any),(22,AV.any),(23,AV.any)]=E at hY ⊢
  have hpl2:=hpl
  rw [Dx]at hpl2
  rw [← Pl.Am t]
  refine AB.mono (AC8 t (by omega) (by omega) (fun a ha h2=>by have:=hnd.hd a ha h2;omega) mm1 (AKe t o u l mm1 E ca cb s) (fun _=>False) ?_ ?_ _ ?_) fun _ s' hn' hJ=>?_
  ·rintro i s1 s2 ⟨j1,j2,j3,j4,j5,j6⟩ h1 h2
   exact⟨(h1 _ j6).trans j1,(h1 _ (by omega)).trans j2,(h1 _ (by omega)).trans j3,(h1 _ (by omega)).trans j4,fun q hq hq2=>(h1 q (by omega)).trans (j5 q hq hq2),by omega⟩
  ·rintro i hi s1 ⟨j1,j2,j3,j4,j5,j6⟩
   have hp:=LM hw hsm (List.getElem_mem hi)
   have hrp:=XV hr (List.getElem_mem hi)
   have ihp:=ih _ (List.getElem_mem hi)
   generalize hx:(parts t)[i]=p at hp hrp ihp ⊢
   obtain⟨q1,q2,q3,q4,q5,q6⟩:=hp
   have w2:IntKind.i64.wrap (u+p.1)=u+p.1:=wrap64 (by have:=BA t;omega) (by have:=BA t;omega)
   refine LN hY j1 rfl ?_
   subst hE
   simp -implicitDefEqProofs (disch:=first|omega|simp only[nx4]<;>omega|fail) [j1,j2,j3,j4,w2]
   refine AH (ihp (u+p.1) (FU l (fvp ((parts t).take i) u)) o _ _ q1 q2 hrp (by omega) (by omega) (by simp -implicitDefEqProofs (disch:=first|omega|simp only[nx4]<;>omega|fail) [j2]) soz fun m hm=>AW ?_)
   simp only [nx4]at hm
   simp -implicitDefEqProofs (disch:=first|omega|simp only[nx4]<;>omega|fail) [j1]
   refine⟨?_,?_,?_,?_,?_,?_⟩
   ·exact smz
   ·simp -implicitDefEqProofs (disch:=first|omega|simp only[nx4]<;>omega|fail) [XU hi,hx,P1]
   ·simp -implicitDefEqProofs (disch:=first|omega|simp only[nx4]<;>omega|fail) [j3]
   ·simp -implicitDefEqProofs (disch:=first|omega|simp only[nx4]<;>omega|fail) [j4]
   ·simp -implicitDefEqProofs (disch:=first|omega|simp only[nx4]<;>omega|fail) [j5]
   ·simp -implicitDefEqProofs (disch:=first|omega|simp only[nx4]<;>omega|fail)
    omega
  ·refine⟨?_,?_,?_,?_,?_,?_⟩
   ·exact smz
   ·simp -implicitDefEqProofs (disch:=first|omega|simp only[nx4]<;>omega|fail) [fvp,ho]
   ·exact smz
   ·exact smz
   ·exact smz
   ·exact smz
  ·rcases hJ with ⟨j1,j2,j3,j4,j5,j6⟩ | h
   ·refine Ez j1 (by omega) ?_
    simp -implicitDefEqProofs (disch:=first|omega|simp only[nx4]<;>omega|fail)
    refine⟨AS _,?_,?_⟩
    ·rw [j2,List.take_length,XR t u o1]
    ·simp -implicitDefEqProofs (disch:=first|omega|simp only[nx4]<;>omega|fail) [j5]
   ·exact h.elim
end Go.AL.Dm
set_option maxRecDepth 100000
namespace Go.AL.Dm
open Go Go.Proofs Go.ChangeShapes Go.WideShapes Go.ChangeAt Go.RowKit
theorem own:ownKnob Tryz.prog.godebug=none:=by kernel_rfl
theorem laidOut:laidOutB Tryz.prog=true:=by kernel_rfl
theorem Iz:Tryz.prog.cellsOf 27=5:=by kernel_rfl
theorem P3:Tryz.prog.cellsOf 114=8:=by kernel_rfl
theorem TF:Tryz.prog.cellsOf 40=6:=by kernel_rfl
theorem H6:Tryz.prog.cellsOf 3=1:=by kernel_rfl
theorem Rt:Tryz.prog.cellsOf 9=1:=by kernel_rfl
theorem Zf:Tryz.prog.cellsOf 23=1:=by kernel_rfl
theorem Zg:Tryz.prog.cellsOf 25=1:=by kernel_rfl
theorem Zh {l:List Pl} (h:∀ x∈l,rng x):OI l:=(Li l).2 h
theorem TG:∀ {l:List (Hd × Pl)},(∀ x∈l,i64 x.1.op∧i64 x.1.n∧rng x.2)→OJ l
 | [],_=>trivial
 | (h0,b)::l,h=>⟨h (h0,b) (by simp),TG fun x hx=>h x (by simp [hx])⟩
section
variable {H:Type} {enc:TypeId × Value→H} {w:World}
theorem OK {n:Int} (hw:Lit.wf (.int .i64 n)=true):i64 n:=by simpa [i64,Lit.wf,IntKind.min,IntKind.max,IntKind.signed,IntKind.bits] using hw
theorem OL (n:Nat):(∀ cs x,DataW.trod enc Tryz.prog w 0 (fun _=>true) true n 27 cs=some x→∃ t:Pl,Cells w cs t.av.cells∧rng t) ∧
  (∀ cs x,DataW.trod enc Tryz.prog w 0 (fun _=>true) true n 114 cs=some x→∃ a:Hd × Pl,Cells w cs (Pl.BK a).cells∧i64 a.1.op∧i64 a.1.n∧rng a.2):=by
 induction n using Nat.strongRecOn with
 | _ n ih =>
  refine⟨fun cs x h=>?_,fun cs x h=>?_⟩
  ·obtain⟨xs,m,rfl,rfl,hl,hxl,hf⟩:=DataW.trod_struct Tryz.underlying27 h
   rw [Iz]at hl
   match cs,hl with
   | [c0,c1,c2,c3,c4],_ =>
    have h0:DataW.trod enc Tryz.prog w 0 (fun _=>true) true m 3 (([c0,c1,c2,c3,c4].drop 0).take (Tryz.prog.cellsOf 3))=xs[0]?:=hf 0 _ rfl
    rw [H6]at h0
    have h1:DataW.trod enc Tryz.prog w 0 (fun _=>true) true m 3 (([c0,c1,c2,c3,c4].drop 1).take (Tryz.prog.cellsOf 3))=xs[1]?:=hf 1 _ rfl
    rw [H6]at h1
    have h2:DataW.trod enc Tryz.prog w 0 (fun _=>true) true m 9 (([c0,c1,c2,c3,c4].drop 2).take (Tryz.prog.cellsOf 9))=xs[2]?:=hf 2 _ rfl
    rw [Rt]at h2
    have h3:DataW.trod enc Tryz.prog w 0 (fun _=>true) true m 23 (([c0,c1,c2,c3,c4].drop 3).take (Tryz.prog.cellsOf 23))=xs[3]?:=hf 3 _ rfl
    rw [Zf]at h3
    have h4:DataW.trod enc Tryz.prog w 0 (fun _=>true) true m 25 (([c0,c1,c2,c3,c4].drop 4).take (Tryz.prog.cellsOf 25))=xs[4]?:=hf 4 _ rfl
    rw [Zg]at h4
    simp only [List.drop_zero,List.drop_succ_cons,List.take_succ_cons,List.take_zero]at h0 h1 h2 h3 h4
    have hs:∀ i,i < 5→∃ y,xs[i]?=some y:=fun i hi=>⟨_,List.getElem?_eq_getElem (by rw [hxl];exact hi)⟩
    obtain⟨y0,hy0⟩:=hs 0 (by omega)
    obtain⟨y1,hy1⟩:=hs 1 (by omega)
    obtain⟨y2,hy2⟩:=hs 2 (by omega)
    obtain⟨y3,hy3⟩:=hs 3 (by omega)
    obtain⟨y4,hy4⟩:=hs 4 (by omega)
    rw [hy0]at h0
    rw [hy1]at h1
    rw [hy2]at h2
    rw [hy3]at h3
    rw [hy4]at h4
    obtain⟨op,e0,_,w0⟩:=DataW.trod_int Tryz.underlying3 h0
    obtain⟨nn,e1,_,w1⟩:=DataW.trod_int Tryz.underlying3 h1
    obtain⟨s,e2,_,_⟩:=DataW.trod_string Tryz.underlying9 h2
    obtain⟨v,l,e3,k1,k2,_,_,_⟩:=FH (α:={ t:Pl // rng t }) (f:=fun t=>t.1.av.cells) Tryz.underlying23 Iz (by omega) (fun k hk cs y hy=>by
     obtain⟨t,h1,h2⟩:=(ih k (by omega)).1 cs y hy
     exact⟨⟨t,h2⟩,h1⟩) h3
    obtain⟨v',l',e4,k1',k2',_,_,_⟩:=FH (α:={ a:Hd × Pl // i64 a.1.op∧i64 a.1.n∧rng a.2 }) (f:=fun t=>(Pl.BK t.1).cells) Tryz.underlying25 P3 (by omega) (fun k hk cs y hy=>by
     obtain⟨t,h1,h2⟩:=(ih k (by omega)).2 cs y hy
     exact⟨⟨t,h2⟩,h1⟩) h4
    simp only [List.cons.injEq,and_true]at e0 e1 e2 e3 e4
    subst e0 e1 e2 e3 e4
    refine⟨.mk op nn s (l.map (·.1)) (l'.map (·.1)),?_,?_⟩
    ·rw [Pl.Am]
     have k6:=k2 (fun t=>t.1.av) fun _=>rfl
     have k6':=k2' (fun t=>Pl.BK t.1) fun _=>rfl
     have k7:l.map (fun t=>t.1.av)=(l.map (·.1)).map Pl.av:=by rw [List.map_map];rfl
     have k7':l'.map (fun t=>Pl.BK t.1)=(l'.map (·.1)).map Pl.BK:=by rw [List.map_map];rfl
     rw [k7]at k6
     rw [k7']at k6'
     exact .cons rfl (.int _ _) (.cons rfl (.int _ _) (.cons rfl (.str _) (.cons k1 k6 (.cons k1' k6' (.nil w)))))
    ·rw [rng]
     exact⟨OK w0,OK w1,Zh fun x hx=>by obtain⟨y,_,rfl⟩:=List.mem_map.1 hx;exact y.2,TG fun x hx=>by obtain⟨y,_,rfl⟩:=List.mem_map.1 hx;exact y.2⟩
  ·obtain⟨xs,m,rfl,rfl,hl,hxl,hf⟩:=DataW.trod_struct Tryz.underlying114 h
   rw [P3]at hl
   match cs,hl with
   | [c0,c1,c2,c3,c4,c5,c6,c7],_ =>
    have h0:DataW.trod enc Tryz.prog w 0 (fun _=>true) true m 3 (([c0,c1,c2,c3,c4,c5,c6,c7].drop 0).take (Tryz.prog.cellsOf 3))=xs[0]?:=hf 0 _ rfl
    rw [H6]at h0
    have h1:DataW.trod enc Tryz.prog w 0 (fun _=>true) true m 9 (([c0,c1,c2,c3,c4,c5,c6,c7].drop 1).take (Tryz.prog.cellsOf 9))=xs[1]?:=hf 1 _ rfl
    rw [Rt]at h1
    have h2:DataW.trod enc Tryz.prog w 0 (fun _=>true) true m 3 (([c0,c1,c2,c3,c4,c5,c6,c7].drop 2).take (Tryz.prog.cellsOf 3))=xs[2]?:=hf 2 _ rfl
    rw [H6]at h2
    have h3:DataW.trod enc Tryz.prog w 0 (fun _=>true) true m 27 (([c0,c1,c2,c3,c4,c5,c6,c7].drop 3).take (Tryz.prog.cellsOf 27))=xs[3]?:=hf 3 _ rfl
    rw [Iz]at h3
    simp only [List.drop_zero,List.drop_succ_cons,List.take_succ_cons,List.take_zero]at h0 h1 h2 h3
    have hs:∀ i,i < 4→∃ y,xs[i]?=some y:=fun i hi=>⟨_,List.getElem?_eq_getElem (by rw [hxl];exact hi)⟩
    obtain⟨y0,hy0⟩:=hs 0 (by omega)
    obtain⟨y1,hy1⟩:=hs 1 (by omega)
    obtain⟨y2,hy2⟩:=hs 2 (by omega)
    obtain⟨y3,hy3⟩:=hs 3 (by omega)
    rw [hy0]at h0
    rw [hy1]at h1
    rw [hy2]at h2
    rw [hy3]at h3
    obtain⟨op,e0,_,w0⟩:=DataW.trod_int Tryz.underlying3 h0
    obtain⟨s,e1,_,_⟩:=DataW.trod_string Tryz.underlying9 h1
    obtain⟨nn,e2,_,w2⟩:=DataW.trod_int Tryz.underlying3 h2
    obtain⟨t,ht,hrt⟩:=(ih m (by omega)).1 _ _ h3
    simp only [List.cons.injEq,and_true]at e0 e1 e2
    subst e0 e1 e2
    refine⟨(⟨op,s,nn⟩,t),?_,OK w0,OK w2,hrt⟩
    rw [Pl.Am]at ht
    rw [Pl.Ri]
    exact .cons rfl (.int _ _) (.cons rfl (.str _) (.cons rfl (.int _ _) ht))
theorem Zi (n:Nat):∀ cs x,DataW.trod enc Tryz.prog w 0 (fun _=>true) true n 40 cs=some x→∃ g:Gl,Cells w cs g.av.cells∧rng g.body:=by
 intro cs x h
 obtain⟨xs,m,rfl,rfl,hl,hxl,hf⟩:=DataW.trod_struct Tryz.underlying40 h
 rw [TF]at hl
 match cs,hl with
 | [c0,c1,c2,c3,c4,c5],_ =>
  have h0:DataW.trod enc Tryz.prog w 0 (fun _=>true) true m 9 (([c0,c1,c2,c3,c4,c5].drop 0).take (Tryz.prog.cellsOf 9))=xs[0]?:=hf 0 _ rfl
  rw [Rt]at h0
  have h1:DataW.trod enc Tryz.prog w 0 (fun _=>true) true m 27 (([c0,c1,c2,c3,c4,c5].drop 1).take (Tryz.prog.cellsOf 27))=xs[1]?:=hf 1 _ rfl
  rw [Iz]at h1
  simp only [List.drop_zero,List.drop_succ_cons,List.take_succ_cons,List.take_zero]at h0 h1
  have hs:∀ i,i < 2→∃ y,xs[i]?=some y:=fun i hi=>⟨_,List.getElem?_eq_getElem (by rw [hxl];exact hi)⟩
  obtain⟨y0,hy0⟩:=hs 0 (by omega)
  obtain⟨y1,hy1⟩:=hs 1 (by omega)
  rw [hy0]at h0
  rw [hy1]at h1
  obtain⟨s,e0,_,_⟩:=DataW.trod_string Tryz.underlying9 h0
  obtain⟨t,ht,hrt⟩:=(OL m).1 _ _ h1
  simp only [List.cons.injEq,and_true]at e0
  subst e0
  refine⟨⟨s,t⟩,?_,hrt⟩
  rw [Pl.Am]at ht
  rw [Gl.Am]
  exact .cons rfl (.str _) ht
theorem Ue {v:Value} {d:DataW H} {ps:List MemPlace} (h:DataW.Trod enc Tryz.prog w 0 (fun _=>true) true 22 v d ps) {base:Nat} (hval:Value.okWide Tryz.prog w .any base 22 v) :
  ∃ l:List Gl,Rep ι0 F0 w v (.list 6 .none (l.map Gl.av))∧∀ g∈l,rng g.body:=by
 obtain⟨a,len,cap,rfl⟩:=okWide_slice Tryz.underlying22 hval
 obtain⟨n,hn⟩:=h
 obtain⟨v,l,e,k1,k2,_,_,_⟩:=FH (α:={ g:Gl // rng g.body }) (f:=fun g=>g.1.av.cells) Tryz.underlying22 TF (by omega) (fun k hk cs y hy=>by
  obtain⟨t,h1,h2⟩:=Zi k cs y hy
  exact⟨⟨t,h2⟩,h1⟩) hn
 simp [Value.cells]at e
 subst e
 refine⟨l.map (·.1),?_,fun g hg=>by obtain⟨y,_,rfl⟩:=List.mem_map.1 hg;exact y.2⟩
 have:=k2 (fun g=>g.1.av) fun _=>rfl
 rw [List.map_map]
 exact this
end
end Go.AL.Dm
set_option maxRecDepth 100000
namespace Go.AL.Dm
open Go Go.Proofs Go.ChangeShapes Go.WideShapes Go.ChangeAt Go.ChangeMaps Go.WideElems Go.RowKit
section
variable {H:Type} {enc:TypeId × Value→H} {P:Program} {w:World} {sp:Nat→Bool} {held:Bool}
theorem G5 {y:Lit × DataW H}:∀ l:List (Lit × DataW H),y∈l.foldr DataW.insert []↔y∈l
 | []=>by simp
 | a::l=>by rw [List.foldr_cons,mem_insert_iff,G5 l];simp
theorem Zj {k e t:TypeId} (ht:P.underlying t=some (.map k e)) {fuel:Nat} {cs:List Value} {x:DataW H × List MemPlace} (h:DataW.trod enc P w 0 sp held fuel t cs=some x) {D:List (Lit × DataW H)} (hx:x.1=.map D)
  (conv:Lit × DataW H→Value × Value) (hconv:∀ n (en:MapEntry) y,rd P k (elemAt enc P w 0 sp held n e) en=some y→(en.key,en.val)=conv y):∃ bm,cs=[.map (some bm)]∧Rep ι0 F0 w (.map (some bm)) (.Dc (D.map conv)):=by
 rcases open_map ht h with ⟨_,rfl⟩ | ⟨b,es,clock,n,rfl,rfl,hb,_,F,rfl⟩
 ·simp at hx
 ·simp only [DataW.map.injEq]at hx
  subst hx
  have hread:∀ en∈es.toList,(en.key,en.val)=conv (rg P k (elemAt enc P w 0 sp held n e) en):=fun en he=>by
   obtain⟨y,hy⟩:=F.reads en he
   rw [rg_of hy]
   exact hconv n en y hy
  have hout:∀ p∈((es.toList.map (rg P k (elemAt enc P w 0 sp held n e))).foldr DataW.insert []).map conv,∃ (j:Nat) (en:MapEntry),es[j]?=some en∧en.key=p.1∧en.val=p.2:=by
   intro p hp
   obtain⟨y,hy,rfl⟩:=List.mem_map.1 hp
   obtain⟨en,he,rfl⟩:=List.mem_map.1 ((G5 _).1 hy)
   obtain⟨j,hj⟩:=List.getElem?_of_mem he
   have:=hread en he
   exact⟨j,en,by simpa using hj,by rw [← this],by rw [← this]⟩
  obtain⟨_,_,hkeys⟩:=(MapKept.stamped_iff es clock).1 F.stamped
  refine⟨b,rfl,.Dc hb (fun _=>S9 _ _) (fun j en hj=>?_) hout (fun p hp q hq hpq=>?_)⟩
  ·have he:en∈es.toList:=List.mem_of_getElem? (by simpa using hj:es.toList[j]?=some en)
   rw [hread en he]
   exact List.mem_map_of_mem ((G5 _).2 (List.mem_map_of_mem he))
  ·obtain⟨j,en,hj,h1,h2⟩:=hout p hp
   obtain⟨j',en',hj',h1',h2'⟩:=hout q hq
   have hjl:es.toList[j]?=some en:=by simpa using hj
   have hjl':es.toList[j']?=some en':=by simpa using hj'
   have hke:en.key=en'.key:=by rw [h1,h1',hpq]
   have:j=j':=by
    obtain⟨l1,e1⟩:=List.getElem?_eq_some_iff.1 hjl
    obtain⟨l2,e2⟩:=List.getElem?_eq_some_iff.1 hjl'
    rcases Nat.lt_trichotomy j j' with hlt | he | hgt
    ·exact absurd (by rw [e1,e2];exact hke) (List.pairwise_iff_getElem.1 hkeys j j' l1 l2 hlt)
    ·exact he
    ·exact absurd (by rw [e1,e2];exact hke.symm) (List.pairwise_iff_getElem.1 hkeys j' j l2 l1 hgt)
   subst this
   rw [hj]at hj'
   cases hj'
   rw [← h2,← h2']
def vOf:DataW H→Value
 | .lit (.int k n)=>.int k n
 | .lit (.bool b)=>.bool b
 | _=>.nilFunc
def Ug:DataW H→Value
 | .agg ds=>.agg (ds.map vOf).toArray
 | d=>vOf d
def kOf:Lit→Value
 | .int k n=>.int k n
 | .string s=>.string ⟨s.toArray⟩
 | _=>.nilFunc
def cv (y:Lit × DataW H):Value × Value:=(kOf y.1,Ug y.2)
theorem TH {k:TypeId} (hk:P.underlying k=some .string) {v:Value} {l:Lit} (h:keyOf P k v=some l):v=kOf l:=by
 rw [keyOf_string hk]at h
 unfold mapKey at h
 rw [hk]at h
 cases v <;> simp at h
 obtain⟨_,rfl⟩:=h
 rfl
theorem Zk {k:TypeId} {q:IntKind} (hk:P.underlying k=some (.int q)) {v:Value} {l:Lit} (h:keyOf P k v=some l):v=kOf l:=by
 rw [keyOf_int hk]at h
 unfold mapKey at h
 rw [hk]at h
 cases v <;> simp at h
 obtain⟨⟨rfl,_⟩,rfl⟩:=h
 rfl
theorem Zl {e:TypeId} {q:IntKind} (he:P.underlying e=some (.int q)) {n:Nat} {v:Value} {z:DataW H × List MemPlace} (h:elemAt enc P w 0 sp held n e v=some z):v=Ug z.1:=by
 unfold elemAt at h
 split at h
 ·rename_i hf
  obtain⟨m,hc,rfl,_⟩:=DataW.trod_int he h
  cases v <;> simp [Value.cells]at hc
  ·obtain⟨rfl,rfl⟩:=hc;rfl
  ·simp [Value.formed,he]at hf
 ·cases h
theorem XW {e:TypeId} (he:P.underlying e=some .bool) {n:Nat} {v:Value} {z:DataW H × List MemPlace} (h:elemAt enc P w 0 sp held n e v=some z):v=Ug z.1:=by
 unfold elemAt at h
 split at h
 ·rename_i hf
  obtain⟨m,hc,rfl⟩:=DataW.trod_bool he h
  cases v <;> simp [Value.cells]at hc
  ·subst hc;rfl
  ·simp [Value.formed,he]at hf
 ·cases h
theorem AIj {k e:TypeId} {n:Nat} (hk:∀ v l,keyOf P k v=some l→v=kOf l) (hv:∀ v (z:DataW H × List MemPlace),elemAt enc P w 0 sp held n e v=some z→v=Ug z.1) (en:MapEntry) (y:Lit × DataW H) (h:rd P k (elemAt enc P w 0 sp held n e) en=some y):(en.key,en.val)=cv y:=by
 have h1:=rd_key h
 obtain⟨z,h2,h3⟩:=rd_val h
 rw [hk _ _ h1,hv _ _ h2,cv,h3]
end
theorem Ru:Tryz.prog.cellsOf 4=1:=by kernel_rfl
theorem XX:Tryz.prog.cellsOf 167=5:=by kernel_rfl
section
variable {H:Type} {enc:TypeId × Value→H} {w:World} {sp:Nat→Bool} {held:Bool}
theorem Uh {n:Nat} {v:Value} {z:DataW H × List MemPlace} (h:elemAt enc Tryz.prog w 0 sp held n 167 v=some z):v=Ug z.1:=by
 unfold elemAt at h
 split at h
 ·rename_i hf
  cases v <;> simp [Value.formed,Tryz.underlying167]at hf
  rename_i vs
  obtain⟨xs,m,rfl,rfl,hl,hxl,hfl⟩:=DataW.trod_struct Tryz.underlying167 h
  obtain⟨cs⟩:=vs
  simp only [Value.cells]at hl hfl
  rw [XX]at hl
  match cs,hl with
  | [c0,c1,c2,c3,c4],_ =>
   have h0:DataW.trod enc Tryz.prog w 0 sp held m 3 (([c0,c1,c2,c3,c4].drop 0).take (Tryz.prog.cellsOf 3))=xs[0]?:=hfl 0 _ rfl
   rw [H6]at h0
   have h1:DataW.trod enc Tryz.prog w 0 sp held m 3 (([c0,c1,c2,c3,c4].drop 1).take (Tryz.prog.cellsOf 3))=xs[1]?:=hfl 1 _ rfl
   rw [H6]at h1
   have h2:DataW.trod enc Tryz.prog w 0 sp held m 4 (([c0,c1,c2,c3,c4].drop 2).take (Tryz.prog.cellsOf 4))=xs[2]?:=hfl 2 _ rfl
   rw [Ru]at h2
   have h3:DataW.trod enc Tryz.prog w 0 sp held m 4 (([c0,c1,c2,c3,c4].drop 3).take (Tryz.prog.cellsOf 4))=xs[3]?:=hfl 3 _ rfl
   rw [Ru]at h3
   have h4:DataW.trod enc Tryz.prog w 0 sp held m 4 (([c0,c1,c2,c3,c4].drop 4).take (Tryz.prog.cellsOf 4))=xs[4]?:=hfl 4 _ rfl
   rw [Ru]at h4
   simp only [List.drop_zero,List.drop_succ_cons,List.take_succ_cons,List.take_zero]at h0 h1 h2 h3 h4
   have hn:xs.length=5:=hxl
   match xs,hn with
   | [x0,x1,x2,x3,x4],_ =>
    obtain⟨a,e0,f0,_⟩:=DataW.trod_int Tryz.underlying3 (show _=some x0 from h0)
    obtain⟨b,e1,f1,_⟩:=DataW.trod_int Tryz.underlying3 (show _=some x1 from h1)
    obtain⟨c,e2,f2⟩:=DataW.trod_bool Tryz.underlying4 (show _=some x2 from h2)
    obtain⟨d,e3,f3⟩:=DataW.trod_bool Tryz.underlying4 (show _=some x3 from h3)
    obtain⟨e,e4,f4⟩:=DataW.trod_bool Tryz.underlying4 (show _=some x4 from h4)
    simp only [List.cons.injEq,and_true]at e0 e1 e2 e3 e4
    subst e0 e1 e2 e3 e4 f0 f1 f2 f3 f4
    rfl
 ·cases h
end
open Go.Proofs.YtlledcnjfgcipaaGreatDoor
def lv:List (String × DataW Unit):=[("damask/damaskref15.arities",Rows.laid_damask_damaskref15_arities),("damask/term.arities",Rows.laid_damask_term_arities),("damask/term.pure",Rows.laid_damask_term_pure),("damask/term.shapes",Rows.laid_damask_term_shapes)]
theorem g3:Tryz.prog.globalNamed "damask/damaskref15.arities" = some 3:=by kernel_rfl
theorem g1:Tryz.prog.globalNamed "damask/term.arities" = some 1:=by kernel_rfl
theorem g2:Tryz.prog.globalNamed "damask/term.pure" = some 2:=by kernel_rfl
theorem g0:Tryz.prog.globalNamed "damask/term.shapes" = some 0:=by kernel_rfl
theorem ty1:(Tryz.prog.globals[1]?).map (·.type)=some 172:=by kernel_rfl
theorem ty2:(Tryz.prog.globals[2]?).map (·.type)=some 88:=by kernel_rfl
theorem ty0:(Tryz.prog.globals[0]?).map (·.type)=some 169:=by kernel_rfl
theorem ty3:(Tryz.prog.globals[3]?).map (·.type)=some 223:=by kernel_rfl
def P4:List Int:=[2,2,2,2,2,2,2,2,2,1,1,2,1,0,2,1,2,1,0,1,1,2,1,1,2,0,2]
theorem OM {W:World} {g t k e:Nat} {n:String} {cs:Array Value} {fuel:Nat} {p:List MemPlace} {D:List (Lit × DataW Unit)} (hg:Tryz.prog.globalNamed n=some g) (hv:W.var? Tryz.prog n=some cs) (ht:Tryz.prog.underlying t=some (.map k e))
  (hd:DataW.trod (fun _=>()) Tryz.prog W 0 (fun _=>true) false fuel t cs.toList=some (.map D,p)) (hk:∀ v l,keyOf Tryz.prog k v=some l→v=kOf l) (hvv:∀ n v (z:DataW Unit × List MemPlace),elemAt (fun _=>()) Tryz.prog W 0 (fun _=>true) false n e v=some z→v=Ug z.1)
  {es:List (Value × Value)} (hes:es=D.map cv):Rep ι0 F0 W (.pointer (some ⟨g,0,none⟩)) (.Ai [.Dc es]):=by
 obtain⟨bm,hcs,hr⟩:=Zj ht hd rfl cv fun n en y h=>AIj hk (hvv n) en y h
 rw [← hes]at hr
 have hc:W.cell? ⟨g,0,none⟩=some (.map (some bm)):=by
  rw [World.var?_cell hg hv 0,← Array.getElem?_toList,hcs];rfl
 refine .Ai (fun _=>.map (some bm)) rfl (fun j hj=>?_) (fun j x hx=>?_)
 ·have:j=0:=by simpa using hj
  subst this
  exact⟨by simpa using hc,S9 _ _,rfl⟩
 ·cases j with
  | zero=>simp at hx;subst hx;exact hr
  | succ j=>simp at hx
set_option maxHeartbeats 1000000 in
theorem Zc {W:World} (h:laidMetH Tryz.prog lv W):Rq W:=by
 rw [MakeChecks.laidMetH_plain _ _ _ (by kernel_rfl)]at h
 obtain⟨ps,⟨a3,t3,cs3,f3,p3,q3,hg3,ht3,hv3,hd3,⟨a1,t1,cs1,f1,p1,q1,hg1,ht1,hv1,hd1,⟨a2,t2,cs2,f2,p2,q2,hg2,ht2,hv2,hd2,⟨a0,t0,cs0,f0,p0,q0,hg0,ht0,hv0,hd0,_,_⟩,_⟩,_⟩,_⟩,_,_⟩:=h
 obtain rfl:=Option.some.inj (g3.symm.trans hg3)
 obtain rfl:=Option.some.inj (g1.symm.trans hg1)
 obtain rfl:=Option.some.inj (g2.symm.trans hg2)
 obtain rfl:=Option.some.inj (g0.symm.trans hg0)
 obtain rfl:=Option.some.inj (ty3.symm.trans ht3)
 obtain rfl:=Option.some.inj (ty1.symm.trans ht1)
 obtain rfl:=Option.some.inj (ty2.symm.trans ht2)
 obtain rfl:=Option.some.inj (ty0.symm.trans ht0)
 intro g x hgx
 have hgx':AIB g=some x:=hgx
 match g with
 | 0 =>
  obtain rfl:JR=x:=Option.some.inj hgx'
  exact OM hg0 hv0 Tryz.underlying169 hd0 (fun v l h=>Zk Tryz.underlying3 h) (fun n v z h=>Uh h) (by rfl)
 | 1 =>
  obtain rfl:EM=x:=Option.some.inj hgx'
  exact OM hg1 hv1 Tryz.underlying172 hd1 (fun v l h=>TH Tryz.underlying9 h) (fun n v z h=>Zl Tryz.underlying3 h) (by rfl)
 | 2 =>
  obtain rfl:Ns=x:=Option.some.inj hgx'
  exact OM hg2 hv2 Tryz.underlying88 hd2 (fun v l h=>TH Tryz.underlying9 h) (fun n v z h=>XW Tryz.underlying4 h) (by rfl)
 | 3 =>
  obtain rfl:Lc=x:=Option.some.inj hgx'
  obtain⟨xs,m1,rfl,hx1,hlen,hn3,hel⟩:=DataW.trod_array Tryz.underlying223 hd3
  have hd:(Rows.laid_damask_damaskref15_arities:DataW Unit)=.agg (P4.map fun n=>.lit (.int .i64 n)):=rfl
  have hxs:P4.map (fun n=>(DataW.lit (.int .i64 n):DataW Unit))=xs.map (·.1):=by
   have:=(Prod.mk.inj hx1).1
   rw [hd]at this
   exact DataW.agg.inj this
  have hnl:P4.length=27:=rfl
  have hcell:∀ j,j < 27→W.cell? ⟨3,j,none⟩=some (.int .i64 (P4.getD j 0)):=by
   intro j hj
   have h1:=hel j hj
   rw [H6,Nat.mul_one]at h1
   obtain⟨y,hy⟩:∃ y,xs[j]?=some y:=⟨_,List.getElem?_eq_getElem (by omega)⟩
   rw [hy]at h1
   obtain⟨m,e1,e2,_⟩:=DataW.trod_int Tryz.underlying3 h1
   have h2:(xs.map (·.1))[j]?=some y.1:=by rw [List.getElem?_map,hy];rfl
   rw [← hxs,List.getElem?_map,List.getElem?_eq_getElem (by omega),e2]at h2
   have hm:P4[j]'(by omega)=m:=by simpa using h2
   have h3:cs3.toList[j]?=some (.int .i64 m):=by
    have:((cs3.toList.drop j).take 1)[0]?=some (.int .i64 m):=by rw [e1];rfl
    simpa using this
   rw [World.var?_cell hg3 hv3 j,← Array.getElem?_toList,h3]
   simp [hnl,hj,hm]
  have hgv:Lc=.Ai (P4.map (AV.int .i64)):=rfl
  rw [hgv]
  refine .Ai (fun j=>.int .i64 (P4.getD j 0)) rfl (fun j hj=>?_) (fun j x hx=>?_)
  ·have hj':j < 27:=by simpa [hnl] using hj
   exact⟨by simpa using hcell j hj',S9 _ _,rfl⟩
  ·rw [List.getElem?_map]at hx
   obtain⟨m,hm,rfl⟩:=Option.map_eq_some_iff.1 hx
   have:P4.getD j 0=m:=by simp [hm]
   rw [this]
   exact .int _ _
 | n+4=>cases hgx'
end Go.AL.Dm
set_option maxRecDepth 100000
namespace Go.AL.Dm
open Go Go.Proofs Go.ChangeShapes Go.WideShapes Go.ChangeAt
section
variable {H:Type} {enc:TypeId × Value→H} {w:World}
theorem Uf {v:Value} {d:DataW H} {ps:List MemPlace} (h:DataW.Trod enc Tryz.prog w 0 (fun _=>true) true 27 v d ps) {base:Nat} (hval:Value.okWide Tryz.prog w .any base 27 v):∃ t:Pl,Rep ι0 F0 w v t.av∧rng t:=by
 obtain⟨cs,rfl,_⟩:=okWide_struct Tryz.underlying27 hval
 obtain⟨n,hn⟩:=h
 obtain⟨t,ht,hr⟩:=(OL n).1 _ _ hn
 refine⟨t,?_,hr⟩
 have:=Cells.agg (cs:=cs) (xs:=t.av.cells) (by simpa [Value.cells] using ht)
 rw [Pl.Am,Pl.Iu]at this
 exact this
end
end Go.AL.Dm
set_option maxRecDepth 100000
namespace Go.AL.Dm
open Go Go.Proofs Go.ChangeShapes Go.WideShapes Go.ChangeAt
section
variable {H:Type} {enc:TypeId × Value→H} {w:World}
theorem Rr {v:Value} {d:DataW H} {ps:List MemPlace} (h:DataW.Trod enc Tryz.prog w 0 (fun _=>true) true 23 v d ps) {base:Nat} (hval:Value.okWide Tryz.prog w .any base 23 v) :
  ∃ l:List Pl,Rep ι0 F0 w v (.list 5 .none (l.map Pl.av))∧∀ x∈l,rng x:=by
 obtain⟨a,len,cap,rfl⟩:=okWide_slice Tryz.underlying23 hval
 obtain⟨n,hn⟩:=h
 obtain⟨v,l,e,k1,k2,_,_,_⟩:=FH (α:={ t:Pl // rng t }) (f:=fun t=>t.1.av.cells) Tryz.underlying23 Iz (by omega) (fun k hk cs y hy=>by
  obtain⟨t,h1,h2⟩:=(OL k).1 cs y hy
  exact⟨⟨t,h2⟩,h1⟩) hn
 simp [Value.cells]at e
 subst e
 refine⟨l.map (·.1),?_,fun x hx=>by obtain⟨y,_,rfl⟩:=List.mem_map.1 hx;exact y.2⟩
 have:=k2 (fun t=>t.1.av) fun _=>rfl
 rw [List.map_map]
 exact this
end
end Go.AL.Dm
