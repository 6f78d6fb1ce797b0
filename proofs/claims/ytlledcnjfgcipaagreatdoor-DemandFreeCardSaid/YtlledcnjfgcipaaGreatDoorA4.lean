/- The abstract layer: values, objects, what a value stands for in a world, and what a step keeps. -/
import Derived.Orders
import Derived.Laws.Append
import Derived.Laws.World
import Derived.Laws.CopyRow
import Derived.RangeFuncNested
import Derived.Laws.MakeOwn
set_option linter.unusedVariables false
set_option linter.unusedSimpArgs false
namespace Go.AL
inductive Tok where
 | none | full | own (o:Nat)
 deriving DecidableEq,Inhabited
def Tok.keep:Tok→Tok
 | .full=>.full
 | _=>.none
inductive AV where
 | any
 | bool (b:Bool)
 | int (k:IntKind) (n:Int)
 | str (s:ByteArray)
 | list (sz:Nat) (t:Tok) (xs:List AV)
 | agg (cs:List AV)
 | tup (vs:List AV)
 | ptr (o off:Nat)
 | Ai (cs:List AV)
 | C2
 | fn (f:FuncId) (first captured:List AV)
 | Es
 | map (o:Nat)
 | Ad
 | Dc (es:List (Value × Value))
 | Bp (es:List (AV × AV))
 | Ag (sz o off len:Nat)
 | HT (sz o i j:Nat)
 | yld (o:Nat)
 deriving Inhabited
def AV.cells:AV→List AV
 | .agg cs=>cs
 | v=>[v]
def AV.isVal:AV→Bool
 | .any | .tup _=>false
 | _=>true
@[simp] theorem AV.AFY (cs:List AV):(AV.agg cs).cells=cs:=rfl
def flat (xs:List AV):List AV:=xs.flatMap AV.cells
@[simp] theorem Kx:flat []=[]:=rfl
@[simp] theorem CD (x:AV) (xs:List AV):flat (x::xs)=x.cells++flat xs:=rfl
theorem CH (xs ys:List AV):flat (xs++ys)=flat xs++flat ys:=by simp [flat]
theorem BT {sz:Nat}:∀ {xs:List AV},(∀ x∈xs,x.cells.length=sz)→(flat xs).length=xs.length * sz
 | [],_=>by simp
 | x::xs,h=>by
  have h1:=h x (by simp)
  have h2:=BT (xs:=xs) fun y hy=>h y (by simp [hy])
  simp [h1,h2,Nat.succ_mul,Nat.add_comm]
theorem Ff {sz:Nat}:∀ {xs:List AV} (_:∀ x∈xs,x.cells.length=sz) (i j:Nat),j < sz→(flat xs)[i * sz+j]?=(xs[i]?).bind (·.cells[j]?)
 | [],_,i,j,_=>by simp
 | x::xs,h,0,j,hj=>by
  have h1:=h x (by simp)
  simp [List.getElem?_append_left (h1 ▸ hj)]
 | x::xs,h,i+1,j,hj=>by
  have h1:=h x (by simp)
  have h2:=Ff (xs:=xs) (fun y hy=>h y (by simp [hy])) i j hj
  rw [CD,List.getElem?_append_right (by rw [h1,Nat.succ_mul];omega)]
  have:(i+1) * sz+j - x.cells.length=i * sz+j:=by rw [h1,Nat.succ_mul];omega
  rw [this,h2];simp
inductive Ax where
 | box (cs:List AV)
 | spare (n:Nat)
 | arr (sz:Nat) (xs:List AV)
 | map (es:List (Nat × AV × AV)) (clock:Nat)
 | iter (m:Option Nat) (since:Nat) (seen:List Nat) (last:Nat)
 | CU (es:List (AV × AV)) (seen:List Nat)
 | loop (st:Nat) (jump:Option (Option Nat)) (env:List (Nat × AV)) (ps:List Nat) (n:Nat) (as bd:Code)
 deriving Inhabited
abbrev Env:=List (Nat × AV)
def Env.get:Env→Nat→AV
 | [],_=>.any
 | (k,v)::e,t=>if k=t then v else Env.get e t
def lst:Nat→LoopState
 | 0=>.ready
 | 1=>.busy
 | 2=>.done
 | _=>.exhausted
def Jt:Option Nat→Code
 | none=>.ret
 | some id=>.exit id
def Ax.mut:Ax→Nat→Prop
 | .spare n,off=>n≤off
 | _,_=>True
abbrev AX:=Nat→Option Ax
def AZ (ι:Nat→Option Nat) (S:AX) (b off:Nat):Prop:=∃ o obj,S o=some obj∧ι o=some b∧obj.mut off
def Blk (ι:Nat→Option Nat) (S:AX) (b:Nat):Prop:=∃ o obj,S o=some obj∧ι o=some b
end Go.AL
namespace Go
theorem Value.Ge {v:Value} (h:v.oneCell'=true):v.cells=#[v]:=by cases v <;> simp_all [Value.oneCell',Value.cells]
end Go
namespace Go.AL
def CN (w:World) (b n:Nat):Prop:=∃ c e,w.heap[b]?=some (.cells c e (0,0))∧n≤c.size
def SE (ι:Nat→Option Nat) (w:World) (sz:Nat) (a:Option Addr) (len cap:Nat):Tok→Prop
 | .none=>True
 | .full=>cap=len
 | .own o=>cap=len∨∃ b,ι o=some b∧a=some ⟨b,0,none⟩∧CN w b (cap * sz)
inductive Rep (ι:Nat→Option Nat) (F:Nat→Nat→Prop) (w:World):Value→AV→Prop
 | any (v:Value):Rep ι F w v .any
 | bool (b:Bool):Rep ι F w (.bool b) (.bool b)
 | int (k:IntKind) (n:Int):Rep ι F w (.int k n) (.int k n)
 | str (s:ByteArray):Rep ι F w (.string s) (.str s)
 | list {a:Option Addr} {len cap sz:Nat} {t:Tok} {xs:List AV} (cs:Nat→Value) (hlen:len=xs.length) (hcap:len≤cap)
   (hsz:∀ x∈xs,x.cells.length=sz) (ht:SE ι w sz a len cap t) (hnone:a=none→cap=0)
   (hc:∀ j,j < len * sz→∃ ad,a=some ad∧ad.spot=none∧w.cell? ⟨ad.block,ad.off+j,none⟩=some (cs j)∧¬ F ad.block (ad.off+j)∧(cs j).oneCell'=true)
   (hr:∀ j x,(flat xs)[j]?=some x→Rep ι F w (cs j) x):Rep ι F w (.slice a len cap) (.list sz t xs)
 | agg {vs:Array Value} {l:List AV} (hl:vs.size=l.length) (hc:∀ (j:Nat) v,vs[j]?=some v→v.oneCell'=true)
   (hr:∀ (j:Nat) v x,vs[j]?=some v→l[j]?=some x→Rep ι F w v x):Rep ι F w (.agg vs) (.agg l)
 | tup {vs:Array Value} {l:List AV} (hl:vs.size=l.length)
   (hr:∀ (j:Nat) v x,vs[j]?=some v→l[j]?=some x→Rep ι F w v x):Rep ι F w (.tuple vs) (.tup l)
 | ptr {o b:Nat} (off:Nat) (h:ι o=some b):Rep ι F w (.pointer (some ⟨b,off,none⟩)) (.ptr o off)
 | Ai {a:Addr} {l:List AV} (cs:Nat→Value) (ha:a.spot=none)
   (hc:∀ j,j < l.length→w.cell? ⟨a.block,a.off+j,none⟩=some (cs j)∧¬ F a.block (a.off+j)∧(cs j).oneCell'=true)
   (hr:∀ j x,l[j]?=some x→Rep ι F w (cs j) x):Rep ι F w (.pointer (some a)) (.Ai l)
 | C2:Rep ι F w (.pointer none) .C2
 | fn (f:FuncId) {fs cs:Array Value} {lf lc:List AV} (hl:fs.size=lf.length) (hl':cs.size=lc.length)
   (hf:∀ (j:Nat) v x,fs[j]?=some v→lf[j]?=some x→Rep ι F w v x)
   (hr:∀ (j:Nat) v x,cs[j]?=some v→lc[j]?=some x→Rep ι F w v x):Rep ι F w (.func (.func f) fs cs) (.fn f lf lc)
 | Es:Rep ι F w .nilFunc .Es
 | map {o b:Nat} (h:ι o=some b):Rep ι F w (.map (some b)) (.map o)
 | Ad:Rep ι F w (.map none) .Ad
 | Dc {b clock:Nat} {ces:Array MapEntry} {es:List (Value × Value)} (h:w.heap[b]?=some (.map ces clock)) (hf:∀ off,¬ F b off)
   (hin:∀ (j:Nat) e,ces[j]?=some e→(e.key,e.val)∈es) (hout:∀ p∈es,∃ (j:Nat) (e:MapEntry),ces[j]?=some e∧e.key=p.1∧e.val=p.2) (hnd:∀ p∈es,∀ q∈es,p.1=q.1→p.2=q.2):Rep ι F w (.map (some b)) (.Dc es)
 | Bp {b:Nat} {ces:Array MapEntry} {es:List (AV × AV)} (σ:Nat→Nat) (h:w.heap[b]?=some (.map ces ces.size)) (hf:∀ off,¬ F b off) (hsz:ces.size=es.length) (hσ:∀ j,j < es.length→σ j < es.length)
   (hinj:∀ i j,i < es.length→j < es.length→σ i=σ j→i=j) (hsur:∀ i,i < es.length→∃ j,j < es.length∧σ j=i) (hborn:∀ (j:Nat) (e:MapEntry),ces[j]?=some e→e.born=j)
   (hnd:∀ (i j:Nat) (e e':MapEntry),ces[i]?=some e→ces[j]?=some e'→e.key=e'.key→i=j)
   (hk:∀ (j:Nat) (e:MapEntry) p,ces[j]?=some e→es[σ j]?=some p→Rep ι F w e.key p.1) (hv:∀ (j:Nat) (e:MapEntry) p,ces[j]?=some e→es[σ j]?=some p→Rep ι F w e.val p.2):Rep ι F w (.map (some b)) (.Bp es)
 | Ag {sz o b off len cap:Nat} (h:ι o=some b) (hcap:len≤cap) (hb:CN w b ((off+cap) * sz)) :
   Rep ι F w (.slice (some ⟨b,off * sz,none⟩) len cap) (.Ag sz o off len)
 | FN {sz o:Nat} {a:Option Addr}:Rep ι F w (.slice a 0 0) (.Ag sz o 0 0)
 | HT {sz o b i j:Nat} (h:ι o=some b):Rep ι F w (.pointer (some ⟨b,i * sz+j,none⟩)) (.HT sz o i j)
 | yld {o b:Nat} (h:ι o=some b):Rep ι F w (.func (.yield b) #[] #[]) (.yld o)
theorem Rep.ACv {ι:Nat→Option Nat} {F:Nat→Nat→Prop} {w:World} {v:Value} {x:AV} (h:Rep ι F w v x) (hv:x.isVal=true) (hx:∀ cs,x≠.agg cs):v.oneCell'=true:=by
 cases h <;> simp_all [AV.isVal,Value.oneCell']
def Bs (ι:Nat→Option Nat) (F:Nat→Nat→Prop) (w:World) (vs:Array Value) (l:List AV):Prop :=
 vs.size=l.length∧∀ (j:Nat) v x,vs[j]?=some v→l[j]?=some x→Rep ι F w v x
theorem Rep.cells {ι:Nat→Option Nat} {F:Nat→Nat→Prop} {w:World} {v:Value} {x:AV} (h:Rep ι F w v x) (hv:x.isVal=true) :
  Bs ι F w v.cells x.cells∧∀ (j:Nat) u,v.cells[j]?=some u→u.oneCell'=true:=by
 by_cases hx:∃ cs,x=.agg cs
 ·obtain⟨cs,rfl⟩:=hx
  cases h with
  | agg hl hc hr=>exact⟨⟨hl,hr⟩,hc⟩
 ·have hx':∀ cs,x≠.agg cs:=fun cs e=>hx ⟨cs,e⟩
  have hc:=h.ACv hv hx'
  have hxc:x.cells=[x]:=by cases x <;> simp_all [AV.cells]
  rw [Value.Ge hc,hxc]
  refine⟨⟨rfl,fun j u y hu hy=>?_⟩,fun j u hu=>?_⟩
  ·cases j with
   | zero=>simp at hu hy;subst hu hy;exact h
   | succ j=>simp at hu
  ·cases j with
   | zero=>simp at hu;subst hu;exact hc
   | succ j=>simp at hu
def R5 (ι:Nat→Option Nat) (m cm:Option Nat):Prop:=match m with | none=>cm=none | some o=>∃ mb,ι o=some mb∧cm=some mb
def C1 (ι:Nat→Option Nat) (F:Nat→Nat→Prop) (w:World) (b:Nat):Ax→Prop
 | .box cs=>∃ vs e,w.heap[b]?=some (.cells vs e (0,0))∧cs.length≤vs.size∧(∀ (j:Nat) v x,vs[j]?=some v→cs[j]?=some x→Rep ι F w v x)∧∀ (j:Nat) v,j < cs.length→vs[j]?=some v→v.oneCell'=true
 | .spare n=>CN w b n
 | .arr sz xs=>∃ vs e,w.heap[b]?=some (.cells vs e (0,0))∧(∀ x∈xs,x.cells.length=sz)∧xs.length * sz≤vs.size ∧
   (∀ (j:Nat) v x,vs[j]?=some v→(flat xs)[j]?=some x→Rep ι F w v x)∧∀ (j:Nat) v,j < xs.length * sz→vs[j]?=some v→v.oneCell'=true
 | .map es clock=>∃ ces,w.heap[b]?=some (.map ces clock)∧ces.size=es.length ∧
   ∀ (j:Nat) (e:MapEntry) p,ces[j]?=some e→es[j]?=some p→e.born=p.1∧Rep ι F w e.key p.2.1∧Rep ι F w e.val p.2.2
 | .iter m since seen last=>∃ cm,w.heap[b]?=some (.mapIter cm since seen.toArray last)∧R5 ι m cm
 | .CU es seen=>∃ (mb:Nat) (ces:Array MapEntry) (σ:Nat→Nat) (sc:List Nat),w.heap[b]?=some (.mapIter (some mb) ces.size sc.toArray ces.size)∧w.heap[mb]?=some (.map ces ces.size)∧(∀ off,¬ F mb off)∧ces.size=es.length ∧
   (∀ j,j < es.length→σ j < es.length)∧(∀ i j,i < es.length→j < es.length→σ i=σ j→i=j)∧(∀ i,i < es.length→∃ j,j < es.length∧σ j=i)∧(∀ (j:Nat) (e:MapEntry),ces[j]?=some e→e.born=j) ∧
   (∀ (j:Nat) (e:MapEntry) p,ces[j]?=some e→es[σ j]?=some p→Rep ι F w e.key p.1∧Rep ι F w e.val p.2)∧sc.map σ=seen∧∀ j∈sc,j < es.length
 | .loop st jump env ps n as bd=>∃ D fn tmps,w.heap[b]?=some (.loop { state:=lst st,pending:=jump.map Jt,fn,tmps,params:=ps.toArray,assign:=as,body:=bd,defers:=D })∧tmps.size=n ∧
   ∀ t,Rep ι F w (tmps.getD t undef) (Env.get env t)
structure Bnd (ι:Nat→Option Nat) (S:AX) (nx:Nat):Prop where
 lt:∀ o obj,S o=some obj→o < nx
 ilt:∀ o b,ι o=some b→o < nx
class Glob where
 gt:Nat→Option AV
structure WF [Glob] (ι:Nat→Option Nat) (S:AX) (w:World):Prop where
 blt:∀ o b,ι o=some b→b < w.heap.size
 inj:∀ o o' obj obj' b,S o=some obj→S o'=some obj'→ι o=some b→ι o'=some b→o=o'
 rep:∀ o obj b,S o=some obj→ι o=some b→C1 ι (AZ ι S) w b obj
 laid:∀ g x,Glob.gt g=some x→Rep ι (AZ ι S) w (.pointer (some ⟨g,0,none⟩)) x
structure Step (ι:Nat→Option Nat) (S:AX) (w:World) (ι':Nat→Option Nat) (S':AX) (w':World):Prop where
 os:w'.os=w.os
 tape:w'.tape=w.tape
 output:w'.output=w.output
 size:w.heap.size≤w'.heap.size
 blk:∀ b,b < w.heap.size→¬ Blk ι S b→w'.heap[b]?=w.heap[b]?
 cell:∀ b off,b < w.heap.size→¬ AZ ι S b off→w'.cell? ⟨b,off,none⟩=w.cell? ⟨b,off,none⟩
 shape:∀ b n,CN w b n→CN w' b n
 maps:∀ b ces c,w.heap[b]?=some (.map ces c)→(∀ off,¬ AZ ι S b off)→w'.heap[b]?=some (.map ces c)
 ext:∀ o b,ι o=some b→ι' o=some b
 IL:∀ b off,b < w.heap.size→AZ ι' S' b off→AZ ι S b off
 Lv:∀ b,b < w.heap.size→Blk ι' S' b→Blk ι S b
theorem Step.refl (ι:Nat→Option Nat) (S:AX) (w:World):Step ι S w ι S w :=
 ⟨rfl,rfl,rfl,Nat.le_refl _,fun _ _ _=>rfl,fun _ _ _ _=>rfl,fun _ _ h=>h,fun _ _ _ h _=>h,fun _ _ h=>h,fun _ _ _ h=>h,fun _ _ h=>h⟩
theorem Step.trans {ι ι₁ ι₂:Nat→Option Nat} {S S₁ S₂:AX} {w w₁ w₂:World} (h:Step ι S w ι₁ S₁ w₁) (k:Step ι₁ S₁ w₁ ι₂ S₂ w₂):Step ι S w ι₂ S₂ w₂ where
 os:=k.os.trans h.os
 tape:=k.tape.trans h.tape
 output:=k.output.trans h.output
 size:=Nat.le_trans h.size k.size
 blk b hb hn:=(k.blk b (Nat.lt_of_lt_of_le hb h.size) (fun hk=>hn (h.Lv b hb hk))).trans (h.blk b hb hn)
 cell b off hb hn:=(k.cell b off (Nat.lt_of_lt_of_le hb h.size) (fun hk=>hn (h.IL b off hb hk))).trans (h.cell b off hb hn)
 shape b n hb:=k.shape b n (h.shape b n hb)
 maps b ces c hb hn:=k.maps b ces c (h.maps b ces c hb hn) (fun off hf=>hn off (h.IL b off (Array.getElem?_eq_some_iff.1 hb).1 hf))
 ext o b ho:=k.ext o b (h.ext o b ho)
 IL b off hb hf:=h.IL b off hb (k.IL b off (Nat.lt_of_lt_of_le hb h.size) hf)
 Lv b hb hf:=h.Lv b hb (k.Lv b (Nat.lt_of_lt_of_le hb h.size) hf)
theorem Er {w:World} {b off:Nat} {v:Value} (h:w.cell? ⟨b,off,none⟩=some v):b < w.heap.size:=World.block_lt_of_cell? _ ⟨b,off,none⟩ h
theorem Rep.keep {ι ι':Nat→Option Nat} {F F':Nat→Nat→Prop} {w w':World}
  (hext:∀ o b,ι o=some b→ι' o=some b)
  (hcell:∀ b off,b < w.heap.size→¬ F b off→w'.cell? ⟨b,off,none⟩=w.cell? ⟨b,off,none⟩)
  (hfoot:∀ b off,b < w.heap.size→F' b off→F b off)
  (hshape:∀ b n,CN w b n→CN w' b n) (hmaps:∀ b ces c,w.heap[b]?=some (.map ces c)→(∀ off,¬ F b off)→w'.heap[b]?=some (.map ces c)) {v:Value} {x:AV} (h:Rep ι F w v x):Rep ι' F' w' v x:=by
 induction h with
 | any v=>exact .any v
 | bool b=>exact .bool b
 | int k n=>exact .int k n
 | str s=>exact .str s
 | @list a len cap sz t xs cs hlen hcap hsz ht hnone hc hr ih =>
  refine .list cs hlen hcap hsz ?_ hnone (fun j hj=>?_) ih
  ·cases t with
   | none=>trivial
   | full=>exact ht
   | own o =>
    rcases ht with ht | ⟨b,h1,h2,h3⟩
    ·exact .inl ht
    ·exact .inr ⟨b,hext _ _ h1,h2,hshape _ _ h3⟩
  ·obtain⟨ad,h1,h2,h3,h4,h5⟩:=hc j hj
   have hb:=Er h3
   exact⟨ad,h1,h2,(hcell _ _ hb h4).trans h3,fun hf=>h4 (hfoot _ _ hb hf),h5⟩
 | agg hl hc hr ih=>exact .agg hl hc ih
 | tup hl hr ih=>exact .tup hl ih
 | ptr off h=>exact .ptr off (hext _ _ h)
 | Ai cs ha hc hr ih =>
  refine .Ai cs ha (fun j hj=>?_) ih
  obtain⟨h3,h4,h5⟩:=hc j hj
  have hb:=Er h3
  exact⟨(hcell _ _ hb h4).trans h3,fun hf=>h4 (hfoot _ _ hb hf),h5⟩
 | C2=>exact .C2
 | fn f hl hl' hf hr ih1 ih2=>exact .fn f hl hl' ih1 ih2
 | Es=>exact .Es
 | map h=>exact .map (hext _ _ h)
 | Ad=>exact .Ad
 | Dc h hf hin hout hnd=>exact .Dc (hmaps _ _ _ h hf) (fun off h'=>hf off (hfoot _ off (Array.getElem?_eq_some_iff.1 h).1 h')) hin hout hnd
 | Bp σ h hf hsz hσ hinj hsur hborn hnd hk hv ih1 ih2=>exact .Bp σ (hmaps _ _ _ h hf) (fun off h'=>hf off (hfoot _ off (Array.getElem?_eq_some_iff.1 h).1 h')) hsz hσ hinj hsur hborn hnd ih1 ih2
 | Ag h hcap hb=>exact .Ag (hext _ _ h) hcap (hshape _ _ hb)
 | FN=>exact .FN
 | HT h=>exact .HT (hext _ _ h)
 | yld h=>exact .yld (hext _ _ h)
theorem Rep.step {ι ι':Nat→Option Nat} {S S':AX} {w w':World} (hs:Step ι S w ι' S' w') {v:Value} {x:AV} (h:Rep ι (AZ ι S) w v x):Rep ι' (AZ ι' S') w' v x :=
 h.keep hs.ext hs.cell hs.IL hs.shape hs.maps
theorem Bs.step {ι ι':Nat→Option Nat} {S S':AX} {w w':World} (hs:Step ι S w ι' S' w') {vs:Array Value} {l:List AV} (h:Bs ι (AZ ι S) w vs l):Bs ι' (AZ ι' S') w' vs l :=
 ⟨h.1,fun j v x hv hx=>(h.2 j v x hv hx).step hs⟩
theorem C1.keep {ι ι':Nat→Option Nat} {F F':Nat→Nat→Prop} {w w':World} {b:Nat} {obj:Ax}
  (hrep:∀ v x,Rep ι F w v x→Rep ι' F' w' v x) (hb:w'.heap[b]?=w.heap[b]?) (hm:∀ (mb:Nat) ces c,w.heap[mb]?=some (.map ces c)→(∀ off,¬ F mb off)→w'.heap[mb]?=some (.map ces c)∧∀ off,¬ F' mb off) (h:C1 ι F w b obj):C1 ι' F' w' b obj:=by
 cases obj with
 | box cs=>obtain⟨vs,e,h1,h2,h3,h4⟩:=h;exact⟨vs,e,hb.trans h1,h2,fun j v x hv hx=>hrep _ _ (h3 j v x hv hx),h4⟩
 | spare n=>obtain⟨c,e,h1,h2⟩:=h;exact⟨c,e,hb.trans h1,h2⟩
 | arr sz xs=>obtain⟨vs,e,h1,h2,h3,h4,h5⟩:=h;exact⟨vs,e,hb.trans h1,h2,h3,fun j v x hv hx=>hrep _ _ (h4 j v x hv hx),h5⟩
 | map es clock=>obtain⟨ces,h1,h2,h3⟩:=h;exact⟨ces,hb.trans h1,h2,fun j e p he hp=>⟨(h3 j e p he hp).1,hrep _ _ (h3 j e p he hp).2.1,hrep _ _ (h3 j e p he hp).2.2⟩⟩
 | iter m since seen last =>
  obtain⟨cm,h1,h2⟩:=h
  refine⟨cm,hb.trans h1,?_⟩
  cases m with
  | none=>exact h2
  | some o =>
   obtain⟨mb,h3,h4⟩:=h2
   have:=hrep _ _ (Rep.map h3)
   cases this with
   | map h5=>exact⟨mb,h5,h4⟩
 | CU es seen =>
  obtain⟨mb,ces,σ,sc,h1,h2,h3,h4,h5,h6,h7,h8,h9,h10⟩:=h
  obtain⟨m1,m2⟩:=hm mb _ _ h2 h3
  exact⟨mb,ces,σ,sc,hb.trans h1,m1,m2,h4,h5,h6,h7,h8,fun j e p he hp=>⟨hrep _ _ (h9 j e p he hp).1,hrep _ _ (h9 j e p he hp).2⟩,h10⟩
 | loop st jump env ps n as bd=>obtain⟨D,fn,tmps,h1,h2,h3⟩:=h;exact⟨D,fn,tmps,hb.trans h1,h2,fun t=>hrep _ _ (h3 t)⟩
end Go.AL
namespace Go.AL
inductive AG where
 | g (t:Nat)
 | l (t:Nat)
 | c (v:AV)
 deriving Inhabited
inductive AOp where
 | mv (x:AG)
 | pick (c a b:AG)
 | alloc (zs:List AV)
 | box (x:AG)
 | build (zs:List AV) (parts:List (Nat × Nat × AG))
 | buildSlice (sz:Nat) (agg:Bool) (zs:List AV) (len:Nat) (parts:List (Nat × AG))
 | load (n:Nat) (agg:Bool) (a:AG)
 | store (n:Nat) (a x:AG)
 | nilCheck (x:AG)
 | bin (op:BinOp) (x y:AG)
 | eqb (neg:Bool) (x y:AG)
 | eqa (neg:Bool) (n:Nat) (x y:AG)
 | Jq (neg:Bool) (x:AG)
 | un (op:UnOp) (x:AG)
 | conv (k:IntKind) (x:AG)
 | QU (f:FuncId) (first captured:List AG)
 | Cj
 | C5 (sz bytes:Nat) (zs:List AV) (agg:Bool) (len cap:AG)
 | slice (sz:Nat) (x:AG) (lo hi mx:Option AG)
 | Gk (x:AG) (lo hi:Option AG)
 | Ej (n:Nat) (x hi:AG)
 | fieldAddr (off:Nat) (x:AG)
 | field (off n:Nat) (agg:Bool) (x:AG)
 | indexAddr (sz:Nat) (x i:AG)
 | D2 (sz len:Nat) (x i:AG)
 | FY (x i:AG)
 | extract (x:AG) (i:Nat)
 | len (x:AG)
 | Kc (x:AG)
 | Hg (x:AG)
 | append (sz bytes:Nat) (s x:AG)
 | min (x y:AG)
 | max (x y:AG)
 | lookup (str ok:Bool) (zs:List AV) (agg:Bool) (m k:AG)
 | mapUpdate (str:Bool) (m k x:AG)
 | delete (str:Bool) (m k:AG)
 | range (x:AG)
 | next (x:AG)
 | entry (x:AG)
 | call (pure:Bool) (f:AG) (args:List AG)
 deriving Inhabited
structure AR where
 dst:Option (Bool × Nat)
 op:AOp
 guard:Option (Bool × Nat × Bool)
 Dh:List Nat
 deriving Inhabited
inductive Ae where
 | skip
 | reg (draw:Bool) (ops:List AR)
 | YR (pre suf:List AR)
 | U1 (pre:List AR) (fr:List AOp) (call:AR) (post suf:List AR)
 | ACf (pre:List AR) (zs:List AV) (gl:Bool) (t:Nat) (call:AR) (suf:List AR)
 | frz (t:Nat)
 | seq (a b:Ae)
 | cond (c:AG) (a b:Ae)
 | block (id:Nat) (b:Ae)
 | loop (b:Ae)
 | exit (id:Nat)
 | ret
 | R3 (f:AG) (ps:List Nat) (n:Nat) (keep:List Nat) (as bd:Ae)
 deriving Inhabited
inductive JB where
 | tmp (t:Bool × Nat)
 | cell (t:Bool × Nat) (n:Nat) (agg:Bool)
 deriving Inhabited
structure F7 where
 np:Nat
 ntmps:Nat
 body:Ae
 results:List JB
 deriving Inhabited
def AG.val (g l:Env):AG→AV
 | .g t=>g.get t
 | .l t=>l.get t
 | .c v=>v
structure St where
 m:AX
 nx:Nat
def St.set (s:St) (o:Nat) (obj:Ax):St:=⟨fun q=>if q=o then some obj else s.m q,s.nx⟩
def St.del (s:St) (o:Nat):St:=⟨fun q=>if q=o then none else s.m q,s.nx⟩
def St.new (s:St) (obj:Ax):St:=⟨fun q=>if q=s.nx then some obj else s.m q,s.nx+1⟩
def St.bump (s:St) (n:Nat):St:=⟨s.m,n⟩
inductive Upd where
 | keep | set (o:Ax) | del
structure Res where
 v:AV
 upd:Upd:=.keep
 new:Option Ax:=none
def St.HS (s:St) (t:Option Nat) (u:Upd):St :=
 match t,u with
 | some o,.set obj=>s.set o obj
 | some o,.del=>s.del o
 | _,_=>s
def St.Bk (s:St) (new:Option Ax):St :=
 match new with
 | some obj=>s.new obj
 | none=>s
def DQ (S:AX) (t:Option Nat) (u:Upd):AX :=
 match t,u with
 | some o,.set obj=>fun q=>if q=o then some obj else S q
 | some o,.del=>fun q=>if q=o then none else S q
 | _,_=>S
def Gq (S:AX) (n:Nat) (new:Option Ax):AX :=
 match new with
 | some obj=>fun q=>if q=n then some obj else S q
 | none=>S
theorem St.AAu (s:St) (t:Option Nat) (u:Upd) (new:Option Ax):((s.HS t u).Bk new).m=Gq (DQ s.m t u) s.nx new:=by
 cases t <;> cases u <;> cases new <;> rfl
theorem St.QZ (s:St) (t:Option Nat) (u:Upd) (new:Option Ax):((s.HS t u).Bk new).nx=s.nx+(if new.isSome then 1 else 0):=by
 cases t <;> cases u <;> cases new <;> rfl
def Hm (t:Bool) (a b:AV):AV :=
 match a,b with
 | .bool x,.bool y=>.bool (bif t then x else y)
 | a,b=>if t then a else b
def Dg (op:BinOp):AV→AV→Option AV
 | .int k a,.int _ b =>
  match op with
  | .add=>some (.int k (k.wrap (a+b)))
  | .sub=>some (.int k (k.wrap (a - b)))
  | .mul=>some (.int k (k.wrap (a * b)))
  | .quo=>some (.int k (k.wrap (a.tdiv b)))
  | .rem=>some (.int k (a.tmod b))
  | .eql=>some (.bool (decide (a=b)))
  | .neq=>some (.bool (!decide (a=b)))
  | .lss=>some (.bool (decide (a < b)))
  | .leq=>some (.bool (decide (a≤b)))
  | .gtr=>some (.bool (decide (b < a)))
  | .geq=>some (.bool (decide (b≤a)))
  | _=>none
 | .str a,.str b =>
  match op with
  | .eql=>some (.bool (decide (a=b)))
  | .neq=>some (.bool (!decide (a=b)))
  | .lss=>some (.bool (Op.bytesLess a.toList b.toList))
  | .gtr=>some (.bool (!(Op.bytesLess a.toList b.toList || decide (a=b))))
  | _=>none
 | _,_=>none
def B7 (op:BinOp):AV→AV→Prop
 | .int k _,.int k' b=>k=k'∧match op with | .quo | .rem=>b≠0 | _=>True
 | _,_=>True
def BE (zs:List AV):List (Nat × AV)→List AV
 | []=>zs
 | (off,x)::r=>BE (zs.take off++x.cells++zs.drop (off+x.cells.length)) r
def CA (n:Nat) (agg:Bool) (cs:List AV):Option AV :=
 if agg then some (.agg (cs.take n))else match cs with | x::_=>some x | []=>none
def Ed (cs:List AV) (off:Nat) (x:AV):List AV:=cs.take off++x.cells++cs.drop (off+x.cells.length)
def Bu:List AV→Option (List Bool)
 | []=>some []
 | .bool b::r=>(Bu r).map (b::·)
 | _=>none
def AV.int?:AV→Option Int
 | .int _ n=>some n
 | _=>none
def BJ:Option AV→Option (Option Int)
 | none=>some none
 | some (.int _ n)=>some (some n)
 | _=>none
def keq:AV→AV→Option Bool
 | .int k a,.int k' b=>if k=k' then some (decide (a=b))else none
 | .str a,.str b=>some (decide (a=b))
 | _,_=>none
def BL (k:AV):List (Nat × AV × AV)→Nat→Option (Option Nat)
 | [],_=>some none
 | e::r,i =>
  match keq k e.2.1 with
  | some true=>some (some i)
  | some false=>BL k r (i+1)
  | none=>none
def Bf (str:Bool):AV→Prop
 | .int .i64 _=>str=false
 | .str _=>str=true
 | _=>False
def Hn (es:List (Nat × AV × AV)) (clock:Nat) (k x:AV):Option Nat→Ax
 | some i=>.map (es.modify i fun e=>(e.1,k,x)) clock
 | none=>.map (es++[(clock,k,x)]) (clock+1)
def M7 (es:List (Nat × AV × AV)) (clock:Nat):Option Nat→Ax
 | some i=>.map (es.eraseIdx i) clock
 | none=>.map es clock
def A9:Value→Option AV
 | .bool b=>some (.bool b)
 | .int k n=>some (.int k n)
 | .string s=>some (.str s)
 | .pointer none=>some .C2
 | .slice none 0 0=>some (.list 0 .full [])
 | .map none=>some .Ad
 | .nilFunc=>some .Es
 | _=>none
def O6:Value→Option AV
 | .agg cs=>(cs.toList.mapM A9).map .agg
 | v=>A9 v
def DU (k:AV):List (Value × Value)→Option (Option AV)
 | []=>some none
 | p::r =>
  match (A9 p.1).bind (keq k),DU k r with
  | some true,some _=>(O6 p.2).map some
  | some false,some x=>some x
  | _,_=>none
def DV (k:AV):List (AV × AV)→Option (Option AV)
 | []=>some none
 | p::r =>
  match keq k p.1,DV k r with
  | some true,some _=>some (some p.2)
  | some false,some x=>some x
  | _,_=>none
def A2 (ok:Bool) (zs:List AV) (agg:Bool) (v:Option AV):AV :=
 let x:=v.getD (if agg then .agg zs else zs.headD .any)
 if ok then .tup [x,.bool v.isSome]else x
def AOp.AT (op:AOp) (α:AG→AV):Option Nat :=
 match op with
 | .load _ _ a | .store _ a _=>(match α a with | .ptr o _=>some o | .HT _ o _ _=>some o | _=>none)
 | .append _ _ s _=>(match α s with | .list _ (.own o) _=>some o | .Ag _ o _ _=>some o | _=>none)
 | .Hg x=>(match α x with | .map o=>some o | _=>none)
 | .range x=>(match α x with | .map o=>some o | _=>none)
 | .lookup _ _ _ _ m _ | .mapUpdate _ m _ _ | .delete _ m _=>(match α m with | .map o=>some o | _=>none)
 | _=>none
def AOp.ev (op:AOp) (α:AG→AV) (nx:Nat) (obj:Option Ax):Option Res :=
 match op with
 | .mv x=>some { v:=α x }
 | .pick c a b=>(match α c with | .bool t=>some { v:=Hm t (α a) (α b) } | _=>none)
 | .alloc zs=>some { v:=.ptr nx 0,new:=some (.box zs) }
 | .box x=>some { v:=.ptr nx 0,new:=some (.box (α x).cells) }
 | .build zs parts=>some { v:=.agg (BE zs (parts.map fun p=>(p.1,α p.2.2))) }
 | .buildSlice sz agg zs m parts=>some { v:=.list sz .full ((parts.map fun p=>(p.1,α p.2)).foldl (fun xs p=>xs.set p.1 p.2) (List.replicate m (if agg then .agg zs else zs.headD .any))) }
 | .load n agg a =>
  match α a,obj with
  | .ptr _ off,some (.box cs)=>(CA n agg (cs.drop off)).map fun v=>{ v }
  | .Ai cs,_=>(CA n agg cs).map fun v=>{ v }
  | _,_=>none
 | .store _ a x =>
  match α a,obj with
  | .ptr _ off,some (.box cs)=>some { v:=.tup [],upd:=.set (.box (Ed cs off (α x))) }
  | _,_=>none
 | .nilCheck x=>(match α x with | .ptr .. | .HT .. | .Ai .. | .fn ..=>some { v:=α x } | _=>none)
 | .bin op x y=>(Dg op (α x) (α y)).map fun v=>{ v }
 | .eqb neg x y=>(match α x,α y with | .bool a,.bool b=>some { v:=.bool (if neg then !decide (a=b)else decide (a=b)) } | _,_=>none)
 | .eqa neg n x y =>
  match α x,α y with
  | .agg as,.agg bs =>
   match Bu as,Bu bs with
   | some a,some b=>if a.length=n∧b.length=n then some { v:=.bool (if neg then !decide (a=b)else decide (a=b)) } else none
   | _,_=>none
  | _,_=>none
 | .un op x =>
  match op,α x with
  | .not,.bool b=>some { v:=.bool (!b) }
  | .neg,.int k n=>some { v:=.int k (k.wrap (0 - n)) }
  | _,_=>none
 | .conv k x=>(match α x with | .int _ n=>some { v:=.int k (k.wrap n) } | _=>none)
 | .QU f first captured=>some { v:=.fn f (first.map α) (captured.map α) }
 | .Cj=>some { v:=.map nx,new:=some (.map [] 0) }
 | .C5 sz _ zs nil n m=>if nil then some { v:=.Ag sz nx 0 0,new:=some (.box []) } else
  (match α n,α m with | .int _ n,.int _ m=>if n=m then some { v:=.Ag sz nx 0 n.toNat,new:=some (.box (List.replicate n.toNat zs).flatten) } else none | _,_=>none)
 | .slice _ x lo hi mx =>
  match α x,BJ (lo.map α),BJ (hi.map α),BJ (mx.map α)with
  | .list sz t xs,some lo,some hi,some mx =>
   some { v:=.list sz (match mx,hi with | some m,some h => if m=h then .full else .none | none,none => t.keep | _,_ => .none)
                 ((xs.take (match hi with | some h=>h.toNat | none=>xs.length)).drop (match lo with | some l=>l.toNat | none=>0)) }
  | _,_,_,_=>none
 | .Gk x lo hi =>
  match α x,BJ (lo.map α),BJ (hi.map α)with
  | .str s,some lo,some hi=>some { v:=.str (s.extract (match lo with | some l=>l.toNat | none=>0) (match hi with | some h=>h.toNat | none=>s.size)) }
  | _,_,_=>none
 | .Ej n x hi=>(match α x,α hi with | .Ai cs,.int _ h=>some { v:=.list 1 .none ((cs.take n).take h.toNat) } | _,_=>none)
 | .fieldAddr f x =>
  match α x with
  | .ptr o off=>some { v:=.ptr o (off+f) }
  | .Ai cs=>some { v:=.Ai (cs.drop f) }
  | _=>none
 | .field off n agg x=>(match α x with | .agg cs=>(CA n agg (cs.drop off)).map fun v=>{ v } | _=>none)
 | .indexAddr sz x i =>
  match α x,α i with
  | .list _ _ xs,.int _ n=>some { v:=.Ai (xs.getD n.toNat .any).cells }
  | .Ag _ o off _,.int _ n=>some { v:=.ptr o ((off+n.toNat) * sz) }
  | _,_=>none
 | .D2 sz _ x i =>
  match α x,α i with
  | .ptr o off,.int _ n=>some { v:=.ptr o (off+n.toNat * sz) }
  | .Ai cs,.int _ n=>some { v:=.Ai (cs.drop (n.toNat * sz)) }
  | _,_=>none
 | .FY x i=>(match α x,α i with | .str s,.int _ n=>some { v:=.int .u8 ((s.data.toList.getD n.toNat 0).toNat) } | _,_=>none)
 | .extract x i=>(match α x with | .tup vs=>(vs[i]?).map fun v=>{ v } | _=>none)
 | .len x=>(match α x with | .list _ _ xs=>some { v:=.int .i64 xs.length } | .Ag _ _ _ n=>some { v:=.int .i64 n } | _=>none)
 | .Kc x=>(match α x with | .str s=>some { v:=.int .i64 s.size } | _=>none)
 | .Hg x =>
  match α x,obj with
  | .map _,some (.map es _)=>some { v:=.int .i64 es.length }
  | .Ad,_=>some { v:=.int .i64 0 }
  | _,_=>none
 | .append sz _ s x =>
  match α s,α x,obj with
  | .list _ .full xs,.list _ _ ys,_=>some { v:=.list sz (.own nx) (xs++ys),new:=some (.spare ((xs.length+ys.length) * sz)) }
  | .list _ (.own _) xs,.list _ _ ys,some (.spare n)=>if n=xs.length * sz then some { v:=.list sz (.own nx) (xs++ys),upd:=.del,new:=some (.spare ((xs.length+ys.length) * sz)) } else none
  | .Ag sz0 _ off n,.list _ _ ys,some (.box cs)=>if sz0=sz∧off=0∧cs.length=n * sz then some { v:=.Ag sz nx 0 (n+ys.length),upd:=.del,new:=some (.box (cs++flat ys)) } else none
  | _,_,_=>none
 | .min x y=>(match α x,α y with | .int k a,.int _ b=>some { v:=.int k (if b < a then b else a) } | _,_=>none)
 | .max x y=>(match α x,α y with | .int k a,.int _ b=>some { v:=.int k (if a < b then b else a) } | _,_=>none)
 | .lookup _ ok zs agg m k =>
  match α m,obj with
  | .map _,some (.map es _)=>(BL (α k) es 0).map fun r=>{ v:=A2 ok zs agg (r.bind fun i=>(es[i]?).map (·.2.2)) }
  | .Ad,_=>some { v:=A2 ok zs agg none }
  | .Dc es,_=>(DU (α k) es).map fun r=>{ v:=A2 ok zs agg r }
  | .Bp es,_=>(DV (α k) es).map fun r=>{ v:=A2 ok zs agg r }
  | _,_=>none
 | .mapUpdate _ m k x =>
  match α m,obj with
  | .map _,some (.map es clock)=>(BL (α k) es 0).map fun r=>{ v:=.tup [],upd:=.set (Hn es clock (α k) (α x) r) }
  | _,_=>none
 | .delete _ m k =>
  match α m,obj with
  | .map _,some (.map es clock)=>(BL (α k) es 0).map fun r=>{ v:=.tup [],upd:=.set (M7 es clock r) }
  | .Ad,_=>some { v:=.tup [] }
  | _,_=>none
 | .range x =>
  match α x,obj with
  | .map o,some (.map _ clock)=>some { v:=.ptr nx 0,new:=some (.iter (some o) clock [] clock) }
  | .Ad,_=>some { v:=.ptr nx 0,new:=some (.iter none 0 [] 0) }
  | .Bp es,_=>some { v:=.ptr nx 0,new:=some (.CU es []) }
  | _,_=>none
 | .next _=>none
 | .Jq ..=>none
 | .entry _=>none
 | .call ..=>none
def AOp.side (op:AOp) (α:AG→AV) (obj:Option Ax):Prop :=
 match op with
 | .box x=>(α x).isVal=true
 | .build zs parts=>∀ p∈parts,(α p.2.2).isVal=true∧(α p.2.2).cells.length=p.2.1∧p.1+p.2.1≤zs.length
 | .buildSlice sz _ _ m parts=>∀ p∈parts,(α p.2).isVal=true∧(α p.2).cells.length=sz∧p.1 < m
 | .load n _ a =>
  (match α a,obj with
  | .ptr _ off,some (.box cs)=>off+n≤cs.length
  | .Ai cs,_=>n≤cs.length
  | _,_=>False)
 | .store n a x =>
  (α x).isVal=true∧(α x).cells.length=n ∧
  (match α a,obj with
  | .ptr _ off,some (.box cs)=>off+n≤cs.length
  | _,_=>False)
 | .bin op x y=>B7 op (α x) (α y)
 | .slice sz x lo hi mx =>
  (match α x,BJ (lo.map α),BJ (hi.map α),BJ (mx.map α)with
  | .list sz0 _ xs,some lo,some hi,some mx =>
   (sz0=sz∨xs=[])∧(match lo with | some l=>0≤l∧l≤(match hi with | some h=>h | none=>xs.length) | none=>True) ∧
   (match hi with | some h=>0≤h∧h≤xs.length∧(match mx with | some m=>m=h | none=>True) | none=>mx=none)
  | _,_,_,_=>False)
 | .Gk x lo hi =>
  (match α x,BJ (lo.map α),BJ (hi.map α)with
  | .str s,some lo,some hi =>
   (match lo with | some l=>0≤l∧l≤(match hi with | some h=>h | none=>s.size) | none=>True) ∧
   (match hi with | some h=>0≤h∧h≤s.size | none=>True)
  | _,_,_=>False)
 | .Ej n x hi=>(match α x,α hi with | .Ai cs,.int _ h=>(0 < n∧n≤cs.length)∧(0≤h∧h≤n)∧∀ y∈cs.take n,y.cells=[y] | _,_=>False)
 | .fieldAddr f x=>(match α x with | .Ai cs=>f < cs.length | _=>True)
 | .field off n _ x=>(match α x with | .agg cs=>off+n≤cs.length | _=>False)
 | .indexAddr sz x i =>
  (match α x,α i with
  | .list sz' _ xs,.int _ n=>sz'=sz∧0≤n∧n < xs.length
  | .Ag sz' _ _ m,.int _ n=>sz'=sz∧0≤n∧n < m
  | _,_=>False)
 | .D2 _ m _ i=>(match α i with | .int _ n=>0≤n∧n < m | _=>False)
 | .FY x i=>(match α x,α i with | .str s,.int _ n=>0≤n∧n < s.size | _,_=>False)
 | .append sz bytes s x =>
  (match α s,α x with
  | .list sz0 t xs,.list sz1 _ ys=>(sz0=sz∨(xs=[]∧t=.full))∧(sz1=sz∨ys=[])∧(xs.length+ys.length) * bytes≤140737488355328∧xs.length+ys.length≤9223372036854775807
  | .Ag _ _ _ n,.list sz1 _ ys=>(sz1=sz∨ys=[])∧(n+ys.length) * bytes≤140737488355328∧n+ys.length≤9223372036854775807
  | _,_=>False)
 | .min x y | .max x y=>(match α x,α y with | .int k _,.int k' _=>k=k' | _,_=>False)
 | .C5 sz bytes zs nil n _=>if nil then True else(match α n with | .int _ n=>0≤n∧n.toNat * bytes≤140737488355328∧n≤9223372036854775807 | _=>False)
 | .lookup str _ _ _ _ k | .mapUpdate str _ k _ | .delete str _ k=>Bf str (α k)
 | _=>True
def BY (dst:Option (Bool × Nat)) (v:AV) (g l:Env) (K:Env→Env→Prop):Prop :=
 match dst with
 | none=>K g l
 | some (true,t)=>K ((t,v)::g) l
 | some (false,t)=>K g ((t,v)::l)
section
variable (P:Program)
def D7 (f:FuncId):Prop:=∀ (args:Array Value) (w:World),(callFunc f args).run P w=.ok (.enter f args) w
def Inc (ι ι':Nat→Option Nat) (n n':Nat):Prop:=n≤n'∧∀ q b,ι' q=some b→q < n→ι q=some b
def AB [Glob] (f:FuncId) (args:List AV) (s:St) (K:AV→St→Prop):Prop :=
 D7 P f∧∀ (ι:Nat→Option Nat) (w:World) (vs:Array Value),WF ι s.m w→Bnd ι s.m s.nx→Bs ι (AZ ι s.m) w vs args →
  Calls P f vs w fun e w'=>∃ v r s' ι',e=.returned v∧Step ι s.m w ι' s'.m w'∧WF ι' s'.m w'∧Bnd ι' s'.m s'.nx∧Inc ι ι' s.nx s'.nx∧Rep ι' (AZ ι' s'.m) w' v r∧K r s'
def CL [Glob] (o:Nat) (args:List AV) (s:St) (K:AV→St→Prop):Prop :=
 ∀ (ι:Nat→Option Nat) (w:World) (vs:Array Value) (l:Nat),WF ι s.m w→Bnd ι s.m s.nx→ι o=some l→Bs ι (AZ ι s.m) w vs args →
  YieldAt Fence.wide 0 P l vs w fun e w'=>∃ v r s' ι',e=.returned v∧Step ι s.m w ι' s'.m w'∧WF ι' s'.m w'∧Bnd ι' s'.m s'.nx∧Inc ι ι' s.nx s'.nx∧Rep ι' (AZ ι' s'.m) w' v r∧K r s'
def AF [Glob] (f:FuncId) (args:List AV) (r:AV):Prop :=
 ∀ s,AB P f args s fun r' s'=>r'=r∧∀ q,q < s.nx→s'.m q=s.m q
def callee (f:AV) (args:List AV) (K:FuncId→List AV→Prop):Prop :=
 match f with
 | .fn f first captured=>K f (first++args++captured)
 | _=>False
def AOp.BO (op:AOp) (g l:Env) (s:St) (K:AV→St→Prop):Prop :=
 match op.AT (AG.val g l)with
 | none =>
  match op.ev (AG.val g l) s.nx none with
  | none=>False
  | some r=>op.side (AG.val g l) none∧K r.v (s.Bk r.new)
 | some o =>
  match s.m o with
  | none=>False
  | some obj =>
   match op.ev (AG.val g l) s.nx (some obj)with
   | none=>False
   | some r=>op.side (AG.val g l) (some obj)∧K r.v ((s.HS (some o) r.upd).Bk r.new)
def AAt (x:AV) (s:St) (K:AV→St→Prop):Prop :=
 match x with
 | .ptr q 0 =>
  match s.m q with
  | some (.iter none _ _ _)=>K (.tup [.bool false]) s
  | some (.iter (some o) since seen last) =>
   match s.m o with
   | some (.map es clock)=>(seen=[]∨es=[]∨∃ e∈es,e.1 < last)∧((∀ e∈es,e.1 < since→e.1∈seen)→K (.tup [.bool false]) s) ∧
     ∀ e∈es,e.1 ∉ seen→K (.tup [.bool true,e.2.1,e.2.2]) (s.set q (.iter (some o) since (seen++[e.1]) clock))
   | _=>False
  | some (.CU es seen)=>((∀ j,j < es.length→j∈seen)→K (.tup [.bool false]) s)∧∀ (j:Nat) p,es[j]?=some p→j ∉ seen→K (.tup [.bool true,p.1,p.2]) (s.set q (.CU es (seen++[j])))
  | _=>False
 | _=>False
def U7 (x:AV) (s:St) (K:AV→St→Prop):Prop :=
 match x with
 | .ptr q 0 =>
  match s.m q with
  | some (.iter (some o) _ seen last) =>
   match s.m o,seen.getLast? with
   | some (.map es clock),some st=>clock=last∧(match es.find? fun e=>e.1 == st with | some e=>K (.tup [e.2.1,e.2.2]) s | none=>False)
   | _,_=>False
  | some (.CU es seen)=>(match (seen.getLast?).bind (es[·]?)with | some p=>K (.tup [p.1,p.2]) s | none=>False)
  | _=>False
 | _=>False
def QY (neg:Bool) (x:AV) (s:St) (K:AV→St→Prop):Prop :=
 match x with
 | .list _ _ xs=>∀ b:Bool,(xs≠[]→b=neg)→K (.bool b) s
 | _=>False
def AOp.step [Glob] (op:AOp) (g l:Env) (s:St) (K:AV→St→Prop):Prop :=
 match op with
 | .call true f args=>callee (f.val g l) (args.map (AG.val g l)) fun f args=>∃ r,AF P f args r∧K r s
 | .call false f args =>
  match f.val g l with
  | .yld o=>CL P o (args.map (AG.val g l)) s K
  | v=>callee v (args.map (AG.val g l)) fun f args=>AB P f args s K
 | .next x=>AAt (x.val g l) s K
 | .Jq neg x=>QY neg (x.val g l) s K
 | .entry x=>U7 (x.val g l) s K
 | op=>op.BO g l s K
def EI (g l:Env) (t:Bool × Nat):AV:=if t.1 then g.get t.2 else l.get t.2
def BN (t:Bool × Nat) (v:AV) (g l:Env) (K:Env→Env→Prop):Prop:=if t.1 then K ((t.2,v)::g) l else K g ((t.2,v)::l)
def guarded (guard:Option (Bool × Nat × Bool)) (g l:Env) (run skip:Env→Env→Prop):Prop :=
 match guard with
 | none=>run g l
 | some (gl,t,want) =>
  match EI g l (gl,t)with
  | .bool b=>(b=want→BN (gl,t) (.bool want) g l run)∧(b=!want→BN (gl,t) (.bool !want) g l skip)
  | .tup []=>skip g l
  | _=>False
def Cr [Glob]:List AR→(Env→Env→St→Prop)→Env→Env→St→Prop
 | [],K,g,l,s=>K g l s
 | o::os,K,g,l,s =>
  guarded o.guard g l (fun g l=>o.op.step P g l s fun v s'=>BY o.dst v g l fun g' l'=>Cr os K g' l' s') (fun g l=>BY o.dst (.tup []) g l fun g' l'=>Cr os K g' l' s)
inductive Ay where
 | normal | exit (id:Nat) | ret
end
end Go.AL
namespace Go.AL
variable {ι ι':Nat→Option Nat} {S S':AX} {w w':World} {P:Program}
theorem Inc.refl (ι:Nat→Option Nat) (n:Nat):Inc ι ι n n:=⟨Nat.le_refl _,fun _ _ h _=>h⟩
theorem Inc.trans {ι ι₁ ι₂:Nat→Option Nat} {a b c:Nat} (h:Inc ι ι₁ a b) (k:Inc ι₁ ι₂ b c):Inc ι ι₂ a c :=
 ⟨Nat.le_trans h.1 k.1,fun q x hq hlt=>h.2 q x (k.2 q x hq (Nat.lt_of_lt_of_le hlt h.1)) hlt⟩
theorem Bb (a:Addr) (ha:a.spot=none) (j:Nat):a.add j=⟨a.block,a.off+j,none⟩:=by
 cases a with
 | mk b o s =>
  simp only at ha
  subst ha
  unfold Addr.add
  split <;> simp_all
theorem WF.Ct [Glob] (hwf:WF ι S w) (hs:Step ι S w ι' S' w') (hblt:∀ o b,ι' o=some b→b < w'.heap.size)
  (hinj:∀ o o' obj obj' b,S' o=some obj→S' o'=some obj'→ι' o=some b→ι' o'=some b→o=o')
  (hobj:∀ o obj b,S' o=some obj→ι' o=some b→(S o=some obj∧ι o=some b∧w'.heap[b]?=w.heap[b]?)∨C1 ι' (AZ ι' S') w' b obj):WF ι' S' w':=by
 refine⟨hblt,hinj,fun o obj b ho hb=>?_,fun g x hg=>(hwf.laid g x hg).step hs⟩
 rcases hobj o obj b ho hb with ⟨h1,h2,h3⟩ | h
 ·exact(hwf.rep o obj b h1 h2).keep (fun v x hv=>hv.step hs) h3 fun mb ces c h hf=>⟨hs.maps mb ces c h hf,fun off h'=>hf off (hs.IL mb off (Array.getElem?_eq_some_iff.1 h).1 h')⟩
 ·exact h
theorem CY (ι:Nat→Option Nat) (S:AX) (w:World):Step ι S w ι S w.drew :=
 ⟨rfl,rfl,rfl,Nat.le_refl _,fun _ _ _=>rfl,fun _ _ _ _=>rfl,fun _ _ h=>h,fun _ _ _ h _=>h,fun _ _ h=>h,fun _ _ _ h=>h,fun _ _ h=>h⟩
theorem WF.drew [Glob] (hwf:WF ι S w):WF ι S w.drew :=
 hwf.Ct (CY ι S w) hwf.blt hwf.inj fun _ _ _ h1 h2=>.inl ⟨h1,h2,rfl⟩
theorem C3 (w:World) (o:Obj) {b:Nat} (h:b < w.heap.size):(w.alloc o).heap[b]?=w.heap[b]?:=by
 show (w.heap.push o)[b]?=w.heap[b]?
 rw [Array.getElem?_push,if_neg (Nat.ne_of_lt h)]
theorem BH (w:World) (o:Obj):(w.alloc o).heap[w.heap.size]?=some o:=by
 show (w.heap.push o)[w.heap.size]?=some o
 simp
theorem Qs {w:World} {b n:Nat} (h:CN w b n):b < w.heap.size:=by
 obtain⟨c,e,h,_⟩:=h
 exact(Array.getElem?_eq_some_iff.1 h).1
theorem grow_step [Glob] (hsz:w.heap.size≤w'.heap.size) (hos:w'.os=w.os) (htape:w'.tape=w.tape) (hout:w'.output=w.output)
  (hh:∀ b,b < w.heap.size→w'.heap[b]?=w.heap[b]?) (hext:∀ o b,ι o=some b→ι' o=some b)
  (hfoot:∀ b off,b < w.heap.size→AZ ι' S' b off→AZ ι S b off) (hnblk:∀ b,b < w.heap.size→Blk ι' S' b→Blk ι S b):Step ι S w ι' S' w' where
 os:=hos
 tape:=htape
 output:=hout
 size:=hsz
 blk b hb _:=hh b hb
 cell b off hb _:=by simp [World.cell?,hh b hb]
 shape b n h:=by
  have hb:=Qs h
  obtain⟨c,e,h1,h2⟩:=h
  exact⟨c,e,(hh b hb).trans h1,h2⟩
 maps b ces c h _:=(hh b (Array.getElem?_eq_some_iff.1 h).1).trans h
 ext:=hext
 IL:=hfoot
 Lv:=hnblk
theorem Ky [Glob] (ι:Nat→Option Nat) (S:AX) (w:World) (o:Obj):Step ι S w ι S (w.alloc o) :=
 grow_step (by simp) rfl rfl rfl (fun b hb=>C3 w o hb) (fun _ _ h=>h) (fun _ _ _ h=>h) (fun _ _ h=>h)
theorem WF.alloc [Glob] (hwf:WF ι S w) (o:Obj):WF ι S (w.alloc o) :=
 hwf.Ct (Ky ι S w o) (fun o b h=>by have:=hwf.blt o b h;simp;omega) hwf.inj fun _ _ b h1 h2=>.inl ⟨h1,h2,C3 w o (hwf.blt _ b h2)⟩
def An (ι:Nat→Option Nat) (n b:Nat):Nat→Option Nat:=fun q=>if q=n then some b else ι q
def Au (S:AX) (n:Nat) (obj:Ax):AX:=fun q=>if q=n then some obj else S q
def CO (S:AX) (n:Nat):AX:=fun q=>if q=n then none else S q
theorem IN {n b:Nat} (h:ι n=none):∀ o c,ι o=some c→An ι n b o=some c:=by
 intro o c ho
 unfold An
 split
 ·rename_i e;subst e;rw [h]at ho;cases ho
 ·exact ho
theorem A8 [Glob] (hwf:WF ι S w) {n:Nat} (hι:ι n=none) (o:Obj) (obj:Ax) :
  Step ι S w (An ι n w.heap.size) (Au S n obj) (w.alloc o):=by
 refine grow_step (by simp) rfl rfl rfl (fun b hb=>C3 w o hb) (IN hι) ?_ ?_
 ·rintro b off hb ⟨q,ob,h1,h2,h3⟩
  unfold An at h2
  unfold Au at h1
  split at h2
  ·simp at h2;omega
  ·rename_i hq
   simp only [hq,if_false]at h1
   exact⟨q,ob,h1,h2,h3⟩
 ·rintro b hb ⟨q,ob,h1,h2⟩
  unfold An at h2
  unfold Au at h1
  split at h2
  ·simp at h2;omega
  ·rename_i hq
   simp only [hq,if_false]at h1
   exact⟨q,ob,h1,h2⟩
theorem Bo [Glob] (hwf:WF ι S w) {n:Nat} (hι:ι n=none) (o:Obj) (obj:Ax)
  (hrep:C1 (An ι n w.heap.size) (AZ (An ι n w.heap.size) (Au S n obj)) (w.alloc o) w.heap.size obj) :
  WF (An ι n w.heap.size) (Au S n obj) (w.alloc o):=by
 refine hwf.Ct (A8 hwf hι o obj) ?_ ?_ ?_
 ·intro q b hq
  unfold An at hq
  split at hq
  ·simp at hq;subst hq;simp
  ·have:=hwf.blt q b hq;simp;omega
 ·intro q q' ob ob' b h1 h2 h3 h4
  unfold An at h3 h4
  unfold Au at h1 h2
  by_cases e:q=n <;> by_cases e':q'=n <;> simp only [e,e',if_true,if_false]at h1 h2 h3 h4 ⊢
  ·simp at h3;subst h3;have:=hwf.blt q' _ h4;omega
  ·simp at h4;subst h4;have:=hwf.blt q _ h3;omega
  ·exact hwf.inj q q' ob ob' b h1 h2 h3 h4
 ·intro q ob b h1 h2
  unfold An at h2
  unfold Au at h1
  split at h2
  ·rename_i e
   simp only [e,if_true]at h1
   simp at h1 h2
   subst h1 h2
   exact .inr hrep
  ·rename_i e
   simp only [e,if_false]at h1
   exact .inl ⟨h1,h2,C3 w o (hwf.blt q b h2)⟩
theorem CM [Glob] {n:Nat} (hι:ι n=none) (S:AX) (w:World) (obj:Ax):Step ι S w ι (Au S n obj) w:=by
 refine grow_step (Nat.le_refl _) rfl rfl rfl (fun _ _=>rfl) (fun _ _ h=>h) ?_ ?_
 ·rintro b off hb ⟨q,ob,h1,h2,h3⟩
  unfold Au at h1
  split at h1
  ·rename_i e;subst e;rw [hι]at h2;cases h2
  ·exact⟨q,ob,h1,h2,h3⟩
 ·rintro b hb ⟨q,ob,h1,h2⟩
  unfold Au at h1
  split at h1
  ·rename_i e;subst e;rw [hι]at h2;cases h2
  ·exact⟨q,ob,h1,h2⟩
theorem WF.HC [Glob] (hwf:WF ι S w) {n:Nat} (hι:ι n=none) (obj:Ax):WF ι (Au S n obj) w:=by
 refine hwf.Ct (CM hι S w obj) hwf.blt ?_ ?_
 ·intro q q' ob ob' b h1 h2 h3 h4
  unfold Au at h1 h2
  by_cases e:q=n <;> by_cases e':q'=n <;> simp only [e,e',if_true,if_false]at h1 h2 h3 h4 ⊢
  ·rw [hι]at h3;cases h3
  ·rw [hι]at h4;cases h4
  ·exact hwf.inj q q' ob ob' b h1 h2 h3 h4
 ·intro q ob b h1 h2
  unfold Au at h1
  split at h1
  ·rename_i e;subst e;rw [hι]at h2;cases h2
  ·exact .inl ⟨h1,h2,rfl⟩
theorem BG [Glob] (S S':AX) (hS:∀ o obj,S' o=some obj→S o=some obj) (ι:Nat→Option Nat) (w:World):Step ι S w ι S' w:=by
 refine grow_step (Nat.le_refl _) rfl rfl rfl (fun _ _=>rfl) (fun _ _ h=>h) ?_ ?_
 ·rintro b off hb ⟨q,ob,h1,h2,h3⟩
  exact⟨q,ob,hS _ _ h1,h2,h3⟩
 ·rintro b hb ⟨q,ob,h1,h2⟩
  exact⟨q,ob,hS _ _ h1,h2⟩
theorem WF.drop [Glob] (hwf:WF ι S w) {S':AX} (hS:∀ o obj,S' o=some obj→S o=some obj):WF ι S' w :=
 hwf.Ct (BG S S' hS ι w) hwf.blt (fun o o' obj obj' b h1 h2=>hwf.inj o o' obj obj' b (hS _ _ h1) (hS _ _ h2)) fun o obj b h1 h2=>.inl ⟨hS _ _ h1,h2,rfl⟩
theorem Ho {o b:Nat} {obj:Ax} {vs cs:Array Value} {e:TypeId} (ho:S o=some obj) (hb:ι o=some b) (hh:w.heap[b]?=some (.cells vs e (0,0)))
  (hsz:cs.size=vs.size) (hkeep:∀ j,¬ obj.mut j→cs[j]?=vs[j]?) (hext:∀ o b,ι o=some b→ι' o=some b)
  (hfoot:∀ b off,b < w.heap.size→AZ ι' S' b off→AZ ι S b off) (hnblk:∀ b,b < w.heap.size→Blk ι' S' b→Blk ι S b) :
  Step ι S w ι' S' (w.setRow b cs) where
 os:=rfl
 tape:=rfl
 output:=rfl
 size:=by simp
 blk k hk hn:=setRow_other w b k cs (fun e=>hn (e ▸ ⟨o,obj,ho,hb⟩))
 cell k off hk hn:=by
  by_cases e:k=b
  ·subst e
   rw [cell_setRow_same w k off vs cs _ (0,0) hh]
   simp only [World.cell?,hh]
   exact hkeep off (fun hm=>hn ⟨o,obj,ho,hb,hm⟩)
  ·simp [World.cell?,setRow_other w b k cs e]
 shape k n h:=by
  obtain⟨c,e',h1,h2⟩:=h
  by_cases e:k=b
  ·subst e
   rw [hh]at h1
   cases h1
   exact⟨cs,_,setRow_heap w k vs cs _ (0,0) hh,by omega⟩
  ·exact⟨c,e',(setRow_other w b k cs e).trans h1,h2⟩
 maps k ces c h _:=by
  by_cases e':k=b
  ·subst e';rw [hh]at h;cases h
  ·exact(setRow_other w b k cs e').trans h
 ext:=hext
 IL:=hfoot
 Lv:=hnblk
theorem Ki {o:Nat} {obj obj':Ax} (ho:S o=some obj) (hm:∀ j,obj'.mut j→obj.mut j) (b off:Nat) (h:AZ ι (Au S o obj') b off):AZ ι S b off:=by
 obtain⟨q,ob,h1,h2,h3⟩:=h
 unfold Au at h1
 split at h1
 ·rename_i e;subst e;simp at h1;subst h1;exact⟨q,obj,ho,h2,hm _ h3⟩
 ·exact⟨q,ob,h1,h2,h3⟩
theorem SF {o:Nat} {obj obj':Ax} (ho:S o=some obj) (b:Nat) (h:Blk ι (Au S o obj') b):Blk ι S b:=by
 obtain⟨q,ob,h1,h2⟩:=h
 unfold Au at h1
 split at h1
 ·rename_i e;subst e;exact⟨q,obj,ho,h2⟩
 ·exact⟨q,ob,h1,h2⟩
theorem HD [Glob] {o b:Nat} {obj obj':Ax} {vs cs:Array Value} {e:TypeId} (hwf:WF ι S w) (ho:S o=some obj) (hb:ι o=some b)
  (hh:w.heap[b]?=some (.cells vs e (0,0))) (hsz:cs.size=vs.size) (hmut:∀ j,obj.mut j) 
  (hrep:(∀ v x,Rep ι (AZ ι S) w v x→Rep ι (AZ ι (Au S o obj')) (w.setRow b cs) v x)→(w.setRow b cs).heap[b]?=some (.cells cs e (0,0)) →
   C1 ι (AZ ι (Au S o obj')) (w.setRow b cs) b obj') :
  Step ι S w ι (Au S o obj') (w.setRow b cs)∧WF ι (Au S o obj') (w.setRow b cs):=by
 have hs:Step ι S w ι (Au S o obj') (w.setRow b cs) :=
  Ho ho hb hh hsz (fun j hj=>(hj (hmut j)).elim) (fun _ _ h=>h) (fun b off _ h=>Ki ho (fun j _=>hmut j) b off h) (fun b _ h=>SF ho b h)
 refine⟨hs,hwf.Ct hs ?_ ?_ ?_⟩
 ·intro q c hq;have:=hwf.blt q c hq;simpa using this
 ·intro q q' ob ob' c h1 h2 h3 h4
  have lift:∀ {q ob},Au S o obj' q=some ob→∃ ob,S q=some ob:=by
   intro q ob h
   unfold Au at h
   split at h
   ·rename_i e;exact⟨obj,e ▸ ho⟩
   ·exact⟨ob,h⟩
  obtain⟨_,k1⟩:=lift h1
  obtain⟨_,k2⟩:=lift h2
  exact hwf.inj q q' _ _ c k1 k2 h3 h4
 ·intro q ob c h1 h2
  by_cases eq:q=o
  ·subst eq
   rw [hb]at h2
   simp at h2
   subst h2
   simp [Au]at h1
   subst h1
   exact .inr (hrep (fun v x h=>h.step hs) (setRow_heap w b vs cs e (0,0) hh))
  ·have h1':S q=some ob:=by simpa [Au,eq] using h1
   have hne:c≠b:=fun e=>eq (hwf.inj q o ob obj b h1' ho (e ▸ h2) hb)
   exact .inl ⟨h1',h2,setRow_other w b c cs hne⟩
def EJ (w:World) (b:Nat) (o:Obj):World:={ w with heap:=w.heap.setIfInBounds b o }
def ID (o:Obj):Prop:=∀ c e f,o≠.cells c e f
theorem UD {w:World} {b:Nat} {o o':Obj} (h:w.heap[b]?=some o):(EJ w b o').heap[b]?=some o':=by
 have hlt:=(Array.getElem?_eq_some_iff.1 h).1
 simp [EJ,hlt]
theorem Dk {w:World} {b k:Nat} {o':Obj} (h:k≠b):(EJ w b o').heap[k]?=w.heap[k]?:=by
 simp [EJ,Ne.symm h]
theorem GA [Glob] {o b:Nat} {obj obj':Ax} {co co':Obj} (hwf:WF ι S w) (ho:S o=some obj) (hb:ι o=some b)
  (hh:w.heap[b]?=some co) (hn:ID co) (hn':ID co') (hmut:∀ j,obj.mut j)
  (hrep:(∀ v x,Rep ι (AZ ι S) w v x→Rep ι (AZ ι (Au S o obj')) (EJ w b co') v x)→(EJ w b co').heap[b]?=some co' →
   C1 ι (AZ ι (Au S o obj')) (EJ w b co') b obj') :
  Step ι S w ι (Au S o obj') (EJ w b co')∧WF ι (Au S o obj') (EJ w b co'):=by
 have hs:Step ι S w ι (Au S o obj') (EJ w b co'):=by
  refine⟨rfl,rfl,rfl,by simp [EJ],fun k hk hnb=>Dk fun e=>hnb (e ▸ ⟨o,obj,ho,hb⟩),fun k off hk hf=>?_,fun k n h=>?_,fun k ces c h hf=>(Dk (fun e:k=b=>hf 0 ⟨o,obj,ho,by rw [e];exact hb,hmut 0⟩)).trans h,fun _ _ h=>h,fun b off _ h=>Ki ho (fun j _=>hmut j) b off h,fun b _ h=>SF ho b h⟩
  ·by_cases e:k=b
   ·subst e;exact absurd ⟨o,obj,ho,hb,hmut off⟩ hf
   ·simp [World.cell?,Dk e]
  ·obtain⟨c,e',h1,h2⟩:=h
   by_cases e:k=b
   ·subst e;rw [hh]at h1;cases h1;exact absurd rfl (hn _ _ _)
   ·exact⟨c,e',(Dk e).trans h1,h2⟩
 refine⟨hs,hwf.Ct hs ?_ ?_ ?_⟩
 ·intro q c hq;have:=hwf.blt q c hq;simpa [EJ] using this
 ·intro q q' ob ob' c h1 h2 h3 h4
  have lift:∀ {q ob},Au S o obj' q=some ob→∃ ob,S q=some ob:=by
   intro q ob h
   unfold Au at h
   split at h
   ·rename_i e;exact⟨obj,e ▸ ho⟩
   ·exact⟨ob,h⟩
  obtain⟨_,k1⟩:=lift h1
  obtain⟨_,k2⟩:=lift h2
  exact hwf.inj q q' _ _ c k1 k2 h3 h4
 ·intro q ob c h1 h2
  by_cases eq:q=o
  ·subst eq
   rw [hb]at h2
   simp at h2
   subst h2
   simp [Au]at h1
   subst h1
   exact .inr (hrep (fun v x h=>h.step hs) (UD hh))
  ·have h1':S q=some ob:=by simpa [Au,eq] using h1
   have hne:c≠b:=fun e=>eq (hwf.inj q o ob obj b h1' ho (e ▸ h2) hb)
   exact .inl ⟨h1',h2,Dk hne⟩
end Go.AL
namespace Go.AL
variable {ι ι':Nat→Option Nat} {S S':AX} {F:Nat→Nat→Prop} {w w':World} {P:Program}
def GH (ι:Nat→Option Nat) (F:Nat→Nat→Prop) (w:World) (a:Addr) (l:List AV):Prop :=
 a.spot=none∧∃ f:Nat→Value,∀ j x,l[j]?=some x→w.cell? ⟨a.block,a.off+j,none⟩=some (f j)∧(f j).oneCell'=true∧Rep ι F w (f j) x
theorem GH.drop {a:Addr} {l:List AV} (h:GH ι F w a l) (n:Nat):GH ι F w ⟨a.block,a.off+n,none⟩ (l.drop n):=by
 obtain⟨h1,f,h2⟩:=h
 refine⟨rfl,fun j=>f (n+j),fun j x hx=>?_⟩
 have:=h2 (n+j) x (by simpa using hx)
 simpa [Nat.add_assoc] using this
theorem Gt {b:Nat} {cs:List AV} (h:C1 ι F w b (.box cs)):GH ι F w ⟨b,0,none⟩ cs:=by
 obtain⟨vs,e,h1,h2,h3,h4⟩:=h
 refine⟨rfl,fun j=>vs.getD j undef,fun j x hx=>?_⟩
 have hj':=(List.getElem?_eq_some_iff.1 hx).1
 have hj:j < vs.size:=by omega
 have hv:vs[j]?=some (vs.getD j undef):=by simp [hj]
 refine⟨by simp [World.cell?,h1,hj],h4 j _ hj' hv,h3 j _ x hv hx⟩
theorem NF {a:Addr} {l:List AV} (h:Rep ι F w (.pointer (some a)) (.Ai l)):GH ι F w a l:=by
 cases h with
 | Ai cs ha hc hr =>
  refine⟨ha,cs,fun j x hx=>?_⟩
  have hj:=(List.getElem?_eq_some_iff.1 hx).1
  obtain⟨h1,h2,h3⟩:=hc j hj
  exact⟨h1,h3,hr j x hx⟩
theorem KD (t:TypeId) (a:Addr) (v:Value) (hagg:(isAgg t).run P w=.ok false w) (h:w.cell? a=some v):(loadVar t a).run P w=.ok v w:=by
 simp [loadVar,hagg,h]
theorem KE (t:TypeId) (a:Addr) (n:Nat) (f:Nat→Value) (hagg:(isAgg t).run P w=.ok true w) (hs:(sizeOf t).run P w=.ok n w)
  (h:∀ j,j < n→w.cell? (a.add j)=some (f j)):(loadVar t a).run P w=.ok (.agg ((List.range n).map f).toArray) w:=by
 simp [loadVar,hagg,hs,run_loadCells w a n f h]
theorem Hl [Glob] (t:TypeId) (n:Nat) (agg:Bool) (hagg:(isAgg t).run P w=.ok agg w) (hs:(sizeOf t).run P w=.ok n w) {a:Addr} {l:List AV} (hc:GH ι F w a l)
  (hn:n≤l.length) {x:AV} (hx:CA n agg l=some x):∃ v,(Instr.loadAt t (.pointer (some a))).run P w=.ok v w∧Rep ι F w v x:=by
 obtain⟨ha,f,h⟩:=hc
 cases agg with
 | false =>
  simp only [CA,Bool.false_eq_true,if_false]at hx
  cases l with
  | nil=>simp at hx
  | cons y r =>
   simp at hx
   subst hx
   obtain⟨h1,h2,h3⟩:=h 0 y (by simp)
   have ha':a=⟨a.block,a.off+0,none⟩:=by cases a;simp_all
   refine⟨f 0,?_,h3⟩
   simp only [Instr.loadAt,Instr.sureAddr,Sem.run_bind,Sem.run_pure,Result.andThen_ok]
   exact KD t a (f 0) hagg (by rw [ha'];exact h1)
 | true =>
  simp only [CA,if_true]at hx
  cases hx
  refine⟨.agg ((List.range n).map f).toArray,?_,?_⟩
  ·simp only [Instr.loadAt,Instr.sureAddr,Sem.run_bind,Sem.run_pure,Result.andThen_ok]
   refine KE t a n f hagg hs fun j hj=>?_
   rw [Bb a ha]
   exact(h j l[j] (by simp)).1
  ·refine .agg (by simp;omega) (fun j v hv=>?_) (fun j v x hv hx=>?_)
   ·simp only [List.getElem?_toArray,List.getElem?_map,List.getElem?_range,Option.map_eq_some_iff]at hv
    obtain⟨k,hk,rfl⟩:=hv
    have hj:j < n:=by
     rcases Nat.lt_or_ge j n with h' | h'
     ·exact h'
     ·simp [List.getElem?_eq_none,h']at hk
    have hk':k=j:=by simpa [hj,List.getElem?_range] using hk.symm
    subst hk'
    exact(h k l[k] (by simp)).2.1
   ·simp only [List.getElem?_toArray,List.getElem?_map,Option.map_eq_some_iff]at hv
    obtain⟨k,hk,rfl⟩:=hv
    have hj:j < n:=by
     rcases Nat.lt_or_ge j n with h' | h'
     ·exact h'
     ·simp [List.getElem?_eq_none,h']at hk
    have hk':k=j:=by simpa [hj,List.getElem?_range] using hk.symm
    subst hk'
    rw [List.getElem?_take_of_lt hj]at hx
    exact(h k x hx).2.2
theorem NG (t:TypeId) (g o n:Nat) (e:TypeId) (v:Value) (cur:Array Value) (hs:(sizeOf t).run P w=.ok n w) (hn:v.cells.size=n)
  (hg:w.heap[g]?=some (.cells cur e (0,0))) (hfit:o+n≤cur.size) (h1:∀ (j:Nat) u,v.cells[j]?=some u→u.oneCell'=true) :
  (Instr.storeAt t (.pointer (some ⟨g,o,none⟩)) v).run P w=.ok () (w.setRow g (cur.toList.take o++v.cells.toList++cur.toList.drop (o+n)).toArray):=by
 have hst:=run_storeCells_at P g o e v.cells.toList 0 cur w hg (by simp;omega) (fun u hu=>by
  obtain⟨j,hj⟩:=List.mem_iff_getElem?.1 hu
  exact h1 j u (by simpa using hj))
 simp only [Instr.storeAt,Instr.sureAddr,storeVar,Sem.run_bind,Sem.run_pure,Result.andThen_ok,hs,hn,ne_eq,not_true,if_false]
 simpa [hn] using hst
theorem HE {α:Type} (l m:List α) (o:Nat) (ho:o+m.length≤l.length) (j:Nat) :
  (l.take o++m++l.drop (o+m.length))[j]?=if j < o then l[j]? else if j < o+m.length then m[j - o]? else l[j]?:=by
 have hlen:(l.take o).length=o:=by simp;omega
 by_cases h1:j < o
 ·rw [if_pos h1,List.append_assoc,List.getElem?_append_left (by omega),List.getElem?_take_of_lt h1]
 ·rw [if_neg h1,List.append_assoc,List.getElem?_append_right (by omega),hlen]
  by_cases h2:j < o+m.length
  ·rw [if_pos h2,List.getElem?_append_left (by omega)]
  ·rw [if_neg h2,List.getElem?_append_right (by omega),List.getElem?_drop]
   congr 1
   omega
theorem UE [Glob] (hwf:WF ι S w) {o b off n:Nat} {cs:List AV} (ho:S o=some (.box cs)) (hb:ι o=some b) {v:Value} {x:AV} (hv:Rep ι (AZ ι S) w v x) (hx:x.isVal=true)
  (hn:x.cells.length=n) (hfit:off+n≤cs.length) (t:TypeId) (hs:(sizeOf t).run P w=.ok n w) :
  ∃ w',(Instr.storeAt t (.pointer (some ⟨b,off,none⟩)) v).run P w=.ok () w'∧Step ι S w ι (Au S o (.box (Ed cs off x))) w'∧WF ι (Au S o (.box (Ed cs off x))) w':=by
 obtain⟨vs,e,h1,hsz,h2,h3⟩:=hwf.rep o _ b ho hb
 obtain⟨⟨hc1,hc2⟩,hc3⟩:=hv.cells hx
 have hvn:v.cells.size=n:=hc1.trans hn
 have hrun:=NG (P:=P) t b off n e v vs hs hvn h1 (by omega) hc3
 have hlen:(vs.toList.take off++v.cells.toList++vs.toList.drop (off+n)).toArray.size=vs.size:=by simp;omega
 have hget:∀ j:Nat,(vs.toList.take off++v.cells.toList++vs.toList.drop (off+n)).toArray[j]?=if j < off then vs[j]? else if j < off+n then v.cells[j - off]? else vs[j]?:=by
  intro j
  have:=HE vs.toList v.cells.toList off (by simp;omega) j
  simp only [Array.length_toList,hvn,Array.getElem?_toList]at this
  simpa using this
 have hget':∀ j:Nat,(Ed cs off x)[j]?=if j < off then cs[j]? else if j < off+n then x.cells[j - off]? else cs[j]?:=by
  intro j
  have:=HE cs x.cells off (by omega) j
  simpa [Ed,hn] using this
 refine⟨_,hrun,HD hwf ho hb h1 hlen (fun _=>trivial) fun hkeep hheap=>?_⟩
 have hsl:(Ed cs off x).length=cs.length:=by simp [Ed];omega
 refine⟨_,e,hheap,by rw [hlen,hsl];exact hsz,fun j u y hu hy=>?_,fun j u hj0 hu=>?_⟩
 ·rw [hget]at hu
  rw [hget']at hy
  refine hkeep _ _ ?_
  split at hu
  ·rename_i hj;simp only [hj,if_true]at hy;exact h2 j u y hu hy
  ·rename_i hj
   simp only [hj,if_false]at hy
   split at hu
   ·rename_i hj2;simp only [hj2,if_true]at hy;exact hc2 _ u y hu hy
   ·rename_i hj2;simp only [hj2,if_false]at hy;exact h2 j u y hu hy
 ·rw [hget]at hu
  rw [hsl]at hj0
  split at hu
  ·exact h3 j u hj0 hu
  ·split at hu
   ·exact hc3 _ u hu
   ·exact h3 j u hj0 hu
theorem NH [Glob] (hwf:WF ι S w) {n:Nat} (hι:ι n=none) {vs:Array Value} {cs:List AV} (h:Bs ι (AZ ι S) w vs cs) (h1:∀ (j:Nat) v,vs[j]?=some v→v.oneCell'=true) (e:TypeId) :
  Step ι S w (An ι n w.heap.size) (Au S n (.box cs)) (w.alloc (.cells vs e))∧WF (An ι n w.heap.size) (Au S n (.box cs)) (w.alloc (.cells vs e)):=by
 have hs:=A8 hwf hι (.cells vs e) (.box cs)
 exact⟨hs,Bo hwf hι _ _ ⟨vs,e,BH w _,Nat.le_of_eq h.1.symm,(h.step hs).2,fun j v _=>h1 j v⟩⟩
theorem Ck (v:Value) {x:AV} (h:A9 v=some x):Rep ι F w v x:=by
 unfold A9 at h
 split at h <;> simp at h <;> subst h
 ·exact .bool _
 ·exact .int _ _
 ·exact .str _
 ·exact .C2
 ·exact .list (fun _=>undef) rfl (Nat.le_refl _) (by simp) rfl (by simp) (by simp) (by simp)
 ·exact .Ad
 ·exact .Es
theorem IP (v:Value) {x:AV} (h:A9 v=some x):v.oneCell'=true:=by
 unfold A9 at h
 split at h <;> simp at h <;> subst h <;> rfl
theorem L3 (v:Value) {x:AV} (h:A9 v=some x):x.isVal=true∧x.cells=[x]:=by
 unfold A9 at h
 split at h <;> simp at h <;> subst h <;> exact⟨rfl,rfl⟩
def Ca (P:Program) (t:TypeId):Option (List AV):=(P.info? t).bind fun i=>i.zero.bind fun z=>z.cells.toList.mapM A9
theorem O7 {vs:List Value} {l:List AV} (h:vs.mapM A9=some l):vs.length=l.length∧∀ (j:Nat) v x,vs[j]?=some v→l[j]?=some x→A9 v=some x:=by
 induction vs generalizing l with
 | nil=>simp at h;subst h;simp
 | cons v vs ih =>
  simp only [List.mapM_cons,Option.bind_eq_bind,Option.pure_def]at h
  cases hv:A9 v with
  | none=>simp [hv]at h
  | some y =>
   cases hr:vs.mapM A9 with
   | none=>simp [hv,hr]at h
   | some r =>
    simp [hv,hr]at h
    subst h
    obtain⟨h1,h2⟩:=ih hr
    refine⟨by simp [h1],fun j u x hu hx=>?_⟩
    cases j with
    | zero=>simp at hu hx;subst hu hx;exact hv
    | succ j=>simp at hu hx;exact h2 j u x hu hx
theorem Br [Glob] {t:TypeId} {zs:List AV} (h:Ca P t=some zs):∃ i z,P.info? t=some i∧i.zero=some z∧Bs ι F w z.cells zs∧(∀ (j:Nat) v,z.cells[j]?=some v→v.oneCell'=true) ∧
  (zeroValue t).run P w=.ok z w∧(∀ x∈zs,x.isVal=true∧x.cells=[x]):=by
 unfold Ca at h
 cases hi:P.info? t with
 | none=>simp [hi]at h
 | some i =>
  cases hz:i.zero with
  | none=>simp [hi,hz]at h
  | some z =>
   simp [hi,hz]at h
   obtain⟨h1,h2⟩:=O7 h
   have hex:∀ (j:Nat) v,z.cells[j]?=some v→∃ x,zs[j]?=some x∧A9 v=some x:=by
    intro j v hv
    have hj:j < zs.length:=by rw [← h1];simpa using (Array.getElem?_eq_some_iff.1 hv).1
    exact⟨zs[j],by simp,h2 j v _ (by simpa using hv) (by simp)⟩
   refine⟨i,z,rfl,hz,⟨by simpa using h1,fun j v x hv hx=>Ck v (h2 j v x (by simpa using hv) hx)⟩,fun j v hv=>?_,?_,?_⟩
   ·obtain⟨x,_,hx⟩:=hex j v hv;exact IP v hx
   ·simp [zeroValue,typeInfo,hi,hz]
   ·intro x hx
    obtain⟨j,hj⟩:=List.mem_iff_getElem?.1 hx
    have hj':j < z.cells.toList.length:=by rw [h1];exact(List.getElem?_eq_some_iff.1 hj).1
    exact L3 _ (h2 j z.cells.toList[j] x (by simp) hj)
end Go.AL
namespace Go.AL
variable {ι ι':Nat→Option Nat} {S S':AX} {F:Nat→Nat→Prop} {w w':World} {P:Program}
theorem O8 (off:Nat):∀ (vs:List Value) (i:Nat) (cur:Array Value),off+i+vs.length≤cur.size →
  (vs.zipIdx i).foldl (fun cs (p:Value × Nat)=>cs.setIfInBounds (off+p.2) p.1) cur=(cur.toList.take (off+i)++vs++cur.toList.drop (off+i+vs.length)).toArray
 | [],i,cur,h=>by simp
 | v::vs,i,cur,h=>by
  simp only [List.zipIdx_cons,List.foldl_cons]
  rw [O8 off vs (i+1) _ (by simp at h ⊢;omega)]
  have e:=list_seg_step cur.toList (off+i) v vs (by simp at h ⊢;omega)
  congr 1
  simpa [Array.toList_setIfInBounds,Nat.add_assoc] using e
theorem UF [Glob] (vs:Array Value) (off:Nat) (cur:Array Value) (h:off+vs.size≤cur.size) :
  vs.zipIdx.foldl (fun cs (p:Value × Nat)=>cs.setIfInBounds (off+p.2) p.1) cur=(cur.toList.take off++vs.toList++cur.toList.drop (off+vs.size)).toArray:=by
 rw [← Array.foldl_toList,Array.toList_zipIdx]
 have:=O8 off vs.toList 0 cur (by simpa using h)
 simpa using this
theorem Bs.seg [Glob] {vs cs:Array Value} {l m:List AV} {off:Nat} (h:Bs ι F w vs l) (k:Bs ι F w cs m) (hfit:off+m.length≤l.length) :
  Bs ι F w (vs.toList.take off++cs.toList++vs.toList.drop (off+cs.size)).toArray (l.take off++m++l.drop (off+m.length)):=by
 have e1:=h.1
 have e2:=k.1
 refine⟨by simp;omega,fun j v x hv hx=>?_⟩
 have g1:=HE vs.toList cs.toList off (by simp;omega) j
 have g2:=HE l m off hfit j
 simp only [Array.length_toList,Array.getElem?_toList]at g1
 rw [List.getElem?_toArray,g1]at hv
 rw [g2]at hx
 split at hv
 ·rename_i hj;simp only [hj,if_true]at hx;exact h.2 j v x hv hx
 ·rename_i hj
  simp only [hj,if_false]at hx
  rw [e2]at hv
  split at hv
  ·rename_i hj2;simp only [hj2,if_true]at hx;exact k.2 _ v x hv hx
  ·rename_i hj2;simp only [hj2,if_false]at hx;exact h.2 j v x hv hx
theorem Yk {vs cs:Array Value} {off:Nat} (h:∀ (j:Nat) v,vs[j]?=some v→v.oneCell'=true) (k:∀ (j:Nat) v,cs[j]?=some v→v.oneCell'=true) :
  ∀ (j:Nat) v,(vs.toList.take off++cs.toList++vs.toList.drop (off+cs.size)).toArray[j]?=some v→v.oneCell'=true:=by
 intro j v hv
 rw [List.getElem?_toArray]at hv
 have hm:=List.mem_iff_getElem?.2 ⟨j,hv⟩
 simp only [List.mem_append]at hm
 rcases hm with (hm | hm) | hm
 ·obtain⟨i,hi⟩:=List.mem_iff_getElem?.1 (List.mem_of_mem_take hm)
  exact h i v (by simpa using hi)
 ·obtain⟨i,hi⟩:=List.mem_iff_getElem?.1 hm
  exact k i v (by simpa using hi)
 ·obtain⟨i,hi⟩:=List.mem_iff_getElem?.1 (List.mem_of_mem_drop hm)
  exact h i v (by simpa using hi)
theorem Kz [Glob] (place:Nat→Option (Nat × Nat)):∀ (ps:List (Nat × Value)) (qs:List (Nat × AV)) (cells:Array Value) (zs:List AV),ps.length=qs.length →
  (∀ (j:Nat) p q,ps[j]?=some p→qs[j]?=some q→place p.1=some (q.1,q.2.cells.length)∧Rep ι F w p.2 q.2∧q.2.isVal=true∧q.1+q.2.cells.length≤zs.length) →
  Bs ι F w cells zs→(∀ (j:Nat) v,cells[j]?=some v→v.oneCell'=true) →
  ∃ cells',Instr.fill place cells ps=some cells'∧Bs ι F w cells' (BE zs qs)∧(∀ (j:Nat) v,cells'[j]?=some v→v.oneCell'=true)
 | [],[],cells,zs,_,_,h1,h2=>⟨cells,rfl,h1,h2⟩
 | [],_::_,_,_,h,_,_,_=>by simp at h
 | _::_,[],_,_,h,_,_,_=>by simp at h
 | (i,v)::ps,(off,x)::qs,cells,zs,hl,h,h1,h2=>by
  obtain⟨hp,hv,hx,hfit⟩:=h 0 (i,v) (off,x) rfl rfl
  simp only at hp hv hx hfit
  obtain⟨hc,hone⟩:=hv.cells hx
  have hsz:=hc.1
  have h1':=h1.1
  have hstep:=UF v.cells off cells (by omega)
  have hseg:=h1.seg hc hfit
  rw [← hsz]at hp
  obtain⟨cells',hf,hr,ho⟩:=Kz place ps qs _ _ (by simpa using hl) (fun j p q hp hq=>by
   have:=h (j+1) p q (by simpa using hp) (by simpa using hq)
   refine⟨this.1,this.2.1,this.2.2.1,?_⟩
   have h3:=this.2.2.2
   simp only [List.length_append,List.length_take,List.length_drop]
   omega) hseg (Yk h2 hone)
  refine⟨cells',?_,by simpa [BE,hsz] using hr,ho⟩
  have hcond:(decide (v.cells.size≠v.cells.size) || decide (off+v.cells.size > cells.size))=false:=by
   simp
   omega
  simp only [Instr.fill,hp,hcond,Bool.false_eq_true,if_false]
  rw [hstep]
  exact hf
theorem O9 [Glob] {t:TypeId} {ps:Array (Nat × Value)} {qs:List (Nat × AV)} {zs:List AV} {fields:Array Field} {places:List (Nat × Nat)} (hu:P.underlying t=some (.struct fields))
  (hz:Ca P t=some zs) (hp:fields.toList.mapM (fun f=>(P.info? f.type).map fun i=>(f.offset,i.size))=some places) (hl:ps.size=qs.length)
  (h:∀ (j:Nat) p q,ps[j]?=some p→qs[j]?=some q→places[p.1]?=some (q.1,q.2.cells.length)∧Rep ι F w p.2 q.2∧q.2.isVal=true∧q.1+q.2.cells.length≤zs.length) :
  ∃ v,(Instr.build t ps).run P w=.ok v w∧Rep ι F w v (.agg (BE zs qs)):=by
 obtain⟨i,z,hi,hiz,hzr,hz1,_⟩:=Br (ι:=ι) (F:=F) (w:=w) hz
 obtain⟨cells,hf,hr,ho⟩:=Kz (places.toArray[·]?) ps.toList qs z.cells zs (by simpa using hl) (fun j p q hp hq=>by
  have:=h j p q (by simpa using hp) hq
  simpa using this) hzr hz1
 refine⟨.agg cells,run_build w t ps cells ?_,.agg hr.1 ho hr.2⟩
 simp only [Program.built,hi,hu,hiz,hp]
 exact hf
theorem UG {z:Array Value} {zs:List AV} {sz:Nat} (h:Bs ι F w z zs) (hz:z.size=sz) (hpos:0 < sz) (x:AV) (hx:x.cells=zs) (n:Nat) :
  Bs ι F w ((Array.range (n * sz)).map (z[· % z.size]!)) (flat (List.replicate n x)):=by
 have hlen:(flat (List.replicate n x)).length=n * sz:=by
  rw [BT (sz:=sz) (fun y hy=>by rw [List.eq_of_mem_replicate hy,hx,← h.1,hz])]
  simp
 refine⟨by simp [hlen],fun j v y hv hy=>?_⟩
 have hj:j < n * sz:=by rw [← hlen];exact(List.getElem?_eq_some_iff.1 hy).1
 have hjs:j % sz < sz:=Nat.mod_lt _ hpos
 have hjd:j / sz < n:=by rw [Nat.div_lt_iff_lt_mul hpos];omega
 have e:j=j / sz * sz+j % sz:=by rw [Nat.mul_comm];exact(Nat.div_add_mod j sz).symm
 have hg:=Ff (sz:=sz) (xs:=List.replicate n x) (fun y hy=>by rw [List.eq_of_mem_replicate hy,hx,← h.1,hz]) (j / sz) (j % sz) hjs
 rw [← e]at hg
 rw [hg]at hy
 simp only [List.getElem?_replicate,hjd,if_true,Option.bind_some,hx]at hy
 have hv':v=z[j % sz]! := by
  simp only [Array.getElem?_map,Array.getElem?_range,hj]at hv
  simp at hv
  rw [← hv,hz]
 have hzj:z[j % sz]?=some v:=by
  rw [hv',getElem!_pos z (j % sz) (by omega)]
  simp
 exact h.2 _ v y hzj hy
theorem MI {sz:Nat}:∀ (qs:List (Nat × AV)) (xs:List AV),(∀ x∈xs,x.cells.length=sz)→(∀ q∈qs,q.2.cells.length=sz∧q.1 < xs.length) →
  BE (flat xs) (qs.map fun q=>(q.1 * sz,q.2))=flat (qs.foldl (fun xs q=>xs.set q.1 q.2) xs)
 | [],xs,_,_=>rfl
 | (i,x)::qs,xs,h,hq=>by
  obtain⟨hx,hi⟩:=hq (i,x) (by simp)
  simp only at hx hi
  have hset:(flat xs).take (i * sz)++x.cells++(flat xs).drop (i * sz+x.cells.length)=flat (xs.set i x):=by
   have e:xs=xs.take i++xs[i]::xs.drop (i+1):=by simp
   have hl:(flat (xs.take i)).length=i * sz:=by
    rw [BT (sz:=sz) fun y hy=>h y (List.mem_of_mem_take hy)]
    simp [Nat.le_of_lt hi]
   have hl2:xs[i].cells.length=sz:=h _ (List.getElem_mem hi)
   have e1:flat xs=flat (xs.take i)++(xs[i].cells++flat (xs.drop (i+1))):=by
    conv=>lhs;rw [e]
    rw [CH,CD]
   rw [List.set_eq_take_append_cons_drop,if_pos hi,CH,CD]
   have t1:(flat xs).take (i * sz)=flat (xs.take i):=by rw [e1,← hl,List.take_left'];rfl
   have t2:(flat xs).drop (i * sz+x.cells.length)=flat (xs.drop (i+1)):=by
    rw [e1,hx,← hl,← hl2,← List.drop_drop,List.drop_left',List.drop_left'] <;> rfl
   rw [t1,t2,List.append_assoc]
  simp only [List.map_cons,List.foldl_cons,BE]
  rw [hset]
  exact MI qs (xs.set i x) (fun y hy=>by
   rcases List.mem_or_eq_of_mem_set hy with hy | rfl
   ·exact h y hy
   ·exact hx) (fun q hqm=>by simpa using hq q (by simp [hqm]))
theorem Rep.D3 {b len cap sz:Nat} {t:Tok} {xs:List AV} {vs:Array Value} {e:TypeId} (hlen:len=xs.length) (hcap:len≤cap)
  (hsz:∀ x∈xs,x.cells.length=sz) (ht:SE ι w sz (some ⟨b,0,none⟩) len cap t) (hh:w.heap[b]?=some (.cells vs e (0,0))) (hF:∀ j,j < len * sz→¬ F b j)
  (hr:∀ (j:Nat) v x,vs[j]?=some v→(flat xs)[j]?=some x→Rep ι F w v x) (hone:∀ (j:Nat) v,j < len * sz→vs[j]?=some v→v.oneCell'=true) (hbig:len * sz≤vs.size) :
  Rep ι F w (.slice (some ⟨b,0,none⟩) len cap) (.list sz t xs):=by
 have hget:∀ j,j < len * sz→vs[j]?=some (vs.getD j undef):=fun j hj=>by
  have:j < vs.size:=by omega
  simp [this]
 refine .list (fun j=>vs.getD j undef) hlen hcap hsz ht (by simp) (fun j hj=>⟨_,rfl,rfl,?_,?_,?_⟩) (fun j x hx=>?_)
 ·simp only [World.cell?,hh,Nat.zero_add]
  simpa using hget j hj
 ·simpa using hF j hj
 ·exact hone j _ hj (hget j hj)
 ·have hj:j < len * sz:=by
   rw [hlen,← BT hsz]
   exact(List.getElem?_eq_some_iff.1 hx).1
  exact hr j _ x (hget j hj) hx
theorem NI [Glob] (hwf:WF ι S w) (j:Nat) (o:Obj):¬ AZ ι S w.heap.size j:=by
 rintro⟨q,ob,_,h2,_⟩
 have:=hwf.blt q _ h2
 omega
theorem Ha:∀ (qs:List (Nat × AV)) (xs:List AV),∀ x∈qs.foldl (fun xs q=>xs.set q.1 q.2) xs,x∈xs∨∃ q∈qs,x=q.2
 | [],xs,x,hx=>.inl hx
 | q::qs,xs,x,hx=>by
  rcases Ha qs (xs.set q.1 q.2) x hx with h | ⟨p,hp,rfl⟩
  ·rcases List.mem_or_eq_of_mem_set h with h | rfl
   ·exact .inl h
   ·exact .inr ⟨q,by simp,rfl⟩
  ·exact .inr ⟨p,by simp [hp],rfl⟩
theorem Dt:∀ (qs:List (Nat × AV)) (xs:List AV),(qs.foldl (fun xs q=>xs.set q.1 q.2) xs).length=xs.length
 | [],xs=>rfl
 | q::qs,xs=>by simp [Dt qs]
theorem JL [Glob] (hwf:WF ι S w) {t e:TypeId} {i:TypeInfo} {ps:Array (Nat × Value)} {qs:List (Nat × AV)} {zs:List AV} {m:Nat} (hu:P.underlying t=some (.slice e)) (hi:P.info? e=some i)
  (hz:Ca P e=some zs) (x0:AV) (hx0:x0.cells=zs) (hzl:zs.length=i.size) (hpos:0 < i.size) (hbig:m * i.size≤2 ^ 24) (hl:ps.size=qs.length)
  (h:∀ (j:Nat) p q,ps[j]?=some p→qs[j]?=some q→p.1=q.1∧Rep ι (AZ ι S) w p.2 q.2)
  (hside:∀ q∈qs,q.2.isVal=true∧q.2.cells.length=i.size∧q.1 < m) :
  ∃ v w',(Instr.buildSlice t m ps).run P w=.ok v w'∧Step ι S w ι S w'∧WF ι S w' ∧
   Rep ι (AZ ι S) w' v (.list i.size .full (qs.foldl (fun xs q=>xs.set q.1 q.2) (List.replicate m x0))):=by
 obtain⟨i',z,hi',hiz,hzr,hz1,hzv,_⟩:=Br (ι:=ι) (F:=AZ ι S) (w:=w) hz
 rw [hi]at hi'
 cases hi'
 have hzs:z.cells.size=i.size:=hzr.1.trans hzl
 let zeros:Array Value:=(Array.range (m * i.size)).map (z.cells[· % z.cells.size]!)
 have hzrep:Bs ι (AZ ι S) w zeros (flat (List.replicate m x0)):=UG hzr hzs hpos x0 hx0 m
 have hone:∀ (j:Nat) v,zeros[j]?=some v→v.oneCell'=true:=by
  intro j v hv
  simp only [zeros,Array.getElem?_map,Option.map_eq_some_iff]at hv
  obtain⟨k,_,rfl⟩:=hv
  have hk:k % z.cells.size < z.cells.size:=Nat.mod_lt _ (by omega)
  rw [getElem!_pos z.cells _ hk]
  exact hz1 _ _ (Array.getElem?_eq_getElem hk)
 have hrl:∀ y∈List.replicate m x0,y.cells.length=i.size:=fun y hy=>by rw [List.eq_of_mem_replicate hy,hx0,hzl]
 obtain⟨cells,hf,hr,ho⟩:=Kz (fun k=>some (k * i.size,i.size)) ps.toList (qs.map fun q=>(q.1 * i.size,q.2)) zeros _ (by simpa using hl) (fun j p q hp hq=>by
  simp only [List.getElem?_map,Option.map_eq_some_iff]at hq
  obtain⟨q',hq',rfl⟩:=hq
  obtain⟨e1,e2⟩:=h j p q' (by simpa using hp) hq'
  obtain⟨s1,s2,s3⟩:=hside q' (List.mem_of_getElem? hq')
  refine⟨by rw [e1,s2],e2,s1,?_⟩
  rw [BT hrl,s2]
  simp only [List.length_replicate]
  have:(q'.1+1) * i.size≤m * i.size:=Nat.mul_le_mul_right _ s3
  rw [Nat.succ_mul]at this
  exact this) hzrep hone
 rw [MI qs _ hrl (fun q hq=>⟨(hside q hq).2.1,by simpa using (hside q hq).2.2⟩)]at hr
 have hmem:∀ y∈qs.foldl (fun xs q=>xs.set q.1 q.2) (List.replicate m x0),y.cells.length=i.size:=by
  intro y hy
  rcases Ha qs _ y hy with hy | ⟨q,hq,rfl⟩
  ·exact hrl y hy
  ·exact(hside q hq).2.1
 have hcs:cells.size=m * i.size:=by
  rw [hr.1,BT hmem,Dt]
  simp
 have hs:=Ky ι S w (.cells cells e)
 refine⟨.slice (some ⟨w.heap.size,0,none⟩) m m,w.alloc (.cells cells e),?_,hs,hwf.alloc _,?_⟩
 ·have hbig':¬ (16777216 < m * i.size):=by omega
  have hm0:(if m * i.size=0 then(Pure.pure #[]:Sem (Array Value))else(do pure (← zeroValue e).cells)).run P w=.ok (if m * i.size=0 then #[]else z.cells) w:=by
   split <;> simp [hzv]
  have hf':Instr.fill (fun k=>some (k * i.size,i.size)) ((Array.range (m * i.size)).map ((if m * i.size=0 then #[]else z.cells)[· % (if m * i.size=0 then(#[]:Array Value)else z.cells).size]!)) ps.toList=some cells:=by
   by_cases h0:m * i.size=0
   ·have e0:zeros=#[]:=by simp [zeros,h0]
    rw [e0]at hf
    have e1:(Array.map (fun x=>(default:Value)) (Array.range 0))=#[]:=by simp
    simp only [h0,if_true]
    simpa [e1] using hf
   ·simpa [h0] using hf
  by_cases h0:m * i.size=0
  ·simp only [h0,if_true]at hf'
   simp [Instr.buildSlice,run_underlying hu,sizeOf,typeInfo,hi,hbig',hzv,h0,newRow]at hf' ⊢
   rw [hf']
   simp
  ·simp only [h0,if_false]at hf'
   simp [Instr.buildSlice,run_underlying hu,sizeOf,typeInfo,hi,hbig',hzv,h0,newRow,hf']
 ·refine Rep.D3 (vs:=cells) (e:=e) (by simp [Dt]) (Nat.le_refl _) hmem rfl (BH w _) (fun j _=>NI hwf j (.cells cells e)) (fun j v x hv hx=>(hr.2 j v x hv hx).step hs) (fun j v _ hv=>ho j v hv) (by omega)
end Go.AL
