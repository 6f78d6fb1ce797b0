/- The abstract layer: append and slices of lists. -/
import Derived.Test.YtlledcnjfgcipaaGreatDoorA4
import Derived.Laws.Strings
import Derived.Laws.Small
import Derived.Laws.Slices
set_option linter.unusedVariables false
set_option linter.unusedSimpArgs false
namespace Go.AL
variable {ι ι':Nat→Option Nat} {S S':AX} {F:Nat→Nat→Prop} {w w':World} {P:Program}
theorem Rep.EB {v:Value} {sz:Nat} {t:Tok} {xs:List AV} (h:Rep ι F w v (.list sz t xs)):∃ (a:Option Addr) (len cap:Nat) (cs:Nat→Value),v=.slice a len cap∧len=xs.length∧len≤cap ∧
  (∀ x∈xs,x.cells.length=sz)∧SE ι w sz a len cap t∧(a=none→cap=0) ∧
  (∀ j,j < len * sz→∃ ad,a=some ad∧ad.spot=none∧w.cell? ⟨ad.block,ad.off+j,none⟩=some (cs j)∧¬ F ad.block (ad.off+j)∧(cs j).oneCell'=true) ∧
  (∀ j x,(flat xs)[j]?=some x→Rep ι F w (cs j) x):=by
 cases h with
 | list cs h1 h2 h3 h4 h5 h6 h7=>exact⟨_,_,_,cs,rfl,h1,h2,h3,h4,h5,h6,h7⟩
theorem CW [Glob] {a:Option Addr} {len cap sz:Nat} {t:Tok} {xs:List AV} (h:Rep ι F w (.slice a len cap) (.list sz t xs)) (n:Nat) (hn:n=len) :
  ∃ vs:Array Value,(Builtin.firstCells sz n (.slice a len cap)).run P w=.ok vs w∧Bs ι F w vs (flat xs)∧(∀ (j:Nat) v,vs[j]?=some v→v.oneCell'=true)∧vs.size=len * sz:=by
 subst hn
 cases h with
 | list cs hlen hcap hsz ht hnone hc hr =>
  have hfl:(flat xs).length=n * sz:=by rw [BT hsz,hlen]
  cases a with
  | none =>
   have h0:n=0:=by have:=hnone rfl;omega
   subst h0
   refine⟨#[],by simp [Builtin.firstCells],⟨by rw [hfl];simp,by simp⟩,by simp,by simp⟩
  | some ad =>
   by_cases h0:n * sz=0
   ·refine⟨#[],?_,⟨by rw [hfl,h0];rfl,by simp⟩,by simp,by simp [h0]⟩
    simp [Builtin.firstCells,h0,loadCells,loadCellsFrom]
   ·obtain⟨ad',e1,e2,_⟩:=hc 0 (by omega)
    cases e1
    have hl:=run_loadCells (P:=P) w ad (n * sz) cs (fun j hj=>by
     obtain⟨ad',e1,e2,e3,_⟩:=hc j hj
     cases e1
     rw [Bb ad e2]
     exact e3)
    refine⟨_,by simpa [Builtin.firstCells] using hl,⟨by rw [hfl];simp,fun j v x hv hx=>?_⟩,fun j v hv=>?_,by simp⟩
    ·have hj:j < n * sz:=by rw [← hfl];exact(List.getElem?_eq_some_iff.1 hx).1
     simp [List.getElem?_range,hj]at hv
     subst hv
     exact hr j x hx
    ·simp only [List.getElem?_toArray,List.getElem?_map,Option.map_eq_some_iff]at hv
     obtain⟨k,hk,rfl⟩:=hv
     have hj:j < n * sz:=by
      rcases Nat.lt_or_ge j (n * sz)with h' | h'
      ·exact h'
      ·simp [List.getElem?_eq_none,h']at hk
     have hk':k=j:=by simpa [hj,List.getElem?_range] using hk.symm
     subst hk'
     obtain⟨_,_,_,_,_,e⟩:=hc k hj
     exact e
def AHn (S S':AX) (nid N sz:Nat) (xs:List AV):Tok→Prop
 | .none=>False
 | .full=>S'=Au S nid (.spare N)
 | .own o=>S o=some (.spare (xs.length * sz))∧S'=Au (CO S o) nid (.spare N)
theorem Ap (S:AX) (o:Nat):∀ q obj,CO S o q=some obj→S q=some obj:=by
 intro q obj h
 unfold CO at h
 split at h
 ·cases h
 ·exact h
theorem Fg {ty ty2 rt e d:TypeId} {i:TypeInfo} {z:Value} (hu:P.underlying ty=some (.slice e)) (hu2:P.underlying ty2=some (.slice d))
  (hi:P.info? e=some i) (hz:i.zero=some z)
  {a:Option Addr} {len cap:Nat} {a2:Option Addr} {len2 cap2:Nat} {olds news:Array Value}
  (hnew:∀ w',w'.heap=w.heap→(Builtin.firstCells i.size len2 (.slice a2 len2 cap2)).run P w'=.ok news w')
  (hold:∀ w',w'.heap=w.heap→(Builtin.firstCells i.size len (.slice a len cap)).run P w'=.ok olds w')
  (hgrow:cap < len+len2) (h63:((len+len2:Nat):Int)≤9223372036854775807) (hb:(len+len2) * i.bytes≤140737488355328) :
  (Builtin.append_ #[ty,ty2] rt #[.slice a len cap,.slice a2 len2 cap2]).run P w =
   .ok (.slice (some ⟨w.heap.size,0,none⟩) (len+len2) (grownCap w (len+len2) cap e))
    (w.drew.alloc (.cells (olds++news++Builtin.zeroCells z.cells (grownCap w (len+len2) cap e - (len+len2))) e)):=by
 have hn:¬ (len+len2≤cap):=by omega
 have h63':¬ (9223372036854775807 < ((len:Int)+(len2:Int))):=by omega
 have hfit:=growslice_fits hgrow hb
 have h48':¬ (281474976710656 < Builtin.nextslicecap (len+len2) cap * i.bytes):=by omega
 have h1:=hnew w.drew rfl
 have h2:=hold w.drew rfl
 simp [Builtin.append_,run_underlying hu,run_underlying hu2,sizeOf,typeInfo,zeroValue,hi,hz,Builtin.lenOf,hn,h63',h48',Question.forced,h1,h2,newRow,grownCap]
theorem grownCap_ge (w:World) (AM old:Nat) (e:TypeId):AM≤grownCap w AM old e:=by
 simp [grownCap,Question.cut]
theorem size_zeroCells (z:Array Value) (n:Nat):(Builtin.zeroCells z n).size=n * z.size:=by simp [Builtin.zeroCells]
theorem NJ [Glob] (hwf:WF ι S w) {nid:Nat} (hn:ι nid=none) (hSn:S nid=none) {sv xv:Value} {sz0 sz1 sz:Nat} {t t1:Tok} {xs ys:List AV}
  (hs:Rep ι (AZ ι S) w sv (.list sz0 t xs)) (hx:Rep ι (AZ ι S) w xv (.list sz1 t1 ys)) (hz0:sz0=sz∨(xs=[]∧t=.full)) (hz1:sz1=sz∨ys=[])
  {ty ty2 rt e d:TypeId} {i:TypeInfo} {z:Value} (hu:P.underlying ty=some (.slice e)) (hu2:P.underlying ty2=some (.slice d)) (hi:P.info? e=some i) (hz:i.zero=some z)
  (hsz:i.size=sz) (hzc:z.cells.size=sz) (hb:(xs.length+ys.length) * i.bytes≤140737488355328) (h63:xs.length+ys.length≤9223372036854775807)
  (hS:AHn S S' nid ((xs.length+ys.length) * sz) sz xs t) :
  ∃ v' w' ι',(Builtin.append_ #[ty,ty2] rt #[sv,xv]).run P w=.ok v' w'∧Step ι S w ι' S' w'∧WF ι' S' w'∧Rep ι' (AZ ι' S') w' v' (.list sz (.own nid) (xs++ys)) ∧
   ∀ q b,ι' q=some b→q=nid∨ι q=some b:=by
 -- both lists at the operation's own size
 have hs':Rep ι (AZ ι S) w sv (.list sz t xs):=by
  rcases hz0 with rfl | ⟨rfl,rfl⟩
  ·exact hs
  ·cases hs with
   | list cs hlen hcap hsz0 ht hnone hc hr =>
    simp only [List.length_nil]at hlen
    subst hlen
    simp only [SE]at ht
    exact .list cs rfl hcap (by simp) ht hnone (fun j hj=>by omega) (by simp)
 have hx':Rep ι (AZ ι S) w xv (.list sz .none ys):=by
  rcases hz1 with rfl | rfl
  ·cases hx with
   | list cs hlen hcap hsz0 ht hnone hc hr=>exact .list cs hlen hcap hsz0 trivial hnone hc hr
  ·cases hx with
   | list cs hlen hcap hsz0 ht hnone hc hr =>
    simp only [List.length_nil]at hlen
    subst hlen
    exact .list cs rfl hcap (by simp) trivial hnone (fun j hj=>by omega) (by simp)
 clear hs hx hz0 hz1
 have hmem:∀ x∈xs++ys,x.cells.length=sz:=by
  intro x hxm
  rw [List.mem_append]at hxm
  rcases hxm with hxm | hxm
  ·cases hs' with | list _ _ _ h=>exact h x hxm
  ·cases hx' with | list _ _ _ h=>exact h x hxm
 cases sv <;> try (cases hs';done)
 rename_i a len cap
 cases xv <;> try (cases hx';done)
 rename_i a2 len2 cap2
 obtain⟨olds,hold,holdr,hold1,holdn⟩:=CW (P:=P) hs' len rfl
 obtain⟨news,hnew,hnewr,hnew1,hnewn⟩:=CW (P:=P) hx' len2 rfl
 have hlen:len=xs.length:=by cases hs' with | list _ h=>exact h
 have hlen2:len2=ys.length:=by cases hx' with | list _ h=>exact h
 have hcap:len≤cap:=by cases hs' with | list _ _ h=>exact h
 -- the store after
 have hS1:∃ S1,(∀ o obj,S1 o=some obj→S o=some obj)∧S'=Au S1 nid (.spare ((xs.length+ys.length) * sz))∧S1 nid=none:=by
  cases t with
  | none=>exact hS.elim
  | full=>exact⟨S,fun _ _ h=>h,hS,hSn⟩
  | own o=>exact⟨CO S o,Ap S o,hS.2,by unfold CO;split <;> first | rfl | exact hSn⟩
 obtain⟨S1,hsub,hS',hS1n⟩:=hS1
 by_cases hroom:len+len2≤cap
 ·by_cases htight:cap=len
  ·-- nothing to append, no room: the world is as it was
   have h2:len2=0:=by omega
   subst h2
   have hys:ys=[]:=List.length_eq_zero_iff.1 hlen2.symm
   subst hys
   have hd:=BG S S1 hsub ι w
   have hwf1:=hwf.drop hsub
   have hv:=CM hn S1 w (.spare ((xs.length+([]:List AV).length) * sz))
   have hst:Step ι S w ι S' w:=by rw [hS'];exact hd.trans hv
   refine⟨.slice a len cap,w,ι,?_,hst,by rw [hS'];exact hwf1.HC hn _,?_,fun q b h=>.inr h⟩
   ·have e0:news=#[]:=by
     apply Array.eq_empty_of_size_eq_zero
     rw [hnewn];simp
    subst e0
    have hlast:(match a with | some a=>storeCells (a.add (len * sz)) [] | none=>Pure.pure ()).run P w=.ok () w:=by cases a <;> rfl
    subst hsz
    cases a <;> simp [Builtin.append_,run_underlying hu,run_underlying hu2,sizeOf,typeInfo,hi,Builtin.lenOf,hcap,hnew,storeCells]
   ·rw [List.append_nil]
    have:=hs'.step hst
    cases this with
    | list cs h1 h2 h3 h4 h5 h6 h7=>exact .list cs h1 h2 h3 (.inl htight) h5 h6 h7
  ·-- room: it is the owner's
   cases t with
   | none=>exact hS.elim
   | full =>
    have:cap=len:=by cases hs' with | list _ _ _ _ h=>exact h
    exact(htight this).elim
   | own o =>
    obtain⟨hSo,hS2⟩:=hS
    have hown:∃ b,ι o=some b∧a=some ⟨b,0,none⟩∧CN w b (cap * sz):=by
     cases hs' with | list _ _ _ _ h=>exact h.resolve_left htight
    obtain⟨b,hob,rfl,vs,e',hh,hvs⟩:=hown
    have hblt:b < w.heap.size:=hwf.blt o b hob
    have hbig:(len+len2) * sz≤cap * sz:=Nat.mul_le_mul_right _ hroom
    rw [Nat.add_mul]at hbig
    have hstore:=run_storeCells_at P b (len * sz) e' news.toList 0 vs w hh (by simp;omega) (fun u hum=>by
     obtain⟨j,hj⟩:=List.mem_iff_getElem?.1 hum
     exact hnew1 j u (by simpa using hj))
    simp only [Nat.add_zero,Array.length_toList,hnewn]at hstore
    let arr:Array Value:=(vs.toList.take (len * sz)++news.toList++vs.toList.drop (len * sz+len2 * sz)).toArray
    have harr:arr.size=vs.size:=by simp [arr];omega
    have hget:∀ j:Nat,arr[j]?=if j < len * sz then vs[j]? else if j < len * sz+len2 * sz then news[j - len * sz]? else vs[j]?:=by
     intro j
     have:=HE vs.toList news.toList (len * sz) (by simp;omega) j
     simp only [Array.length_toList,hnewn,Array.getElem?_toList]at this
     simpa [arr] using this
    have hfoot:∀ b' off,AZ (An ι nid b) S' b' off→(b'=b∧(xs.length+ys.length) * sz≤off)∨(b'≠b∧AZ ι S b' off):=by
     rintro b' off ⟨q,ob,h1,h2,h3⟩
     rw [hS2]at h1
     unfold Au at h1
     unfold An at h2
     by_cases hq:q=nid
     ·simp only [hq,if_true]at h1 h2
      simp at h1 h2
      subst h1 h2
      exact .inl ⟨rfl,h3⟩
     ·simp only [hq,if_false]at h1 h2
      have h1':=Ap S o q ob h1
      have hqo:q≠o:=by
       intro e
       simp [CO,e]at h1
      refine .inr ⟨fun e=>hqo (hwf.inj q o ob _ b h1' hSo (e ▸ h2) hob),q,ob,h1',h2,h3⟩
    have hst:Step ι S w (An ι nid b) S' (w.setRow b arr):=by
     refine Ho hSo hob hh harr (fun j hj=>?_) (IN hn) (fun b' off hb' hf=>?_) (fun b' hb' hf=>?_)
     ·have hj':j < len * sz:=by
       rw [hlen]
       simpa [Ax.mut] using hj
      rw [hget,if_pos hj']
     ·rcases hfoot b' off hf with ⟨rfl,h⟩ | ⟨_,h⟩
      ·refine⟨o,_,hSo,hob,?_⟩
       simp only [Ax.mut]
       rw [Nat.add_mul]at h
       omega
      ·exact h
     ·obtain⟨q,ob,h1,h2⟩:=hf
      rw [hS2]at h1
      unfold Au at h1
      unfold An at h2
      by_cases hq:q=nid
      ·simp only [hq,if_true]at h2
       simp at h2
       subst h2
       exact⟨o,_,hSo,hob⟩
      ·simp only [hq,if_false]at h1 h2
       exact⟨q,ob,Ap S o q ob h1,h2⟩
    have hheap:=setRow_heap w b vs arr e' (0,0) hh
    refine⟨.slice (some ⟨b,0,none⟩) (len+len2) cap,w.setRow b arr,An ι nid b,?_,hst,?_,?_,?_⟩
    ·have hz0:({ block:=b,off:=0,spot:=none }:Addr).add (len * sz)=⟨b,len * sz,none⟩:=by rw [Bb _ rfl];simp
     subst hsz
     simp [Builtin.append_,run_underlying hu,run_underlying hu2,sizeOf,typeInfo,hi,Builtin.lenOf,hroom,hnew,hz0,hstore,arr]
    ·refine hwf.Ct hst ?_ ?_ ?_
     ·intro q c hq
      unfold An at hq
      split at hq
      ·simp at hq;subst hq;simpa using hblt
      ·have:=hwf.blt q c hq;simpa using this
     ·intro q q' ob ob' c h1 h2 h3 h4
      rw [hS2]at h1 h2
      unfold Au at h1 h2
      unfold An at h3 h4
      have key:∀ q ob,q≠nid→CO S o q=some ob→ι q=some b→False:=by
       intro q ob _ k1 k2
       have hqo:q≠o:=by intro e;simp [CO,e]at k1
       exact hqo (hwf.inj q o ob _ b (Ap S o q ob k1) hSo k2 hob)
      by_cases eq:q=nid <;> by_cases eq':q'=nid <;> simp only [eq,eq',if_true,if_false]at h1 h2 h3 h4 ⊢
      ·simp at h3;subst h3;exact(key q' ob' eq' h2 h4).elim
      ·simp at h4;subst h4;exact(key q ob eq h1 h3).elim
      ·exact hwf.inj q q' ob ob' c (Ap S o _ _ h1) (Ap S o _ _ h2) h3 h4
     ·intro q ob c h1 h2
      rw [hS2]at h1
      unfold Au at h1
      unfold An at h2
      by_cases eq:q=nid
      ·simp only [eq,if_true]at h1 h2
       simp at h1 h2
       subst h1 h2
       refine .inr ⟨arr,e',hheap,?_⟩
       rw [harr,← hlen,← hlen2,Nat.add_mul]
       omega
      ·simp only [eq,if_false]at h1 h2
       have h1':=Ap S o q ob h1
       have hqo:q≠o:=by intro e;simp [CO,e]at h1
       have hne:c≠b:=fun e=>hqo (hwf.inj q o ob _ b h1' hSo (e ▸ h2) hob)
       exact .inl ⟨h1',h2,setRow_other w b c arr hne⟩
    ·refine Rep.D3 (vs:=arr) (e:=e') (by simp [hlen,hlen2]) hroom hmem (.inr ⟨b,by simp [An],rfl,arr,e',hheap,by rw [harr];exact hvs⟩) hheap (fun j hj hf=>?_) (fun j v x hv hx=>?_) (fun j v hj hv=>?_) (by rw [harr,Nat.add_mul];omega)
     ·rcases hfoot b j hf with ⟨_,h⟩ | ⟨h,_⟩
      ·rw [hlen,hlen2]at hj;omega
      ·exact h rfl
     ·rw [hget]at hv
      rw [CH]at hx
      have hfl:(flat xs).length=len * sz:=by rw [← holdr.1,holdn]
      by_cases hj:j < len * sz
      ·rw [if_pos hj]at hv
       rw [List.getElem?_append_left (by omega)]at hx
       refine Rep.step hst ?_
       obtain⟨_,_,_,cs,e0,h1,h2,h3,h4,h5,h6,h7⟩:=hs'.EB
       cases e0
       obtain⟨ad,k1,k2,k3,_⟩:=h6 j hj
       cases k1
       simp only [World.cell?,hh,Nat.zero_add]at k3
       simp at k3
       rw [hv]at k3
       cases k3
       exact h7 j x hx
      ·rw [if_neg hj]at hv
       rw [List.getElem?_append_right (by omega),hfl]at hx
       have hj2:j < len * sz+len2 * sz:=by
        have h3:=(List.getElem?_eq_some_iff.1 hx).1
        rw [← hnewr.1,hnewn]at h3
        omega
       rw [if_pos hj2]at hv
       exact(hnewr.2 _ v x hv hx).step hst
     ·rw [hget]at hv
      rw [Nat.add_mul]at hj
      by_cases hj1:j < len * sz
      ·rw [if_pos hj1]at hv
       obtain⟨_,_,_,cs,e0,h1,h2,h3,h4,h5,h6,h7⟩:=hs'.EB
       cases e0
       obtain⟨ad,k1,k2,k3,_,k5⟩:=h6 j hj1
       cases k1
       simp only [World.cell?,hh,Nat.zero_add]at k3
       simp at k3
       rw [hv]at k3
       cases k3
       exact k5
      ·rw [if_neg hj1,if_pos hj]at hv
       exact hnew1 _ v hv
    ·intro q c hq
     unfold An at hq
     split at hq
     ·rename_i e;exact .inl e
     ·exact .inr hq
 ·-- it grows
  have keep:∀ {a:Option Addr} {n c:Nat} {t:Tok} {l:List AV} {vs:Array Value},Rep ι (AZ ι S) w (.slice a n c) (.list sz t l)→(Builtin.firstCells sz n (.slice a n c)).run P w=.ok vs w →
    ∀ w',w'.heap=w.heap→(Builtin.firstCells sz n (.slice a n c)).run P w'=.ok vs w':=by
   intro a n c t l vs hrep hrun w' hw'
   have hrep':Rep ι (AZ ι S) w' (.slice a n c) (.list sz t l):=hrep.keep (fun _ _ h=>h) (fun b off _ _=>by simp [World.cell?,hw']) (fun _ _ _ h=>h) (fun b k h=>by simpa [CN,hw'] using h) (fun b ces c h _=>by simpa [hw'] using h)
   have e:∀ vs',(Builtin.firstCells sz n (.slice a n c)).run P w'=.ok vs' w'→vs'=vs:=by
    intro vs' h'
    cases a with
    | none=>simp [Builtin.firstCells]at hrun h';rw [hrun,h'] <;> rfl
    | some ad =>
     simp only [Builtin.firstCells]at hrun h'
     cases hrep with
     | list cs h1 h2 h3 h4 h5 h6 h7 =>
      have r1:=run_loadCells (P:=P) w ad (n * sz) cs (fun j hj=>by obtain⟨ad',k1,k2,k3,_⟩:=h6 j hj;cases k1;rw [Bb ad k2];exact k3)
      have r2:=run_loadCells (P:=P) w' ad (n * sz) cs (fun j hj=>by obtain⟨ad',k1,k2,k3,_⟩:=h6 j hj;cases k1;rw [Bb ad k2];simpa [World.cell?,hw'] using k3)
      rw [r1]at hrun
      rw [r2]at h'
      cases hrun
      cases h'
      rfl
   obtain⟨vs',h1,_⟩:=CW (P:=P) hrep' n rfl
   rw [h1,e vs' h1]
  have hrun:=Fg (P:=P) (w:=w) (rt:=rt) hu hu2 hi hz (a:=a) (len:=len) (cap:=cap) (a2:=a2) (len2:=len2) (cap2:=cap2) (olds:=olds) (news:=news)
   (by rw [hsz];exact keep hx' hnew) (by rw [hsz];exact keep hs' hold) (by omega) (by omega) (by rw [hlen,hlen2];exact hb)
  have hge:=grownCap_ge w (len+len2) cap e
  generalize hc:grownCap w (len+len2) cap e=nc at hrun hge
  let cells:Array Value:=olds++news++Builtin.zeroCells z.cells (nc - (len+len2))
  have hcs:cells.size=nc * sz:=by
   simp only [cells,Array.size_append,size_zeroCells,holdn,hnewn,hzc]
   rw [← Nat.add_mul,← Nat.add_mul]
   congr 1
   omega
  have hd:Step ι S w ι S1 w.drew:=(BG S S1 hsub ι w).trans (CY ι S1 w)
  have hwf1:WF ι S1 w.drew:=(hwf.drop hsub).drew
  have hnew_step:=A8 hwf1 hn (.cells cells e) (.spare ((xs.length+ys.length) * sz))
  have hst:=hd.trans hnew_step
  rw [← hS']at hst
  have hsize:w.drew.heap.size=w.heap.size:=rfl
  have hblk:(w.drew.alloc (.cells cells e)).heap[w.heap.size]?=some (.cells cells e (0,0)):=BH w.drew _
  have hfit:(len+len2) * sz≤nc * sz:=Nat.mul_le_mul_right _ hge
  have hwf2:WF (An ι nid w.heap.size) S' (w.drew.alloc (.cells cells e)):=by
   rw [hS']
   refine Bo hwf1 hn _ _ ?_
   exact⟨cells,e,hblk,by rw [hcs,← hlen,← hlen2];exact hfit⟩
  refine⟨_,_,An ι nid w.heap.size,hrun,hst,hwf2,?_,?_⟩
  ·refine Rep.D3 (vs:=cells) (e:=e) (by simp [hlen,hlen2]) hge hmem (.inr ⟨_,by simp [An],rfl,cells,e,hblk,by rw [hcs];exact Nat.le_refl _⟩) hblk (fun j hj hf=>?_) (fun j v x hv hx=>?_) (fun j v hj hv=>?_) (by rw [hcs];exact hfit)
   ·rw [hS']at hf
    obtain⟨q,ob,h1,h2,h3⟩:=hf
    unfold Au at h1
    unfold An at h2
    by_cases hq:q=nid
    ·simp only [hq,if_true]at h1
     simp at h1
     subst h1
     simp only [Ax.mut]at h3
     rw [hlen,hlen2]at hj
     omega
    ·simp only [hq,if_false]at h2
     have:=hwf.blt q _ h2
     omega
   ·rw [CH]at hx
    have hfl:(flat xs).length=len * sz:=by rw [← holdr.1,holdn]
    have hfl2:(flat ys).length=len2 * sz:=by rw [← hnewr.1,hnewn]
    have hj:j < len * sz+len2 * sz:=by
     have:=(List.getElem?_eq_some_iff.1 hx).1
     simp only [List.length_append,hfl,hfl2]at this
     exact this
    simp only [cells,Array.append_assoc]at hv
    by_cases h1:j < len * sz
    ·rw [Array.getElem?_append_left (by omega)]at hv
     rw [List.getElem?_append_left (by omega)]at hx
     exact(holdr.2 j v x hv hx).step hst
    ·rw [Array.getElem?_append_right (by omega),Array.getElem?_append_left (by omega),holdn]at hv
     rw [List.getElem?_append_right (by omega),hfl]at hx
     exact(hnewr.2 _ v x hv hx).step hst
   ·rw [Nat.add_mul]at hj
    simp only [cells,Array.append_assoc]at hv
    by_cases h1:j < len * sz
    ·rw [Array.getElem?_append_left (by omega)]at hv
     exact hold1 j v hv
    ·rw [Array.getElem?_append_right (by omega),Array.getElem?_append_left (by omega),holdn]at hv
     exact hnew1 _ v hv
  ·intro q c hq
   unfold An at hq
   split at hq
   ·rename_i e;exact .inl e
   ·exact .inr hq
end Go.AL
namespace Go.AL
variable {ι ι':Nat→Option Nat} {S S':AX} {F:Nat→Nat→Prop} {w w':World} {P:Program}
theorem KF [Glob] {a:Option Addr} {n c sz:Nat} {t:Tok} {l:List AV} {vs:Array Value} (hrep:Rep ι F w (.slice a n c) (.list sz t l))
  (hrun:(Builtin.firstCells sz n (.slice a n c)).run P w=.ok vs w):∀ w',w'.heap=w.heap→(Builtin.firstCells sz n (.slice a n c)).run P w'=.ok vs w':=by
 intro w' hw'
 have hrep':Rep ι F w' (.slice a n c) (.list sz t l):=hrep.keep (fun _ _ h=>h) (fun b off _ _=>by simp [World.cell?,hw']) (fun _ _ _ h=>h) (fun b k h=>by simpa [CN,hw'] using h) (fun b ces c h _=>by simpa [hw'] using h)
 have e:∀ vs',(Builtin.firstCells sz n (.slice a n c)).run P w'=.ok vs' w'→vs'=vs:=by
  intro vs' h'
  cases a with
  | none=>simp [Builtin.firstCells]at hrun h';rw [hrun,h'] <;> rfl
  | some ad =>
   simp only [Builtin.firstCells]at hrun h'
   cases hrep with
   | list cs h1 h2 h3 h4 h5 h6 h7 =>
    have r1:=run_loadCells (P:=P) w ad (n * sz) cs (fun j hj=>by obtain⟨ad',k1,k2,k3,_⟩:=h6 j hj;cases k1;rw [Bb ad k2];exact k3)
    have r2:=run_loadCells (P:=P) w' ad (n * sz) cs (fun j hj=>by obtain⟨ad',k1,k2,k3,_⟩:=h6 j hj;cases k1;rw [Bb ad k2];simpa [World.cell?,hw'] using k3)
    rw [r1]at hrun
    rw [r2]at h'
    cases hrun
    cases h'
    rfl
 obtain⟨vs',h1,_⟩:=CW (P:=P) hrep' n rfl
 rw [h1,e vs' h1]
theorem Qt [Glob] (hwf:WF ι S w) {sv:Value} {sz o len:Nat} {cs:List AV} (hs:Rep ι F w sv (.Ag sz o 0 len)) (hSo:S o=some (.box cs)) (hcs:cs.length=len * sz) :
  ∃ (a:Option Addr) (cap:Nat) (olds:Array Value),sv=.slice a len cap∧len≤cap∧(∀ w',w'.heap=w.heap→(Builtin.firstCells sz len (.slice a len cap)).run P w'=.ok olds w') ∧
   Bs ι (AZ ι S) w olds cs∧(∀ (j:Nat) v,olds[j]?=some v→v.oneCell'=true)∧olds.size=len * sz ∧
   (cap=0∨∃ b vs e,a=some ⟨b,0,none⟩∧ι o=some b∧w.heap[b]?=some (.cells vs e (0,0))∧cap * sz≤vs.size∧∀ j,j < len * sz→vs[j]?=olds[j]?):=by
 cases hs with
 | @Ag _ _ b _ _ cap h hcap hb =>
  obtain⟨vs,e,h1,h2,h3,h4⟩:=hwf.rep o _ b hSo h
  obtain⟨vs',e',k1,k2⟩:=hb
  rw [h1]at k1
  cases k1
  simp only [Nat.zero_add,Nat.zero_mul]at k2 ⊢
  have hj:∀ j,j < len * sz→j < vs.size:=fun j hj=>by omega
  refine⟨_,cap,((List.range (len * sz)).map fun j=>vs.getD j undef).toArray,rfl,hcap,fun w' hw'=>?_,⟨by simp [hcs],fun j v x hv hx=>?_⟩,fun j v hv=>?_,by simp,.inr ⟨b,vs,_,rfl,h,h1,k2,fun j hjl=>?_⟩⟩
  ·exact run_loadCells (P:=P) w' ⟨b,0,none⟩ (len * sz) (fun j=>vs.getD j undef) fun j hjl=>by
    rw [Bb _ rfl]
    simp [World.cell?,hw',h1,hj j hjl]
  ·have hjl:j < len * sz:=by rw [← hcs];exact(List.getElem?_eq_some_iff.1 hx).1
   simp [List.getElem?_range,hjl]at hv
   have:=hj j hjl
   refine h3 j v x ?_ hx
   rw [← hv];simp [this]
  ·have hjl:j < len * sz:=by simpa using (Array.getElem?_eq_some_iff.1 hv).1
   simp [List.getElem?_range,hjl]at hv
   have:=hj j hjl
   refine h4 j v (by rw [hcs];exact hjl) ?_
   rw [← hv];simp [this]
  ·have:=hj j hjl
   simp [List.getElem?_range,hjl,this]
 | FN =>
  simp only [Nat.zero_mul]at hcs
  have:cs=[]:=List.length_eq_zero_iff.1 hcs
  subst this
  rename_i a
  exact⟨a,0,#[],rfl,Nat.le_refl _,fun w' _=>by cases a <;> simp [Builtin.firstCells,loadCells,loadCellsFrom],⟨rfl,by simp⟩,by simp,by simp,.inl rfl⟩
theorem L4 [Glob] (hwf:WF ι S w) {nid:Nat} (hn:ι nid=none) (hSn:S nid=none) {sv xv:Value} {sz1 sz o len:Nat} {t1:Tok} {cs ys:List AV}
  (hs:Rep ι (AZ ι S) w sv (.Ag sz o 0 len)) (hx:Rep ι (AZ ι S) w xv (.list sz1 t1 ys)) (hz1:sz1=sz∨ys=[])
  {ty ty2 rt e d:TypeId} {i:TypeInfo} {z:Value} (hu:P.underlying ty=some (.slice e)) (hu2:P.underlying ty2=some (.slice d)) (hi:P.info? e=some i) (hz:i.zero=some z)
  (hsz:i.size=sz) (hzc:z.cells.size=sz) (hb:(len+ys.length) * i.bytes≤140737488355328) (h63:len+ys.length≤9223372036854775807)
  (hSo:S o=some (.box cs)) (hcs:cs.length=len * sz) (hS:S'=Au (CO S o) nid (.box (cs++flat ys))) :
  ∃ v' w' ι',(Builtin.append_ #[ty,ty2] rt #[sv,xv]).run P w=.ok v' w'∧Step ι S w ι' S' w'∧WF ι' S' w'∧Rep ι' (AZ ι' S') w' v' (.Ag sz nid 0 (len+ys.length)) ∧
   ∀ q b,ι' q=some b→q=nid∨ι q=some b:=by
 have hx':Rep ι (AZ ι S) w xv (.list sz .none ys):=by
  rcases hz1 with rfl | rfl
  ·cases hx with
   | list cs hlen hcap hsz0 ht hnone hc hr=>exact .list cs hlen hcap hsz0 trivial hnone hc hr
  ·cases hx with
   | list cs hlen hcap hsz0 ht hnone hc hr =>
    simp only [List.length_nil]at hlen
    subst hlen
    exact .list cs rfl hcap (by simp) trivial hnone (fun j hj=>by omega) (by simp)
 clear hx hz1
 obtain⟨a,cap,olds,rfl,hcap,hold,holdr,hold1,holdn,hblk⟩:=Qt (P:=P) hwf hs hSo hcs
 cases xv <;> try (cases hx';done)
 rename_i a2 len2 cap2
 obtain⟨news,hnew,hnewr,hnew1,hnewn⟩:=CW (P:=P) hx' len2 rfl
 have hlen2:len2=ys.length:=by cases hx' with | list _ h=>exact h
 have hmem:∀ x∈ys,x.cells.length=sz:=by cases hx' with | list _ _ _ h=>exact h
 have hfl2:(flat ys).length=len2 * sz:=by rw [← hnewr.1,hnewn]
 have hsub:=Ap S o
 have hS1n:CO S o nid=none:=by unfold CO;split <;> first | rfl | exact hSn
 by_cases hroom:len+len2≤cap
 ·rcases hblk with rfl | ⟨b,vs,e',rfl,hob,hh,hvs,hvo⟩
  ·-- nothing, nowhere
   have h2:len2=0:=by omega
   have h0:len=0:=by omega
   subst h2 h0
   have hys:ys=[]:=List.length_eq_zero_iff.1 hlen2.symm
   subst hys
   have hd:=BG S (CO S o) hsub ι w
   have hwf1:=hwf.drop hsub
   have hv:=CM hn (CO S o) w (.box (cs++flat []))
   have hst:Step ι S w ι S' w:=by rw [hS];exact hd.trans hv
   refine⟨.slice a 0 0,w,ι,?_,hst,by rw [hS];exact hwf1.HC hn _,.FN,fun q b h=>.inr h⟩
   have e0:news=#[]:=by
    apply Array.eq_empty_of_size_eq_zero
    rw [hnewn];simp
   subst e0
   subst hsz
   cases a <;> simp [Builtin.append_,run_underlying hu,run_underlying hu2,sizeOf,typeInfo,hi,Builtin.lenOf,hnew,storeCells]
  ·-- room in the block
   have hblt:b < w.heap.size:=hwf.blt o b hob
   have hbig:(len+len2) * sz≤cap * sz:=Nat.mul_le_mul_right _ hroom
   rw [Nat.add_mul]at hbig
   have hstore:=run_storeCells_at P b (len * sz) e' news.toList 0 vs w hh (by simp;omega) (fun u hum=>by
    obtain⟨j,hj⟩:=List.mem_iff_getElem?.1 hum
    exact hnew1 j u (by simpa using hj))
   simp only [Nat.add_zero,Array.length_toList,hnewn]at hstore
   let arr:Array Value:=(vs.toList.take (len * sz)++news.toList++vs.toList.drop (len * sz+len2 * sz)).toArray
   have harr:arr.size=vs.size:=by simp [arr];omega
   have hget:∀ j:Nat,arr[j]?=if j < len * sz then vs[j]? else if j < len * sz+len2 * sz then news[j - len * sz]? else vs[j]?:=by
    intro j
    have:=HE vs.toList news.toList (len * sz) (by simp;omega) j
    simp only [Array.length_toList,hnewn,Array.getElem?_toList]at this
    simpa [arr] using this
   have hfoot:∀ b' off,AZ (An ι nid b) S' b' off→b'=b∨(b'≠b∧AZ ι S b' off):=by
    rintro b' off ⟨q,ob,h1,h2,h3⟩
    rw [hS]at h1
    unfold Au at h1
    unfold An at h2
    by_cases hq:q=nid
    ·simp only [hq,if_true]at h1 h2
     simp at h1 h2
     subst h2
     exact .inl rfl
    ·simp only [hq,if_false]at h1 h2
     have h1':=Ap S o q ob h1
     have hqo:q≠o:=by
      intro e
      simp [CO,e]at h1
     refine .inr ⟨fun e=>hqo (hwf.inj q o ob _ b h1' hSo (e ▸ h2) hob),q,ob,h1',h2,h3⟩
   have hst:Step ι S w (An ι nid b) S' (w.setRow b arr):=by
    refine Ho hSo hob hh harr (fun j hj=>(hj trivial).elim) (IN hn) (fun b' off hb' hf=>?_) (fun b' hb' hf=>?_)
    ·rcases hfoot b' off hf with rfl | ⟨_,h⟩
     ·exact⟨o,_,hSo,hob,trivial⟩
     ·exact h
    ·obtain⟨q,ob,h1,h2⟩:=hf
     rw [hS]at h1
     unfold Au at h1
     unfold An at h2
     by_cases hq:q=nid
     ·simp only [hq,if_true]at h2
      simp at h2
      subst h2
      exact⟨o,_,hSo,hob⟩
     ·simp only [hq,if_false]at h1 h2
      exact⟨q,ob,Ap S o q ob h1,h2⟩
   have hheap:=setRow_heap w b vs arr e' (0,0) hh
   refine⟨.slice (some ⟨b,0,none⟩) (len+len2) cap,w.setRow b arr,An ι nid b,?_,hst,?_,?_,?_⟩
   ·have hz0:({ block:=b,off:=0,spot:=none }:Addr).add (len * sz)=⟨b,len * sz,none⟩:=by rw [Bb _ rfl];simp
    subst hsz
    simp [Builtin.append_,run_underlying hu,run_underlying hu2,sizeOf,typeInfo,hi,Builtin.lenOf,hroom,hnew,hz0,hstore,arr]
   ·refine hwf.Ct hst ?_ ?_ ?_
    ·intro q c hq
     unfold An at hq
     split at hq
     ·simp at hq;subst hq;simpa using hblt
     ·have:=hwf.blt q c hq;simpa using this
    ·intro q q' ob ob' c h1 h2 h3 h4
     rw [hS]at h1 h2
     unfold Au at h1 h2
     unfold An at h3 h4
     have key:∀ q ob,q≠nid→CO S o q=some ob→ι q=some b→False:=by
      intro q ob _ k1 k2
      have hqo:q≠o:=by intro e;simp [CO,e]at k1
      exact hqo (hwf.inj q o ob _ b (Ap S o q ob k1) hSo k2 hob)
     by_cases eq:q=nid <;> by_cases eq':q'=nid <;> simp only [eq,eq',if_true,if_false]at h1 h2 h3 h4 ⊢
     ·simp at h3;subst h3;exact(key q' ob' eq' h2 h4).elim
     ·simp at h4;subst h4;exact(key q ob eq h1 h3).elim
     ·exact hwf.inj q q' ob ob' c (Ap S o _ _ h1) (Ap S o _ _ h2) h3 h4
    ·intro q ob c h1 h2
     rw [hS]at h1
     unfold Au at h1
     unfold An at h2
     by_cases eq:q=nid
     ·simp only [eq,if_true]at h1 h2
      simp at h1 h2
      subst h1 h2
      refine .inr ⟨arr,e',hheap,?_,fun j v x hv hx=>?_,fun j v hj hv=>?_⟩
      ·rw [harr,List.length_append,hcs,hfl2]
       omega
      ·rw [hget]at hv
       by_cases hj:j < len * sz
       ·rw [if_pos hj,hvo j hj]at hv
        rw [List.getElem?_append_left (by omega)]at hx
        exact(holdr.2 j v x hv hx).step hst
       ·rw [if_neg hj]at hv
        rw [List.getElem?_append_right (by omega),hcs]at hx
        have hj2:j < len * sz+len2 * sz:=by
         have h3:=(List.getElem?_eq_some_iff.1 hx).1
         omega
        rw [if_pos hj2]at hv
        exact(hnewr.2 _ v x hv hx).step hst
      ·rw [hget]at hv
       rw [List.length_append,hcs,hfl2]at hj
       by_cases hj1:j < len * sz
       ·rw [if_pos hj1,hvo j hj1]at hv
        exact hold1 j v hv
       ·rw [if_neg hj1,if_pos hj]at hv
        exact hnew1 _ v hv
     ·simp only [eq,if_false]at h1 h2
      have h1':=Ap S o q ob h1
      have hqo:q≠o:=by intro e;simp [CO,e]at h1
      have hne:c≠b:=fun e=>hqo (hwf.inj q o ob _ b h1' hSo (e ▸ h2) hob)
      exact .inl ⟨h1',h2,setRow_other w b c arr hne⟩
   ·rw [← hlen2]
    have:=Rep.Ag (ι:=An ι nid b) (F:=AZ (An ι nid b) S') (w:=w.setRow b arr) (sz:=sz) (o:=nid) (b:=b) (off:=0) (len:=len+len2) (cap:=cap) (by simp [An]) hroom
     ⟨arr,e',hheap,by rw [harr,Nat.zero_add];exact hvs⟩
    rwa [Nat.zero_mul]at this
   ·intro q c hq
    unfold An at hq
    split at hq
    ·rename_i e;exact .inl e
    ·exact .inr hq
 ·-- it grows
  have hrun:=Fg (P:=P) (w:=w) (rt:=rt) hu hu2 hi hz (a:=a) (len:=len) (cap:=cap) (a2:=a2) (len2:=len2) (cap2:=cap2) (olds:=olds) (news:=news)
   (by rw [hsz];exact KF hx' hnew) (by rw [hsz];exact hold) (by omega) (by omega) (by rw [hlen2];exact hb)
  have hge:=grownCap_ge w (len+len2) cap e
  generalize hc:grownCap w (len+len2) cap e=nc at hrun hge
  let cells:Array Value:=olds++news++Builtin.zeroCells z.cells (nc - (len+len2))
  have hcsz:cells.size=nc * sz:=by
   simp only [cells,Array.size_append,size_zeroCells,holdn,hnewn,hzc]
   rw [← Nat.add_mul,← Nat.add_mul]
   congr 1
   omega
  have hd:Step ι S w ι (CO S o) w.drew:=(BG S (CO S o) hsub ι w).trans (CY ι (CO S o) w)
  have hwf1:WF ι (CO S o) w.drew:=(hwf.drop hsub).drew
  have hnew_step:=A8 hwf1 hn (.cells cells e) (.box (cs++flat ys))
  have hst:=hd.trans hnew_step
  rw [← hS]at hst
  have hblk':(w.drew.alloc (.cells cells e)).heap[w.heap.size]?=some (.cells cells e (0,0)):=BH w.drew _
  have hfit:(len+len2) * sz≤nc * sz:=Nat.mul_le_mul_right _ hge
  have hfit':=hfit
  rw [Nat.add_mul]at hfit'
  have hwf2:WF (An ι nid w.heap.size) S' (w.drew.alloc (.cells cells e)):=by
   rw [hS]
   refine Bo hwf1 hn _ _ ?_
   rw [← hS]
   refine⟨cells,e,hblk',by rw [hcsz,List.length_append,hcs,hfl2];exact hfit',fun j v x hv hx=>?_,fun j v hj hv=>?_⟩
   ·simp only [cells,Array.append_assoc]at hv
    by_cases h1:j < len * sz
    ·rw [Array.getElem?_append_left (by omega)]at hv
     rw [List.getElem?_append_left (by omega)]at hx
     exact(holdr.2 j v x hv hx).step hst
    ·rw [List.getElem?_append_right (by omega),hcs]at hx
     have:=(List.getElem?_eq_some_iff.1 hx).1
     rw [Array.getElem?_append_right (by omega),Array.getElem?_append_left (by omega),holdn]at hv
     exact(hnewr.2 _ v x hv hx).step hst
   ·rw [List.length_append,hcs,hfl2]at hj
    simp only [cells,Array.append_assoc]at hv
    by_cases h1:j < len * sz
    ·rw [Array.getElem?_append_left (by omega)]at hv
     exact hold1 j v hv
    ·rw [Array.getElem?_append_right (by omega),Array.getElem?_append_left (by omega),holdn]at hv
     exact hnew1 _ v hv
  refine⟨_,_,An ι nid w.heap.size,hrun,hst,hwf2,?_,?_⟩
  ·rw [← hlen2]
   have:=Rep.Ag (ι:=An ι nid w.heap.size) (F:=AZ (An ι nid w.heap.size) S') (w:=w.drew.alloc (.cells cells e)) (sz:=sz) (o:=nid) (b:=w.heap.size) (off:=0) (len:=len+len2) (cap:=nc) (by simp [An]) hge
    ⟨cells,e,hblk',by rw [hcsz,Nat.zero_add];exact Nat.le_refl _⟩
   rwa [Nat.zero_mul]at this
  ·intro q c hq
   unfold An at hq
   split at hq
   ·rename_i e;exact .inl e
   ·exact .inr hq
end Go.AL
namespace Go.AL
def opd [Glob] (gs:List Nat):Operand→Option AG
 | .tmp t=>some (if gs.contains t then .g t else .l t)
 | .const v=>(A9 v).map .c
 | .func f=>some (.c (.fn f [] []))
 | .global g=>(Glob.gt g).map .c
def Lu [Glob] (gs:List Nat) (xs:Array Operand):Option (List AG):=xs.toList.mapM (opd gs)
def Cb [Glob] (gs:List Nat):Option Operand→Option (Option AG)
 | none=>some none
 | some x=>(opd gs x).map some
def FL (P:Program) (t:TypeId):Option Nat:=(P.info? t).map (·.size)
def Jr (P:Program) (t:TypeId):Option Bool:=(P.underlying t).map fun d=>match d with | .struct _ | .array _ _=>true | _=>false
def VT (P:Program) (op:BinOp) (t:TypeId):Option Bool :=
 match P.underlying t,op with
 | some .bool,.eql=>some false
 | some .bool,.neq=>some true
 | _,_=>none
def AA5 (P:Program) (t:TypeId):Bool:=match P.underlying t with | some .bool=>true | _=>false
def VU (P:Program) (op:BinOp) (t:TypeId):Option (Bool × Nat) :=
 match P.underlying t with
 | some (.array n e) =>
  if AA5 P e=true∧FL P e=some 1∧P.eqGuardType P.depth t=false then
   (match op with | .eql=>some (false,n) | .neq=>some (true,n) | _=>none)
  else none
 | _=>none
def partsOf [Glob] (P:Program) (gs:List Nat) (places:List (Nat × Nat)):List (Nat × Operand)→Option (List (Nat × Nat × AG))
 | []=>some []
 | (i,x)::r =>
  match places[i]?,opd gs x,partsOf P gs places r with
  | some (off,n),some y,some r'=>some ((off,n,y)::r')
  | _,_,_=>none
def IQ [Glob] (gs:List Nat):List (Nat × Operand)→Option (List (Nat × AG))
 | []=>some []
 | (i,x)::r =>
  match opd gs x,IQ gs r with
  | some y,some r'=>some ((i,y)::r')
  | _,_=>none
def L5 (P:Program) (t:TypeId):Option Bool:=(P.info? t).bind fun i=>i.zero.map fun z=>match z with | .agg _=>true | _=>false
def FO (P:Program) (t:TypeId):Option Bool :=
 match P.underlying t with
 | some (.int .i64)=>some false
 | some .string=>some true
 | _=>none
def VV (gs:List Nat):Option Tmp→Option Nat
 | none=>none
 | some t=>(gs.find? fun x=>x / 1000000 == t+1).map (· % 1000000)
def AY [Glob] (P:Program) (gs:List Nat) (o:Oper):Option AOp :=
 match o.op with
 | .move x =>
  match VV gs o.dst,x with
  | some sz,.const (.slice none 0 0)=>some (.C5 sz 0 [] true (.c .any) (.c .any))
  | _,_=>(opd gs x).map .mv
 | .assign x =>
  match VV gs o.dst,x with
  | some sz,.const (.slice none 0 0)=>some (.C5 sz 0 [] true (.c .any) (.c .any))
  | _,_=>(opd gs x).map .mv
 | .pick c a b=>do some (.pick (← opd gs c) (← opd gs a) (← opd gs b))
 | .alloc e=>(Ca P e).map .alloc
 | .box e x=>(opd gs x).map .box
 | .build t parts =>
  match P.underlying t,Ca P t with
  | some (.struct fields),some zs =>
   match fields.toList.mapM (fun f=>(P.info? f.type).map fun i=>(f.offset,i.size))with
   | some places=>(partsOf P gs places parts.toList).map (.build zs)
   | none=>none
  | _,_=>none
 | .buildSlice t len parts =>
  match P.underlying t with
  | some (.slice e) =>
   match FL P e,Jr P e,Ca P e,IQ gs parts.toList with
   | some sz,some agg,some zs,some ps=>if zs.length=sz∧0 < sz∧len * sz≤2 ^ 24∧(agg=true∨sz=1)then some (.buildSlice sz agg zs len ps)else none
   | _,_,_,_=>none
  | _=>none
 | .load t a=>do some (.load (← FL P t) (← Jr P t) (← opd gs a))
 | .store t a x=>do some (.store (← FL P t) (← opd gs a) (← opd gs x))
 | .nilCheck x=>(opd gs x).map .nilCheck
 | .binOp op t x y _ =>
  match VT P op t with
  | some neg=>do some (.eqb neg (← opd gs x) (← opd gs y))
  | none =>
   match VU P op t with
   | some (neg,n)=>do some (.eqa neg n (← opd gs x) (← opd gs y))
   | none=>do some (.bin op (← opd gs x) (← opd gs y))
 | .unOp op _ x=>do some (.un op (← opd gs x))
 | .convert src dst x =>
  match P.underlying src,P.underlying dst with
  | some (.int _),some (.int k)=>(opd gs x).map (.conv k)
  | _,_=>none
 | .makeFunc (.func f) first captured=>do some (.QU f (← Lu gs first) (← Lu gs captured))
 | .slice t x lo hi mx =>
  match P.underlying t with
  | some (.slice e)=>do some (.slice (← FL P e) (← opd gs x) (← Cb gs lo) (← Cb gs hi) (← Cb gs mx))
  | some .string=>if mx.isNone then do some (.Gk (← opd gs x) (← Cb gs lo) (← Cb gs hi))else none
  | some (.array n e) =>
   match lo,hi,mx with
   | none,some h,none=>if FL P e=some 1 then do some (.Ej n (← opd gs x) (← opd gs h))else none
   | _,_,_=>none
  | _=>none
 | .fieldAddr s x f =>
  match P.underlying s with
  | some (.struct fields) =>
   match fields[f]? with
   | some fd=>(match FL P fd.type with | some n=>if n≠0 then(opd gs x).map (.fieldAddr fd.offset)else none | none=>none)
   | none=>none
  | _=>none
 | .field s x f =>
  match P.underlying s with
  | some (.struct fields) =>
   match fields[f]? with
   | some fd=>do some (.field fd.offset (← FL P fd.type) (← Jr P fd.type) (← opd gs x))
   | none=>none
  | _=>none
 | .indexAddr t x i =>
  match P.underlying t with
  | some (.slice e)=>(match FL P e with | some sz=>if 0 < sz then(do some (.indexAddr sz (← opd gs x) (← opd gs i)))else none | none=>none)
  | some (.array n e)=>do some (.D2 (← FL P e) n (← opd gs x) (← opd gs i))
  | _=>none
 | .index t x i =>
  match P.underlying t with
  | some .string=>do some (.FY (← opd gs x) (← opd gs i))
  | _=>none
 | .extract x i=>(opd gs x).map (.extract · i)
 | .makeMap _ none=>some .Cj
 | .makeSlice t l c =>
  match P.underlying t with
  | some (.slice e) =>
   match P.info? e,Ca P e with
   | some i,some zs=>if zs.length=i.size∧0 < i.size then(do some (.C5 i.size i.bytes zs false (← opd gs l) (← opd gs c)))else none
   | _,_=>none
  | _=>none
 | .lookup t m k ok =>
  match P.underlying t with
  | some (.map kt et)=>do some (.lookup (← FO P kt) ok (← Ca P et) (← L5 P et) (← opd gs m) (← opd gs k))
  | _=>none
 | .mapUpdate t m k x =>
  match P.underlying t with
  | some (.map kt _)=>do some (.mapUpdate (← FO P kt) (← opd gs m) (← opd gs k) (← opd gs x))
  | _=>none
 | .insert t m k x =>
  match P.underlying t with
  | some (.map kt _)=>do some (.mapUpdate (← FO P kt) (← opd gs m) (← opd gs k) (← opd gs x))
  | _=>none
 | .range t x =>
  match P.underlying t with
  | some (.map _ _)=>(opd gs x).map .range
  | _=>none
 | .call c =>
  match c.callee with
  | .builtin .delete =>
   match c.args.toList,(c.argTypes[0]?).bind P.underlying with
   | [m,k],some (.map kt _)=>do some (.delete (← FO P kt) (← opd gs m) (← opd gs k))
   | _,_=>none
  | .builtin .len =>
   match c.args.toList,(c.argTypes[0]?).bind P.underlying with
   | [x],some (.slice _)=>(opd gs x).map .len
   | [x],some .string=>(opd gs x).map .Kc
   | [x],some (.map _ _)=>(opd gs x).map .Hg
   | _,_=>none
  | .builtin .append =>
   match c.args.toList,c.argTypes.toList with
   | [s,x],[t,t2] =>
    match P.underlying t,P.underlying t2 with
    | some (.slice e),some (.slice _) =>
     match P.info? e with
     | some i=>(match i.zero with | some z=>if z.cells.size=i.size then(do some (.append i.size i.bytes (← opd gs s) (← opd gs x)))else none | none=>none)
     | none=>none
    | _,_=>none
   | _,_=>none
  | .builtin .min =>
   match c.args.toList with
   | [x,y]=>do some (.min (← opd gs x) (← opd gs y))
   | _=>none
  | .builtin .max =>
   match c.args.toList with
   | [x,y]=>do some (.max (← opd gs x) (← opd gs y))
   | _=>none
  | _=>none
 | _=>none
def JF:Op→Option (Operand × Array Operand)
 | .call c=>(match c.callee with | .value f=>some (f,c.args) | _=>none)
 | _=>none
def AOp.Ah:AOp→Bool
 | .call .. | .next _ | .entry _ | .Jq ..=>true
 | _=>false
def U6:Op→Option (Bool × Operand)
 | .next x false=>some (true,x)
 | .entry x=>some (false,x)
 | _=>none
def R6 (P:Program):Op→Option (Bool × Operand)
 | .binOp op t x (.const (.slice none 0 0)) _ =>
  match P.underlying t with
  | some (.slice _)=>(match op with | .eql=>some (false,x) | .neq=>some (true,x) | _=>none)
  | _=>none
 | _=>none
def Aa [Glob] (P:Program) (gs:List Nat) (pure:Bool) (o:Oper):Option AOp :=
 match JF o.op with
 | some (f,args)=>do some (.call pure (← opd gs f) (← Lu gs args))
 | none =>
  match R6 P o.op with
  | some (neg,x)=>if pure then none else(opd gs x).map (.Jq neg)
  | none =>
  match U6 o.op with
  | some (n,x)=>if pure then none else(opd gs x).map (if n then .next else .entry)
  | none=>(AY P gs o).filter (!·.Ah)
variable {ι ι':Nat→Option Nat} {S S':AX} {F:Nat→Nat→Prop} {w w':World} {P:Program}
theorem Fe {t:TypeId} {b:Bool} (h:Jr P t=some b):(isAgg t).run P w=.ok b w:=by
 unfold Jr at h
 cases hu:P.underlying t with
 | none=>simp [hu]at h
 | some d =>
  simp only [hu,Option.map_some,Option.some.injEq]at h
  unfold isAgg
  rw [Sem.run_bind,run_underlying hu w]
  subst h
  cases d <;> rfl
theorem run_sizeOf {t:TypeId} {n:Nat} (h:FL P t=some n):(sizeOf t).run P w=.ok n w:=by
 unfold FL at h
 cases hi:P.info? t with
 | none=>simp [hi]at h
 | some i =>
  simp only [hi,Option.map_some,Option.some.injEq]at h
  simp [sizeOf,typeInfo,hi,h]
theorem Qu [Glob] {a:Option Addr} {len cap sz:Nat} {t:Tok} {xs:List AV} (h:Rep ι F w (.slice a len cap) (.list sz t xs)) (l hh m:Nat) (h1:l≤hh) (h2:hh≤len) (h3:hh≤m) (h4:m≤cap)
  (t':Tok) (ht:t'=.none∨(t'=.full∧m=hh)):Rep ι F w (.slice (if m=l then a else a.map (·.add (l * sz))) (hh - l) (m - l)) (.list sz t' ((xs.take hh).drop l)):=by
 obtain⟨_,_,_,cs,e0,k1,k2,k3,k4,k5,k6,k7⟩:=h.EB
 cases e0
 have hfl:flat ((xs.take hh).drop l)=((flat xs).take (hh * sz)).drop (l * sz):=by
  apply List.ext_getElem?
  intro j
  have hmem:∀ x∈(xs.take hh).drop l,x.cells.length=sz:=fun x hx=>k3 x (List.mem_of_mem_take (List.mem_of_mem_drop hx))
  by_cases hz:sz=0
  ·subst hz
   have e1:flat ((xs.take hh).drop l)=[]:=List.length_eq_zero_iff.1 (by rw [BT hmem];simp)
   simp [e1]
  ·have hpos:0 < sz:=Nat.pos_of_ne_zero hz
   have e:j=j / sz * sz+j % sz:=by rw [Nat.mul_comm];exact(Nat.div_add_mod j sz).symm
   have hlt:=Nat.mod_lt j hpos
   have g1:=Ff hmem (j / sz) (j % sz) hlt
   rw [← e]at g1
   rw [g1,List.getElem?_drop,List.getElem?_drop,List.getElem?_take,List.getElem?_take]
   have g2:=Ff k3 (l+j / sz) (j % sz) hlt
   have e2:(l+j / sz) * sz+j % sz=l * sz+j:=by rw [Nat.add_mul];omega
   rw [e2]at g2
   by_cases hc:l+j / sz < hh
   ·have hc2:l * sz+j < hh * sz:=by
     have:(l+j / sz+1) * sz≤hh * sz:=Nat.mul_le_mul_right _ hc
     rw [Nat.succ_mul]at this
     omega
    rw [if_pos hc,if_pos hc2,g2]
   ·have hc2:¬ (l * sz+j < hh * sz):=by
     intro h'
     have:hh * sz≤(l+j / sz) * sz:=Nat.mul_le_mul_right _ (by omega)
     omega
    rw [if_neg hc,if_neg hc2]
    rfl
 refine .list (fun j=>cs (l * sz+j)) (by simp;omega) (by omega) (fun x hx=>k3 x (List.mem_of_mem_take (List.mem_of_mem_drop hx))) ?_ (fun hn=>?_) (fun j hj=>?_) (fun j x hx=>?_)
 ·rcases ht with rfl | ⟨rfl,rfl⟩
  ·trivial
  ·rfl
 ·cases a with
  | none=>have:=k5 rfl;omega
  | some ad=>split at hn <;> simp at hn
 ·rw [Nat.sub_mul]at hj
  have hj':l * sz+j < len * sz:=by
   have:hh * sz≤len * sz:=Nat.mul_le_mul_right _ h2
   omega
  obtain⟨ad,e1,e2,e3,e4,e5⟩:=k6 _ hj'
  subst e1
  have hml:¬ m=l:=by
   intro e
   subst e
   have:hh=m:=by omega
   subst this
   omega
  rw [if_neg hml]
  refine⟨ad.add (l * sz),rfl,by rw [Bb ad e2],?_,?_,e5⟩
  ·rw [Bb ad e2];simpa [Nat.add_assoc] using e3
  ·rw [Bb ad e2];simpa [Nat.add_assoc] using e4
 ·rw [hfl]at hx
  rw [List.getElem?_drop]at hx
  have hx':(flat xs)[l * sz+j]?=some x:=by
   rw [List.getElem?_take]at hx
   split at hx
   ·exact hx
   ·cases hx
  exact k7 _ x hx'
end Go.AL
namespace Go.AL
variable {ι ι':Nat→Option Nat} {S S':AX} {F:Nat→Nat→Prop} {w w':World} {P:Program}
def Qv [Glob] (P:Program) (ρ:Operand→Value) (o:Oper) (ι:Nat→Option Nat) (S:AX) (w:World) (nid:Nat) (S':AX) (new:Bool) (v:AV):Prop :=
 ∃ n cv w' ι',(execOp ρ o).run P w=.ok n w'∧(n=.value cv∨(n=.skip∧cv=undef))∧Step ι S w ι' S' w'∧WF ι' S' w'∧Rep ι' (AZ ι' S') w' cv v ∧
  ∀ q b,ι' q=some b→(new=true∧q=nid)∨ι q=some b
theorem AU [Glob] {ρ:Operand→Value} {o:Oper} {nid:Nat} (hwf:WF ι S w) {cv:Value} {v:AV} (hr:(execOp ρ o).run P w=.ok (.value cv) w) (hv:Rep ι (AZ ι S) w cv v):Qv P ρ o ι S w nid S false v :=
 ⟨_,cv,w,ι,hr,.inl rfl,Step.refl _ _ _,hwf,hv,fun _ _ h=>.inr h⟩
theorem IE [Glob] {gs:List Nat} {ρ:Operand→Value} {α:AG→AV} (hα:∀ x y,opd gs x=some y→Rep ι F w (ρ x) (α y)) {xs:Array Operand} {ys:List AG} (h:Lu gs xs=some ys) :
  Bs ι F w (xs.map ρ) (ys.map α):=by
 have key:∀ (l:List Operand) (ys:List AG),l.mapM (opd gs)=some ys→l.length=ys.length∧∀ (j:Nat) x y,l[j]?=some x→ys[j]?=some y→opd gs x=some y:=by
  intro l
  induction l with
  | nil=>intro ys h;simp at h;subst h;simp
  | cons x l ih =>
   intro ys h
   simp only [List.mapM_cons,Option.bind_eq_bind,Option.pure_def]at h
   cases hx:opd gs x with
   | none=>simp [hx]at h
   | some y =>
    cases hr:l.mapM (opd gs)with
    | none=>simp [hx,hr]at h
    | some r =>
     simp [hx,hr]at h
     subst h
     obtain⟨h1,h2⟩:=ih r hr
     refine⟨by simp [h1],fun j a b ha hb=>?_⟩
     cases j with
     | zero=>simp at ha hb;subst ha hb;exact hx
     | succ j=>simp at ha hb;exact h2 j a b ha hb
 obtain⟨h1,h2⟩:=key _ _ h
 refine⟨by simpa using h1,fun j v x hv hx=>?_⟩
 simp only [Array.getElem?_map,Option.map_eq_some_iff]at hv
 simp only [List.getElem?_map,Option.map_eq_some_iff]at hx
 obtain⟨a,ha,rfl⟩:=hv
 obtain⟨b,hb,rfl⟩:=hx
 exact hα a b (h2 j a b (by simpa using ha) hb)
theorem PA {α β γ:Type} {x:Option α} {y:Option β} {f:α→β→γ} {z:γ} (h:(do let a ← x;let b ← y;some (f a b))=some z):∃ a b,x=some a∧y=some b∧z=f a b:=by
 cases x <;> cases y <;> simp_all
theorem CC {v:Value} {b:Bool} (h:Rep ι F w v (.bool b)):v=.bool b:=by cases h;rfl
theorem Bt {v:Value} {k:IntKind} {n:Int} (h:Rep ι F w v (.int k n)):v=.int k n:=by cases h;rfl
theorem IS {v:Value} {s:ByteArray} (h:Rep ι F w v (.str s)):v=.string s:=by cases h;rfl
theorem EZ {v:Value} {o off:Nat} (h:Rep ι F w v (.ptr o off)):∃ b,ι o=some b∧v=.pointer (some ⟨b,off,none⟩):=by cases h with | ptr _ h=>exact⟨_,h,rfl⟩
theorem K0 {v:Value} {l:List AV} (h:Rep ι F w v (.Ai l)):∃ a,v=.pointer (some a)∧Rep ι F w (.pointer (some a)) (.Ai l):=by
 cases h with | Ai cs ha hc hr=>exact⟨_,rfl,.Ai cs ha hc hr⟩
theorem NK {v:Value} {l:List AV} (h:Rep ι F w v (.agg l)):∃ vs,v=.agg vs∧Bs ι F w vs l∧∀ (j:Nat) v,vs[j]?=some v→v.oneCell'=true:=by
 cases h with | agg hl hc hr=>exact⟨_,rfl,⟨hl,hr⟩,hc⟩
theorem Yl {v:Value} {l:List AV} (h:Rep ι F w v (.tup l)):∃ vs,v=.tuple vs∧Bs ι F w vs l:=by
 cases h with | tup hl hr=>exact⟨_,rfl,⟨hl,hr⟩⟩
theorem VW [Glob] {va vb:Value} {a b:AV} (t:Bool) (ha:Rep ι F w va a) (hb:Rep ι F w vb b):Rep ι F w (if t then va else vb) (Hm t a b):=by
 by_cases h:(∃ x,a=.bool x)∧∃ y,b=.bool y
 ·obtain⟨⟨x,rfl⟩,y,rfl⟩:=h
  rw [CC ha,CC hb]
  cases t <;> exact .bool _
 ·have e:Hm t a b=if t then a else b:=by
   unfold Hm
   split
   ·exact(h ⟨⟨_,rfl⟩,_,rfl⟩).elim
   ·rfl
  rw [e]
  cases t
  ·exact hb
  ·exact ha
theorem NL (a b:ByteArray):(a.toList == b.toList)=decide (a=b):=by
 by_cases h:a=b
 ·subst h;simp
 ·have:a.toList≠b.toList:=by
   intro e
   apply h
   rw [ByteArray.toList_eq,ByteArray.toList_eq]at e
   cases a;cases b
   simp only [ByteArray.mk.injEq]
   exact Array.toList_inj.1 e
  simp [h,this]
theorem UH [Glob] {op:BinOp} {t:TypeId} (ox oy:Operand) {a b:Value} {x y v:AV} (ha:Rep ι F w a x) (hb:Rep ι F w b y) (h:Dg op x y=some v) (hs:B7 op x y) :
  ∃ cv,(binOp op t a b).run P w=.ok cv w∧Rep ι F w cv v∧eqGuard op t ox oy a b=pure ():=by
 unfold Dg at h
 split at h
 ·rename_i k n k' m
  rw [Bt ha,Bt hb]
  obtain⟨rfl,hs⟩:k=k'∧_:=hs
  have hne:=eqGuard_at_int op t ox oy (.int k m) k n
  cases op <;> simp only [Option.some.injEq,reduceCtorEq]at h <;> subst h <;> simp only at hs
  case quo=>exact⟨_,by simp [binOp,Op.intDiv,hs],.int _ _,hne⟩
  case rem=>exact⟨_,by simp [binOp,Op.intDiv,hs],.int _ _,hne⟩
  case add=>exact⟨_,by simp [binOp,Op.intArith],.int _ _,hne⟩
  case sub=>exact⟨_,by simp [binOp,Op.intArith],.int _ _,hne⟩
  case mul=>exact⟨_,by simp [binOp,Op.intArith],.int _ _,hne⟩
  case eql=>exact⟨.bool (n == m),by simp [binOp,Op.intCmp],by rw [show (n == m)=decide (n=m)from rfl];exact .bool _,hne⟩
  case neq=>exact⟨.bool (n != m),by simp [binOp,Op.intCmp],by rw [show (n != m)=!decide (n=m)from rfl];exact .bool _,hne⟩
  case lss=>exact⟨.bool (n < m),by simp [binOp,Op.intCmp],.bool _,hne⟩
  case leq=>exact⟨.bool (n≤m),by simp [binOp,Op.intCmp],.bool _,hne⟩
  case gtr=>exact⟨.bool (n > m),by simp [binOp,Op.intCmp],.bool _,hne⟩
  case geq=>exact⟨.bool (n ≥ m),by simp [binOp,Op.intCmp],.bool _,hne⟩
 ·rename_i s u
  rw [IS ha,IS hb]
  have hne:eqGuard op t ox oy (.string s) (.string u)=pure ():=by cases op <;> rfl
  have he:=NL s u
  cases op <;> simp only [Option.some.injEq,reduceCtorEq]at h <;> subst h
  case eql=>exact⟨_,by simp only [binOp,Op.stringOp,he];rfl,.bool _,hne⟩
  case neq=>exact⟨_,by simp only [binOp,Op.stringOp,he];rfl,.bool _,hne⟩
  case lss=>exact⟨_,by simp only [binOp,Op.stringOp,he];rfl,.bool _,hne⟩
  case gtr=>exact⟨_,by simp only [binOp,Op.stringOp,he];rfl,.bool _,hne⟩
 ·cases h
end Go.AL
namespace Go.AL
variable {ι ι':Nat→Option Nat} {S S':AX} {F:Nat→Nat→Prop} {w w':World} {P:Program}
theorem IT [Glob] {gs:List Nat} {places:List (Nat × Nat)}:∀ {l:List (Nat × Operand)} {ps:List (Nat × Nat × AG)},partsOf P gs places l=some ps →
  l.length=ps.length∧∀ (j:Nat) x p,l[j]?=some x→ps[j]?=some p→places[x.1]?=some (p.1,p.2.1)∧opd gs x.2=some p.2.2
 | [],ps,h=>by simp [partsOf]at h;subst h;simp
 | (i,x)::r,ps,h=>by
  simp only [partsOf]at h
  split at h
  ·rename_i off n y r' h1 h2 h3
   simp only [Option.some.injEq]at h
   subst h
   obtain⟨k1,k2⟩:=IT h3
   refine⟨by simp [k1],fun j a p ha hp=>?_⟩
   cases j with
   | zero=>simp at ha hp;subst ha hp;exact⟨h1,h2⟩
   | succ j=>simp at ha hp;exact k2 j a p ha hp
  ·cases h
theorem IU [Glob] {gs:List Nat}:∀ {l:List (Nat × Operand)} {ps:List (Nat × AG)},IQ gs l=some ps →
  l.length=ps.length∧∀ (j:Nat) x p,l[j]?=some x→ps[j]?=some p→x.1=p.1∧opd gs x.2=some p.2
 | [],ps,h=>by simp [IQ]at h;subst h;simp
 | (i,x)::r,ps,h=>by
  simp only [IQ]at h
  split at h
  ·rename_i y r' h2 h3
   simp only [Option.some.injEq]at h
   subst h
   obtain⟨k1,k2⟩:=IU h3
   refine⟨by simp [k1],fun j a p ha hp=>?_⟩
   cases j with
   | zero=>simp at ha hp;subst ha hp;exact⟨rfl,h2⟩
   | succ j=>simp at ha hp;exact k2 j a p ha hp
  ·cases h
theorem UI [Glob] (hwf:WF ι S w) {n:Nat} (hι:ι n=none) {v:Value} {x:AV} (hv:Rep ι (AZ ι S) w v x) (hx:x.isVal=true) (e:TypeId) :
  ∃ w',(Instr.box e v).run P w=.ok (.pointer (some ⟨w.heap.size,0,none⟩)) w'∧Step ι S w (An ι n w.heap.size) (Au S n (.box x.cells)) w'∧WF (An ι n w.heap.size) (Au S n (.box x.cells)) w':=by
 obtain⟨h1,h2⟩:=hv.cells hx
 obtain⟨h3,h4⟩:=NH hwf hι h1 h2 e
 exact⟨w.alloc (.cells v.cells e),by simp [Instr.box,newVar,newRow],h3,h4⟩
theorem Et {n b:Nat}:∀ q c,An ι n b q=some c→(true=true∧q=n)∨ι q=some c:=by
 intro q c h
 unfold An at h
 split at h
 ·rename_i e;exact .inl ⟨rfl,e⟩
 ·exact .inr h
theorem PB {α:AG→AV} {x:Option AG} {o:Option Int} (h:BJ (x.map α)=some o) :
  (x=none∧o=none)∨∃ y k n,x=some y∧α y=.int k n∧o=some n:=by
 cases x with
 | none=>simp [BJ]at h;exact .inl ⟨rfl,h.symm⟩
 | some y =>
  simp only [Option.map_some]at h
  cases hy:α y <;> simp [BJ,hy]at h
  exact .inr ⟨y,_,_,rfl,hy,h.symm⟩
theorem Qw [Glob] {gs:List Nat} {x:Option Operand} {y:Option AG} (h:Cb gs x=some y):(x=none∧y=none)∨∃ a b,x=some a∧y=some b∧opd gs a=some b:=by
 cases x with
 | none=>simp [Cb]at h;exact .inl ⟨rfl,h.symm⟩
 | some a =>
  simp only [Cb]at h
  cases hb:opd gs a with
  | none=>simp [hb]at h
  | some b=>simp [hb]at h;exact .inr ⟨a,b,rfl,h.symm,hb⟩
def Qx:Option Int→Nat→Nat
 | some l,_=>l.toNat
 | none,d=>d
@[simp] theorem AFZ (l:Int) (d:Nat):Qx (some l) d=l.toNat:=rfl
@[simp] theorem AFa (d:Nat):Qx none d=d:=rfl
theorem DD [Glob] {isSlice:Bool} {len cap:Nat} {ρ:Operand→Value} {α:AG→AV} {gs:List Nat} (hα:∀ x y,opd gs x=some y→Rep ι F w (ρ x) (α y))
  {lo hi mx:Option Operand} {lo' hi' mx':Option AG} (h1:Cb gs lo=some lo') (h2:Cb gs hi=some hi') (h3:Cb gs mx=some mx')
  {l h m:Option Int} (e1:BJ (lo'.map α)=some l) (e2:BJ (hi'.map α)=some h) (e3:BJ (mx'.map α)=some m)
  (b1:match l with | some l=>0≤l∧l≤(match h with | some h=>h | none=>(len:Int)) | none=>True)
  (b2:match h with | some h=>0≤h∧h≤(match m with | some m=>m | none=>(cap:Int)) | none=>m=none) (b3:match m with | some m=>0≤m∧m≤(cap:Int) | none=>True) (b4:len≤cap) :
  (Instr.sliceBounds isSlice len cap (lo.map ρ) (hi.map ρ) (mx.map ρ)).run P w =
   .ok (Qx l 0,Qx h len,Qx m cap) w:=by
 have val:∀ {x:Option Operand} {x':Option AG} {n:Option Int},Cb gs x=some x'→BJ (x'.map α)=some n→(x=none∧n=none)∨∃ a k i,x=some a∧n=some i∧ρ a=.int k i:=by
  intro x x' n hx hn
  rcases Qw hx with ⟨rfl,rfl⟩ | ⟨a,b,rfl,rfl,hab⟩
  ·simp [BJ]at hn;exact .inl ⟨rfl,hn.symm⟩
  ·rcases PB hn with ⟨h,_⟩ | ⟨y,k,i,hy,hyk,rfl⟩
   ·cases h
   ·cases hy
    have:=hα a b hab
    rw [hyk]at this
    exact .inr ⟨a,k,i,rfl,rfl,Bt this⟩
 rcases val h1 e1 with ⟨rfl,rfl⟩ | ⟨al,kl,il,rfl,rfl,vl⟩ <;> rcases val h2 e2 with ⟨rfl,rfl⟩ | ⟨ah,kh,ih,rfl,rfl,vh⟩ <;> rcases val h3 e3 with ⟨rfl,rfl⟩ | ⟨am,km,im,rfl,rfl,vm⟩ <;>
  simp only at b1 b2 b3 <;>(try cases b2;done)
 ·simp [Instr.sliceBounds]
 ·have r2:=run_sliceBound (P:=P) w kh ih cap (if isSlice=true then .sliceAcap else .sliceAlen) b2.1 b2.2
  simp [Instr.sliceBounds,vh,r2]
 ·have r2:=run_sliceBound (P:=P) w kh ih im.toNat .slice3B b2.1 (by omega)
  have r3:=run_sliceBound (P:=P) w km im cap (if isSlice=true then .slice3Acap else .slice3Alen) b3.1 b3.2
  simp [Instr.sliceBounds,vh,vm,r2,r3]
 ·have r1:=run_sliceBound (P:=P) w kl il len .sliceB b1.1 b1.2
  simp [Instr.sliceBounds,vl,r1]
 ·have r1:=run_sliceBound (P:=P) w kl il ih.toNat .sliceB b1.1 (by omega)
  have r2:=run_sliceBound (P:=P) w kh ih cap (if isSlice=true then .sliceAcap else .sliceAlen) b2.1 b2.2
  simp [Instr.sliceBounds,vl,vh,r1,r2]
 ·have r1:=run_sliceBound (P:=P) w kl il ih.toNat .slice3C b1.1 (by omega)
  have r2:=run_sliceBound (P:=P) w kh ih im.toNat .slice3B b2.1 (by omega)
  have r3:=run_sliceBound (P:=P) w km im cap (if isSlice=true then .slice3Acap else .slice3Alen) b3.1 b3.2
  simp [Instr.sliceBounds,vl,vh,vm,r1,r2,r3]
end Go.AL
