/- The abstract layer: the stages of a walk, for simp. -/
import Derived.Test.YtlledcnjfgcipaaGreatDoorA14
import Derived.Carry
import Derived.SizedLaws
import Derived.ProofKit
import Derived.ChangeArms
import Derived.KernelRfl
import Derived.WideAt
set_option linter.unusedVariables false
set_option linter.unusedSimpArgs false
namespace Go.AL
variable {P:Program}
section
variable {g l g' l':Env} {s s':St} {K:KS}
@[congr] theorem ADX [Glob] (op:AOp) (hg:g=g') (hl:l=l') (hs:s=s'):AOp.step P op g l s K=AOp.step P op g' l' s' K:=by rw [hg,hl,hs]
@[congr] theorem ADY [Glob] (os:List AR) {K:Env→Env→St→Prop} (hg:g=g') (hl:l=l') (hs:s=s'):Cr P os K g l s=Cr P os K g' l' s':=by rw [hg,hl,hs]
@[congr] theorem ABd [Glob] (i:Nat) {acc Em:List (Nat × Nat)} (os:List AR) {K:Env→Env→St→Prop} (ha:acc=Em) (hg:g=g') (hl:l=l') (hs:s=s'):BM P i acc os K g l s=BM P i Em os K g' l' s':=by rw [hg,hl,hs,ha]
@[congr] theorem AFh [Glob] (c:Ae) {Q:Ay→Env→St→Prop} (hg:g=g') (hs:s=s'):awp P c Q g s=awp P c Q g' s':=by rw [hg,hs]
@[congr] theorem YL (gd:Option (Bool × Nat × Bool)) {a b:Env→Env→Prop} (hg:g=g') (hl:l=l'):guarded gd g l a b=guarded gd g' l' a b:=by rw [hg,hl]
@[congr] theorem Y6 (d:Option (Bool × Nat)) {v v':AV} {a:Env→Env→Prop} (hv:v=v') (hg:g=g') (hl:l=l'):BY d v g l a=BY d v' g' l' a:=by rw [hg,hl,hv]
section
variable {v v' u u' c c':AV} {n n':Nat} {agg:Bool} {ob ob':Option Ax} {cs cs':List AV}
@[congr] theorem AFi (hc:cs=cs') (hs:s=s'):ldK n agg cs s K=ldK n agg cs' s' K:=by rw [hc,hs]
@[congr] theorem AFj {off off':Nat} (hf:off=off') (hc:ob=ob') (hs:s=s'):ldO n agg off ob s K=ldO n agg off' ob' s' K:=by rw [hc,hs,hf]
@[congr] theorem AFk (hc:v=v') (hs:s=s'):ldV n agg v s K=ldV n agg v' s' K:=by rw [hc,hs]
@[congr] theorem AFl {o o' off off':Nat} (ho:o=o') (hf:off=off') (hx:v=v') (hc:ob=ob') (hs:s=s'):stO n o off v ob s K=stO n o' off' v' ob' s' K:=by rw [ho,hf,hc,hs,hx]
@[congr] theorem AFm (hc:u=u') (hx:v=v') (hs:s=s'):stV n u v s K=stV n u' v' s' K:=by rw [hc,hs,hx]
@[congr] theorem AFn (hc:v=v') (hs:s=s'):bxV v s K=bxV v' s' K:=by rw [hc,hs]
@[congr] theorem AFo (h:c=c') (hc:v=v') (hx:u=u') (hs:s=s'):pkV c v u s K=pkV c' v' u' s' K:=by rw [h,hc,hs,hx]
@[congr] theorem AFp {zs:List AV} {ps ps':List (Nat × Nat × AV)} (hc:ps=ps') (hs:s=s'):bdV zs ps s K=bdV zs ps' s' K:=by rw [hc,hs]
@[congr] theorem AFq {sz m:Nat} {z z':AV} {ps ps':List (Nat × AV)} (hz:z=z') (hc:ps=ps') (hs:s=s'):bsV sz z m ps s K=bsV sz z' m ps' s' K:=by rw [hc,hs,hz]
@[congr] theorem AFr (hc:v=v') (hs:s=s'):ncV v s K=ncV v' s' K:=by rw [hc,hs]
@[congr] theorem AFs {op:BinOp} (hc:v=v') (hx:u=u') (hs:s=s'):bnV op v u s K=bnV op v' u' s' K:=by rw [hc,hs,hx]
@[congr] theorem AFt {b:Bool} {m:Nat} (hc:v=v') (hx:u=u') (hs:s=s'):eaV b m v u s K=eaV b m v' u' s' K:=by rw [hc,hs,hx]
@[congr] theorem AFu {b:Bool} (hc:v=v') (hs:s=s'):inV b v s K=inV b v' s' K:=by rw [hc,hs]
@[congr] theorem AFv {b:Bool} (hc:v=v') (hx:u=u') (hs:s=s'):eqV b v u s K=eqV b v' u' s' K:=by rw [hc,hs,hx]
@[congr] theorem AFw {op:UnOp} (hc:v=v') (hs:s=s'):unV op v s K=unV op v' s' K:=by rw [hc,hs]
@[congr] theorem AFx {k:IntKind} (hc:v=v') (hs:s=s'):cvV k v s K=cvV k v' s' K:=by rw [hc,hs]
@[congr] theorem AFy (hc:v=v') (hs:s=s'):faV n v s K=faV n v' s' K:=by rw [hc,hs]
@[congr] theorem AFz {off:Nat} (hc:v=v') (hs:s=s'):fdV off n agg v s K=fdV off n agg v' s' K:=by rw [hc,hs]
@[congr] theorem AF0 (hc:v=v') (hx:u=u') (hs:s=s'):iaV n v u s K=iaV n v' u' s' K:=by rw [hc,hs,hx]
@[congr] theorem AF1 (hc:v=v') (hx:u=u') (hs:s=s'):isV v u s K=isV v' u' s' K:=by rw [hc,hs,hx]
@[congr] theorem AF2 (hc:v=v') (hs:s=s'):exV n v s K=exV n v' s' K:=by rw [hc,hs]
@[congr] theorem AF3 (hc:v=v') (hs:s=s'):lnV v s K=lnV v' s' K:=by rw [hc,hs]
@[congr] theorem AF4 (hc:v=v') (hs:s=s'):lsV v s K=lsV v' s' K:=by rw [hc,hs]
@[congr] theorem AF5 {sz o o':Nat} {xs xs' ys ys':List AV} (h:o=o') (h1:xs=xs') (h2:ys=ys') (hc:ob=ob') (hs:s=s'):apO sz o xs ys ob s K=apO sz o' xs' ys' ob' s' K:=by rw [h,h1,h2,hc,hs]
@[congr] theorem AF6 {sz m m':Nat} {ys ys':List AV} {s1 s1':St} (h:m=m') (h2:ys=ys') (hc:ob=ob') (hs:s=s') (hs1:s1=s1'):amO sz m ys ob s s1 K=amO sz m' ys' ob' s' s1' K:=by rw [h,h2,hc,hs,hs1]
@[congr] theorem AF7 {sz bytes:Nat} (hc:v=v') (hx:u=u') (hs:s=s'):apV sz bytes v u s K=apV sz bytes v' u' s' K:=by rw [hc,hs,hx]
@[congr] theorem AF8 (hc:v=v') (hx:u=u') (hs:s=s'):mnV v u s K=mnV v' u' s' K:=by rw [hc,hs,hx]
@[congr] theorem AF9 (hc:v=v') (hx:u=u') (hs:s=s'):mxV v u s K=mxV v' u' s' K:=by rw [hc,hs,hx]
@[congr] theorem AGA {v2 v2':AV} (hc:v=v') (hx:v2=v2') (hs:s=s'):saV n v v2 s K=saV n v' v2' s' K:=by rw [hc,hs,hx]
@[congr] theorem AGB {m1 m2:Nat} {v2 v2':AV} (hc:v=v') (hx:v2=v2') (hs:s=s'):aaV m1 m2 v v2 s K=aaV m1 m2 v' v2' s' K:=by rw [hc,hs,hx]
@[congr] theorem AGC [Glob] {as as':List AV} (hc:v=v') (hx:as=as') (hs:s=s'):clV P v as s K=clV P v' as' s' K:=by rw [hc,hs,hx]
@[congr] theorem AGD [Glob] {as as':List AV} (hc:v=v') (hx:as=as') (hs:s=s'):cpV P v as s K=cpV P v' as' s' K:=by rw [hc,hs,hx]
@[congr] theorem Y8 [Glob] (f:FuncId) {as as':List AV} (hx:as=as') (hs:s=s'):AB P f as s K=AB P f as' s' K:=by rw [hs,hx]
end
section
variable (n off o sz bytes:Nat) (cs xs ys:List AV) (x y v:AV) (i j:Int) (k k':IntKind) (a b:Bool) (t t1:Tok) (str str':ByteArray) (f:FuncId) (as:List AV)
def ok (A X:Prop):Prop:=A∧X
@[congr] theorem AIF {A A' X:Prop} (h:A=A'):ok A X=ok A' X:=by rw [h]
@[simp] theorem ALH {A X:Prop} (h:A):ok A X=X:=by simp [ok,h]
theorem Ps {A X:Prop} (h:A) (hx:go X):go (ok A X):=⟨h,hx⟩
def pcV [Glob] (P:Program) (f:FuncId) (as:List AV) (s:St) (K:KS):Prop:=∃ r,AF P f as r∧K r s
@[congr] theorem AGE [Glob] {P:Program} {f:FuncId} {as as':List AV} {s s':St} {K:KS} (ha:as=as') (hs:s=s'):pcV P f as s K=pcV P f as' s' K:=by rw [ha,hs]
theorem AO [Glob] {P:Program} {f:FuncId} {as:List AV} {s:St} {K:KS} {r:AV} (h:AF P f as r) (hk:go (K r s)):go (pcV P f as s K):=⟨r,h,hk⟩
def GW (cs:List AV) (s:St) (K:KS):Prop:=match cs with | x::_=>K x s | []=>False
@[congr] theorem ADZ {cs cs':List AV} (hc:cs=cs') (hs:s=s'):GW cs s K=GW cs' s' K:=by rw [hc,hs]
theorem Me:GW (x::cs) s K=K x s:=rfl
@[simp] theorem Y9 [Glob]  : go (GW (x::cs) s K)=go (K x s):=by rw [Me]
@[simp] theorem ADa [Glob] (agg:Bool)  : go (ldV n agg (.ptr o off) s K)=go (ldO n agg off (s.m o) s K):=rfl
@[simp] theorem ABe [Glob] (agg:Bool)  : go (ldV n agg (.Ai cs) s K)=go (ldK n agg cs s K):=rfl
@[simp] theorem ADb [Glob]  : go (ldK n true cs s K)=go (ok (n≤cs.length) (K (.agg (cs.take n)) s)):=rfl
theorem ZA:ldK n false cs s K=ok (n≤cs.length) (GW cs s K):=by unfold ldK GW;cases cs <;> rfl
@[simp] theorem ADc [Glob]  : go (ldK n false cs s K)=go (ok (n≤cs.length) (GW cs s K)):=by rw [ZA]
@[simp] theorem ADd [Glob]  : go (ldO n true off (some (.box cs)) s K)=go (ok (off+n≤cs.length) (K (.agg ((cs.drop off).take n)) s)):=rfl
theorem ZB:ldO n false off (some (.box cs)) s K=ok (off+n≤cs.length) (GW (cs.drop off) s K):=by simp only [ldO,GW,CA,Bool.false_eq_true,if_false];cases cs.drop off <;> rfl
@[simp] theorem ADe [Glob]  : go (ldO n false off (some (.box cs)) s K)=go (ok (off+n≤cs.length) (GW (cs.drop off) s K)):=by rw [ZB]
@[simp] theorem ADf [Glob]  : go (stV n (.ptr o off) x s K)=go (stO n o off x (s.m o) s K):=rfl
theorem ZC:stO n o off x (some (.box cs)) s K=ok (x.isVal=true∧x.cells.length=n∧off+n≤cs.length) (K (.tup []) (s.set o (.box (cs.take off++x.cells++cs.drop (off+x.cells.length))))):=by simp only [stO,ok,Ed,and_assoc]
@[simp] theorem ADg [Glob]  : go (stO n o off x (some (.box cs)) s K)=go (ok (x.isVal=true∧x.cells.length=n∧off+n≤cs.length) (K (.tup []) (s.set o (.box (cs.take off++x.cells++cs.drop (off+x.cells.length)))))):=by rw [ZC]
@[simp] theorem AGF [Glob]  : go (bxV x s K)=go (ok (x.isVal=true) (K (.ptr s.nx 0) (s.new (.box x.cells)))):=rfl
theorem XB:pkV (.bool true) x y s K=K x s:=by unfold pkV Hm;cases x <;> cases y <;> rfl
@[simp] theorem ABf [Glob]  : go (pkV (.bool true) x y s K)=go (K x s):=by rw [XB]
theorem UW:pkV (.bool false) x y s K=K y s:=by unfold pkV Hm;cases x <;> cases y <;> rfl
@[simp] theorem ZD [Glob]  : go (pkV (.bool false) x y s K)=go (K y s):=by rw [UW]
@[simp] theorem AGG [Glob] (zs:List AV) (ps:List (Nat × Nat × AV))  : go (bdV zs ps s K)=go (ok (∀ p∈ps,p.2.2.isVal=true∧p.2.2.cells.length=p.2.1∧p.1+p.2.1≤zs.length) (K (.agg (BE zs (ps.map fun p=>(p.1,p.2.2)))) s)):=rfl
@[simp] theorem AGH [Glob] (z:AV) (m:Nat) (ps:List (Nat × AV))  : go (bsV sz z m ps s K)=go (ok (∀ p∈ps,p.2.isVal=true∧p.2.cells.length=sz∧p.1 < m) (K (.list sz .full (ps.foldl (fun xs p=>xs.set p.1 p.2) (List.replicate m z))) s)):=rfl
@[simp] theorem ADh [Glob]  : go (ncV (.ptr o off) s K)=go (K (.ptr o off) s):=rfl
@[simp] theorem ABg [Glob]  : go (ncV (.Ai cs) s K)=go (K (.Ai cs) s):=rfl
theorem ADi:bnV .add (.int k i) (.int k j) s K=K (.int k (k.wrap (i+j))) s:=by simp [bnV,B7,Dg]
@[simp] theorem AGI [Glob]  : go (bnV .add (.int k i) (.int k j) s K)=go (K (.int k (k.wrap (i+j))) s):=by rw [ADi]
theorem ADj:bnV .sub (.int k i) (.int k j) s K=K (.int k (k.wrap (i - j))) s:=by simp [bnV,B7,Dg]
@[simp] theorem AGJ [Glob]  : go (bnV .sub (.int k i) (.int k j) s K)=go (K (.int k (k.wrap (i - j))) s):=by rw [ADj]
theorem ADk:bnV .mul (.int k i) (.int k j) s K=K (.int k (k.wrap (i * j))) s:=by simp [bnV,B7,Dg]
@[simp] theorem AGK [Glob]  : go (bnV .mul (.int k i) (.int k j) s K)=go (K (.int k (k.wrap (i * j))) s):=by rw [ADk]
theorem ADl:bnV .quo (.int k i) (.int k j) s K=ok (j≠0) (K (.int k (k.wrap (i.tdiv j))) s):=by simp [bnV,B7,Dg,ok]
@[simp] theorem AGL [Glob]  : go (bnV .quo (.int k i) (.int k j) s K)=go (ok (j≠0) (K (.int k (k.wrap (i.tdiv j))) s)):=by rw [ADl]
theorem ADm:bnV .rem (.int k i) (.int k j) s K=ok (j≠0) (K (.int k (i.tmod j)) s):=by simp [bnV,B7,Dg,ok]
@[simp] theorem AGM [Glob]  : go (bnV .rem (.int k i) (.int k j) s K)=go (ok (j≠0) (K (.int k (i.tmod j)) s)):=by rw [ADm]
theorem ADn:bnV .eql (.int k i) (.int k j) s K=K (.bool (decide (i=j))) s:=by simp [bnV,B7,Dg]
@[simp] theorem AGN [Glob]  : go (bnV .eql (.int k i) (.int k j) s K)=go (K (.bool (decide (i=j))) s):=by rw [ADn]
theorem ADo:bnV .neq (.int k i) (.int k j) s K=K (.bool (!decide (i=j))) s:=by simp [bnV,B7,Dg]
@[simp] theorem AGO [Glob]  : go (bnV .neq (.int k i) (.int k j) s K)=go (K (.bool (!decide (i=j))) s):=by rw [ADo]
theorem ADp:bnV .lss (.int k i) (.int k j) s K=K (.bool (decide (i < j))) s:=by simp [bnV,B7,Dg]
@[simp] theorem AGP [Glob]  : go (bnV .lss (.int k i) (.int k j) s K)=go (K (.bool (decide (i < j))) s):=by rw [ADp]
theorem ADq:bnV .leq (.int k i) (.int k j) s K=K (.bool (decide (i≤j))) s:=by simp [bnV,B7,Dg]
@[simp] theorem AGQ [Glob]  : go (bnV .leq (.int k i) (.int k j) s K)=go (K (.bool (decide (i≤j))) s):=by rw [ADq]
theorem ADr:bnV .gtr (.int k i) (.int k j) s K=K (.bool (decide (j < i))) s:=by simp [bnV,B7,Dg]
@[simp] theorem AGR [Glob]  : go (bnV .gtr (.int k i) (.int k j) s K)=go (K (.bool (decide (j < i))) s):=by rw [ADr]
theorem ADs:bnV .geq (.int k i) (.int k j) s K=K (.bool (decide (j≤i))) s:=by simp [bnV,B7,Dg]
@[simp] theorem AGS [Glob]  : go (bnV .geq (.int k i) (.int k j) s K)=go (K (.bool (decide (j≤i))) s):=by rw [ADs]
theorem ADt:bnV .eql (.str str) (.str str') s K=K (.bool (decide (str=str'))) s:=by simp [bnV,B7,Dg]
@[simp] theorem AGT [Glob]  : go (bnV .eql (.str str) (.str str') s K)=go (K (.bool (decide (str=str'))) s):=by rw [ADt]
theorem ADu:bnV .neq (.str str) (.str str') s K=K (.bool (!decide (str=str'))) s:=by simp [bnV,B7,Dg]
@[simp] theorem AGU [Glob]  : go (bnV .neq (.str str) (.str str') s K)=go (K (.bool (!decide (str=str'))) s):=by rw [ADu]
theorem AIH [Glob] (m:Nat) (a b:List Bool):eaV true m (.agg (a.map .bool)) (.agg (b.map .bool)) s K=ok (a.length=m∧b.length=m) (K (.bool (!decide (a=b))) s):=by simp [eaV,ok,and_assoc]
@[simp] theorem AII [Glob] (m:Nat) (a b:List Bool)  : go (eaV true m (.agg (a.map .bool)) (.agg (b.map .bool)) s K)=go (ok (a.length=m∧b.length=m) (K (.bool (!decide (a=b))) s)):=by rw [AIH]
@[simp] theorem AIJ (n:Bool) (sz:Nat) (t:Tok) (xs:List AV):go (inV n (.list sz t xs) s K)=∀ b:Bool,(xs≠[]→b=n)→go (K (.bool b) s):=rfl
@[simp] theorem AIK [Glob]  : go (eqV true (.bool a) (.bool b) s K)=go (K (.bool (!decide (a=b))) s):=rfl
@[simp] theorem ADv [Glob]  : go (unV .not (.bool a) s K)=go (K (.bool (!a)) s):=rfl
@[simp] theorem AGV [Glob]  : go (cvV k (.int k' i) s K)=go (K (.int k (k.wrap i)) s):=rfl
@[simp] theorem ADw [Glob]  : go (faV n (.ptr o off) s K)=go (K (.ptr o (off+n)) s):=rfl
@[simp] theorem ABh [Glob]  : go (faV n (.Ai cs) s K)=go (ok (n < cs.length) (K (.Ai (cs.drop n)) s)):=rfl
theorem ZE:fdV off n false (.agg cs) s K=ok (off+n≤cs.length) (GW (cs.drop off) s K):=by simp only [fdV,GW,CA,Bool.false_eq_true,if_false];cases cs.drop off <;> rfl
@[simp] theorem ADx [Glob]  : go (fdV off n false (.agg cs) s K)=go (ok (off+n≤cs.length) (GW (cs.drop off) s K)):=by rw [ZE]
@[simp] theorem ABi [Glob] (sz':Nat)  : go (iaV sz (.list sz' t xs) (.int k i) s K)=go (ok (sz'=sz∧0≤i∧i < xs.length) (K (.Ai (xs.getD i.toNat .any).cells) s)):=rfl
@[simp] theorem AGW [Glob]  : go (isV (.str str) (.int k i) s K)=go (ok (0≤i∧i < str.size) (K (.int .u8 ((str.data.toList.getD i.toNat 0).toNat)) s)):=rfl
@[simp] theorem ABj [Glob]  : go (exV 0 (.tup (x::cs)) s K)=go (K x s):=rfl
@[simp] theorem ABk [Glob]  : go (exV (n+1) (.tup (x::cs)) s K)=go (exV n (.tup cs) s K):=rfl
@[simp] theorem AGX [Glob]  : go (lnV (.list sz t xs) s K)=go (K (.int .i64 xs.length) s):=rfl
@[simp] theorem AGY [Glob]  : go (lsV (.str str) s K)=go (K (.int .i64 str.size) s):=rfl
@[simp] theorem AKS (sz0 sz1:Nat):apS sz bytes sz0 t xs sz1 ys=((sz0=sz∨(xs=[]∧t=.full))∧(sz1=sz∨ys=[])∧(xs.length+ys.length) * bytes≤140737488355328∧xs.length+ys.length≤9223372036854775807):=rfl
@[simp] theorem Pt [Glob] (sz0 sz1:Nat)  : go (apV sz bytes (.list sz0 .full xs) (.list sz1 t ys) s K)=go (ok (apS sz bytes sz0 .full xs sz1 ys) (K (.list sz (.own s.nx) (xs++ys)) (s.new (.spare ((xs.length+ys.length) * sz))))):=rfl
@[simp] theorem Rl [Glob] (sz0 sz1:Nat)  : go (apV sz bytes (.list sz0 (.own o) xs) (.list sz1 t ys) s K)=go (ok (apS sz bytes sz0 (.own o) xs sz1 ys) (apO sz o xs ys (s.m o) s K)):=rfl
@[simp] theorem AGZ [Glob] (m:Nat)  : go (apO sz o xs ys (some (.spare m)) s K)=go (ok (m=xs.length * sz) (K (.list sz (.own s.nx) (xs++ys)) ((s.del o).new (.spare ((xs.length+ys.length) * sz))))):=rfl
@[simp] theorem AGa [Glob]  : go (mxV (.int k i) (.int k' j) s K)=go (ok (k=k') (K (.int k (if i < j then j else i)) s)):=rfl
@[simp] theorem ABl [Glob] (m:Nat) (k:IntKind) (h:Int) (cs:List AV)  : go (saV m (.Ai cs) (.int k h) s K)=go (ok ((0 < m∧m≤cs.length)∧(0≤h∧h≤m)∧∀ y∈cs.take m,y.cells=[y]) (K (.list 1 .none ((cs.take m).take h.toNat)) s)):=rfl
@[simp] theorem ABm [Glob] (m1 m2:Nat) (k:IntKind) (h:Int) (cs:List AV)  : go (aaV m1 m2 (.Ai cs) (.int k h) s K)=go (ok (0≤h∧h < m2) (K (.Ai (cs.drop (h.toNat * m1))) s)):=rfl
@[simp] theorem ADy [Glob] (m1 m2 o off:Nat) (k:IntKind) (h:Int)  : go (aaV m1 m2 (.ptr o off) (.int k h) s K)=go (ok (0≤h∧h < m2) (K (.ptr o (off+h.toNat * m1)) s)):=rfl
@[simp] theorem ADz [Glob] (o:Nat)  : go (clV P (.yld o) as s K)=go (CL P o as s K):=rfl
@[simp] theorem AGb [Glob]  : go (clV P (.fn f xs ys) as s K)=go (AB P f (xs++as++ys) s K):=rfl
@[simp] theorem AGc [Glob]  : go (cpV P (.fn f xs ys) as s K)=go (pcV P f (xs++as++ys) s K):=rfl
@[simp] theorem ABn [Glob] (sz' m:Nat)  : go (iaV sz (.Ag sz' o off m) (.int k i) s K)=go (ok (sz'=sz∧0≤i∧i < m) (K (.ptr o ((off+i.toNat) * sz)) s)):=rfl
@[simp] theorem ABo [Glob] (m:Nat)  : go (lnV (.Ag sz o off m) s K)=go (K (.int .i64 m) s):=rfl
@[simp] theorem AIL (sz0 sz1 m:Nat) (ys:List AV):apV sz bytes (.Ag sz0 o off m) (.list sz1 t ys) s K =
  ok (sz0=sz∧off=0∧(sz1=sz∨ys=[])∧(m+ys.length) * bytes≤140737488355328∧m+ys.length≤9223372036854775807) (amO sz m ys (s.m o) s (s.del o) K):=rfl
@[simp] theorem AGd [Glob] (m:Nat) (ys:List AV) (s1:St)  : go (amO sz m ys (some (.box cs)) s s1 K)=go (ok (cs.length=m * sz) (K (.Ag sz s.nx 0 (m+ys.length)) (s1.new (.box (cs++flat ys))))):=rfl
section
variable {str cc' agg':Bool} {zs':List AV} {es es':List (Nat × AV × AV)} {r':Option (Option Nat)} {kk kk' mm mm':AV} {q' since last clock:Nat} {seen seen':List Nat} {oo oo':Nat} {ob1 ob2:Option Ax} {s1 s2:St}
@[congr] theorem AGe {r1 r2:Option (Option AV)} (hr:r1=r2) (hs:s1=s2):lkC cc' zs' agg' r1 s1 K=lkC cc' zs' agg' r2 s2 K:=by rw [hr,hs]
@[congr] theorem AGf {r1 r2:Option (Option Nat)} (he:es=es') (hr:r1=r2) (hs:s1=s2):lkR cc' zs' agg' es r1 s1 K=lkR cc' zs' agg' es' r2 s2 K:=by rw [he,hr,hs]
@[congr] theorem AGg (hk:kk=kk') (ho:ob1=ob2) (hs:s1=s2):lkO cc' zs' agg' kk ob1 s1 K=lkO cc' zs' agg' kk' ob2 s2 K:=by rw [hk,ho,hs]
@[congr] theorem AGh (hm:mm=mm') (hk:kk=kk') (hs:s1=s2):lkV str cc' zs' agg' mm kk s1 K=lkV str cc' zs' agg' mm' kk' s2 K:=by rw [hm,hk,hs]
@[congr] theorem AGi {x1 x2:AV} {r1 r2:Option (Option Nat)} (ho:oo=oo') (he:es=es') (hk:kk=kk') (hx:x1=x2) (hr:r1=r2) (hs:s1=s2):upR oo es clock kk x1 r1 s1 K=upR oo' es' clock kk' x2 r2 s2 K:=by rw [ho,he,hk,hx,hr,hs]
@[congr] theorem AGj {x1 x2:AV} (ho:oo=oo') (hk:kk=kk') (hx:x1=x2) (hb:ob1=ob2) (hs:s1=s2):upO oo kk x1 ob1 s1 K=upO oo' kk' x2 ob2 s2 K:=by rw [ho,hk,hx,hb,hs]
@[congr] theorem AGk {x1 x2:AV} (hm:mm=mm') (hk:kk=kk') (hx:x1=x2) (hs:s1=s2):upV str mm kk x1 s1 K=upV str mm' kk' x2 s2 K:=by rw [hm,hk,hx,hs]
@[congr] theorem AGl {r1 r2:Option (Option Nat)} (ho:oo=oo') (he:es=es') (hr:r1=r2) (hs:s1=s2):dlR oo es clock r1 s1 K=dlR oo' es' clock r2 s2 K:=by rw [ho,he,hr,hs]
@[congr] theorem AGm (ho:oo=oo') (hk:kk=kk') (hb:ob1=ob2) (hs:s1=s2):dlO oo kk ob1 s1 K=dlO oo' kk' ob2 s2 K:=by rw [ho,hk,hb,hs]
@[congr] theorem AGn (hm:mm=mm') (hk:kk=kk') (hs:s1=s2):dlV str mm kk s1 K=dlV str mm' kk' s2 K:=by rw [hm,hk,hs]
@[congr] theorem AGo (hb:ob1=ob2) (hs:s1=s2):lmO ob1 s1 K=lmO ob2 s2 K:=by rw [hb,hs]
@[congr] theorem AGp (hm:mm=mm') (hs:s1=s2):lmV mm s1 K=lmV mm' s2 K:=by rw [hm,hs]
@[congr] theorem AGq (ho:oo=oo') (hb:ob1=ob2) (hs:s1=s2):rgO oo ob1 s1 K=rgO oo' ob2 s2 K:=by rw [ho,hb,hs]
@[congr] theorem AGr (hm:mm=mm') (hs:s1=s2):rgV mm s1 K=rgV mm' s2 K:=by rw [hm,hs]
@[congr] theorem AGs (ho:oo=oo') (hse:seen=seen') (hb:ob1=ob2) (hs:s1=s2):nxM q' oo since seen last ob1 s1 K=nxM q' oo' since seen' last ob2 s2 K:=by rw [ho,hse,hb,hs]
@[congr] theorem AGt {q1 q2:Nat} (hq:q1=q2) (hb:ob1=ob2) (hs:s1=s2):nxO q1 ob1 s1 K=nxO q2 ob2 s2 K:=by rw [hq,hb,hs]
@[congr] theorem AGu (hm:mm=mm') (hs:s1=s2):nxV mm s1 K=nxV mm' s2 K:=by rw [hm,hs]
@[congr] theorem AGv (hse:seen=seen') (hb:ob1=ob2) (hs:s1=s2):enM seen last ob1 s1 K=enM seen' last ob2 s2 K:=by rw [hse,hb,hs]
@[congr] theorem AGw (hb:ob1=ob2) (hs:s1=s2):enO ob1 s1 K=enO ob2 s2 K:=by rw [hb,hs]
@[congr] theorem AGx (hm:mm=mm') (hs:s1=s2):enV mm s1 K=enV mm' s2 K:=by rw [hm,hs]
@[congr] theorem AGy {sz0 by0:Nat} {x1 x2 y1 y2:AV} (hx:x1=x2) (hy:y1=y2) (hs:s1=s2):msV sz0 by0 zs' x1 y1 s1 K=msV sz0 by0 zs' x2 y2 s2 K:=by rw [hx,hy,hs]
@[simp] theorem AGz (n:Int):Bf false (.int .i64 n)=True:=by simp [Bf]
@[simp] theorem AG0 (b:ByteArray):Bf true (.str b)=True:=by simp [Bf]
@[simp] theorem AD0 [Glob]  : go (lkV str cc' zs' agg' (.map oo) kk s1 K)=go (ok (Bf str kk) (lkO cc' zs' agg' kk (s1.m oo) s1 K)):=rfl
@[simp] theorem AD1 [Glob]  : go (lkV str cc' zs' agg' .Ad kk s1 K)=go (ok (Bf str kk) (K (A2 cc' zs' agg' none) s1)):=rfl
@[simp] theorem ABp [Glob] (es:List (Value × Value))  : go (lkV str cc' zs' agg' (.Dc es) kk s1 K)=go (ok (Bf str kk) (lkC cc' zs' agg' (DU kk es) s1 K)):=rfl
@[simp] theorem Jw [Glob] (es:List (AV × AV))  : go (lkV str cc' zs' agg' (.Bp es) kk s1 K)=go (ok (Bf str kk) (lkC cc' zs' agg' (DV kk es) s1 K)):=rfl
@[simp] theorem Pg [Glob] (r:Option AV)  : go (lkC cc' zs' agg' (some r) s1 K)=go (K (A2 cc' zs' agg' r) s1):=rfl
theorem Sq:lkO cc' zs' agg' kk (some (.map es clock)) s1 K=lkR cc' zs' agg' es (BL kk es 0) s1 K:=rfl
@[simp] theorem AD2 [Glob]  : go (lkO cc' zs' agg' kk (some (.map es clock)) s1 K)=go (lkR cc' zs' agg' es (BL kk es 0) s1 K):=by rw [Sq]
@[simp] theorem AD3 [Glob] (x:AV)  : go (upV str (.map oo) kk x s1 K)=go (ok (Bf str kk) (upO oo kk x (s1.m oo) s1 K)):=rfl
theorem Ss (x:AV):upO oo kk x (some (.map es clock)) s1 K=upR oo es clock kk x (BL kk es 0) s1 K:=rfl
@[simp] theorem Rm [Glob] (x:AV)  : go (upO oo kk x (some (.map es clock)) s1 K)=go (upR oo es clock kk x (BL kk es 0) s1 K):=by rw [Ss]
theorem Po (x:AV):upR oo es clock kk x (some none) s1 K=K (.tup []) (s1.set oo (.map (es++[(clock,kk,x)]) (clock+1))):=rfl
@[simp] theorem Pu [Glob] (x:AV)  : go (upR oo es clock kk x (some none) s1 K)=go (K (.tup []) (s1.set oo (.map (es++[(clock,kk,x)]) (clock+1)))):=by rw [Po]
@[simp] theorem Pv [Glob] (x:AV) (i:Nat)  : go (upR oo es clock kk x (some (some i)) s1 K)=go (K (.tup []) (s1.set oo (.map (es.modify i fun e=>(e.1,kk,x)) clock))):=rfl
@[simp] theorem AD4 [Glob]  : go (rgV (.map oo) s1 K)=go (rgO oo (s1.m oo) s1 K):=rfl
@[simp] theorem ABq [Glob] (kes:List (AV × AV))  : go (rgV (.Bp kes) s1 K)=go (K (.ptr s1.nx 0) (s1.new (.CU kes []))):=rfl
@[simp] theorem AD5 [Glob]  : go (rgV .Ad s1 K)=go (K (.ptr s1.nx 0) (s1.new (.iter none 0 [] 0))):=rfl
@[simp] theorem AD6 [Glob]  : go (rgO oo (some (.map es clock)) s1 K)=go (K (.ptr s1.nx 0) (s1.new (.iter (some oo) clock [] clock))):=rfl
@[simp] theorem AD7 [Glob]  : go (nxV (.ptr q' 0) s1 K)=go (nxO q' (s1.m q') s1 K):=rfl
@[simp] theorem ABr [Glob]  : go (nxO q' (some (.iter none since seen last)) s1 K)=go (K (.tup [.bool false]) s1):=rfl
@[simp] theorem ZF [Glob] (kes:List (AV × AV))  : go (nxO q' (some (.CU kes seen)) s1 K)=go (nxK q' kes seen s1 K):=rfl
@[simp] theorem ABs [Glob]  : go (nxO q' (some (.iter (some oo) since seen last)) s1 K)=go (nxM q' oo since seen last (s1.m oo) s1 K):=rfl
@[simp] theorem AD8 [Glob]  : go (enV (.ptr q' 0) s1 K)=go (enO (s1.m q') s1 K):=rfl
@[simp] theorem ZG [Glob] (kes:List (AV × AV))  : go (enO (some (.CU kes seen)) s1 K)=go (enK kes seen s1 K):=rfl
@[simp] theorem ABt [Glob]  : go (enO (some (.iter (some oo) since seen last)) s1 K)=go (enM seen last (s1.m oo) s1 K):=rfl
@[simp] theorem AG1 [Glob] {sz0 by0:Nat} {n0 m0:Int} {k1 k2:IntKind}  : go (msV sz0 by0 zs' (.int k1 n0) (.int k2 m0) s1 K)=go (ok (n0=m0∧0≤n0∧n0.toNat * by0≤140737488355328∧n0≤9223372036854775807) (K (.Ag sz0 s1.nx 0 n0.toNat) (s1.new (.box (List.replicate n0.toNat zs').flatten)))):=rfl
theorem Ij (hc:seen=[]∨es=[]∨∃ e∈es,e.1 < last) (he:(∀ e∈es,e.1 < since→e.1∈seen)→go (K (.tup [.bool false]) s1))
  (hn:∀ e∈es,e.1 ∉ seen→go (K (.tup [.bool true,e.2.1,e.2.2]) (s1.set q' (.iter (some oo) since (seen++[e.1]) clock)))):go (nxM q' oo since seen last (some (.map es clock)) s1 K):=⟨hc,he,hn⟩
theorem XC {kes:List (AV × AV)} (he:(∀ j,j < kes.length→j∈seen)→go (K (.tup [.bool false]) s1)) (hn:∀ (j:Nat) p,kes[j]?=some p→j ∉ seen→go (K (.tup [.bool true,p.1,p.2]) (s1.set q' (.CU kes (seen++[j]))))):go (nxK q' kes seen s1 K):=⟨he,hn⟩
theorem XD {kes:List (AV × AV)} {j:Nat} {p:AV × AV} (hs:seen.getLast?=some j) (hf:kes[j]?=some p) (hk:go (K (.tup [p.1,p.2]) s1)):go (enK kes seen s1 K):=by
 show enK _ _ _ _
 simp only [enK,hs,Option.bind_some,hf]
 exact hk
theorem Il {st:Nat} {e:Nat × AV × AV} (hs:seen.getLast?=some st) (hc:clock=last) (hf:(es.find? fun e=>e.1 == st)=some e) (hk:go (K (.tup [e.2.1,e.2.2]) s1)):go (enM seen last (some (.map es clock)) s1 K):=by
 show enM _ _ _ _ _
 simp only [enM,hs,hf]
 exact⟨hc,hk⟩
end
def slS (sz:Nat) (v:AV) (lo hi mx:Option (Option Int)):Option (Prop × AV) :=
 match v,lo,hi,mx with
 | .list sz0 t xs,some lo,some hi,some mx =>
  some ((sz0=sz∨xs=[])∧(match lo with | some l=>0≤l∧l≤(match hi with | some h=>h | none=>xs.length) | none=>True) ∧
   (match hi with | some h=>0≤h∧h≤xs.length∧(match mx with | some m=>m=h | none=>True) | none=>mx=none),
   .list sz0 (match mx,hi with | some m,some h => if m=h then .full else .none | none,none => t.keep | _,_ => .none)
                 ((xs.take (match hi with | some h=>h.toNat | none=>xs.length)).drop (match lo with | some l=>l.toNat | none=>0)))
 | _,_,_,_=>none
def slV (sz:Nat) (v:AV) (lo hi mx:Option AV) (s:St) (K:KS):Prop :=
 match slS sz v (BJ lo) (BJ hi) (BJ mx)with
 | some (p,r)=>p∧K r s
 | none=>False
end
section
variable {s:St} {K:KS} {sz:Nat} {t:Tok} {xs:List AV} {h i:Int} {k k':IntKind}
@[congr] theorem AG2 {v v':AV} {a a' b b' c c':Option AV} {s':St} (h1:v=v') (h2:a=a') (h3:b=b') (h4:c=c') (hs:s=s'):slV sz v a b c s K=slV sz v' a' b' c' s' K:=by rw [h1,h2,h3,h4,hs]
theorem AD9 (sz0:Nat):slV sz (.list sz0 t xs) none (some (.int k h)) none s K=ok ((sz0=sz∨xs=[])∧0≤h∧h≤xs.length) (K (.list sz0 .none (xs.take h.toNat)) s):=by simp [slV,slS,BJ,and_assoc,ok]
@[simp] theorem AG3 [Glob] (sz0:Nat)  : go (slV sz (.list sz0 t xs) none (some (.int k h)) none s K)=go (ok ((sz0=sz∨xs=[])∧0≤h∧h≤xs.length) (K (.list sz0 .none (xs.take h.toNat)) s)):=by rw [AD9]
theorem AEA (sz0:Nat):slV sz (.list sz0 t xs) (some (.int k i)) none none s K=ok ((sz0=sz∨xs=[])∧0≤i∧i≤xs.length) (K (.list sz0 t.keep (xs.drop i.toNat)) s):=by simp [slV,slS,BJ,and_assoc,ok]
@[simp] theorem AG4 [Glob] (sz0:Nat)  : go (slV sz (.list sz0 t xs) (some (.int k i)) none none s K)=go (ok ((sz0=sz∨xs=[])∧0≤i∧i≤xs.length) (K (.list sz0 t.keep (xs.drop i.toNat)) s)):=by rw [AEA]
@[simp] theorem AG5:Tok.keep .none=.none:=rfl
theorem Rn [Glob] {P:Program} {g l:Env} (x:AG) (lo hi mx:Option AG):AOp.step P (.slice sz x lo hi mx) g l s K=slV sz (x.val g l) (lo.map (AG.val g l)) (hi.map (AG.val g l)) (mx.map (AG.val g l)) s K:=by
 simp only [AOp.step,AOp.BO,AOp.AT,AOp.ev,AOp.side,St.Bk,slV,slS]
 cases x.val g l <;> try rfl
 cases BJ (lo.map (AG.val g l)) <;> try rfl
 cases BJ (hi.map (AG.val g l)) <;> try rfl
 cases BJ (mx.map (AG.val g l)) <;> rfl
@[simp] theorem YM [Glob] {P:Program} {g l:Env} (x:AG) (lo hi mx:Option AG)  : go (AOp.step P (.slice sz x lo hi mx) g l s K)=go (slV sz (x.val g l) (lo.map (AG.val g l)) (hi.map (AG.val g l)) (mx.map (AG.val g l)) s K):=by rw [Rn]
end
section
end
@[simp] theorem ABu [Glob] (t:Nat) (v:AV) (g l:Env) (K:Env→Env→Prop)  : go (BY (some (true,t)) v g l K)=go (K ((t,v)::g) l):=rfl
@[simp] theorem ABv [Glob] (t:Nat) (v:AV) (g l:Env) (K:Env→Env→Prop)  : go (BY (some (false,t)) v g l K)=go (K g ((t,v)::l)):=rfl
def gdV (v:AV) (gl:Bool) (t:Nat) (want:Bool) (g l:Env) (run skip:Env→Env→Prop):Prop :=
 match v with
 | .bool b=>(b=want→BN (gl,t) (.bool want) g l run)∧(b=!want→BN (gl,t) (.bool !want) g l skip)
 | .tup []=>skip g l
 | _=>False
@[congr] theorem AG6 {v v':AV} {gl:Bool} {t:Nat} {want:Bool} {a b:Env→Env→Prop} (hv:v=v') (hg:g=g') (hl:l=l'):gdV v gl t want g l a b=gdV v' gl t want g' l' a b:=by rw [hv,hg,hl]
section
variable (t:Nat) (b:Bool) (run skip:Env→Env→Prop)
theorem AEB:gdV (.bool b) true t true g l run skip=((b=true→run ((t,.bool true)::g) l)∧(b=false→skip ((t,.bool false)::g) l)):=by simp [gdV,BN]
@[simp low] theorem AG7 [Glob]  : go (gdV (.bool b) true t true g l run skip)=((b=true→go (run ((t,.bool true)::g) l))∧(b=false→go (skip ((t,.bool false)::g) l))):=by rw [AEB];rfl
theorem AEC:gdV (.bool b) true t false g l run skip=((b=false→run ((t,.bool false)::g) l)∧(b=true→skip ((t,.bool true)::g) l)):=by simp [gdV,BN]
@[simp low] theorem AG8 [Glob]  : go (gdV (.bool b) true t false g l run skip)=((b=false→go (run ((t,.bool false)::g) l))∧(b=true→go (skip ((t,.bool true)::g) l))):=by rw [AEC];rfl
theorem AED:gdV (.bool b) false t true g l run skip=((b=true→run g ((t,.bool true)::l))∧(b=false→skip g ((t,.bool false)::l))):=by simp [gdV,BN]
@[simp low] theorem AG9 [Glob]  : go (gdV (.bool b) false t true g l run skip)=((b=true→go (run g ((t,.bool true)::l)))∧(b=false→go (skip g ((t,.bool false)::l)))):=by rw [AED];rfl
theorem AEE:gdV (.bool b) false t false g l run skip=((b=false→run g ((t,.bool false)::l))∧(b=true→skip g ((t,.bool true)::l))):=by simp [gdV,BN]
@[simp low] theorem AHA [Glob]  : go (gdV (.bool b) false t false g l run skip)=((b=false→go (run g ((t,.bool false)::l)))∧(b=true→go (skip g ((t,.bool true)::l)))):=by rw [AEE];rfl
end
def Hr (Q:Ay→Env→St→Prop) (g:Env) (_:Env) (s:St):Prop:=Q .normal g s
def FQ [Glob] (P:Program) (b:Ae) (Q:Ay→Env→St→Prop) (e:Ay) (g:Env) (s:St):Prop:=match e with | .normal=>awp P b Q g s | e=>Q e g s
def DZ (id:Nat) (Q:Ay→Env→St→Prop) (e:Ay) (g:Env) (s:St):Prop:=match e with | .exit i=>if i=id then Q .normal g s else Q (.exit i) g s | e=>Q e g s
def Fu (n:Nat) (I:Nat→Env→St→Prop) (Q:Ay→Env→St→Prop) (e:Ay) (g:Env) (s:St):Prop:=match e with | .normal=>∃ m,m < n∧I m g s | e=>Q e g s
def Ro (vs:Option (List AV)) (s:St) (K:KS):Prop:=match vs with | some vs=>K (oneOf vs) s | none=>False
def Dd (rs:List JB) (K:KS) (e:Ay) (g:Env) (s:St):Prop:=match e with | .exit _=>False | _=>Ro (BF rs g s) s K
def cdV [Glob] (P:Program) (v:AV) (a b:Ae) (Q:Ay→Env→St→Prop) (g:Env) (s:St):Prop:=match v with | .bool t=>(t=true→awp P a Q g s)∧(t=false→awp P b Q g s) | _=>False
def UX [Glob] (P:Program) (suf:List AR) (Q:Ay→Env→St→Prop) (g l:Env) (s:St):Prop:=Cr P suf (Hr Q) g l s
@[congr] theorem AEF [Glob] {suf:List AR} {Q:Ay→Env→St→Prop} {l':Env} (hg:g=g') (hl:l=l') (hs:s=s'):UX P suf Q g l s=UX P suf Q g' l' s':=by rw [hg,hl,hs]
def frO (t:Nat) (off:Nat) (ob:Option Ax) (Q:Ay→Env→St→Prop) (g:Env) (s:St):Prop:=match ob with | some (.box cs)=>Q .normal ((t,.Ai (cs.drop off))::g) s | _=>False
def frV (t:Nat) (v:AV) (Q:Ay→Env→St→Prop) (g:Env) (s:St):Prop:=match v with | .ptr o off=>frO t off (s.m o) Q g (s.del o) | _=>False
def Pw [Glob] (P:Program) (gl:Bool) (dc:Option (Bool × Nat)) (t:Nat) (zs:List AV) (X:Nat) (suf:List AR) (Q:Ay→Env→St→Prop) (g l:Env) (v:AV) (s':St):Prop :=
 s'.m X=some (.box zs)∧BY dc v g l fun g1 l1=>BY (some (gl,t)) (.ptr X 0) g1 l1 fun g2 l2=>Cr P suf (Hr Q) g2 l2 s'
@[congr] theorem ABw [Glob] {gl:Bool} {dc:Option (Bool × Nat)} {t:Nat} {zs:List AV} {X X':Nat} {suf:List AR} {Q:Ay→Env→St→Prop} {l':Env} {v v':AV} (hx:X=X') (hg:g=g') (hl:l=l') (hv:v=v') (hs:s=s'):Pw P gl dc t zs X suf Q g l v s=Pw P gl dc t zs X' suf Q g' l' v' s':=by rw [hx,hg,hl,hv,hs]
def S6 [Glob] (P:Program) (gl:Bool) (op:AOp) (dc:Option (Bool × Nat)) (t:Nat) (zs:List AV) (X:Nat) (suf:List AR) (Q:Ay→Env→St→Prop) (g l:Env) (s:St):Prop:=op.step P g l s (Pw P gl dc t zs X suf Q g l)
@[congr] theorem ABx [Glob] {gl:Bool} {op:AOp} {dc:Option (Bool × Nat)} {t:Nat} {zs:List AV} {X X':Nat} {suf:List AR} {Q:Ay→Env→St→Prop} {l':Env} (hx:X=X') (hg:g=g') (hl:l=l') (hs:s=s'):S6 P gl op dc t zs X suf Q g l s=S6 P gl op dc t zs X' suf Q g' l' s':=by rw [hx,hg,hl,hs]
def XE (t:Option Nat) (s' s2:St):Prop:=match t with | some q=>s2.m q=s'.m q | none=>True
def Lg [Glob] (P:Program) (fr:List AOp) (dc:Option (Bool × Nat)) (k:Nat) (post suf:List AR) (Q:Ay→Env→St→Prop) (g l:Env) (s':St) (v:AV) (s2:St):Prop :=
 frs g l s' s2 fr∧BY dc v g l fun g1 l1=>BM P (k+1) [] post (UX P suf Q) g1 l1 s2
@[congr] theorem ZH [Glob] {fr:List AOp} {dc:Option (Bool × Nat)} {k:Nat} {post suf:List AR} {Q:Ay→Env→St→Prop} {l':Env} {v v':AV} {s0 s0':St} (hg:g=g') (hl:l=l') (h0:s0=s0') (hv:v=v') (hs:s=s'):Lg P fr dc k post suf Q g l s0 v s=Lg P fr dc k post suf Q g' l' s0' v' s':=by rw [hg,hl,h0,hv,hs]
def OF [Glob] (P:Program) (fr:List AOp) (op:AOp) (dc:Option (Bool × Nat)) (k:Nat) (post suf:List AR) (Q:Ay→Env→St→Prop) (g l:Env) (s:St):Prop:=op.step P g l s (Lg P fr dc k post suf Q g l s)
@[congr] theorem ZI [Glob] {fr:List AOp} {op:AOp} {dc:Option (Bool × Nat)} {k:Nat} {post suf:List AR} {Q:Ay→Env→St→Prop} {l':Env} (hg:g=g') (hl:l=l') (hs:s=s'):OF P fr op dc k post suf Q g l s=OF P fr op dc k post suf Q g' l' s':=by rw [hg,hl,hs]
def Px (o:Nat) (env:Env) (ps:List Nat) (n:Nat) (ca cb:Code) (K:KS) (e:Ay) (g:Env) (s:St):Prop:=AHh o env ps n ca cb K e s
def ZJ [Glob] (P:Program) (o:Nat) (env:Env) (ps:List Nat) (n:Nat) (ca cb:Code) (bd:Ae) (K:KS) (e:Ay) (g:Env) (s:St):Prop:=AHi o env ps n ca cb (fun g s=>awp P bd (Px o env ps n ca cb K) g s) e g s
@[congr] theorem ABy {o:Nat} {env:Env} {ps:List Nat} {n:Nat} {ca cb:Code} {K:KS} {e:Ay} (hg:g=g') (hs:s=s'):Px o env ps n ca cb K e g s=Px o env ps n ca cb K e g' s':=by rw [hg,hs]
@[congr] theorem AEG [Glob] {o:Nat} {env:Env} {ps:List Nat} {n:Nat} {ca cb:Code} {bd:Ae} {K:KS} {e:Ay} (hg:g=g') (hs:s=s'):ZJ P o env ps n ca cb bd K e g s=ZJ P o env ps n ca cb bd K e g' s':=by rw [hg,hs]
@[congr] theorem AHB {t off off':Nat} {ob ob':Option Ax} {Q:Ay→Env→St→Prop} (ho:off=off') (hb:ob=ob') (hg:g=g') (hs:s=s'):frO t off ob Q g s=frO t off' ob' Q g' s':=by rw [ho,hb,hg,hs]
@[congr] theorem AHC {t:Nat} {v v':AV} {Q:Ay→Env→St→Prop} (hv:v=v') (hg:g=g') (hs:s=s'):frV t v Q g s=frV t v' Q g' s':=by rw [hv,hg,hs]
@[congr] theorem AEH {Q:Ay→Env→St→Prop} (hg:g=g') (hs:s=s'):Hr Q g l s=Hr Q g' l s':=by rw [hg,hs]
@[congr] theorem AEI [Glob] {b:Ae} {Q:Ay→Env→St→Prop} {e:Ay} (hg:g=g') (hs:s=s'):FQ P b Q e g s=FQ P b Q e g' s':=by rw [hg,hs]
@[congr] theorem ZK {n:Nat} {Q:Ay→Env→St→Prop} {e:Ay} (hg:g=g') (hs:s=s'):DZ n Q e g s=DZ n Q e g' s':=by rw [hg,hs]
@[congr] theorem ABz {n:Nat} {I:Nat→Env→St→Prop} {Q:Ay→Env→St→Prop} {e:Ay} (hg:g=g') (hs:s=s'):Fu n I Q e g s=Fu n I Q e g' s':=by rw [hg,hs]
@[congr] theorem AEJ {v v':Option (List AV)} (hv:v=v') (hs:s=s'):Ro v s K=Ro v' s' K:=by rw [hv,hs]
@[congr] theorem AEK {rs:List JB} {e:Ay} (hg:g=g') (hs:s=s'):Dd rs K e g s=Dd rs K e g' s':=by rw [hg,hs]
@[congr] theorem AHD [Glob] {v v':AV} {a b:Ae} {Q:Ay→Env→St→Prop} (hv:v=v') (hg:g=g') (hs:s=s'):cdV P v a b Q g s=cdV P v' a b Q g' s':=by rw [hv,hg,hs]
section
variable (Q:Ay→Env→St→Prop) (a b:Ae) (id i:Nat)
@[simp] theorem AB0 [Glob]  : go (awp P .skip Q g s)=go (Q .normal g s):=rfl
@[simp] theorem AEL [Glob] (os:List AR)  : go (awp P (.reg false os) Q g s)=go (Cr P os (Hr Q) g [] s):=rfl
@[simp] theorem AB1 [Glob] (os:List AR)  : go (awp P (.reg true os) Q g s)=go (BM P 0 [] os (Hr Q) g [] s):=rfl
@[simp] theorem AB2 [Glob] (pre suf:List AR)  : go (awp P (.YR pre suf) Q g s)=go (BM P 0 [] pre (UX P suf Q) g [] s):=rfl
@[simp] theorem AEM [Glob] (suf:List AR)  : go (UX P suf Q g l s)=go (Cr P suf (Hr Q) g l s):=rfl
@[simp] theorem AB3 [Glob] (pre suf:List AR) (zs:List AV) (gl:Bool) (t:Nat) (c:AR)  : go (awp P (.ACf pre zs gl t c suf) Q g s)=go (BM P 0 [] pre (S6 P gl c.op c.dst t zs s.nx suf Q) (OW gl t g) [] (s.new (.box zs))):=rfl
@[simp] theorem AHE (t:Nat) (g:Env):OW true t g=(t,.any)::g:=rfl
@[simp] theorem AB4 [Glob] (gl:Bool) (op:AOp) (dc:Option (Bool × Nat)) (t:Nat) (zs:List AV) (X:Nat) (suf:List AR)  : go (S6 P gl op dc t zs X suf Q g l s)=go (AOp.step P op g l s (Pw P gl dc t zs X suf Q g l)):=rfl
@[simp] theorem AB5 [Glob] (gl:Bool) (dc:Option (Bool × Nat)) (t:Nat) (zs:List AV) (X:Nat) (suf:List AR) (v:AV)  : go (Pw P gl dc t zs X suf Q g l v s)=go (ok (s.m X=some (.box zs)) (BY dc v g l fun g1 l1=>BY (some (gl,t)) (.ptr X 0) g1 l1 fun g2 l2=>Cr P suf (Hr Q) g2 l2 s)):=rfl
@[simp] theorem AB6 [Glob] (pre:List AR) (fr:List AOp) (c:AR) (post suf:List AR)  : go (awp P (.U1 pre fr c post suf) Q g s)=go (BM P 0 [] pre (OF P fr c.op c.dst pre.length post suf Q) g [] s):=rfl
@[simp] theorem ZL [Glob] (fr:List AOp) (op:AOp) (dc:Option (Bool × Nat)) (k:Nat) (post suf:List AR)  : go (OF P fr op dc k post suf Q g l s)=go (AOp.step P op g l s (Lg P fr dc k post suf Q g l s)):=rfl
@[simp] theorem ZM [Glob] (fr:List AOp) (dc:Option (Bool × Nat)) (k:Nat) (post suf:List AR) (s0:St) (v:AV)  : go (Lg P fr dc k post suf Q g l s0 v s)=go (ok (frs g l s0 s fr) (BY dc v g l fun g1 l1=>BM P (k+1) [] post (UX P suf Q) g1 l1 s)):=rfl
@[simp] theorem AJL (s0:St):frs g l s0 s []=True:=rfl
@[simp] theorem AIM (s0:St) (op:AOp) (r:List AOp):frs g l s0 s (op::r)=(XE (op.AT (AG.val g l)) s0 s∧frs g l s0 s r):=rfl
@[simp] theorem AEN (s0:St):XE none s0 s=True:=rfl
@[simp] theorem AEO (q:Nat) (s0:St):XE (some q) s0 s=(s.m q=s0.m q):=rfl
theorem ZN [Glob] (t:Nat):awp P (.frz t) Q g s=frV t (g.get t) Q g s:=by
 simp only [awp,frV]
 cases g.get t <;> rfl
@[simp] theorem AEP [Glob] (t:Nat)  : go (awp P (.frz t) Q g s)=go (frV t (g.get t) Q g s):=by rw [ZN]
@[simp] theorem AEQ [Glob] (t o off:Nat)  : go (frV t (.ptr o off) Q g s)=go (frO t off (s.m o) Q g (s.del o)):=rfl
@[simp] theorem AER [Glob] (t off:Nat) (cs:List AV)  : go (frO t off (some (.box cs)) Q g s)=go (Q .normal ((t,.Ai (cs.drop off))::g) s):=rfl
@[simp] theorem XF [Glob] (o:Nat) (env:Env) (ps:List Nat) (n:Nat) (ca cb:Code) (bd:Ae)  : go (ZJ P o env ps n ca cb bd K .normal g s)=go (ok (s.m o=some (.loop 0 none env ps n ca cb)) (awp P bd (Px o env ps n ca cb K) g (s.set o (.loop 1 none env ps n ca cb)))):=rfl
@[simp] theorem Ut (o:Nat) (env:Env) (ps:List Nat) (n:Nat) (ca cb:Code)  : go (Px o env ps n ca cb K .normal g s)=(s.m o=some (.loop 1 none env ps n ca cb)∧K (.bool true) (s.set o (.loop 0 none env ps n ca cb))):=rfl
@[simp] theorem AES [Glob]  : go (awp P (.seq a b) Q g s)=go (awp P a (FQ P b Q) g s):=rfl
@[simp] theorem AB7 [Glob] (c:AG)  : go (awp P (.cond c a b) Q g s)=go (cdV P (c.val g []) a b Q g s):=rfl
@[simp] theorem ZO [Glob]  : go (awp P (.block id b) Q g s)=go (awp P b (DZ id Q) g s):=rfl
@[simp] theorem AB8 [Glob]  : go (awp P (.exit id) Q g s)=go (Q (.exit id) g s):=rfl
@[simp] theorem AET [Glob]  : go (awp P .ret Q g s)=go (Q .ret g s):=rfl
@[simp] theorem AEU [Glob]  : go (Hr Q g l s)=go (Q .normal g s):=rfl
@[simp] theorem XG [Glob]  : go (FQ P b Q .normal g s)=go (awp P b Q g s):=rfl
@[simp] theorem ZP [Glob]  : go (FQ P b Q (.exit i) g s)=go (Q (.exit i) g s):=rfl
@[simp] theorem AB9 [Glob]  : go (FQ P b Q .ret g s)=go (Q .ret g s):=rfl
@[simp] theorem UY [Glob]  : go (DZ id Q .normal g s)=go (Q .normal g s):=rfl
@[simp] theorem YN [Glob]  : go (DZ id Q .ret g s)=go (Q .ret g s):=rfl
@[simp] theorem XH [Glob]  : go (DZ id Q (.exit i) g s)=go (if i=id then Q .normal g s else Q (.exit i) g s):=rfl
@[simp] theorem YO [Glob] (n:Nat) (I:Nat→Env→St→Prop)  : go (Fu n I Q (.exit i) g s)=go (Q (.exit i) g s):=rfl
@[simp] theorem ZQ [Glob] (n:Nat) (I:Nat→Env→St→Prop)  : go (Fu n I Q .ret g s)=go (Q .ret g s):=rfl
@[simp] theorem XI [Glob] (rs:List JB)  : go (Dd rs K .normal g s)=go (Ro (BF rs g s) s K):=rfl
@[simp] theorem ACA [Glob] (rs:List JB)  : go (Dd rs K .ret g s)=go (Ro (BF rs g s) s K):=rfl
theorem UZ (vs:List AV):Ro (some vs) s K=K (oneOf vs) s:=rfl
@[simp] theorem ZR [Glob] (vs:List AV)  : go (Ro (some vs) s K)=K (oneOf vs) s:=by rw [UZ];rfl
theorem XJ [Glob]:cdV P (.bool true) a b Q g s=awp P a Q g s:=by simp [cdV]
@[simp] theorem ACB [Glob]  : go (cdV P (.bool true) a b Q g s)=go (awp P a Q g s):=by rw [XJ]
theorem Ua [Glob]:cdV P (.bool false) a b Q g s=awp P b Q g s:=by simp [cdV]
@[simp] theorem ZS [Glob]  : go (cdV P (.bool false) a b Q g s)=go (awp P b Q g s):=by rw [Ua]
theorem XK [Glob] (t:Bool):cdV P (.bool t) a b Q g s=((t=true→awp P a Q g s)∧(t=false→awp P b Q g s)):=rfl
@[simp low] theorem ACC [Glob] (t:Bool)  : go (cdV P (.bool t) a b Q g s)=((t=true→go (awp P a Q g s))∧(t=false→go (awp P b Q g s))):=by rw [XK];rfl
@[simp] theorem ACD [Glob] (K:Env→Env→St→Prop)  : go (Cr P [] K g l s)=go (K g l s):=rfl
@[simp] theorem ZT [Glob] (k:Nat) (acc:List (Nat × Nat)) (K:Env→Env→St→Prop)  : go (BM P k acc [] K g l s)=∀ m,s.nx≤m→go (K g l (s.bump m)):=rfl
def HM (acc:List (Nat × Nat)) (Dh:List Nat) (t:Option Nat):Prop:=match t with | some q=>∀ p∈acc,p.1∈Dh→p.2≠q | none=>True
@[simp] theorem ZU (acc:List (Nat × Nat)) (Dh:List Nat):HM acc Dh none=True:=rfl
@[simp] theorem ACE (acc:List (Nat × Nat)) (t:Option Nat):HM acc [] t=True:=by cases t <;> simp [HM]
@[simp] theorem ZV (acc:List (Nat × Nat)) (Dh:List Nat) (q:Nat):HM acc Dh (some q)=∀ p∈acc,p.1∈Dh→p.2≠q:=rfl
@[simp] theorem AEV (i nx:Nat) (acc:List (Nat × Nat)):EV i none false nx acc=acc:=rfl
@[simp] theorem AEW (i q nx:Nat) (acc:List (Nat × Nat)):EV i (some q) false nx acc=(i,q)::acc:=rfl
@[simp] theorem ACF (i nx:Nat) (acc:List (Nat × Nat)):EV i none true nx acc=(i,nx)::acc:=rfl
@[simp] theorem ACG (i q nx:Nat) (acc:List (Nat × Nat)):EV i (some q) true nx acc=(i,q)::(i,nx)::acc:=rfl
end
section
variable (dst:Option (Bool × Nat)) (op:AOp) (cc:List Nat) (os:List AR) (K:Env→Env→St→Prop) (t k:Nat) (want:Bool) (acc:List (Nat × Nat)) (v:AV)
def kA [Glob] (P:Program) (dst:Option (Bool × Nat)) (os:List AR) (K:Env→Env→St→Prop) (g l:Env) (v:AV) (s:St):Prop:=BY dst v g l fun g' l'=>Cr P os K g' l' s
def kD [Glob] (P:Program) (k:Nat) (acc:List (Nat × Nat)) (dst:Option (Bool × Nat)) (os:List AR) (K:Env→Env→St→Prop) (g l:Env) (v:AV) (s:St):Prop:=BY dst v g l fun g' l'=>BM P k acc os K g' l' s
def opD [Glob] (P:Program) (k:Nat) (acc:List (Nat × Nat)) (dst:Option (Bool × Nat)) (op:AOp) (cc:List Nat) (os:List AR) (K:Env→Env→St→Prop) (g l:Env) (s:St):Prop :=
 ok (HM acc cc (op.AT (AG.val g l))) (AOp.step P op g l s (kD P (k+1) (EV k (op.AT (AG.val g l)) op.makes s.nx acc) dst os K g l))
def gdA [Glob] (P:Program) (v:AV) (gl:Bool) (t:Nat) (want:Bool) (dst:Option (Bool × Nat)) (op:AOp) (os:List AR) (K:Env→Env→St→Prop) (g l:Env) (s:St):Prop :=
 gdV v gl t want g l (fun g l=>AOp.step P op g l s (kA P dst os K g l)) (fun g l=>kA P dst os K g l (.tup []) s)
def gdD [Glob] (P:Program) (v:AV) (gl:Bool) (t:Nat) (want:Bool) (k:Nat) (acc:List (Nat × Nat)) (dst:Option (Bool × Nat)) (op:AOp) (cc:List Nat) (os:List AR) (K:Env→Env→St→Prop) (g l:Env) (s:St):Prop :=
 gdV v gl t want g l (fun g l=>opD P k acc dst op cc os K g l s) (fun g l=>kD P (k+1) acc dst os K g l (.tup []) s)
@[congr] theorem AIN [Glob] {v v':AV} (hg:g=g') (hl:l=l') (hv:v=v') (hs:s=s'):kA P dst os K g l v s=kA P dst os K g' l' v' s':=by rw [hg,hl,hv,hs]
@[congr] theorem AHF [Glob] {v v':AV} {gl:Bool} (hv:v=v') (hg:g=g') (hl:l=l') (hs:s=s'):gdA P v gl t want dst op os K g l s=gdA P v' gl t want dst op os K g' l' s':=by rw [hg,hl,hv,hs]
@[simp] theorem AHG [Glob]:go (kA P none os K g l v s)=go (Cr P os K g l s):=rfl
@[simp] theorem AKT [Glob]:go (kA P (some (true,t)) os K g l v s)=go (Cr P os K ((t,v)::g) l s):=rfl
@[simp] theorem AKU [Glob]:go (kA P (some (false,t)) os K g l v s)=go (Cr P os K g ((t,v)::l) s):=rfl
@[simp] theorem AHH [Glob]:go (kD P k acc none os K g l v s)=go (BM P k acc os K g l s):=rfl
@[simp] theorem AKV [Glob]:go (kD P k acc (some (true,t)) os K g l v s)=go (BM P k acc os K ((t,v)::g) l s):=rfl
@[simp] theorem AKW [Glob]:go (kD P k acc (some (false,t)) os K g l v s)=go (BM P k acc os K g ((t,v)::l) s):=rfl
@[simp] theorem ALI [Glob]:go (opD P k acc dst op cc os K g l s)=go (ok (HM acc cc (op.AT (AG.val g l))) (AOp.step P op g l s (kD P (k+1) (EV k (op.AT (AG.val g l)) op.makes s.nx acc) dst os K g l))):=rfl
@[simp] theorem ZW [Glob]  : go (Cr P (⟨dst,op,none,cc⟩::os) K g l s)=go (AOp.step P op g l s (kA P dst os K g l)):=rfl
@[simp] theorem YP [Glob]  : go (Cr P (⟨dst,op,some (false,t,want),cc⟩::os) K g l s)=go (gdA P (l.get t) false t want dst op os K g l s):=rfl
@[simp] theorem YQ [Glob]  : go (BM P k acc (⟨dst,op,none,cc⟩::os) K g l s)=go (opD P k acc dst op cc os K g l s):=rfl
@[simp] theorem XL [Glob]  : go (BM P k acc (⟨dst,op,some (false,t,want),cc⟩::os) K g l s)=go (gdD P (l.get t) false t want k acc dst op cc os K g l s):=rfl
@[simp low] theorem AIO [Glob] (b:Bool):go (gdA P (.bool b) true t true dst op os K g l s)=((b=true→go (AOp.step P op ((t,.bool true)::g) l s (kA P dst os K ((t,.bool true)::g) l)))∧(b=false→go (kA P dst os K ((t,.bool false)::g) l (.tup []) s))):=by simp [gdA,gdV,BN,go]
@[simp low] theorem AIP [Glob] (b:Bool):go (gdA P (.bool b) true t false dst op os K g l s)=((b=false→go (AOp.step P op ((t,.bool false)::g) l s (kA P dst os K ((t,.bool false)::g) l)))∧(b=true→go (kA P dst os K ((t,.bool true)::g) l (.tup []) s))):=by simp [gdA,gdV,BN,go]
@[simp] theorem AHI [Glob]:go (gdA P (.bool true) false t true dst op os K g l s)=go (AOp.step P op g ((t,.bool true)::l) s (kA P dst os K g ((t,.bool true)::l))):=by simp [gdA,gdV,BN]
@[simp] theorem AHJ [Glob]:go (gdA P (.bool true) false t false dst op os K g l s)=go (kA P dst os K g ((t,.bool true)::l) (.tup []) s):=by simp [gdA,gdV,BN]
@[simp] theorem AHK [Glob]:go (gdA P (.bool false) false t true dst op os K g l s)=go (kA P dst os K g ((t,.bool false)::l) (.tup []) s):=by simp [gdA,gdV,BN]
@[simp] theorem AHL [Glob]:go (gdA P (.bool false) false t false dst op os K g l s)=go (AOp.step P op g ((t,.bool false)::l) s (kA P dst os K g ((t,.bool false)::l))):=by simp [gdA,gdV,BN]
@[simp low] theorem AIQ [Glob] (b:Bool):go (gdA P (.bool b) false t true dst op os K g l s)=((b=true→go (AOp.step P op g ((t,.bool true)::l) s (kA P dst os K g ((t,.bool true)::l))))∧(b=false→go (kA P dst os K g ((t,.bool false)::l) (.tup []) s))):=by simp [gdA,gdV,BN,go]
@[simp low] theorem AIR [Glob] (b:Bool):go (gdA P (.bool b) false t false dst op os K g l s)=((b=false→go (AOp.step P op g ((t,.bool false)::l) s (kA P dst os K g ((t,.bool false)::l))))∧(b=true→go (kA P dst os K g ((t,.bool true)::l) (.tup []) s))):=by simp [gdA,gdV,BN,go]
@[simp low] theorem AIS [Glob] (b:Bool):go (gdD P (.bool b) true t true k acc dst op cc os K g l s)=((b=true→go (opD P k acc dst op cc os K ((t,.bool true)::g) l s))∧(b=false→go (kD P (k+1) acc dst os K ((t,.bool false)::g) l (.tup []) s))):=by simp [gdD,gdV,BN,go]
@[simp low] theorem AIT [Glob] (b:Bool):go (gdD P (.bool b) true t false k acc dst op cc os K g l s)=((b=false→go (opD P k acc dst op cc os K ((t,.bool false)::g) l s))∧(b=true→go (kD P (k+1) acc dst os K ((t,.bool true)::g) l (.tup []) s))):=by simp [gdD,gdV,BN,go]
@[simp] theorem AHM [Glob]:go (gdD P (.bool true) false t true k acc dst op cc os K g l s)=go (opD P k acc dst op cc os K g ((t,.bool true)::l) s):=by simp [gdD,gdV,BN]
@[simp] theorem AHN [Glob]:go (gdD P (.bool true) false t false k acc dst op cc os K g l s)=go (kD P (k+1) acc dst os K g ((t,.bool true)::l) (.tup []) s):=by simp [gdD,gdV,BN]
@[simp] theorem AHO [Glob]:go (gdD P (.bool false) false t true k acc dst op cc os K g l s)=go (kD P (k+1) acc dst os K g ((t,.bool false)::l) (.tup []) s):=by simp [gdD,gdV,BN]
@[simp] theorem AHP [Glob]:go (gdD P (.bool false) false t false k acc dst op cc os K g l s)=go (opD P k acc dst op cc os K g ((t,.bool false)::l) s):=by simp [gdD,gdV,BN]
@[simp low] theorem AIU [Glob] (b:Bool):go (gdD P (.bool b) false t true k acc dst op cc os K g l s)=((b=true→go (opD P k acc dst op cc os K g ((t,.bool true)::l) s))∧(b=false→go (kD P (k+1) acc dst os K g ((t,.bool false)::l) (.tup []) s))):=by simp [gdD,gdV,BN,go]
@[simp low] theorem AIV [Glob] (b:Bool):go (gdD P (.bool b) false t false k acc dst op cc os K g l s)=((b=false→go (opD P k acc dst op cc os K g ((t,.bool false)::l) s))∧(b=true→go (kD P (k+1) acc dst os K g ((t,.bool true)::l) (.tup []) s))):=by simp [gdD,gdV,BN,go]
@[simp] theorem AJM [Glob] (gl:Bool):go (gdA P (.tup []) gl t want dst op os K g l s)=go (kA P dst os K g l (.tup []) s):=rfl
@[simp] theorem AJN [Glob] (gl:Bool):go (gdD P (.tup []) gl t want k acc dst op cc os K g l s)=go (kD P (k+1) acc dst os K g l (.tup []) s):=rfl
end
def Mf (n:Nat) (agg:Bool) (off:Nat):Option Ax→Option AV
 | some (.box cs)=>if off+n≤cs.length then CA n agg (cs.drop off)else none
 | _=>none
def XM (n:Nat) (agg:Bool) (v:AV) (s:St):Option AV:=match v with | .ptr o off=>Mf n agg off (s.m o) | _=>none
def S7:Option AV→Option (List AV)→Option (List AV)
 | some v,some l=>some (v::l)
 | _,_=>none
@[simp] theorem ACH:BF [] g s=some []:=rfl
@[simp] theorem ACI (t:Nat) (r:List JB):BF (.tmp (true,t)::r) g s=S7 (some (g.get t)) (BF r g s):=by simp [BF,S7];cases BF r g s <;> rfl
@[simp] theorem ZX (t n:Nat) (agg:Bool) (r:List JB):BF (.cell (true,t) n agg::r) g s=S7 (XM n agg (g.get t) s) (BF r g s):=by
 simp only [BF,XM]
 cases g.get t <;> try rfl
 rename_i o off
 simp only [Mf]
 cases s.m o with
 | none=>rfl
 | some ob =>
  cases ob <;> try rfl
  rename_i cs
  simp only
  by_cases h:off+n≤cs.length
  ·simp only [h,if_true]
   cases CA n agg (cs.drop off) <;> cases BF r g s <;> rfl
  ·simp only [h,if_false]
   rfl
@[simp] theorem AEX (v:AV) (l:List AV):S7 (some v) (some l)=some (v::l):=rfl
@[simp] theorem AHQ (n:Nat) (agg:Bool) (o off:Nat):XM n agg (.ptr o off) s=Mf n agg off (s.m o):=rfl
@[simp] theorem AHR (n off:Nat) (cs:List AV):Mf n true off (some (.box cs))=if off+n≤cs.length then some (.agg ((cs.drop off).take n))else none:=rfl
@[simp] theorem AHS (n off:Nat) (cs:List AV):Mf n false off (some (.box cs))=if off+n≤cs.length then(cs.drop off).head? else none:=by simp only [Mf,CA];cases cs.drop off <;> simp
@[simp] theorem AHT (v:AV):oneOf [v]=v:=rfl
@[simp] theorem AHU (v w:AV):oneOf [v,w]=.tup [v,w]:=rfl
@[simp] theorem ACJ (v w x:AV):oneOf [v,w,x]=.tup [v,w,x]:=rfl
section
@[simp] theorem ACK (zs:List AV):AOp.makes (.alloc zs)=true:=rfl
@[simp] theorem ZY (n m:Nat) (a x:AG):AOp.makes (.append n m a x)=true:=rfl
@[simp] theorem AEY (n:Nat) (agg:Bool) (a:AG):AOp.makes (.load n agg a)=false:=rfl
@[simp] theorem ACL (n:Nat) (a x:AG):AOp.makes (.store n a x)=false:=rfl
@[simp] theorem AIW (x:AG):AOp.makes (.mv x)=false:=rfl
@[simp] theorem AEZ (x y z:AG):AOp.makes (.pick x y z)=false:=rfl
@[simp] theorem ACN (zs:List AV) (ps:List (Nat × Nat × AG)):AOp.makes (.build zs ps)=false:=rfl
@[simp] theorem Ub (sz:Nat) (agg:Bool) (zs:List AV) (m:Nat) (ps:List (Nat × AG)):AOp.makes (.buildSlice sz agg zs m ps)=false:=rfl
@[simp] theorem XN (x:AG):AOp.makes (.nilCheck x)=false:=rfl
@[simp] theorem AHV (op:BinOp) (x y:AG):AOp.makes (.bin op x y)=false:=rfl
@[simp] theorem AIX (op:UnOp) (x:AG):AOp.makes (.un op x)=false:=rfl
@[simp] theorem ACO (n:Nat) (x:AG) (a b c:Option AG):AOp.makes (.slice n x a b c)=false:=rfl
@[simp] theorem Uu (n:Nat) (x:AG):AOp.makes (.fieldAddr n x)=false:=rfl
@[simp] theorem ACP (n m:Nat) (b:Bool) (x:AG):AOp.makes (.field n m b x)=false:=rfl
@[simp] theorem Uv (n:Nat) (x y:AG):AOp.makes (.indexAddr n x y)=false:=rfl
@[simp] theorem AEa (p:Bool) (f:AG) (as:List AG):AOp.makes (.call p f as)=false:=rfl
@[simp] theorem ZZ (a b:Bool) (zs:List AV) (c:Bool) (x y:AG):AOp.makes (.lookup a b zs c x y)=false:=rfl
@[simp] theorem Uw (a:Bool) (x y z:AG):AOp.makes (.mapUpdate a x y z)=false:=rfl
end
section
variable (α:AG→AV)
def S8:AV→Option Nat
 | .ptr o _=>some o
 | .HT _ o _ _=>some o
 | _=>none
def ACQ:AV→Option Nat
 | .list _ (.own o) _=>some o
 | .Ag _ o _ _=>some o
 | _=>none
@[simp] theorem AEb (sz o off n:Nat):ACQ (.Ag sz o off n)=some o:=rfl
@[simp] theorem AHW (o off:Nat):S8 (.ptr o off)=some o:=rfl
@[simp] theorem AEc (cs:List AV):S8 (.Ai cs)=none:=rfl
def mapOf:AV→Option Nat
 | .map o=>some o
 | _=>none
@[simp] theorem AHX (o:Nat):mapOf (.map o)=some o:=rfl
@[simp] theorem Za (a b:Bool) (zs:List AV) (c:Bool) (x y:AG):AOp.AT (.lookup a b zs c x y) α=mapOf (α x):=rfl
@[simp] theorem Ux (a:Bool) (x y z:AG):AOp.AT (.mapUpdate a x y z) α=mapOf (α x):=rfl
@[simp] theorem AEd (n:Nat) (agg:Bool) (a:AG):AOp.AT (.load n agg a) α=S8 (α a):=rfl
@[simp] theorem ACR (n:Nat) (a x:AG):AOp.AT (.store n a x) α=S8 (α a):=rfl
@[simp] theorem Zb (n m:Nat) (a x:AG):AOp.AT (.append n m a x) α=ACQ (α a):=rfl
@[simp] theorem AIY (x:AG):AOp.AT (.mv x) α=none:=rfl
@[simp] theorem AEe (x y z:AG):AOp.AT (.pick x y z) α=none:=rfl
@[simp] theorem ACS (zs:List AV):AOp.AT (.alloc zs) α=none:=rfl
@[simp] theorem ACT (zs:List AV) (ps:List (Nat × Nat × AG)):AOp.AT (.build zs ps) α=none:=rfl
@[simp] theorem Uc (sz:Nat) (agg:Bool) (zs:List AV) (m:Nat) (ps:List (Nat × AG)):AOp.AT (.buildSlice sz agg zs m ps) α=none:=rfl
@[simp] theorem XO (x:AG):AOp.AT (.nilCheck x) α=none:=rfl
@[simp] theorem AHY (op:BinOp) (x y:AG):AOp.AT (.bin op x y) α=none:=rfl
@[simp] theorem AIZ (op:UnOp) (x:AG):AOp.AT (.un op x) α=none:=rfl
@[simp] theorem ACU (n:Nat) (x:AG) (a b c:Option AG):AOp.AT (.slice n x a b c) α=none:=rfl
@[simp] theorem XP (n:Nat) (x y:AG):AOp.AT (.Ej n x y) α=none:=rfl
@[simp] theorem Uy (n:Nat) (x:AG):AOp.AT (.fieldAddr n x) α=none:=rfl
@[simp] theorem ACV (n m:Nat) (b:Bool) (x:AG):AOp.AT (.field n m b x) α=none:=rfl
@[simp] theorem Uz (n:Nat) (x y:AG):AOp.AT (.indexAddr n x y) α=none:=rfl
@[simp] theorem AEf (p:Bool) (f:AG) (as:List AG):AOp.AT (.call p f as) α=none:=rfl
end
end
theorem AE [Glob] (af:F7) (args:List AV) (s:St) (K:KS) (h:go (awp P af.body (Dd af.results K) (FM 0 args) s)):U3 P af args s K:=by
 have e:Dd af.results K=(fun e g s=>match e with | .exit _=>False | _=>match BF af.results g s with | some vs=>K (oneOf vs) s | none=>False):=by
  funext e g s
  cases e <;> rfl
 rw [e]at h
 exact h
theorem XQ [Glob] {b:Ae} {Q:Ay→Env→St→Prop} {g:Env} {s:St} (I:Nat→Env→St→Prop) (n:Nat) (h0:I n g s) (h:∀ n g s,I n g s→awp P b (Fu n I Q) g s):awp P (.loop b) Q g s :=
 ⟨I,n,h0,fun n g s hI=>by
  have:=h n g s hI
  have e:Fu n I Q=fun e g' s'=>match e with | .normal=>∃ m,m < n∧I m g' s' | e=>Q e g' s':=by funext e g s;cases e <;> rfl
  rwa [e]at this⟩
theorem AQ [Glob] {b:Ae} {Q:Ay→Env→St→Prop} {g:Env} {s:St} (I:Nat→Env→St→Prop) (n:Nat) (h0:I n g s) (h:∀ n g s,I n g s→go (awp P b (Fu n I Q) g s)):go (awp P (.loop b) Q g s):=XQ I n h0 h
@[simp] theorem AEg (i:Nat):FM i []=[]:=rfl
@[simp] theorem ACW (i:Nat) (v:AV) (r:List AV):FM i (v::r)=(i,v)::FM (i+1) r:=rfl
end Go.AL
namespace Go.AL
variable {P:Program} {f:FuncId} {args:List AV} {s:St} {K K':AV→St→Prop} {ι:Nat→Option Nat} {F:Nat→Nat→Prop} {w:World}
theorem AB.mono [Glob] (h:AB P f args s K) (hk:∀ r s',s.nx≤s'.nx→K r s'→K' r s'):AB P f args s K' :=
 ⟨h.1,fun ι w vs h1 h2 h3=>Calls.mono (h.2 ι w vs h1 h2 h3) fun e w' ⟨v,r,s',ι',k1,k2,k3,k4,k5,k6,k7⟩=>⟨v,r,s',ι',k1,k2,k3,k4,k5,k6,hk r s' k5.1 k7⟩⟩
theorem AB.bnd [Glob] (hc:D7 P f) (h:(∀ q ob,s.m q=some ob→q < s.nx)→AB P f args s K):AB P f args s K :=
 ⟨hc,fun ι w vs h1 h2 h3=>(h h2.lt).2 ι w vs h1 h2 h3⟩
theorem AB.norm [Glob] (h:AB P f args s fun r s'=>∃ S,(∀ q ob,S q=some ob→s'.m q=some ob)∧K r ⟨S,s'.nx⟩):AB P f args s K:=by
 refine⟨h.1,fun ι w vs h1 h2 h3=>Calls.mono (h.2 ι w vs h1 h2 h3) ?_⟩
 rintro e w' ⟨v,r,s',ι',k1,k2,k3,k4,k5,k6,S,hS,hk⟩
 exact⟨v,r,⟨S,s'.nx⟩,ι',k1,k2.trans (BG s'.m S hS ι' w'),k3.drop hS,⟨fun q ob hq=>k4.lt q ob (hS q ob hq),k4.ilt⟩,k5,k6.step (BG s'.m S hS ι' w'),hk⟩
theorem AF.calls [Glob] {r:AV} (h:AF P f args r) (hk:∀ m,s.nx≤m→K r (s.bump m)):AB P f args s K:=by
 refine AB.bnd (h s).1 fun hb=>AB.norm (AB.mono (h s) fun r' s' hn hr=>?_)
 obtain⟨rfl,hm⟩:=hr
 exact⟨s.m,fun q ob hq=>by rw [hm q (hb q ob hq)];exact hq,hk _ hn⟩
@[simp] theorem St.AKX [Glob] (s:St) (o:Ax) (q:Nat) (h:q≤s.nx∧s.nx≤q):(s.new o).m q=some o:=by
 have e:q=s.nx:=by omega
 rw [e];simp
mutual
def wk:AV→AV→Prop
 | .list sz t xs,.list sz' t' ys=>(t'=.none∨t'=t)∧(sz=sz'∨(xs=[]∧t'=.none))∧wkL xs ys
 | .agg xs,.agg ys=>wkL xs ys
 | .tup xs,.tup ys=>wkL xs ys
 | .Ai xs,.Ai ys=>wkL xs ys
 | .fn f a b,.fn f' a' b'=>f=f'∧wkL a a'∧wkL b b'
 | v,v'=>v=v'
def wkL:List AV→List AV→Prop
 | [],[]=>True
 | x::xs,y::ys=>wk x y∧wkL xs ys
 | _,_=>False
end
mutual
theorem AS:∀ v,wk v v
 | .list sz t xs=>by simp only [wk];exact⟨.inr trivial,.inl trivial,Bd xs⟩
 | .agg xs=>by simp only [wk];exact Bd xs
 | .tup xs=>by simp only [wk];exact Bd xs
 | .Ai xs=>by simp only [wk];exact Bd xs
 | .fn f a b=>by simp only [wk];exact⟨trivial,Bd a,Bd b⟩
 | .any | .bool _ | .int .. | .str _ | .ptr .. | .C2 | .Es | .map _ | .Ad | .Dc _ | .Bp _ | .Ag .. | .HT .. | .yld _=>by simp [wk]
theorem Bd:∀ v,wkL v v
 | []=>by simp [wkL]
 | x::xs=>by simp only [wkL];exact⟨AS x,Bd xs⟩
end
theorem D4:∀ {xs ys:List AV},wkL xs ys→xs.length=ys.length∧∀ (i:Nat) x y,xs[i]?=some x→ys[i]?=some y→wk x y
 | [],[],_=>⟨rfl,by simp⟩
 | x::xs,y::ys,h=>by
  simp only [wkL]at h
  obtain⟨h1,h2⟩:=D4 h.2
  refine⟨by simp [h1],fun i a b ha hb=>?_⟩
  cases i with
  | zero=>simp at ha hb;subst ha hb;exact h.1
  | succ i=>simp at ha hb;exact h2 i a b ha hb
 | [],_::_,h=>by simp [wkL]at h
 | _::_,[],h=>by simp [wkL]at h
theorem H4:∀ {xs ys xs' ys':List AV},wkL xs ys→wkL xs' ys'→wkL (xs++xs') (ys++ys')
 | [],[],_,_,_,h=>h
 | x::xs,y::ys,_,_,h,h'=>by
  simp only [wkL]at h
  simp only [List.cons_append,wkL]
  exact⟨h.1,H4 h.2 h'⟩
 | [],_::_,_,_,h,_=>by simp [wkL]at h
 | _::_,[],_,_,h,_=>by simp [wkL]at h
theorem Py [Glob] {x y:AV} (h:wk x y):wkL x.cells y.cells:=by
 cases x <;> cases y <;> simp only [wk]at h <;> first
  | (cases h;done)
  | (cases h;exact Bd _)
  | exact h
  | exact⟨by simpa only [wk] using h,trivial⟩
theorem Pz [Glob]:∀ {xs ys:List AV},wkL xs ys→wkL (flat xs) (flat ys)
 | [],[],_=>by simp [wkL]
 | x::xs,y::ys,h=>by
  simp only [wkL]at h
  simp only [CD]
  exact H4 (Py h.1) (Pz h.2)
 | [],_::_,h=>by simp [wkL]at h
 | _::_,[],h=>by simp [wkL]at h
theorem EF [Glob] {xs ys:List AV} (h:wkL xs ys) {i:Nat} {y:AV} (hy:ys[i]?=some y):∃ x,xs[i]?=some x∧wk x y:=by
 obtain⟨h1,h2⟩:=D4 h
 have hi:i < xs.length:=by rw [h1];exact(List.getElem?_eq_some_iff.1 hy).1
 exact⟨xs[i],by simp [hi],h2 i _ y (by simp [hi]) hy⟩
theorem Rep.wk [Glob] {v:Value} {x:AV} (h:Rep ι F w v x):∀ {y:AV},AL.wk x y→Rep ι F w v y:=by
 induction h with
 | @list a len cap sz t xs cs hlen hcap hsz ht hnone hc hr ih =>
  intro y hy
  cases y <;> simp only [AL.wk]at hy <;> try (cases hy;done)
  rename_i sz' t' ys
  obtain⟨h1,h2,h3⟩:=hy
  have hl:=(D4 h3).1
  have key:∀ j y,(flat ys)[j]?=some y→Rep ι F w (cs j) y:=by
   intro j y hj
   obtain⟨x,hx,hxy⟩:=EF (Pz h3) hj
   exact ih j x hx hxy
  rcases h2 with rfl | ⟨rfl,rfl⟩
  ·refine .list cs (hlen.trans hl) hcap (fun y hy=>?_) ?_ hnone hc key
   ·obtain⟨i,hi⟩:=List.mem_iff_getElem?.1 hy
    obtain⟨x,hx,hxy⟩:=EF h3 hi
    rw [← (D4 (Py hxy)).1]
    exact hsz x (List.mem_of_getElem? hx)
   ·rcases h1 with rfl | rfl
    ·trivial
    ·exact ht
  ·have:ys=[]:=List.length_eq_zero_iff.1 (by rw [← hl];rfl)
   subst this
   simp only [List.length_nil]at hlen
   subst hlen
   exact .list cs rfl hcap (by simp) trivial hnone (fun j hj=>by omega) (by simp)
 | agg hl hc hr ih =>
  intro y hy
  cases y <;> simp only [AL.wk]at hy <;> try (cases hy;done)
  have h1:=(D4 hy).1
  refine .agg (hl.trans h1) hc fun j v y hv hj=>?_
  obtain⟨x,hx,hxy⟩:=EF hy hj
  exact ih j v x hv hx hxy
 | tup hl hr ih =>
  intro y hy
  cases y <;> simp only [AL.wk]at hy <;> try (cases hy;done)
  have h1:=(D4 hy).1
  refine .tup (hl.trans h1) fun j v y hv hj=>?_
  obtain⟨x,hx,hxy⟩:=EF hy hj
  exact ih j v x hv hx hxy
 | Ai cs ha hc hr ih =>
  intro y hy
  cases y <;> simp only [AL.wk]at hy <;> try (cases hy;done)
  have h1:=(D4 hy).1
  refine .Ai cs ha (fun j hj=>hc j (by omega)) fun j y hj=>?_
  obtain⟨x,hx,hxy⟩:=EF hy hj
  exact ih j x hx hxy
 | fn f hl hl' hf hr ih1 ih2 =>
  intro y hy
  cases y <;> simp only [AL.wk]at hy <;> try (cases hy;done)
  obtain⟨rfl,h1,h2⟩:=hy
  refine .fn _ (hl.trans (D4 h1).1) (hl'.trans (D4 h2).1) (fun j v y hv hj=>?_) fun j v y hv hj=>?_
  ·obtain⟨x,hx,hxy⟩:=EF h1 hj
   exact ih1 j v x hv hx hxy
  ·obtain⟨x,hx,hxy⟩:=EF h2 hj
   exact ih2 j v x hv hx hxy
 | any v=>intro y hy;simp only [AL.wk]at hy;subst hy;exact .any v
 | bool b=>intro y hy;simp only [AL.wk]at hy;subst hy;exact .bool b
 | int k n=>intro y hy;simp only [AL.wk]at hy;subst hy;exact .int k n
 | str s=>intro y hy;simp only [AL.wk]at hy;subst hy;exact .str s
 | ptr off h=>intro y hy;simp only [AL.wk]at hy;subst hy;exact .ptr off h
 | C2=>intro y hy;simp only [AL.wk]at hy;subst hy;exact .C2
 | Es=>intro y hy;simp only [AL.wk]at hy;subst hy;exact .Es
 | map h=>intro y hy;simp only [AL.wk]at hy;subst hy;exact .map h
 | Ad=>intro y hy;simp only [AL.wk]at hy;subst hy;exact .Ad
 | Dc h hf hin hout hnd=>intro y hy;simp only [AL.wk]at hy;subst hy;exact .Dc h hf hin hout hnd
 | Bp σ h hf hsz hσ hinj hsur hborn hnd hk hv ih1 ih2=>intro y hy;simp only [AL.wk]at hy;subst hy;exact .Bp σ h hf hsz hσ hinj hsur hborn hnd hk hv
 | Ag h hcap hb=>intro y hy;simp only [AL.wk]at hy;subst hy;exact .Ag h hcap hb
 | FN=>intro y hy;simp only [AL.wk]at hy;subst hy;exact .FN
 | HT h=>intro y hy;simp only [AL.wk]at hy;subst hy;exact .HT h
 | yld h=>intro y hy;simp only [AL.wk]at hy;subst hy;exact .yld h
theorem Bs.wk [Glob] {vs:Array Value} {xs ys:List AV} (h:Bs ι F w vs xs) (hw:wkL xs ys):Bs ι F w vs ys:=by
 refine⟨h.1.trans (D4 hw).1,fun j v y hv hy=>?_⟩
 obtain⟨x,hx,hxy⟩:=EF hw hy
 exact(h.2 j v x hv hx).wk hxy
theorem AB.OG [Glob] {args':List AV} (h:AB P f args' s K) (hw:wkL args args'):AB P f args s K :=
 ⟨h.1,fun ι w vs h1 h2 h3=>h.2 ι w vs h1 h2 (h3.wk hw)⟩
theorem AF.OG [Glob] {args':List AV} {r:AV} (h:AF P f args' r) (hw:wkL args args'):AF P f args r:=fun s=>(h s).OG hw
theorem AB.res [Glob] (h:AB P f args s fun r s'=>∃ r',AL.wk r r'∧K r' s'):AB P f args s K :=
 ⟨h.1,fun ι w vs h1 h2 h3=>Calls.mono (h.2 ι w vs h1 h2 h3) fun e w' ⟨v,r,s',ι',k1,k2,k3,k4,k5,k6,r',hw,k7⟩=>⟨v,r',s',ι',k1,k2,k3,k4,k5,k6.wk hw,k7⟩⟩
def Kept (s s':St):Prop:=∀ q,q < s.nx→s'.m q=s.m q
@[simp] theorem kept_refl (s:St):Kept s s:=fun _ _=>rfl
@[simp] theorem AHZ (s s':St) (n:Nat):Kept s (s'.bump n)=Kept s s':=rfl
@[simp] theorem AIa [Glob] (s s':St) (ob:Ax) (h:s.nx≤s'.nx):Kept s (s'.new ob)=Kept s s':=by
 have:∀ q,q < s.nx→(s'.new ob).m q=s'.m q:=fun q hq=>St.B0 _ _ _ (by omega)
 simp only [Kept]
 exact propext ⟨fun k q hq=>by rw [← this q hq];exact k q hq,fun k q hq=>by rw [this q hq];exact k q hq⟩
@[simp] theorem AIb [Glob] (s s':St) (o:Nat) (ob:Ax) (h:s.nx≤o):Kept s (s'.set o ob)=Kept s s':=by
 have:∀ q,q < s.nx→(s'.set o ob).m q=s'.m q:=fun q hq=>St.Bq _ _ _ _ (by omega)
 simp only [Kept]
 exact propext ⟨fun k q hq=>by rw [← this q hq];exact k q hq,fun k q hq=>by rw [this q hq];exact k q hq⟩
@[simp] theorem AIc [Glob] (s s':St) (o:Nat) (h:s.nx≤o):Kept s (s'.del o)=Kept s s':=by
 have:∀ q,q < s.nx→(s'.del o).m q=s'.m q:=fun q hq=>St.Kt _ _ _ (by omega)
 simp only [Kept]
 exact propext ⟨fun k q hq=>by rw [← this q hq];exact k q hq,fun k q hq=>by rw [this q hq];exact k q hq⟩
theorem AF.intro [Glob] {r:AV} (h:∀ s,AB P f args s fun r' s'=>AL.wk r' r∧Kept s s'):AF P f args r :=
 fun s=>AB.res (AB.mono (h s) fun r' s' _ h=>⟨r,h.1,rfl,h.2⟩)
theorem Rep.freeze [Glob] {ι:Nat→Option Nat} {S:AX} {v:Value} {sz o len:Nat} {xs:List AV} (hwf:WF ι S w) (h:Rep ι (AZ ι S) w v (.Ag sz o 0 len)) (ho:S o=some (.box (flat xs)))
  (hsz:∀ x∈xs,x.cells.length=sz) (hlen:xs.length=len):Rep ι (AZ ι (CO S o)) w v (.list sz .none xs):=by
 have hfl:=BT hsz
 cases h with
 | @Ag _ _ b _ _ cap h hcap hb =>
  obtain⟨vs,e,h1,h2,h3,h4⟩:=hwf.rep o _ b ho h
  have hst:=BG S (CO S o) (Ap S o) ι w
  simp only [Nat.zero_mul]
  refine Rep.D3 (vs:=vs) (e:=e) hlen.symm hcap hsz trivial h1 (fun j hj hf=>?_) (fun j v x hv hx=>(h3 j v x hv hx).step hst) (fun j v hj hv=>h4 j v (by rw [hfl,hlen];exact hj) hv) (by rw [← hlen,← hfl];exact h2)
  obtain⟨q,ob,k1,k2,k3⟩:=hf
  have hq:q≠o:=by
   intro e
   simp [CO,e]at k1
  exact hq (hwf.inj q o ob _ b (Ap S o q ob k1) ho k2 h)
 | FN =>
  have:xs=[]:=List.length_eq_zero_iff.1 hlen
  subst this
  exact .list (fun _=>undef) rfl (Nat.le_refl _) (by simp) trivial (by simp) (by simp) (by simp)
section
variable (k k':IntKind) (a b:Int) (x y:Bool) (u v:ByteArray) (xs ys us vs:List AV) (sz sz':Nat) (t t':Tok) (f g:FuncId)
@[simp] theorem AKY [Glob] (v:AV):wk v v:=AS v
@[simp] theorem AJO [Glob]:wkL xs xs:=Bd xs
@[simp] theorem AKZ:wk (.int k a) (.int k' b)=(k=k'∧a=b):=by simp [wk]
@[simp] theorem AJP:wk (.bool x) (.bool y)=(x=y):=by simp [wk]
@[simp] theorem AKa:wk (.str u) (.str v)=(u=v):=by simp [wk]
@[simp] theorem AKb:wk (.agg xs) (.agg ys)=wkL xs ys:=by simp [wk]
@[simp] theorem AKc:wk (.tup xs) (.tup ys)=wkL xs ys:=by simp [wk]
@[simp] theorem AJQ:wk (.Ai xs) (.Ai ys)=wkL xs ys:=by simp [wk]
@[simp] theorem AJR:wk (.list sz t xs) (.list sz' .none ys)=((sz=sz'∨xs=[])∧wkL xs ys):=by simp [wk]
@[simp] theorem ALJ:wk (.fn f xs ys) (.fn g us vs)=(f=g∧wkL xs us∧wkL ys vs):=by simp [wk]
@[simp] theorem AJS:wkL [] []=True:=by simp [wkL]
@[simp] theorem AId (x y:AV):wkL (x::xs) (y::ys)=(wk x y∧wkL xs ys):=by simp [wkL]
end
theorem AA [Glob] {r:AV} (h:AF P f args r) (hk:∀ m,s.nx≤m→go (K r (s.bump m))):go (AB P f args s K):=h.calls hk
theorem AK {n:Nat} {I:Nat→Env→St→Prop} {Q:Ay→Env→St→Prop} {g:Env} {s:St} (m:Nat) (h:m < n) (hI:I m g s):go (Fu n I Q .normal g s):=⟨m,h,hI⟩
theorem AH [Glob] (h:AB P f args s K):go (AB P f args s K):=h
def Ao (s:St) (o:Nat) (s':St):Prop:=∀ q,q < s.nx→q≠o→s'.m q=s.m q
@[simp] theorem AEh (s:St) (o:Nat):Ao s o s:=fun _ _ _=>rfl
@[simp] theorem AEi (s s':St) (o n:Nat):Ao s o (s'.bump n)=Ao s o s':=rfl
@[simp] theorem AHa [Glob] (s s':St) (o:Nat) (ob:Ax) (h:s.nx≤s'.nx):Ao s o (s'.new ob)=Ao s o s':=by
 have:∀ q,q < s.nx→(s'.new ob).m q=s'.m q:=fun q hq=>St.B0 _ _ _ (by omega)
 simp only [Ao]
 exact propext ⟨fun k q hq=>by rw [← this q hq];exact k q hq,fun k q hq=>by rw [this q hq];exact k q hq⟩
@[simp] theorem AEj [Glob] (s s':St) (o:Nat) (ob:Ax):Ao s o (s'.set o ob)=Ao s o s':=by
 have:∀ q,q≠o→(s'.set o ob).m q=s'.m q:=fun q hq=>St.Bq _ _ _ _ hq
 simp only [Ao]
 exact propext ⟨fun k q hq h=>by rw [← this q h];exact k q hq h,fun k q hq h=>by rw [this q h];exact k q hq h⟩
@[simp] theorem AHb [Glob] (s s':St) (o p:Nat) (ob:Ax) (h:s.nx≤p):Ao s o (s'.set p ob)=Ao s o s':=by
 have:∀ q,q < s.nx→(s'.set p ob).m q=s'.m q:=fun q hq=>St.Bq _ _ _ _ (by omega)
 simp only [Ao]
 exact propext ⟨fun k q hq=>by rw [← this q hq];exact k q hq,fun k q hq=>by rw [this q hq];exact k q hq⟩
@[simp] theorem AHc [Glob] (s s':St) (o p:Nat) (h:s.nx≤p):Ao s o (s'.del p)=Ao s o s':=by
 have:∀ q,q < s.nx→(s'.del p).m q=s'.m q:=fun q hq=>St.Kt _ _ _ (by omega)
 simp only [Ao]
 exact propext ⟨fun k q hq=>by rw [← this q hq];exact k q hq,fun k q hq=>by rw [this q hq];exact k q hq⟩
theorem AB.upd [Glob] {o:Nat} {ob:Ax} {r:AV} (ho:o < s.nx) (h:AB P f args s fun r' s'=>wk r' r∧s'.m o=some ob∧Ao s o s') (hK:∀ m,s.nx≤m→K r ((s.set o ob).bump m)):AB P f args s K:=by
 refine AB.bnd h.1 fun hb=>AB.res (AB.norm (AB.mono h fun r' s' hn ⟨h1,h2,h3⟩=>⟨(s.set o ob).m,fun q b hq=>?_,r,h1,hK _ hn⟩))
 by_cases e:q=o
 ·subst e
  rw [St.EK]at hq
  rw [h2,hq]
 ·rw [St.Bq _ _ _ _ e]at hq
  rw [h3 q (hb q b hq) e,hq]
section
variable {o:Nat} {env:Env} {ps:List Nat} {n:Nat} {ca cb:Code} {as bd:Ae} {Q:Ay→Env→St→Prop} {g:Env} {keep:List Nat} {fo:AG}
theorem CL.mono [Glob] (h:CL P o args s K) (hk:∀ r s',s.nx≤s'.nx→K r s'→K' r s'):CL P o args s K' :=
 fun ι w vs l h1 h2 h3 h4=>by
  obtain⟨fn,tmps,a,b,e1,e2⟩:=h ι w vs l h1 h2 h3 h4
  exact⟨fn,tmps,a,b,e1,RoundIn.mono e2 fun e w' ⟨v,r,s',ι',k1,k2,k3,k4,k5,k6,k7⟩=>⟨v,r,s',ι',k1,k2,k3,k4,k5,k6,hk r s' k5.1 k7⟩⟩
theorem Gx [Glob] {fid:FuncId} {first cap:List AV} (hf:fo.val g []=.fn fid first cap)
  (h:∀ ca cb,OX P s.nx (F8 keep g) ps n ca cb (awp P as) (awp P bd) →
   AB P fid (first++[.yld s.nx]++cap) (s.new (.loop 0 none (F8 keep g) ps n ca cb)) fun _ s'=>QV s.nx (F8 keep g) ps n ca cb Q g s'):go (awp P (.R3 fo ps n keep as bd) Q g s):=by
 intro ca cb hY
 rw [hf]
 exact h ca cb hY
theorem LN [Glob] (h:OX P o env ps n ca cb (awp P as) (awp P bd)) (hobj:s.m o=some (.loop 0 none env ps n ca cb)) (hlen:args.length=ps.length)
  (hw:go (awp P as (ZJ P o env ps n ca cb bd K) (F9 ps args env) s)):CL P o args s K:=h args s K hobj hlen hw
theorem Ez {st:Nat} (h:s.m o=some (.loop st none env ps n ca cb)) (hst:st≠1) (hq:go (Q .normal g (s.del o))):QV o env ps n ca cb Q g s:=⟨st,none,h,hst,hq⟩
@[simp] theorem AEk (g:Env):F9 [] [] g=g:=rfl
@[simp] theorem ACX (p:Nat) (ps:List Nat) (x:AV) (xs:List AV) (g:Env):F9 (p::ps) (x::xs) g=F9 ps xs ((p,x)::g):=rfl
@[simp] theorem AIe (g:Env):F8 [] g=[]:=rfl
@[simp] theorem AHd (t:Nat) (r:List Nat) (g:Env):F8 (t::r) g=(t,g.get t)::F8 r g:=rfl
end
theorem nx4:(∀ (s:St) (o:Ax),(s.new o).nx=s.nx+1)∧(∀ (s:St) (q:Nat) (o:Ax),(s.set q o).nx=s.nx)∧(∀ (s:St) (q:Nat),(s.del q).nx=s.nx)∧∀ (s:St) (n:Nat),(s.bump n).nx=n :=
 ⟨fun _ _=>rfl,fun _ _ _=>rfl,fun _ _=>rfl,fun _ _=>rfl⟩
theorem smz {p:Prop} (h:p:=by simp -implicitDefEqProofs (disch:=first|omega|simp only[nx4]<;>omega|fail)):p:=h
theorem soz {p:Prop} (h:p:=by simp -implicitDefEqProofs (disch:=first|omega|simp only[nx4]<;>omega|fail) <;> omega):p:=h
end Go.AL
namespace Go.AL
open Go
abbrev ι0:Nat→Option Nat:=fun _=>none
abbrev F0:Nat→Nat→Prop:=AZ ι0 (fun _=>none)
theorem S9 (b off:Nat):¬ F0 b off:=fun⟨_,_,h,_⟩=>by cases h
def Cells (w:World) (cs:List Value) (xs:List AV):Prop :=
 cs.length=xs.length∧(∀ v∈cs,v.oneCell'=true)∧∀ (j:Nat) v y,cs[j]?=some v→xs[j]?=some y→Rep ι0 F0 w v y
theorem Cells.nil (w:World):Cells w [] []:=⟨rfl,by simp,by simp⟩
theorem Cells.cons {w:World} {v:Value} {x:AV} {cs:List Value} {xs:List AV} (h1:v.oneCell'=true) (h2:Rep ι0 F0 w v x) (h:Cells w cs xs):Cells w (v::cs) (x::xs):=by
 refine⟨by simp [h.1],by simpa using ⟨h1,h.2.1⟩,fun j v' y hv hy=>?_⟩
 cases j with
 | zero=>simp at hv hy;subst hv;subst hy;exact h2
 | succ j=>exact h.2.2 j v' y (by simpa using hv) (by simpa using hy)
theorem Cells.agg {w:World} {cs:Array Value} {xs:List AV} (h:Cells w cs.toList xs):Rep ι0 F0 w (.agg cs) (.agg xs):=by
 refine .agg (by simpa using h.1) (fun j v hv=>h.2.1 v ?_) (fun j v x hv hx=>h.2.2 j v x (by simpa using hv) hx)
 have:cs.toList[j]?=some v:=by simpa using hv
 exact List.mem_of_getElem? this
theorem Rp {α:Type} {n:Nat} {Q:Nat→α→Prop} (h:∀ i,i < n→∃ a,Q i a):∃ l:List α,l.length=n∧∀ i a,l[i]?=some a→Q i a:=by
 induction n with
 | zero=>exact⟨[],rfl,by simp⟩
 | succ n ih =>
  obtain⟨l,hl,hq⟩:=ih fun i hi=>h i (by omega)
  obtain⟨a,ha⟩:=h n (by omega)
  refine⟨l++[a],by simp [hl],fun i b hb=>?_⟩
  by_cases hi:i < n
  ·rw [List.getElem?_append_left (by omega)]at hb
   exact hq i b hb
  ·have:i=n:=by
    have:=(List.getElem?_eq_some_iff.1 hb).1
    simp at this;omega
   subst this
   rw [List.getElem?_append_right (by omega)]at hb
   simp [hl]at hb
   subst hb
   exact ha
theorem FH {H:Type} {enc:TypeId × Value→H} {P:Program} {w:World} {n:Nat} {t e:TypeId} {cs:List Value} {x:DataW H × List MemPlace} {α:Type} {f:α→List AV} {sz:Nat}
  (ht:P.underlying t=some (.slice e)) (hs:P.cellsOf e=sz) (hpos:0 < sz)
  (hel:∀ m,m < n→∀ cs y,DataW.trod enc P w 0 (fun _=>true) true m e cs=some y→∃ a,Cells w cs (f a))
  (h:DataW.trod enc P w 0 (fun _=>true) true n t cs=some x) :
  ∃ (v:Value) (l:List α),cs=[v]∧v.oneCell'=true∧(∀ (g:α→AV),(∀ a,(g a).cells=f a)→Rep ι0 F0 w v (.list sz .none (l.map g)))∧(∀ a b,x.1=.slice a b→l.length=a.length)∧(x.1=.nil→l=[])∧l.length≤9223372036854775807:=by
 rcases DataW.trod_slice ht h with ⟨rfl,rfl⟩ | ⟨a,len,cap,elems,rest,m,rfl,rfl,rfl,_,hlc,hcm,hlen,hget,_,_⟩
 ·exact⟨_,[],rfl,rfl,fun g hg=>.list (fun _=>default) rfl (Nat.le_refl _) (by simp) trivial (by simp) (by simp) (by simp),fun a b h=>by simp at h,fun _=>rfl,by simp⟩
 ·have key:∀ i,i < len→∃ a0:α,∃ cs':List Value,w.cells? 0 (a.add (i * sz)) sz=some cs'∧Cells w cs' (f a0):=by
   intro i hi
   have h1:=hget i hi
   obtain⟨y,hy⟩:∃ y,elems[i]?=some y:=⟨elems[i]'(by omega),by simp [hlen,hi]⟩
   rw [hy,hs,Option.bind_eq_some_iff]at h1
   obtain⟨cs',hc',hd⟩:=h1
   obtain⟨a0,ha0⟩:=hel m (by omega) cs' y hd
   exact⟨a0,cs',hc',ha0⟩
  obtain⟨l,hl,hq⟩:=Rp key
  refine⟨_,l,rfl,rfl,fun g hg=>?_,fun a b h=>by simp at h;rw [← h.1];simp [hl,hlen],fun h=>by simp at h,by rw [hl];exact Nat.le_trans hlc hcm⟩
  have hall:∀ i,i < len→∃ a0 cs',l[i]?=some a0∧w.cells? 0 (a.add (i * sz)) sz=some cs'∧Cells w cs' (f a0):=fun i hi=>by
   have h1:l[i]?=some (l[i]'(by omega)):=by simp [hl,hi]
   obtain⟨cs',h2,h3⟩:=hq i _ h1
   exact⟨_,cs',h1,h2,h3⟩
  have hfl:∀ a0∈l,(f a0).length=sz:=fun a0 h0=>by
   obtain⟨i,hi⟩:=List.getElem?_of_mem h0
   obtain⟨cs',h2,h3⟩:=hq i a0 hi
   rw [← h3.1]
   exact(World.cells?_some h2).2.1
  have hsz:∀ x∈l.map g,x.cells.length=sz:=by
   intro x hx
   obtain⟨a0,h0,rfl⟩:=List.mem_map.1 hx
   rw [hg];exact hfl a0 h0
  have hcell:∀ j,j < len * sz→∃ a0 cs' v,a.spot=none∧l[j / sz]?=some a0∧Cells w cs' (f a0)∧cs'[j % sz]?=some v∧w.cell? ⟨a.block,a.off+j,none⟩=some v:=by
   intro j hj
   have hi:j / sz < len:=Nat.div_lt_of_lt_mul (by rw [Nat.mul_comm];exact hj)
   have hm:j % sz < sz:=Nat.mod_lt _ hpos
   obtain⟨a0,cs',h1,h2,h3⟩:=hall _ hi
   obtain⟨_,e1,e2⟩:=World.cells?_some h2
   obtain⟨v,hv⟩:∃ v,cs'[j % sz]?=some v:=⟨cs'[j % sz]'(by omega),by simp [e1,hm]⟩
   have e3:=e2 (j % sz) hm
   rw [hv]at e3
   obtain⟨b,off,spot⟩:=a
   have hsp:spot=none:=by
    obtain⟨a1,cs1,g1,g2,g3⟩:=hall 0 (Nat.lt_of_le_of_lt (Nat.zero_le _) hi)
    obtain⟨_,k1,k2⟩:=World.cells?_some g2
    obtain⟨v1,hv1⟩:∃ v,cs1[0]?=some v:=⟨cs1[0]'(by omega),by simp [k1,hpos]⟩
    have k3:=k2 0 hpos
    rw [hv1]at k3
    simpa [Addr.add] using World.cell?_spot k3
   subst hsp
   rw [WideShapes.add_plain,WideShapes.add_plain]at e3
   refine⟨a0,cs',v,rfl,h1,h3,hv,?_⟩
   rw [← e3,Nat.add_assoc,Nat.div_add_mod']
  refine .list (fun j=>(w.cell? ⟨a.block,a.off+j,none⟩).getD default) (by simp [hl]) hlc hsz trivial (by simp) (fun j hj=>?_) (fun j x hx=>?_)
  ·obtain⟨a0,cs',v,h1,h2,h3,h4,h5⟩:=hcell j hj
   exact⟨a,rfl,h1,by rw [h5];rfl,S9 _ _,by rw [h5];exact h3.2.1 v (List.mem_of_getElem? h4)⟩
  ·have hj:j < len * sz:=by
    have:=(List.getElem?_eq_some_iff.1 hx).1
    rw [BT hsz]at this
    simpa [hl] using this
   obtain⟨a0,cs',v,h1,h2,h3,h4,h5⟩:=hcell j hj
   rw [h5]
   have hm:j % sz < sz:=Nat.mod_lt _ hpos
   have hx':=Ff hsz (j / sz) (j % sz) hm
   rw [Nat.div_add_mod']at hx'
   rw [hx',List.getElem?_map,h2]at hx
   simp only [Option.map_some,Option.bind_some,hg]at hx
   exact h3.2.2 _ v x h4 hx
theorem Step.below {w w':World} {ι':Nat→Option Nat} {S':AX} (h:Step ι0 (fun _=>none) w ι' S' w'):RowKit.Below w.heap.size w w' :=
 ⟨h.os,h.tape,h.output,h.size,fun k hk=>h.blk k hk fun⟨_,_,e,_⟩=>by cases e⟩
def Rq [Glob] (w:World):Prop:=∀ g x,Glob.gt g=some x→Rep ι0 F0 w (.pointer (some ⟨g,0,none⟩)) x
theorem WF0 [Glob] {w:World} (h:Rq w):WF ι0 (fun _=>none) w:=⟨by simp,by simp,by simp,h⟩
theorem Ud [Glob] {P:Program} {f:FuncId} {args:List AV} {b:Bool} (h:AF P f args (.bool b)) {w:World} (hl:Rq w) {vs:Array Value} (hr:Bs ι0 F0 w vs args) :
  Calls P f vs w fun e w'=>e=.returned (.bool b)∧RowKit.Below w.heap.size w w':=by
 refine Calls.mono ((h ⟨fun _=>none,0⟩).2 ι0 w vs (WF0 hl) ⟨by simp,by simp⟩ hr) ?_
 rintro e w' ⟨v,r,s',ι',rfl,h1,h2,h3,h4,h5,rfl,h6⟩
 cases h5
 exact⟨rfl,h1.below⟩
end Go.AL
