/- The abstract layer: the stages of a walk, for simp. -/
import Derived.Test.YtlledcnjfgcipaaGreatDoorA14
import Derived.Carry
import Derived.SizedLaws
import Derived.ProofKit
import Derived.ChangeArms
import Derived.KernelRfl
import Derived.WideAt
set_option linter.unusedVariables false
set_option linter.unusedSimpArgs false
namespace Go.AL
variable {P:Program}
section
variable {g l g' l':Env} {s s':St} {K:KS}
@[congr] theorem step_congr [Glob] (op:AOp) (hg:g=g') (hl:l=l') (hs:s=s'):AOp.step P op g l s K=AOp.step P op g' l' s' K:=by rw [hg,hl,hs]
@[congr] theorem aops_congr [Glob] (os:List AOper) {K:Env→Env→St→Prop} (hg:g=g') (hl:l=l') (hs:s=s'):aops P os K g l s=aops P os K g' l' s':=by rw [hg,hl,hs]
@[congr] theorem aopsD_congr [Glob] (i:Nat) {acc acc':List (Nat × Nat)} (os:List AOper) {K:Env→Env→St→Prop} (ha:acc=acc') (hg:g=g') (hl:l=l') (hs:s=s'):aopsD P i acc os K g l s=aopsD P i acc' os K g' l' s':=by rw [hg,hl,hs,ha]
@[congr] theorem awp_congr [Glob] (c:ACode) {Q:AExit→Env→St→Prop} (hg:g=g') (hs:s=s'):awp P c Q g s=awp P c Q g' s':=by rw [hg,hs]
@[congr] theorem guarded_congr (gd:Option (Bool × Nat × Bool)) {a b:Env→Env→Prop} (hg:g=g') (hl:l=l'):guarded gd g l a b=guarded gd g' l' a b:=by rw [hg,hl]
@[congr] theorem setDst_congr (d:Option (Bool × Nat)) {v v':AV} {a:Env→Env→Prop} (hv:v=v') (hg:g=g') (hl:l=l'):setDst d v g l a=setDst d v' g' l' a:=by rw [hg,hl,hv]
section
variable {v v' u u' c c':AV} {n n':Nat} {agg:Bool} {ob ob':Option AObj} {cs cs':List AV}
@[congr] theorem ldK_congr (hc:cs=cs') (hs:s=s'):ldK n agg cs s K=ldK n agg cs' s' K:=by rw [hc,hs]
@[congr] theorem ldO_congr {off off':Nat} (hf:off=off') (hc:ob=ob') (hs:s=s'):ldO n agg off ob s K=ldO n agg off' ob' s' K:=by rw [hc,hs,hf]
@[congr] theorem ldV_congr (hc:v=v') (hs:s=s'):ldV n agg v s K=ldV n agg v' s' K:=by rw [hc,hs]
@[congr] theorem stO_congr {o o' off off':Nat} (ho:o=o') (hf:off=off') (hx:v=v') (hc:ob=ob') (hs:s=s'):stO n o off v ob s K=stO n o' off' v' ob' s' K:=by rw [ho,hf,hc,hs,hx]
@[congr] theorem stV_congr (hc:u=u') (hx:v=v') (hs:s=s'):stV n u v s K=stV n u' v' s' K:=by rw [hc,hs,hx]
@[congr] theorem bxV_congr (hc:v=v') (hs:s=s'):bxV v s K=bxV v' s' K:=by rw [hc,hs]
@[congr] theorem pkV_congr (h:c=c') (hc:v=v') (hx:u=u') (hs:s=s'):pkV c v u s K=pkV c' v' u' s' K:=by rw [h,hc,hs,hx]
@[congr] theorem bdV_congr {zs:List AV} {ps ps':List (Nat × Nat × AV)} (hc:ps=ps') (hs:s=s'):bdV zs ps s K=bdV zs ps' s' K:=by rw [hc,hs]
@[congr] theorem bsV_congr {sz m:Nat} {z z':AV} {ps ps':List (Nat × AV)} (hz:z=z') (hc:ps=ps') (hs:s=s'):bsV sz z m ps s K=bsV sz z' m ps' s' K:=by rw [hc,hs,hz]
@[congr] theorem ncV_congr (hc:v=v') (hs:s=s'):ncV v s K=ncV v' s' K:=by rw [hc,hs]
@[congr] theorem bnV_congr {op:BinOp} (hc:v=v') (hx:u=u') (hs:s=s'):bnV op v u s K=bnV op v' u' s' K:=by rw [hc,hs,hx]
@[congr] theorem eaV_congr {b:Bool} {m:Nat} (hc:v=v') (hx:u=u') (hs:s=s'):eaV b m v u s K=eaV b m v' u' s' K:=by rw [hc,hs,hx]
@[congr] theorem inV_congr {b:Bool} (hc:v=v') (hs:s=s'):inV b v s K=inV b v' s' K:=by rw [hc,hs]
@[congr] theorem eqV_congr {b:Bool} (hc:v=v') (hx:u=u') (hs:s=s'):eqV b v u s K=eqV b v' u' s' K:=by rw [hc,hs,hx]
@[congr] theorem unV_congr {op:UnOp} (hc:v=v') (hs:s=s'):unV op v s K=unV op v' s' K:=by rw [hc,hs]
@[congr] theorem cvV_congr {k:IntKind} (hc:v=v') (hs:s=s'):cvV k v s K=cvV k v' s' K:=by rw [hc,hs]
@[congr] theorem faV_congr (hc:v=v') (hs:s=s'):faV n v s K=faV n v' s' K:=by rw [hc,hs]
@[congr] theorem fdV_congr {off:Nat} (hc:v=v') (hs:s=s'):fdV off n agg v s K=fdV off n agg v' s' K:=by rw [hc,hs]
@[congr] theorem iaV_congr (hc:v=v') (hx:u=u') (hs:s=s'):iaV n v u s K=iaV n v' u' s' K:=by rw [hc,hs,hx]
@[congr] theorem isV_congr (hc:v=v') (hx:u=u') (hs:s=s'):isV v u s K=isV v' u' s' K:=by rw [hc,hs,hx]
@[congr] theorem exV_congr (hc:v=v') (hs:s=s'):exV n v s K=exV n v' s' K:=by rw [hc,hs]
@[congr] theorem lnV_congr (hc:v=v') (hs:s=s'):lnV v s K=lnV v' s' K:=by rw [hc,hs]
@[congr] theorem lsV_congr (hc:v=v') (hs:s=s'):lsV v s K=lsV v' s' K:=by rw [hc,hs]
@[congr] theorem apO_congr {sz o o':Nat} {xs xs' ys ys':List AV} (h:o=o') (h1:xs=xs') (h2:ys=ys') (hc:ob=ob') (hs:s=s'):apO sz o xs ys ob s K=apO sz o' xs' ys' ob' s' K:=by rw [h,h1,h2,hc,hs]
@[congr] theorem amO_congr {sz m m':Nat} {ys ys':List AV} {s1 s1':St} (h:m=m') (h2:ys=ys') (hc:ob=ob') (hs:s=s') (hs1:s1=s1'):amO sz m ys ob s s1 K=amO sz m' ys' ob' s' s1' K:=by rw [h,h2,hc,hs,hs1]
@[congr] theorem apV_congr {sz bytes:Nat} (hc:v=v') (hx:u=u') (hs:s=s'):apV sz bytes v u s K=apV sz bytes v' u' s' K:=by rw [hc,hs,hx]
@[congr] theorem mnV_congr (hc:v=v') (hx:u=u') (hs:s=s'):mnV v u s K=mnV v' u' s' K:=by rw [hc,hs,hx]
@[congr] theorem mxV_congr (hc:v=v') (hx:u=u') (hs:s=s'):mxV v u s K=mxV v' u' s' K:=by rw [hc,hs,hx]
@[congr] theorem saV_congr {v2 v2':AV} (hc:v=v') (hx:v2=v2') (hs:s=s'):saV n v v2 s K=saV n v' v2' s' K:=by rw [hc,hs,hx]
@[congr] theorem aaV_congr {m1 m2:Nat} {v2 v2':AV} (hc:v=v') (hx:v2=v2') (hs:s=s'):aaV m1 m2 v v2 s K=aaV m1 m2 v' v2' s' K:=by rw [hc,hs,hx]
@[congr] theorem clV_congr [Glob] {as as':List AV} (hc:v=v') (hx:as=as') (hs:s=s'):clV P v as s K=clV P v' as' s' K:=by rw [hc,hs,hx]
@[congr] theorem cpV_congr [Glob] {as as':List AV} (hc:v=v') (hx:as=as') (hs:s=s'):cpV P v as s K=cpV P v' as' s' K:=by rw [hc,hs,hx]
@[congr] theorem ACalls_congr [Glob] (f:FuncId) {as as':List AV} (hx:as=as') (hs:s=s'):ACalls P f as s K=ACalls P f as' s' K:=by rw [hs,hx]
end
section
variable (n off o sz bytes:Nat) (cs xs ys:List AV) (x y v:AV) (i j:Int) (k k':IntKind) (a b:Bool) (t t1:Tok) (str str':ByteArray) (f:FuncId) (as:List AV)
def ok (A X:Prop):Prop:=A∧X
@[congr] theorem ok_congr {A A' X:Prop} (h:A=A'):ok A X=ok A' X:=by rw [h]
@[simp] theorem ok_of {A X:Prop} (h:A):ok A X=X:=by simp [ok,h]
theorem ok_intro {A X:Prop} (h:A) (hx:go X):go (ok A X):=⟨h,hx⟩
def pcV [Glob] (P:Program) (f:FuncId) (as:List AV) (s:St) (K:KS):Prop:=∃ r,PureC P f as r∧K r s
@[congr] theorem pcV_congr [Glob] {P:Program} {f:FuncId} {as as':List AV} {s s':St} {K:KS} (ha:as=as') (hs:s=s'):pcV P f as s K=pcV P f as' s' K:=by rw [ha,hs]
theorem pcV_intro [Glob] {P:Program} {f:FuncId} {as:List AV} {s:St} {K:KS} {r:AV} (h:PureC P f as r) (hk:go (K r s)):go (pcV P f as s K):=⟨r,h,hk⟩
def oneK (cs:List AV) (s:St) (K:KS):Prop:=match cs with | x::_ => K x s | [] => False
@[congr] theorem oneK_congr {cs cs':List AV} (hc:cs=cs') (hs:s=s'):oneK cs s K=oneK cs' s' K:=by rw [hc,hs]
@[simp] theorem go_oneK_cons [Glob]  : go (oneK (x::cs) s K)=go (K x s):=rfl
@[simp] theorem go_ldV_ptr [Glob] (agg:Bool)  : go (ldV n agg (.ptr o off) s K)=go (ldO n agg off (s.m o) s K):=rfl
@[simp] theorem go_ldV_cptr [Glob] (agg:Bool)  : go (ldV n agg (.cptr cs) s K)=go (ldK n agg cs s K):=rfl
@[simp] theorem go_ldK_agg [Glob]  : go (ldK n true cs s K)=go (ok (n≤cs.length) (K (.agg (cs.take n)) s)):=rfl
theorem ldK_one:ldK n false cs s K=ok (n≤cs.length) (oneK cs s K):=by unfold ldK oneK;cases cs <;> rfl
@[simp] theorem go_ldK_one [Glob]  : go (ldK n false cs s K)=go (ok (n≤cs.length) (oneK cs s K)):=by rw [ldK_one]
@[simp] theorem go_ldO_agg [Glob]  : go (ldO n true off (some (.box cs)) s K)=go (ok (off+n≤cs.length) (K (.agg ((cs.drop off).take n)) s)):=rfl
theorem ldO_one:ldO n false off (some (.box cs)) s K=ok (off+n≤cs.length) (oneK (cs.drop off) s K):=by simp only [ldO,oneK,loadAV,Bool.false_eq_true,if_false];cases cs.drop off <;> rfl
@[simp] theorem go_ldO_one [Glob]  : go (ldO n false off (some (.box cs)) s K)=go (ok (off+n≤cs.length) (oneK (cs.drop off) s K)):=by rw [ldO_one]
@[simp] theorem go_stV_ptr [Glob]  : go (stV n (.ptr o off) x s K)=go (stO n o off x (s.m o) s K):=rfl
theorem stO_box:stO n o off x (some (.box cs)) s K=ok (x.isVal=true∧x.cells.length=n∧off+n≤cs.length) (K (.tup []) (s.set o (.box (cs.take off++x.cells++cs.drop (off+x.cells.length))))):=by simp only [stO,ok,storeAV,and_assoc]
@[simp] theorem go_stO_box [Glob]  : go (stO n o off x (some (.box cs)) s K)=go (ok (x.isVal=true∧x.cells.length=n∧off+n≤cs.length) (K (.tup []) (s.set o (.box (cs.take off++x.cells++cs.drop (off+x.cells.length)))))):=by rw [stO_box]
@[simp] theorem go_bxV_eq [Glob]  : go (bxV x s K)=go (ok (x.isVal=true) (K (.ptr s.nx 0) (s.new (.box x.cells)))):=rfl
theorem pkV_true:pkV (.bool true) x y s K=K x s:=by unfold pkV pickAV;cases x <;> cases y <;> rfl
@[simp] theorem go_pkV_true [Glob]  : go (pkV (.bool true) x y s K)=go (K x s):=by rw [pkV_true]
theorem pkV_false:pkV (.bool false) x y s K=K y s:=by unfold pkV pickAV;cases x <;> cases y <;> rfl
@[simp] theorem go_pkV_false [Glob]  : go (pkV (.bool false) x y s K)=go (K y s):=by rw [pkV_false]
@[simp] theorem go_bdV_eq [Glob] (zs:List AV) (ps:List (Nat × Nat × AV))  : go (bdV zs ps s K)=go (ok (∀ p∈ps,p.2.2.isVal=true∧p.2.2.cells.length=p.2.1∧p.1+p.2.1≤zs.length) (K (.agg (fillAV zs (ps.map fun p => (p.1,p.2.2)))) s)):=rfl
@[simp] theorem go_bsV_eq [Glob] (z:AV) (m:Nat) (ps:List (Nat × AV))  : go (bsV sz z m ps s K)=go (ok (∀ p∈ps,p.2.isVal=true∧p.2.cells.length=sz∧p.1 < m) (K (.list sz .full (ps.foldl (fun xs p => xs.set p.1 p.2) (List.replicate m z))) s)):=rfl
@[simp] theorem go_ncV_ptr [Glob]  : go (ncV (.ptr o off) s K)=go (K (.ptr o off) s):=rfl
@[simp] theorem go_ncV_cptr [Glob]  : go (ncV (.cptr cs) s K)=go (K (.cptr cs) s):=rfl
theorem bn_add:bnV .add (.int k i) (.int k j) s K=K (.int k (k.wrap (i+j))) s:=by simp [bnV,binSide,binAV]
@[simp] theorem go_bn_add [Glob]  : go (bnV .add (.int k i) (.int k j) s K)=go (K (.int k (k.wrap (i+j))) s):=by rw [bn_add]
theorem bn_sub:bnV .sub (.int k i) (.int k j) s K=K (.int k (k.wrap (i - j))) s:=by simp [bnV,binSide,binAV]
@[simp] theorem go_bn_sub [Glob]  : go (bnV .sub (.int k i) (.int k j) s K)=go (K (.int k (k.wrap (i - j))) s):=by rw [bn_sub]
theorem bn_mul:bnV .mul (.int k i) (.int k j) s K=K (.int k (k.wrap (i * j))) s:=by simp [bnV,binSide,binAV]
@[simp] theorem go_bn_mul [Glob]  : go (bnV .mul (.int k i) (.int k j) s K)=go (K (.int k (k.wrap (i * j))) s):=by rw [bn_mul]
theorem bn_quo:bnV .quo (.int k i) (.int k j) s K=ok (j≠0) (K (.int k (k.wrap (i.tdiv j))) s):=by simp [bnV,binSide,binAV,ok]
@[simp] theorem go_bn_quo [Glob]  : go (bnV .quo (.int k i) (.int k j) s K)=go (ok (j≠0) (K (.int k (k.wrap (i.tdiv j))) s)):=by rw [bn_quo]
theorem bn_rem:bnV .rem (.int k i) (.int k j) s K=ok (j≠0) (K (.int k (i.tmod j)) s):=by simp [bnV,binSide,binAV,ok]
@[simp] theorem go_bn_rem [Glob]  : go (bnV .rem (.int k i) (.int k j) s K)=go (ok (j≠0) (K (.int k (i.tmod j)) s)):=by rw [bn_rem]
theorem bn_eql:bnV .eql (.int k i) (.int k j) s K=K (.bool (decide (i=j))) s:=by simp [bnV,binSide,binAV]
@[simp] theorem go_bn_eql [Glob]  : go (bnV .eql (.int k i) (.int k j) s K)=go (K (.bool (decide (i=j))) s):=by rw [bn_eql]
theorem bn_neq:bnV .neq (.int k i) (.int k j) s K=K (.bool (!decide (i=j))) s:=by simp [bnV,binSide,binAV]
@[simp] theorem go_bn_neq [Glob]  : go (bnV .neq (.int k i) (.int k j) s K)=go (K (.bool (!decide (i=j))) s):=by rw [bn_neq]
theorem bn_lss:bnV .lss (.int k i) (.int k j) s K=K (.bool (decide (i < j))) s:=by simp [bnV,binSide,binAV]
@[simp] theorem go_bn_lss [Glob]  : go (bnV .lss (.int k i) (.int k j) s K)=go (K (.bool (decide (i < j))) s):=by rw [bn_lss]
theorem bn_leq:bnV .leq (.int k i) (.int k j) s K=K (.bool (decide (i≤j))) s:=by simp [bnV,binSide,binAV]
@[simp] theorem go_bn_leq [Glob]  : go (bnV .leq (.int k i) (.int k j) s K)=go (K (.bool (decide (i≤j))) s):=by rw [bn_leq]
theorem bn_gtr:bnV .gtr (.int k i) (.int k j) s K=K (.bool (decide (j < i))) s:=by simp [bnV,binSide,binAV]
@[simp] theorem go_bn_gtr [Glob]  : go (bnV .gtr (.int k i) (.int k j) s K)=go (K (.bool (decide (j < i))) s):=by rw [bn_gtr]
theorem bn_geq:bnV .geq (.int k i) (.int k j) s K=K (.bool (decide (j≤i))) s:=by simp [bnV,binSide,binAV]
@[simp] theorem go_bn_geq [Glob]  : go (bnV .geq (.int k i) (.int k j) s K)=go (K (.bool (decide (j≤i))) s):=by rw [bn_geq]
theorem bs_eql:bnV .eql (.str str) (.str str') s K=K (.bool (decide (str=str'))) s:=by simp [bnV,binSide,binAV]
@[simp] theorem go_bs_eql [Glob]  : go (bnV .eql (.str str) (.str str') s K)=go (K (.bool (decide (str=str'))) s):=by rw [bs_eql]
theorem bs_neq:bnV .neq (.str str) (.str str') s K=K (.bool (!decide (str=str'))) s:=by simp [bnV,binSide,binAV]
@[simp] theorem go_bs_neq [Glob]  : go (bnV .neq (.str str) (.str str') s K)=go (K (.bool (!decide (str=str'))) s):=by rw [bs_neq]
theorem eaV_t [Glob] (m:Nat) (a b:List Bool):eaV true m (.agg (a.map .bool)) (.agg (b.map .bool)) s K=ok (a.length=m∧b.length=m) (K (.bool (!decide (a=b))) s):=by simp [eaV,ok,and_assoc]
@[simp] theorem go_eaV_t [Glob] (m:Nat) (a b:List Bool)  : go (eaV true m (.agg (a.map .bool)) (.agg (b.map .bool)) s K)=go (ok (a.length=m∧b.length=m) (K (.bool (!decide (a=b))) s)):=by rw [eaV_t]
@[simp] theorem inV_list (n:Bool) (sz:Nat) (t:Tok) (xs:List AV):go (inV n (.list sz t xs) s K)=∀ b:Bool,(xs≠[]→b=n)→go (K (.bool b) s):=rfl
@[simp] theorem go_eqV_t [Glob]  : go (eqV true (.bool a) (.bool b) s K)=go (K (.bool (!decide (a=b))) s):=rfl
@[simp] theorem go_unV_not [Glob]  : go (unV .not (.bool a) s K)=go (K (.bool (!a)) s):=rfl
@[simp] theorem go_cvV_eq [Glob]  : go (cvV k (.int k' i) s K)=go (K (.int k (k.wrap i)) s):=rfl
@[simp] theorem go_faV_ptr [Glob]  : go (faV n (.ptr o off) s K)=go (K (.ptr o (off+n)) s):=rfl
@[simp] theorem go_faV_cptr [Glob]  : go (faV n (.cptr cs) s K)=go (ok (n < cs.length) (K (.cptr (cs.drop n)) s)):=rfl
theorem fdV_one:fdV off n false (.agg cs) s K=ok (off+n≤cs.length) (oneK (cs.drop off) s K):=by simp only [fdV,oneK,loadAV,Bool.false_eq_true,if_false];cases cs.drop off <;> rfl
@[simp] theorem go_fdV_one [Glob]  : go (fdV off n false (.agg cs) s K)=go (ok (off+n≤cs.length) (oneK (cs.drop off) s K)):=by rw [fdV_one]
@[simp] theorem go_iaV_list [Glob] (sz':Nat)  : go (iaV sz (.list sz' t xs) (.int k i) s K)=go (ok (sz'=sz∧0≤i∧i < xs.length) (K (.cptr (xs.getD i.toNat .any).cells) s)):=rfl
@[simp] theorem go_isV_eq [Glob]  : go (isV (.str str) (.int k i) s K)=go (ok (0≤i∧i < str.size) (K (.int .u8 ((str.data.toList.getD i.toNat 0).toNat)) s)):=rfl
@[simp] theorem go_exV_zero [Glob]  : go (exV 0 (.tup (x::cs)) s K)=go (K x s):=rfl
@[simp] theorem go_exV_succ [Glob]  : go (exV (n+1) (.tup (x::cs)) s K)=go (exV n (.tup cs) s K):=rfl
@[simp] theorem go_lnV_eq [Glob]  : go (lnV (.list sz t xs) s K)=go (K (.int .i64 xs.length) s):=rfl
@[simp] theorem go_lsV_eq [Glob]  : go (lsV (.str str) s K)=go (K (.int .i64 str.size) s):=rfl
@[simp] theorem apS_eq (sz0 sz1:Nat):apS sz bytes sz0 t xs sz1 ys=((sz0=sz∨(xs=[]∧t=.full))∧(sz1=sz∨ys=[])∧(xs.length+ys.length) * bytes≤140737488355328∧xs.length+ys.length≤9223372036854775807):=rfl
@[simp] theorem go_apV_full [Glob] (sz0 sz1:Nat)  : go (apV sz bytes (.list sz0 .full xs) (.list sz1 t ys) s K)=go (ok (apS sz bytes sz0 .full xs sz1 ys) (K (.list sz (.own s.nx) (xs++ys)) (s.new (.spare ((xs.length+ys.length) * sz))))):=rfl
@[simp] theorem go_apV_own [Glob] (sz0 sz1:Nat)  : go (apV sz bytes (.list sz0 (.own o) xs) (.list sz1 t ys) s K)=go (ok (apS sz bytes sz0 (.own o) xs sz1 ys) (apO sz o xs ys (s.m o) s K)):=rfl
@[simp] theorem go_apO_eq [Glob] (m:Nat)  : go (apO sz o xs ys (some (.spare m)) s K)=go (ok (m=xs.length * sz) (K (.list sz (.own s.nx) (xs++ys)) ((s.del o).new (.spare ((xs.length+ys.length) * sz))))):=rfl
@[simp] theorem go_mxV_eq [Glob]  : go (mxV (.int k i) (.int k' j) s K)=go (ok (k=k') (K (.int k (if i < j then j else i)) s)):=rfl
@[simp] theorem go_saV_cptr [Glob] (m:Nat) (k:IntKind) (h:Int) (cs:List AV)  : go (saV m (.cptr cs) (.int k h) s K)=go (ok ((0 < m∧m≤cs.length)∧(0≤h∧h≤m)∧∀ y∈cs.take m,y.cells=[y]) (K (.list 1 .none ((cs.take m).take h.toNat)) s)):=rfl
@[simp] theorem go_aaV_cptr [Glob] (m1 m2:Nat) (k:IntKind) (h:Int) (cs:List AV)  : go (aaV m1 m2 (.cptr cs) (.int k h) s K)=go (ok (0≤h∧h < m2) (K (.cptr (cs.drop (h.toNat * m1))) s)):=rfl
@[simp] theorem go_aaV_ptr [Glob] (m1 m2 o off:Nat) (k:IntKind) (h:Int)  : go (aaV m1 m2 (.ptr o off) (.int k h) s K)=go (ok (0≤h∧h < m2) (K (.ptr o (off+h.toNat * m1)) s)):=rfl
@[simp] theorem go_clV_yld [Glob] (o:Nat)  : go (clV P (.yld o) as s K)=go (AYields P o as s K):=rfl
@[simp] theorem go_clV_fn [Glob]  : go (clV P (.fn f xs ys) as s K)=go (ACalls P f (xs++as++ys) s K):=rfl
@[simp] theorem go_cpV_fn [Glob]  : go (cpV P (.fn f xs ys) as s K)=go (pcV P f (xs++as++ys) s K):=rfl
@[simp] theorem go_iaV_mref [Glob] (sz' m:Nat)  : go (iaV sz (.mref sz' o off m) (.int k i) s K)=go (ok (sz'=sz∧0≤i∧i < m) (K (.ptr o ((off+i.toNat) * sz)) s)):=rfl
@[simp] theorem go_lnV_mref [Glob] (m:Nat)  : go (lnV (.mref sz o off m) s K)=go (K (.int .i64 m) s):=rfl
@[simp] theorem apV_mref (sz0 sz1 m:Nat) (ys:List AV):apV sz bytes (.mref sz0 o off m) (.list sz1 t ys) s K =
  ok (sz0=sz∧off=0∧(sz1=sz∨ys=[])∧(m+ys.length) * bytes≤140737488355328∧m+ys.length≤9223372036854775807) (amO sz m ys (s.m o) s (s.del o) K):=rfl
@[simp] theorem go_amO_eq [Glob] (m:Nat) (ys:List AV) (s1:St)  : go (amO sz m ys (some (.box cs)) s s1 K)=go (ok (cs.length=m * sz) (K (.mref sz s.nx 0 (m+ys.length)) (s1.new (.box (cs++flat ys))))):=rfl
section
variable {str cc' agg':Bool} {zs':List AV} {es es':List (Nat × AV × AV)} {r':Option (Option Nat)} {kk kk' mm mm':AV} {q' since last clock:Nat} {seen seen':List Nat} {oo oo':Nat} {ob1 ob2:Option AObj} {s1 s2:St}
@[congr] theorem lkC_congr {r1 r2:Option (Option AV)} (hr:r1=r2) (hs:s1=s2):lkC cc' zs' agg' r1 s1 K=lkC cc' zs' agg' r2 s2 K:=by rw [hr,hs]
@[congr] theorem lkR_congr {r1 r2:Option (Option Nat)} (he:es=es') (hr:r1=r2) (hs:s1=s2):lkR cc' zs' agg' es r1 s1 K=lkR cc' zs' agg' es' r2 s2 K:=by rw [he,hr,hs]
@[congr] theorem lkO_congr (hk:kk=kk') (ho:ob1=ob2) (hs:s1=s2):lkO cc' zs' agg' kk ob1 s1 K=lkO cc' zs' agg' kk' ob2 s2 K:=by rw [hk,ho,hs]
@[congr] theorem lkV_congr (hm:mm=mm') (hk:kk=kk') (hs:s1=s2):lkV str cc' zs' agg' mm kk s1 K=lkV str cc' zs' agg' mm' kk' s2 K:=by rw [hm,hk,hs]
@[congr] theorem upR_congr {x1 x2:AV} {r1 r2:Option (Option Nat)} (ho:oo=oo') (he:es=es') (hk:kk=kk') (hx:x1=x2) (hr:r1=r2) (hs:s1=s2):upR oo es clock kk x1 r1 s1 K=upR oo' es' clock kk' x2 r2 s2 K:=by rw [ho,he,hk,hx,hr,hs]
@[congr] theorem upO_congr {x1 x2:AV} (ho:oo=oo') (hk:kk=kk') (hx:x1=x2) (hb:ob1=ob2) (hs:s1=s2):upO oo kk x1 ob1 s1 K=upO oo' kk' x2 ob2 s2 K:=by rw [ho,hk,hx,hb,hs]
@[congr] theorem upV_congr {x1 x2:AV} (hm:mm=mm') (hk:kk=kk') (hx:x1=x2) (hs:s1=s2):upV str mm kk x1 s1 K=upV str mm' kk' x2 s2 K:=by rw [hm,hk,hx,hs]
@[congr] theorem dlR_congr {r1 r2:Option (Option Nat)} (ho:oo=oo') (he:es=es') (hr:r1=r2) (hs:s1=s2):dlR oo es clock r1 s1 K=dlR oo' es' clock r2 s2 K:=by rw [ho,he,hr,hs]
@[congr] theorem dlO_congr (ho:oo=oo') (hk:kk=kk') (hb:ob1=ob2) (hs:s1=s2):dlO oo kk ob1 s1 K=dlO oo' kk' ob2 s2 K:=by rw [ho,hk,hb,hs]
@[congr] theorem dlV_congr (hm:mm=mm') (hk:kk=kk') (hs:s1=s2):dlV str mm kk s1 K=dlV str mm' kk' s2 K:=by rw [hm,hk,hs]
@[congr] theorem lmO_congr (hb:ob1=ob2) (hs:s1=s2):lmO ob1 s1 K=lmO ob2 s2 K:=by rw [hb,hs]
@[congr] theorem lmV_congr (hm:mm=mm') (hs:s1=s2):lmV mm s1 K=lmV mm' s2 K:=by rw [hm,hs]
@[congr] theorem rgO_congr (ho:oo=oo') (hb:ob1=ob2) (hs:s1=s2):rgO oo ob1 s1 K=rgO oo' ob2 s2 K:=by rw [ho,hb,hs]
@[congr] theorem rgV_congr (hm:mm=mm') (hs:s1=s2):rgV mm s1 K=rgV mm' s2 K:=by rw [hm,hs]
@[congr] theorem nxM_congr (ho:oo=oo') (hse:seen=seen') (hb:ob1=ob2) (hs:s1=s2):nxM q' oo since seen last ob1 s1 K=nxM q' oo' since seen' last ob2 s2 K:=by rw [ho,hse,hb,hs]
@[congr] theorem nxO_congr {q1 q2:Nat} (hq:q1=q2) (hb:ob1=ob2) (hs:s1=s2):nxO q1 ob1 s1 K=nxO q2 ob2 s2 K:=by rw [hq,hb,hs]
@[congr] theorem nxV_congr (hm:mm=mm') (hs:s1=s2):nxV mm s1 K=nxV mm' s2 K:=by rw [hm,hs]
@[congr] theorem enM_congr (hse:seen=seen') (hb:ob1=ob2) (hs:s1=s2):enM seen last ob1 s1 K=enM seen' last ob2 s2 K:=by rw [hse,hb,hs]
@[congr] theorem enO_congr (hb:ob1=ob2) (hs:s1=s2):enO ob1 s1 K=enO ob2 s2 K:=by rw [hb,hs]
@[congr] theorem enV_congr (hm:mm=mm') (hs:s1=s2):enV mm s1 K=enV mm' s2 K:=by rw [hm,hs]
@[congr] theorem msV_congr {sz0 by0:Nat} {x1 x2 y1 y2:AV} (hx:x1=x2) (hy:y1=y2) (hs:s1=s2):msV sz0 by0 zs' x1 y1 s1 K=msV sz0 by0 zs' x2 y2 s2 K:=by rw [hx,hy,hs]
@[simp] theorem keyOK_int (n:Int):keyOK false (.int .i64 n)=True:=by simp [keyOK]
@[simp] theorem keyOK_str (b:ByteArray):keyOK true (.str b)=True:=by simp [keyOK]
@[simp] theorem go_lkV_map [Glob]  : go (lkV str cc' zs' agg' (.map oo) kk s1 K)=go (ok (keyOK str kk) (lkO cc' zs' agg' kk (s1.m oo) s1 K)):=rfl
@[simp] theorem go_lkV_nil [Glob]  : go (lkV str cc' zs' agg' .nilmap kk s1 K)=go (ok (keyOK str kk) (K (lookAV cc' zs' agg' none) s1)):=rfl
@[simp] theorem go_lkV_cmap [Glob] (es:List (Value × Value))  : go (lkV str cc' zs' agg' (.cmap es) kk s1 K)=go (ok (keyOK str kk) (lkC cc' zs' agg' (cfind kk es) s1 K)):=rfl
@[simp] theorem go_lkV_kmap [Glob] (es:List (AV × AV))  : go (lkV str cc' zs' agg' (.kmap es) kk s1 K)=go (ok (keyOK str kk) (lkC cc' zs' agg' (kfind kk es) s1 K)):=rfl
@[simp] theorem go_lkC_some [Glob] (r:Option AV)  : go (lkC cc' zs' agg' (some r) s1 K)=go (K (lookAV cc' zs' agg' r) s1):=rfl
theorem lkO_map:lkO cc' zs' agg' kk (some (.map es clock)) s1 K=lkR cc' zs' agg' es (mfind kk es 0) s1 K:=rfl
@[simp] theorem go_lkO_map [Glob]  : go (lkO cc' zs' agg' kk (some (.map es clock)) s1 K)=go (lkR cc' zs' agg' es (mfind kk es 0) s1 K):=by rw [lkO_map]
@[simp] theorem go_upV_map [Glob] (x:AV)  : go (upV str (.map oo) kk x s1 K)=go (ok (keyOK str kk) (upO oo kk x (s1.m oo) s1 K)):=rfl
theorem upO_map (x:AV):upO oo kk x (some (.map es clock)) s1 K=upR oo es clock kk x (mfind kk es 0) s1 K:=rfl
@[simp] theorem go_upO_map [Glob] (x:AV)  : go (upO oo kk x (some (.map es clock)) s1 K)=go (upR oo es clock kk x (mfind kk es 0) s1 K):=by rw [upO_map]
theorem upR_none (x:AV):upR oo es clock kk x (some none) s1 K=K (.tup []) (s1.set oo (.map (es++[(clock,kk,x)]) (clock+1))):=rfl
@[simp] theorem go_upR_none [Glob] (x:AV)  : go (upR oo es clock kk x (some none) s1 K)=go (K (.tup []) (s1.set oo (.map (es++[(clock,kk,x)]) (clock+1)))):=by rw [upR_none]
@[simp] theorem go_upR_some [Glob] (x:AV) (i:Nat)  : go (upR oo es clock kk x (some (some i)) s1 K)=go (K (.tup []) (s1.set oo (.map (es.modify i fun e => (e.1,kk,x)) clock))):=rfl
@[simp] theorem go_rgV_map [Glob]  : go (rgV (.map oo) s1 K)=go (rgO oo (s1.m oo) s1 K):=rfl
@[simp] theorem go_rgO_map [Glob]  : go (rgO oo (some (.map es clock)) s1 K)=go (K (.ptr s1.nx 0) (s1.new (.iter (some oo) clock [] clock))):=rfl
@[simp] theorem go_nxV_ptr [Glob]  : go (nxV (.ptr q' 0) s1 K)=go (nxO q' (s1.m q') s1 K):=rfl
@[simp] theorem go_nxO_some [Glob]  : go (nxO q' (some (.iter (some oo) since seen last)) s1 K)=go (nxM q' oo since seen last (s1.m oo) s1 K):=rfl
@[simp] theorem go_enV_ptr [Glob]  : go (enV (.ptr q' 0) s1 K)=go (enO (s1.m q') s1 K):=rfl
@[simp] theorem go_enO_some [Glob]  : go (enO (some (.iter (some oo) since seen last)) s1 K)=go (enM seen last (s1.m oo) s1 K):=rfl
@[simp] theorem go_msV_eq [Glob] {sz0 by0:Nat} {n0 m0:Int} {k1 k2:IntKind}  : go (msV sz0 by0 zs' (.int k1 n0) (.int k2 m0) s1 K)=go (ok (n0=m0∧0≤n0∧n0.toNat * by0≤140737488355328∧n0≤9223372036854775807) (K (.mref sz0 s1.nx 0 n0.toNat) (s1.new (.box (List.replicate n0.toNat zs').flatten)))):=rfl
theorem nx_intro (hc:seen=[]∨es=[]∨∃ e∈es,e.1 < last) (he:(∀ e∈es,e.1 < since→e.1∈seen)→go (K (.tup [.bool false]) s1))
  (hn:∀ e∈es,e.1 ∉ seen→go (K (.tup [.bool true,e.2.1,e.2.2]) (s1.set q' (.iter (some oo) since (seen++[e.1]) clock)))):go (nxM q' oo since seen last (some (.map es clock)) s1 K):=⟨hc,he,hn⟩
theorem en_intro {st:Nat} {e:Nat × AV × AV} (hs:seen.getLast?=some st) (hc:clock=last) (hf:(es.find? fun e => e.1 == st)=some e) (hk:go (K (.tup [e.2.1,e.2.2]) s1)):go (enM seen last (some (.map es clock)) s1 K):=by
 show enM _ _ _ _ _
 simp only [enM,hs,hf]
 exact ⟨hc,hk⟩
end
def slS (sz:Nat) (v:AV) (lo hi mx:Option (Option Int)):Option (Prop × AV) :=
 match v,lo,hi,mx with
 | .list sz0 t xs,some lo,some hi,some mx =>
  some ((sz0=sz∨xs=[])∧(match lo with | some l => 0≤l∧l≤(match hi with | some h => h | none => xs.length) | none => True) ∧
   (match hi with | some h => 0≤h∧h≤xs.length∧(match mx with | some m => m=h | none => True) | none => mx=none),
   .list sz0 (match mx,hi with | some m,some h => if m=h then .full else .none | none,none => t.keep | _,_ => .none)
                 ((xs.take (match hi with | some h => h.toNat | none => xs.length)).drop (match lo with | some l => l.toNat | none => 0)))
 | _,_,_,_ => none
def slV (sz:Nat) (v:AV) (lo hi mx:Option AV) (s:St) (K:KS):Prop :=
 match slS sz v (optInt lo) (optInt hi) (optInt mx) with
 | some (p,r) => p∧K r s
 | none => False
end
section
variable {s:St} {K:KS} {sz:Nat} {t:Tok} {xs:List AV} {h i:Int} {k k':IntKind}
@[congr] theorem slV_congr {v v':AV} {a a' b b' c c':Option AV} {s':St} (h1:v=v') (h2:a=a') (h3:b=b') (h4:c=c') (hs:s=s'):slV sz v a b c s K=slV sz v' a' b' c' s' K:=by rw [h1,h2,h3,h4,hs]
theorem slV_hi (sz0:Nat):slV sz (.list sz0 t xs) none (some (.int k h)) none s K=ok ((sz0=sz∨xs=[])∧0≤h∧h≤xs.length) (K (.list sz0 .none (xs.take h.toNat)) s):=by simp [slV,slS,optInt,and_assoc,ok]
@[simp] theorem go_slV_hi [Glob] (sz0:Nat)  : go (slV sz (.list sz0 t xs) none (some (.int k h)) none s K)=go (ok ((sz0=sz∨xs=[])∧0≤h∧h≤xs.length) (K (.list sz0 .none (xs.take h.toNat)) s)):=by rw [slV_hi]
theorem slV_lo (sz0:Nat):slV sz (.list sz0 t xs) (some (.int k i)) none none s K=ok ((sz0=sz∨xs=[])∧0≤i∧i≤xs.length) (K (.list sz0 t.keep (xs.drop i.toNat)) s):=by simp [slV,slS,optInt,and_assoc,ok]
@[simp] theorem go_slV_lo [Glob] (sz0:Nat)  : go (slV sz (.list sz0 t xs) (some (.int k i)) none none s K)=go (ok ((sz0=sz∨xs=[])∧0≤i∧i≤xs.length) (K (.list sz0 t.keep (xs.drop i.toNat)) s)):=by rw [slV_lo]
@[simp] theorem keep_none:Tok.keep .none=.none:=rfl
theorem step_slice [Glob] {P:Program} {g l:Env} (x:AOpd) (lo hi mx:Option AOpd):AOp.step P (.slice sz x lo hi mx) g l s K=slV sz (x.val g l) (lo.map (AOpd.val g l)) (hi.map (AOpd.val g l)) (mx.map (AOpd.val g l)) s K:=by
 simp only [AOp.step,AOp.stepP,AOp.touch,AOp.ev,AOp.side,St.app2,slV,slS]
 cases x.val g l <;> try rfl
 cases optInt (lo.map (AOpd.val g l)) <;> try rfl
 cases optInt (hi.map (AOpd.val g l)) <;> try rfl
 cases optInt (mx.map (AOpd.val g l)) <;> rfl
@[simp] theorem go_step_slice [Glob] {P:Program} {g l:Env} (x:AOpd) (lo hi mx:Option AOpd)  : go (AOp.step P (.slice sz x lo hi mx) g l s K)=go (slV sz (x.val g l) (lo.map (AOpd.val g l)) (hi.map (AOpd.val g l)) (mx.map (AOpd.val g l)) s K):=by rw [step_slice]
end
section
end
@[simp] theorem go_setDst_g [Glob] (t:Nat) (v:AV) (g l:Env) (K:Env→Env→Prop)  : go (setDst (some (true,t)) v g l K)=go (K ((t,v)::g) l):=rfl
@[simp] theorem go_setDst_l [Glob] (t:Nat) (v:AV) (g l:Env) (K:Env→Env→Prop)  : go (setDst (some (false,t)) v g l K)=go (K g ((t,v)::l)):=rfl
def gdV (v:AV) (gl:Bool) (t:Nat) (want:Bool) (g l:Env) (run skip:Env→Env→Prop):Prop :=
 match v with
 | .bool b => (b=want→envSet (gl,t) (.bool want) g l run)∧(b=!want→envSet (gl,t) (.bool !want) g l skip)
 | .tup [] => skip g l
 | _ => False
@[congr] theorem gdV_congr {v v':AV} {gl:Bool} {t:Nat} {want:Bool} {a b:Env→Env→Prop} (hv:v=v') (hg:g=g') (hl:l=l'):gdV v gl t want g l a b=gdV v' gl t want g' l' a b:=by rw [hv,hg,hl]
section
variable (t:Nat) (b:Bool) (run skip:Env→Env→Prop)
theorem gdV_gt:gdV (.bool b) true t true g l run skip=((b=true→run ((t,.bool true)::g) l)∧(b=false→skip ((t,.bool false)::g) l)):=by simp [gdV,envSet]
@[simp low] theorem go_gdV_gt [Glob]  : go (gdV (.bool b) true t true g l run skip)=((b=true→go (run ((t,.bool true)::g) l))∧(b=false→go (skip ((t,.bool false)::g) l))):=by rw [gdV_gt];rfl
theorem gdV_gf:gdV (.bool b) true t false g l run skip=((b=false→run ((t,.bool false)::g) l)∧(b=true→skip ((t,.bool true)::g) l)):=by simp [gdV,envSet]
@[simp low] theorem go_gdV_gf [Glob]  : go (gdV (.bool b) true t false g l run skip)=((b=false→go (run ((t,.bool false)::g) l))∧(b=true→go (skip ((t,.bool true)::g) l))):=by rw [gdV_gf];rfl
theorem gdV_lt:gdV (.bool b) false t true g l run skip=((b=true→run g ((t,.bool true)::l))∧(b=false→skip g ((t,.bool false)::l))):=by simp [gdV,envSet]
@[simp low] theorem go_gdV_lt [Glob]  : go (gdV (.bool b) false t true g l run skip)=((b=true→go (run g ((t,.bool true)::l)))∧(b=false→go (skip g ((t,.bool false)::l)))):=by rw [gdV_lt];rfl
theorem gdV_lf:gdV (.bool b) false t false g l run skip=((b=false→run g ((t,.bool false)::l))∧(b=true→skip g ((t,.bool true)::l))):=by simp [gdV,envSet]
@[simp low] theorem go_gdV_lf [Glob]  : go (gdV (.bool b) false t false g l run skip)=((b=false→go (run g ((t,.bool false)::l)))∧(b=true→go (skip g ((t,.bool true)::l)))):=by rw [gdV_lf];rfl
end
def regQ (Q:AExit→Env→St→Prop) (g:Env) (_:Env) (s:St):Prop:=Q .normal g s
def seqQ [Glob] (P:Program) (b:ACode) (Q:AExit→Env→St→Prop) (e:AExit) (g:Env) (s:St):Prop:=match e with | .normal => awp P b Q g s | e => Q e g s
def blockQ (id:Nat) (Q:AExit→Env→St→Prop) (e:AExit) (g:Env) (s:St):Prop:=match e with | .exit i => if i=id then Q .normal g s else Q (.exit i) g s | e => Q e g s
def loopQ (n:Nat) (I:Nat→Env→St→Prop) (Q:AExit→Env→St→Prop) (e:AExit) (g:Env) (s:St):Prop:=match e with | .normal => ∃ m,m < n∧I m g s | e => Q e g s
def retV (vs:Option (List AV)) (s:St) (K:KS):Prop:=match vs with | some vs => K (oneOf vs) s | none => False
def finQ (rs:List ARes) (K:KS) (e:AExit) (g:Env) (s:St):Prop:=match e with | .exit _ => False | _ => retV (resVals rs g s) s K
def cdV [Glob] (P:Program) (v:AV) (a b:ACode) (Q:AExit→Env→St→Prop) (g:Env) (s:St):Prop:=match v with | .bool t => (t=true→awp P a Q g s)∧(t=false→awp P b Q g s) | _ => False
def sufQ [Glob] (P:Program) (suf:List AOper) (Q:AExit→Env→St→Prop) (g l:Env) (s:St):Prop:=aops P suf (regQ Q) g l s
@[congr] theorem sufQ_congr [Glob] {suf:List AOper} {Q:AExit→Env→St→Prop} {l':Env} (hg:g=g') (hl:l=l') (hs:s=s'):sufQ P suf Q g l s=sufQ P suf Q g' l' s':=by rw [hg,hl,hs]
def frO (t:Nat) (off:Nat) (ob:Option AObj) (Q:AExit→Env→St→Prop) (g:Env) (s:St):Prop:=match ob with | some (.box cs) => Q .normal ((t,.cptr (cs.drop off))::g) s | _ => False
def frV (t:Nat) (v:AV) (Q:AExit→Env→St→Prop) (g:Env) (s:St):Prop:=match v with | .ptr o off => frO t off (s.m o) Q g (s.del o) | _ => False
def lateC [Glob] (P:Program) (gl:Bool) (dc:Option (Bool × Nat)) (t:Nat) (zs:List AV) (X:Nat) (suf:List AOper) (Q:AExit→Env→St→Prop) (g l:Env) (v:AV) (s':St):Prop :=
 s'.m X=some (.box zs)∧setDst dc v g l fun g1 l1 => setDst (some (gl,t)) (.ptr X 0) g1 l1 fun g2 l2 => aops P suf (regQ Q) g2 l2 s'
@[congr] theorem lateC_congr [Glob] {gl:Bool} {dc:Option (Bool × Nat)} {t:Nat} {zs:List AV} {X X':Nat} {suf:List AOper} {Q:AExit→Env→St→Prop} {l':Env} {v v':AV} (hx:X=X') (hg:g=g') (hl:l=l') (hv:v=v') (hs:s=s'):lateC P gl dc t zs X suf Q g l v s=lateC P gl dc t zs X' suf Q g' l' v' s':=by rw [hx,hg,hl,hv,hs]
def lateQ [Glob] (P:Program) (gl:Bool) (op:AOp) (dc:Option (Bool × Nat)) (t:Nat) (zs:List AV) (X:Nat) (suf:List AOper) (Q:AExit→Env→St→Prop) (g l:Env) (s:St):Prop:=op.step P g l s (lateC P gl dc t zs X suf Q g l)
@[congr] theorem lateQ_congr [Glob] {gl:Bool} {op:AOp} {dc:Option (Bool × Nat)} {t:Nat} {zs:List AV} {X X':Nat} {suf:List AOper} {Q:AExit→Env→St→Prop} {l':Env} (hx:X=X') (hg:g=g') (hl:l=l') (hs:s=s'):lateQ P gl op dc t zs X suf Q g l s=lateQ P gl op dc t zs X' suf Q g' l' s':=by rw [hx,hg,hl,hs]
def sameO (t:Option Nat) (s' s2:St):Prop:=match t with | some q => s2.m q=s'.m q | none => True
def floatC [Glob] (P:Program) (fr:List AOp) (dc:Option (Bool × Nat)) (k:Nat) (post suf:List AOper) (Q:AExit→Env→St→Prop) (g l:Env) (s':St) (v:AV) (s2:St):Prop :=
 frs g l s' s2 fr∧setDst dc v g l fun g1 l1 => aopsD P (k+1) [] post (sufQ P suf Q) g1 l1 s2
@[congr] theorem floatC_congr [Glob] {fr:List AOp} {dc:Option (Bool × Nat)} {k:Nat} {post suf:List AOper} {Q:AExit→Env→St→Prop} {l':Env} {v v':AV} {s0 s0':St} (hg:g=g') (hl:l=l') (h0:s0=s0') (hv:v=v') (hs:s=s'):floatC P fr dc k post suf Q g l s0 v s=floatC P fr dc k post suf Q g' l' s0' v' s':=by rw [hg,hl,h0,hv,hs]
def floatQ [Glob] (P:Program) (fr:List AOp) (op:AOp) (dc:Option (Bool × Nat)) (k:Nat) (post suf:List AOper) (Q:AExit→Env→St→Prop) (g l:Env) (s:St):Prop:=op.step P g l s (floatC P fr dc k post suf Q g l s)
@[congr] theorem floatQ_congr [Glob] {fr:List AOp} {op:AOp} {dc:Option (Bool × Nat)} {k:Nat} {post suf:List AOper} {Q:AExit→Env→St→Prop} {l':Env} (hg:g=g') (hl:l=l') (hs:s=s'):floatQ P fr op dc k post suf Q g l s=floatQ P fr op dc k post suf Q g' l' s':=by rw [hg,hl,hs]
def bodyQ (o:Nat) (env:Env) (ps:List Nat) (n:Nat) (ca cb:Code) (K:KS) (e:AExit) (g:Env) (s:St):Prop:=endR o env ps n ca cb K e s
def asgQ [Glob] (P:Program) (o:Nat) (env:Env) (ps:List Nat) (n:Nat) (ca cb:Code) (bd:ACode) (K:KS) (e:AExit) (g:Env) (s:St):Prop:=begR o env ps n ca cb (fun g s => awp P bd (bodyQ o env ps n ca cb K) g s) e g s
@[congr] theorem bodyQ_congr {o:Nat} {env:Env} {ps:List Nat} {n:Nat} {ca cb:Code} {K:KS} {e:AExit} (hg:g=g') (hs:s=s'):bodyQ o env ps n ca cb K e g s=bodyQ o env ps n ca cb K e g' s':=by rw [hg,hs]
@[congr] theorem asgQ_congr [Glob] {o:Nat} {env:Env} {ps:List Nat} {n:Nat} {ca cb:Code} {bd:ACode} {K:KS} {e:AExit} (hg:g=g') (hs:s=s'):asgQ P o env ps n ca cb bd K e g s=asgQ P o env ps n ca cb bd K e g' s':=by rw [hg,hs]
@[congr] theorem frO_congr {t off off':Nat} {ob ob':Option AObj} {Q:AExit→Env→St→Prop} (ho:off=off') (hb:ob=ob') (hg:g=g') (hs:s=s'):frO t off ob Q g s=frO t off' ob' Q g' s':=by rw [ho,hb,hg,hs]
@[congr] theorem frV_congr {t:Nat} {v v':AV} {Q:AExit→Env→St→Prop} (hv:v=v') (hg:g=g') (hs:s=s'):frV t v Q g s=frV t v' Q g' s':=by rw [hv,hg,hs]
@[congr] theorem regQ_congr {Q:AExit→Env→St→Prop} (hg:g=g') (hs:s=s'):regQ Q g l s=regQ Q g' l s':=by rw [hg,hs]
@[congr] theorem seqQ_congr [Glob] {b:ACode} {Q:AExit→Env→St→Prop} {e:AExit} (hg:g=g') (hs:s=s'):seqQ P b Q e g s=seqQ P b Q e g' s':=by rw [hg,hs]
@[congr] theorem blockQ_congr {n:Nat} {Q:AExit→Env→St→Prop} {e:AExit} (hg:g=g') (hs:s=s'):blockQ n Q e g s=blockQ n Q e g' s':=by rw [hg,hs]
@[congr] theorem loopQ_congr {n:Nat} {I:Nat→Env→St→Prop} {Q:AExit→Env→St→Prop} {e:AExit} (hg:g=g') (hs:s=s'):loopQ n I Q e g s=loopQ n I Q e g' s':=by rw [hg,hs]
@[congr] theorem retV_congr {v v':Option (List AV)} (hv:v=v') (hs:s=s'):retV v s K=retV v' s' K:=by rw [hv,hs]
@[congr] theorem finQ_congr {rs:List ARes} {e:AExit} (hg:g=g') (hs:s=s'):finQ rs K e g s=finQ rs K e g' s':=by rw [hg,hs]
@[congr] theorem cdV_congr [Glob] {v v':AV} {a b:ACode} {Q:AExit→Env→St→Prop} (hv:v=v') (hg:g=g') (hs:s=s'):cdV P v a b Q g s=cdV P v' a b Q g' s':=by rw [hv,hg,hs]
section
variable (Q:AExit→Env→St→Prop) (a b:ACode) (id i:Nat)
@[simp] theorem go_awp_skip [Glob]  : go (awp P .skip Q g s)=go (Q .normal g s):=rfl
@[simp] theorem go_awp_reg [Glob] (os:List AOper)  : go (awp P (.reg false os) Q g s)=go (aops P os (regQ Q) g [] s):=rfl
@[simp] theorem go_awp_regD [Glob] (os:List AOper)  : go (awp P (.reg true os) Q g s)=go (aopsD P 0 [] os (regQ Q) g [] s):=rfl
@[simp] theorem go_awp_reg2 [Glob] (pre suf:List AOper)  : go (awp P (.reg2 pre suf) Q g s)=go (aopsD P 0 [] pre (sufQ P suf Q) g [] s):=rfl
@[simp] theorem go_sufQ_eq [Glob] (suf:List AOper)  : go (sufQ P suf Q g l s)=go (aops P suf (regQ Q) g l s):=rfl
@[simp] theorem go_awp_reg3 [Glob] (pre suf:List AOper) (zs:List AV) (gl:Bool) (t:Nat) (c:AOper)  : go (awp P (.reg3 pre zs gl t c suf) Q g s)=go (aopsD P 0 [] pre (lateQ P gl c.op c.dst t zs s.nx suf Q) (clrE gl t g) [] (s.new (.box zs))):=rfl
@[simp] theorem clrE_true (t:Nat) (g:Env):clrE true t g=(t,.any)::g:=rfl
@[simp] theorem go_lateQ_eq [Glob] (gl:Bool) (op:AOp) (dc:Option (Bool × Nat)) (t:Nat) (zs:List AV) (X:Nat) (suf:List AOper)  : go (lateQ P gl op dc t zs X suf Q g l s)=go (AOp.step P op g l s (lateC P gl dc t zs X suf Q g l)):=rfl
@[simp] theorem go_lateC_eq [Glob] (gl:Bool) (dc:Option (Bool × Nat)) (t:Nat) (zs:List AV) (X:Nat) (suf:List AOper) (v:AV)  : go (lateC P gl dc t zs X suf Q g l v s)=go (ok (s.m X=some (.box zs)) (setDst dc v g l fun g1 l1 => setDst (some (gl,t)) (.ptr X 0) g1 l1 fun g2 l2 => aops P suf (regQ Q) g2 l2 s)):=rfl
@[simp] theorem go_awp_reg4 [Glob] (pre:List AOper) (fr:List AOp) (c:AOper) (post suf:List AOper)  : go (awp P (.reg4 pre fr c post suf) Q g s)=go (aopsD P 0 [] pre (floatQ P fr c.op c.dst pre.length post suf Q) g [] s):=rfl
@[simp] theorem go_floatQ_eq [Glob] (fr:List AOp) (op:AOp) (dc:Option (Bool × Nat)) (k:Nat) (post suf:List AOper)  : go (floatQ P fr op dc k post suf Q g l s)=go (AOp.step P op g l s (floatC P fr dc k post suf Q g l s)):=rfl
@[simp] theorem go_floatC_eq [Glob] (fr:List AOp) (dc:Option (Bool × Nat)) (k:Nat) (post suf:List AOper) (s0:St) (v:AV)  : go (floatC P fr dc k post suf Q g l s0 v s)=go (ok (frs g l s0 s fr) (setDst dc v g l fun g1 l1 => aopsD P (k+1) [] post (sufQ P suf Q) g1 l1 s)):=rfl
@[simp] theorem frs_nil (s0:St):frs g l s0 s []=True:=rfl
@[simp] theorem frs_cons (s0:St) (op:AOp) (r:List AOp):frs g l s0 s (op::r)=(sameO (op.touch (AOpd.val g l)) s0 s∧frs g l s0 s r):=rfl
@[simp] theorem sameO_none (s0:St):sameO none s0 s=True:=rfl
@[simp] theorem sameO_some (q:Nat) (s0:St):sameO (some q) s0 s=(s.m q=s0.m q):=rfl
theorem awp_frz [Glob] (t:Nat):awp P (.frz t) Q g s=frV t (g.get t) Q g s:=by
 simp only [awp,frV]
 cases g.get t <;> rfl
@[simp] theorem go_awp_frz [Glob] (t:Nat)  : go (awp P (.frz t) Q g s)=go (frV t (g.get t) Q g s):=by rw [awp_frz]
@[simp] theorem go_frV_ptr [Glob] (t o off:Nat)  : go (frV t (.ptr o off) Q g s)=go (frO t off (s.m o) Q g (s.del o)):=rfl
@[simp] theorem go_frO_box [Glob] (t off:Nat) (cs:List AV)  : go (frO t off (some (.box cs)) Q g s)=go (Q .normal ((t,.cptr (cs.drop off))::g) s):=rfl
@[simp] theorem go_asgQ_normal [Glob] (o:Nat) (env:Env) (ps:List Nat) (n:Nat) (ca cb:Code) (bd:ACode)  : go (asgQ P o env ps n ca cb bd K .normal g s)=go (ok (s.m o=some (.loop 0 none env ps n ca cb)) (awp P bd (bodyQ o env ps n ca cb K) g (s.set o (.loop 1 none env ps n ca cb)))):=rfl
@[simp] theorem go_bodyQ_normal (o:Nat) (env:Env) (ps:List Nat) (n:Nat) (ca cb:Code)  : go (bodyQ o env ps n ca cb K .normal g s)=(s.m o=some (.loop 1 none env ps n ca cb)∧K (.bool true) (s.set o (.loop 0 none env ps n ca cb))):=rfl
@[simp] theorem go_awp_seq [Glob]  : go (awp P (.seq a b) Q g s)=go (awp P a (seqQ P b Q) g s):=rfl
@[simp] theorem go_awp_cond [Glob] (c:AOpd)  : go (awp P (.cond c a b) Q g s)=go (cdV P (c.val g []) a b Q g s):=rfl
@[simp] theorem go_awp_block [Glob]  : go (awp P (.block id b) Q g s)=go (awp P b (blockQ id Q) g s):=rfl
@[simp] theorem go_awp_exit [Glob]  : go (awp P (.exit id) Q g s)=go (Q (.exit id) g s):=rfl
@[simp] theorem go_awp_ret [Glob]  : go (awp P .ret Q g s)=go (Q .ret g s):=rfl
@[simp] theorem go_regQ_eq [Glob]  : go (regQ Q g l s)=go (Q .normal g s):=rfl
@[simp] theorem go_seqQ_normal [Glob]  : go (seqQ P b Q .normal g s)=go (awp P b Q g s):=rfl
@[simp] theorem go_seqQ_exit [Glob]  : go (seqQ P b Q (.exit i) g s)=go (Q (.exit i) g s):=rfl
@[simp] theorem go_seqQ_ret [Glob]  : go (seqQ P b Q .ret g s)=go (Q .ret g s):=rfl
@[simp] theorem go_blockQ_normal [Glob]  : go (blockQ id Q .normal g s)=go (Q .normal g s):=rfl
@[simp] theorem go_blockQ_ret [Glob]  : go (blockQ id Q .ret g s)=go (Q .ret g s):=rfl
@[simp] theorem go_blockQ_exit [Glob]  : go (blockQ id Q (.exit i) g s)=go (if i=id then Q .normal g s else Q (.exit i) g s):=rfl
@[simp] theorem go_loopQ_exit [Glob] (n:Nat) (I:Nat→Env→St→Prop)  : go (loopQ n I Q (.exit i) g s)=go (Q (.exit i) g s):=rfl
@[simp] theorem go_loopQ_ret [Glob] (n:Nat) (I:Nat→Env→St→Prop)  : go (loopQ n I Q .ret g s)=go (Q .ret g s):=rfl
@[simp] theorem go_finQ_normal [Glob] (rs:List ARes)  : go (finQ rs K .normal g s)=go (retV (resVals rs g s) s K):=rfl
@[simp] theorem go_finQ_ret [Glob] (rs:List ARes)  : go (finQ rs K .ret g s)=go (retV (resVals rs g s) s K):=rfl
theorem retV_some (vs:List AV):retV (some vs) s K=K (oneOf vs) s:=rfl
@[simp] theorem go_retV_some [Glob] (vs:List AV)  : go (retV (some vs) s K)=K (oneOf vs) s:=by rw [retV_some];rfl
theorem cdV_true [Glob]:cdV P (.bool true) a b Q g s=awp P a Q g s:=by simp [cdV]
@[simp] theorem go_cdV_true [Glob]  : go (cdV P (.bool true) a b Q g s)=go (awp P a Q g s):=by rw [cdV_true]
theorem cdV_false [Glob]:cdV P (.bool false) a b Q g s=awp P b Q g s:=by simp [cdV]
@[simp] theorem go_cdV_false [Glob]  : go (cdV P (.bool false) a b Q g s)=go (awp P b Q g s):=by rw [cdV_false]
theorem cdV_bool [Glob] (t:Bool):cdV P (.bool t) a b Q g s=((t=true→awp P a Q g s)∧(t=false→awp P b Q g s)):=rfl
@[simp low] theorem go_cdV_bool [Glob] (t:Bool)  : go (cdV P (.bool t) a b Q g s)=((t=true→go (awp P a Q g s))∧(t=false→go (awp P b Q g s))):=by rw [cdV_bool];rfl
@[simp] theorem go_aops_nil [Glob] (K:Env→Env→St→Prop)  : go (aops P [] K g l s)=go (K g l s):=rfl
@[simp] theorem go_aopsD_nil [Glob] (k:Nat) (acc:List (Nat × Nat)) (K:Env→Env→St→Prop)  : go (aopsD P k acc [] K g l s)=∀ m,s.nx≤m→go (K g l (s.bump m)):=rfl
def farFrom (acc:List (Nat × Nat)) (conc:List Nat) (t:Option Nat):Prop:=match t with | some q => ∀ p∈acc,p.1∈conc→p.2≠q | none => True
@[simp] theorem farFrom_none (acc:List (Nat × Nat)) (conc:List Nat):farFrom acc conc none=True:=rfl
@[simp] theorem farFrom_nil (acc:List (Nat × Nat)) (t:Option Nat):farFrom acc [] t=True:=by cases t <;> simp [farFrom]
@[simp] theorem farFrom_some (acc:List (Nat × Nat)) (conc:List Nat) (q:Nat):farFrom acc conc (some q)=∀ p∈acc,p.1∈conc→p.2≠q:=rfl
@[simp] theorem accTo_none (i nx:Nat) (acc:List (Nat × Nat)):accTo i none false nx acc=acc:=rfl
@[simp] theorem accTo_some (i q nx:Nat) (acc:List (Nat × Nat)):accTo i (some q) false nx acc=(i,q)::acc:=rfl
@[simp] theorem accTo_noneM (i nx:Nat) (acc:List (Nat × Nat)):accTo i none true nx acc=(i,nx)::acc:=rfl
@[simp] theorem accTo_someM (i q nx:Nat) (acc:List (Nat × Nat)):accTo i (some q) true nx acc=(i,q)::(i,nx)::acc:=rfl
end
section
variable (dst:Option (Bool × Nat)) (op:AOp) (cc:List Nat) (os:List AOper) (K:Env→Env→St→Prop) (t k:Nat) (want:Bool) (acc:List (Nat × Nat)) (v:AV)
def kA [Glob] (P:Program) (dst:Option (Bool × Nat)) (os:List AOper) (K:Env→Env→St→Prop) (g l:Env) (v:AV) (s:St):Prop:=setDst dst v g l fun g' l' => aops P os K g' l' s
def kD [Glob] (P:Program) (k:Nat) (acc:List (Nat × Nat)) (dst:Option (Bool × Nat)) (os:List AOper) (K:Env→Env→St→Prop) (g l:Env) (v:AV) (s:St):Prop:=setDst dst v g l fun g' l' => aopsD P k acc os K g' l' s
def opD [Glob] (P:Program) (k:Nat) (acc:List (Nat × Nat)) (dst:Option (Bool × Nat)) (op:AOp) (cc:List Nat) (os:List AOper) (K:Env→Env→St→Prop) (g l:Env) (s:St):Prop :=
 ok (farFrom acc cc (op.touch (AOpd.val g l))) (AOp.step P op g l s (kD P (k+1) (accTo k (op.touch (AOpd.val g l)) op.makes s.nx acc) dst os K g l))
def gdA [Glob] (P:Program) (v:AV) (gl:Bool) (t:Nat) (want:Bool) (dst:Option (Bool × Nat)) (op:AOp) (os:List AOper) (K:Env→Env→St→Prop) (g l:Env) (s:St):Prop :=
 gdV v gl t want g l (fun g l => AOp.step P op g l s (kA P dst os K g l)) (fun g l => kA P dst os K g l (.tup []) s)
def gdD [Glob] (P:Program) (v:AV) (gl:Bool) (t:Nat) (want:Bool) (k:Nat) (acc:List (Nat × Nat)) (dst:Option (Bool × Nat)) (op:AOp) (cc:List Nat) (os:List AOper) (K:Env→Env→St→Prop) (g l:Env) (s:St):Prop :=
 gdV v gl t want g l (fun g l => opD P k acc dst op cc os K g l s) (fun g l => kD P (k+1) acc dst os K g l (.tup []) s)
@[congr] theorem kA_congr [Glob] {v v':AV} (hg:g=g') (hl:l=l') (hv:v=v') (hs:s=s'):kA P dst os K g l v s=kA P dst os K g' l' v' s':=by rw [hg,hl,hv,hs]
@[congr] theorem gdA_congr [Glob] {v v':AV} {gl:Bool} (hv:v=v') (hg:g=g') (hl:l=l') (hs:s=s'):gdA P v gl t want dst op os K g l s=gdA P v' gl t want dst op os K g' l' s':=by rw [hg,hl,hv,hs]
@[simp] theorem gokA_none [Glob]:go (kA P none os K g l v s)=go (aops P os K g l s):=rfl
@[simp] theorem gokA_g [Glob]:go (kA P (some (true,t)) os K g l v s)=go (aops P os K ((t,v)::g) l s):=rfl
@[simp] theorem gokA_l [Glob]:go (kA P (some (false,t)) os K g l v s)=go (aops P os K g ((t,v)::l) s):=rfl
@[simp] theorem gokD_none [Glob]:go (kD P k acc none os K g l v s)=go (aopsD P k acc os K g l s):=rfl
@[simp] theorem gokD_g [Glob]:go (kD P k acc (some (true,t)) os K g l v s)=go (aopsD P k acc os K ((t,v)::g) l s):=rfl
@[simp] theorem gokD_l [Glob]:go (kD P k acc (some (false,t)) os K g l v s)=go (aopsD P k acc os K g ((t,v)::l) s):=rfl
@[simp] theorem goopD [Glob]:go (opD P k acc dst op cc os K g l s)=go (ok (farFrom acc cc (op.touch (AOpd.val g l))) (AOp.step P op g l s (kD P (k+1) (accTo k (op.touch (AOpd.val g l)) op.makes s.nx acc) dst os K g l))):=rfl
@[simp] theorem go_aops_cons [Glob]  : go (aops P (⟨dst,op,none,cc⟩::os) K g l s)=go (AOp.step P op g l s (kA P dst os K g l)):=rfl
@[simp] theorem go_aops_consl [Glob]  : go (aops P (⟨dst,op,some (false,t,want),cc⟩::os) K g l s)=go (gdA P (l.get t) false t want dst op os K g l s):=rfl
@[simp] theorem go_aopsD_cons [Glob]  : go (aopsD P k acc (⟨dst,op,none,cc⟩::os) K g l s)=go (opD P k acc dst op cc os K g l s):=rfl
@[simp] theorem go_aopsD_consl [Glob]  : go (aopsD P k acc (⟨dst,op,some (false,t,want),cc⟩::os) K g l s)=go (gdD P (l.get t) false t want k acc dst op cc os K g l s):=rfl
@[simp low] theorem gogdA_tt [Glob] (b:Bool):go (gdA P (.bool b) true t true dst op os K g l s)=((b=true→go (AOp.step P op ((t,.bool true)::g) l s (kA P dst os K ((t,.bool true)::g) l)))∧(b=false→go (kA P dst os K ((t,.bool false)::g) l (.tup []) s))):=by simp [gdA,gdV,envSet,go]
@[simp low] theorem gogdA_tf [Glob] (b:Bool):go (gdA P (.bool b) true t false dst op os K g l s)=((b=false→go (AOp.step P op ((t,.bool false)::g) l s (kA P dst os K ((t,.bool false)::g) l)))∧(b=true→go (kA P dst os K ((t,.bool true)::g) l (.tup []) s))):=by simp [gdA,gdV,envSet,go]
@[simp] theorem gogdA_ftt [Glob]:go (gdA P (.bool true) false t true dst op os K g l s)=go (AOp.step P op g ((t,.bool true)::l) s (kA P dst os K g ((t,.bool true)::l))):=by simp [gdA,gdV,envSet]
@[simp] theorem gogdA_ftf [Glob]:go (gdA P (.bool true) false t false dst op os K g l s)=go (kA P dst os K g ((t,.bool true)::l) (.tup []) s):=by simp [gdA,gdV,envSet]
@[simp] theorem gogdA_fft [Glob]:go (gdA P (.bool false) false t true dst op os K g l s)=go (kA P dst os K g ((t,.bool false)::l) (.tup []) s):=by simp [gdA,gdV,envSet]
@[simp] theorem gogdA_fff [Glob]:go (gdA P (.bool false) false t false dst op os K g l s)=go (AOp.step P op g ((t,.bool false)::l) s (kA P dst os K g ((t,.bool false)::l))):=by simp [gdA,gdV,envSet]
@[simp low] theorem gogdA_ft [Glob] (b:Bool):go (gdA P (.bool b) false t true dst op os K g l s)=((b=true→go (AOp.step P op g ((t,.bool true)::l) s (kA P dst os K g ((t,.bool true)::l))))∧(b=false→go (kA P dst os K g ((t,.bool false)::l) (.tup []) s))):=by simp [gdA,gdV,envSet,go]
@[simp low] theorem gogdA_ff [Glob] (b:Bool):go (gdA P (.bool b) false t false dst op os K g l s)=((b=false→go (AOp.step P op g ((t,.bool false)::l) s (kA P dst os K g ((t,.bool false)::l))))∧(b=true→go (kA P dst os K g ((t,.bool true)::l) (.tup []) s))):=by simp [gdA,gdV,envSet,go]
@[simp low] theorem gogdD_tt [Glob] (b:Bool):go (gdD P (.bool b) true t true k acc dst op cc os K g l s)=((b=true→go (opD P k acc dst op cc os K ((t,.bool true)::g) l s))∧(b=false→go (kD P (k+1) acc dst os K ((t,.bool false)::g) l (.tup []) s))):=by simp [gdD,gdV,envSet,go]
@[simp low] theorem gogdD_tf [Glob] (b:Bool):go (gdD P (.bool b) true t false k acc dst op cc os K g l s)=((b=false→go (opD P k acc dst op cc os K ((t,.bool false)::g) l s))∧(b=true→go (kD P (k+1) acc dst os K ((t,.bool true)::g) l (.tup []) s))):=by simp [gdD,gdV,envSet,go]
@[simp] theorem gogdD_ftt [Glob]:go (gdD P (.bool true) false t true k acc dst op cc os K g l s)=go (opD P k acc dst op cc os K g ((t,.bool true)::l) s):=by simp [gdD,gdV,envSet]
@[simp] theorem gogdD_ftf [Glob]:go (gdD P (.bool true) false t false k acc dst op cc os K g l s)=go (kD P (k+1) acc dst os K g ((t,.bool true)::l) (.tup []) s):=by simp [gdD,gdV,envSet]
@[simp] theorem gogdD_fft [Glob]:go (gdD P (.bool false) false t true k acc dst op cc os K g l s)=go (kD P (k+1) acc dst os K g ((t,.bool false)::l) (.tup []) s):=by simp [gdD,gdV,envSet]
@[simp] theorem gogdD_fff [Glob]:go (gdD P (.bool false) false t false k acc dst op cc os K g l s)=go (opD P k acc dst op cc os K g ((t,.bool false)::l) s):=by simp [gdD,gdV,envSet]
@[simp low] theorem gogdD_ft [Glob] (b:Bool):go (gdD P (.bool b) false t true k acc dst op cc os K g l s)=((b=true→go (opD P k acc dst op cc os K g ((t,.bool true)::l) s))∧(b=false→go (kD P (k+1) acc dst os K g ((t,.bool false)::l) (.tup []) s))):=by simp [gdD,gdV,envSet,go]
@[simp low] theorem gogdD_ff [Glob] (b:Bool):go (gdD P (.bool b) false t false k acc dst op cc os K g l s)=((b=false→go (opD P k acc dst op cc os K g ((t,.bool false)::l) s))∧(b=true→go (kD P (k+1) acc dst os K g ((t,.bool true)::l) (.tup []) s))):=by simp [gdD,gdV,envSet,go]
@[simp] theorem gogdA_u [Glob] (gl:Bool):go (gdA P (.tup []) gl t want dst op os K g l s)=go (kA P dst os K g l (.tup []) s):=rfl
@[simp] theorem gogdD_u [Glob] (gl:Bool):go (gdD P (.tup []) gl t want k acc dst op cc os K g l s)=go (kD P (k+1) acc dst os K g l (.tup []) s):=rfl
end
def cellO (n:Nat) (agg:Bool) (off:Nat):Option AObj→Option AV
 | some (.box cs) => if off+n≤cs.length then loadAV n agg (cs.drop off) else none
 | _ => none
def cellV (n:Nat) (agg:Bool) (v:AV) (s:St):Option AV:=match v with | .ptr o off => cellO n agg off (s.m o) | _ => none
def consO:Option AV→Option (List AV)→Option (List AV)
 | some v,some l => some (v::l)
 | _,_ => none
@[simp] theorem resVals_nil:resVals [] g s=some []:=rfl
@[simp] theorem resVals_tmp (t:Nat) (r:List ARes):resVals (.tmp (true,t)::r) g s=consO (some (g.get t)) (resVals r g s):=by simp [resVals,consO];cases resVals r g s <;> rfl
@[simp] theorem resVals_cell (t n:Nat) (agg:Bool) (r:List ARes):resVals (.cell (true,t) n agg::r) g s=consO (cellV n agg (g.get t) s) (resVals r g s):=by
 simp only [resVals,cellV]
 cases g.get t <;> try rfl
 rename_i o off
 simp only [cellO]
 cases s.m o with
 | none => rfl
 | some ob =>
  cases ob <;> try rfl
  rename_i cs
  simp only
  by_cases h:off+n≤cs.length
  ·simp only [h,if_true]
   cases loadAV n agg (cs.drop off) <;> cases resVals r g s <;> rfl
  ·simp only [h,if_false]
   rfl
@[simp] theorem consO_some (v:AV) (l:List AV):consO (some v) (some l)=some (v::l):=rfl
@[simp] theorem cellV_ptr (n:Nat) (agg:Bool) (o off:Nat):cellV n agg (.ptr o off) s=cellO n agg off (s.m o):=rfl
@[simp] theorem cellO_agg (n off:Nat) (cs:List AV):cellO n true off (some (.box cs))=if off+n≤cs.length then some (.agg ((cs.drop off).take n)) else none:=rfl
@[simp] theorem cellO_one (n off:Nat) (cs:List AV):cellO n false off (some (.box cs))=if off+n≤cs.length then (cs.drop off).head? else none:=by simp only [cellO,loadAV];cases cs.drop off <;> simp
@[simp] theorem oneOf_one (v:AV):oneOf [v]=v:=rfl
@[simp] theorem oneOf_two (v w:AV):oneOf [v,w]=.tup [v,w]:=rfl
@[simp] theorem oneOf_three (v w x:AV):oneOf [v,w,x]=.tup [v,w,x]:=rfl
section
@[simp] theorem makes_alloc (zs:List AV):AOp.makes (.alloc zs)=true:=rfl
@[simp] theorem makes_append (n m:Nat) (a x:AOpd):AOp.makes (.append n m a x)=true:=rfl
@[simp] theorem makes_load (n:Nat) (agg:Bool) (a:AOpd):AOp.makes (.load n agg a)=false:=rfl
@[simp] theorem makes_store (n:Nat) (a x:AOpd):AOp.makes (.store n a x)=false:=rfl
@[simp] theorem makes_mv (x:AOpd):AOp.makes (.mv x)=false:=rfl
@[simp] theorem makes_pick (x y z:AOpd):AOp.makes (.pick x y z)=false:=rfl
@[simp] theorem makes_build (zs:List AV) (ps:List (Nat × Nat × AOpd)):AOp.makes (.build zs ps)=false:=rfl
@[simp] theorem makes_buildSlice (sz:Nat) (agg:Bool) (zs:List AV) (m:Nat) (ps:List (Nat × AOpd)):AOp.makes (.buildSlice sz agg zs m ps)=false:=rfl
@[simp] theorem makes_nilCheck (x:AOpd):AOp.makes (.nilCheck x)=false:=rfl
@[simp] theorem makes_bin (op:BinOp) (x y:AOpd):AOp.makes (.bin op x y)=false:=rfl
@[simp] theorem makes_un (op:UnOp) (x:AOpd):AOp.makes (.un op x)=false:=rfl
@[simp] theorem makes_slice (n:Nat) (x:AOpd) (a b c:Option AOpd):AOp.makes (.slice n x a b c)=false:=rfl
@[simp] theorem makes_fieldAddr (n:Nat) (x:AOpd):AOp.makes (.fieldAddr n x)=false:=rfl
@[simp] theorem makes_field (n m:Nat) (b:Bool) (x:AOpd):AOp.makes (.field n m b x)=false:=rfl
@[simp] theorem makes_indexAddr (n:Nat) (x y:AOpd):AOp.makes (.indexAddr n x y)=false:=rfl
@[simp] theorem makes_call (p:Bool) (f:AOpd) (as:List AOpd):AOp.makes (.call p f as)=false:=rfl
@[simp] theorem makes_lookup (a b:Bool) (zs:List AV) (c:Bool) (x y:AOpd):AOp.makes (.lookup a b zs c x y)=false:=rfl
@[simp] theorem makes_mapUpdate (a:Bool) (x y z:AOpd):AOp.makes (.mapUpdate a x y z)=false:=rfl
end
section
variable (α:AOpd→AV)
def ptrOf:AV→Option Nat
 | .ptr o _ => some o
 | .aptr _ o _ _ => some o
 | _ => none
def ownOf:AV→Option Nat
 | .list _ (.own o) _ => some o
 | .mref _ o _ _ => some o
 | _ => none
@[simp] theorem ownOf_mref (sz o off n:Nat):ownOf (.mref sz o off n)=some o:=rfl
@[simp] theorem ptrOf_ptr (o off:Nat):ptrOf (.ptr o off)=some o:=rfl
@[simp] theorem ptrOf_cptr (cs:List AV):ptrOf (.cptr cs)=none:=rfl
def mapOf:AV→Option Nat
 | .map o => some o
 | _ => none
@[simp] theorem mapOf_map (o:Nat):mapOf (.map o)=some o:=rfl
@[simp] theorem touch_lookup (a b:Bool) (zs:List AV) (c:Bool) (x y:AOpd):AOp.touch (.lookup a b zs c x y) α=mapOf (α x):=rfl
@[simp] theorem touch_mapUpdate (a:Bool) (x y z:AOpd):AOp.touch (.mapUpdate a x y z) α=mapOf (α x):=rfl
@[simp] theorem touch_load (n:Nat) (agg:Bool) (a:AOpd):AOp.touch (.load n agg a) α=ptrOf (α a):=rfl
@[simp] theorem touch_store (n:Nat) (a x:AOpd):AOp.touch (.store n a x) α=ptrOf (α a):=rfl
@[simp] theorem touch_append (n m:Nat) (a x:AOpd):AOp.touch (.append n m a x) α=ownOf (α a):=rfl
@[simp] theorem touch_mv (x:AOpd):AOp.touch (.mv x) α=none:=rfl
@[simp] theorem touch_pick (x y z:AOpd):AOp.touch (.pick x y z) α=none:=rfl
@[simp] theorem touch_alloc (zs:List AV):AOp.touch (.alloc zs) α=none:=rfl
@[simp] theorem touch_build (zs:List AV) (ps:List (Nat × Nat × AOpd)):AOp.touch (.build zs ps) α=none:=rfl
@[simp] theorem touch_buildSlice (sz:Nat) (agg:Bool) (zs:List AV) (m:Nat) (ps:List (Nat × AOpd)):AOp.touch (.buildSlice sz agg zs m ps) α=none:=rfl
@[simp] theorem touch_nilCheck (x:AOpd):AOp.touch (.nilCheck x) α=none:=rfl
@[simp] theorem touch_bin (op:BinOp) (x y:AOpd):AOp.touch (.bin op x y) α=none:=rfl
@[simp] theorem touch_un (op:UnOp) (x:AOpd):AOp.touch (.un op x) α=none:=rfl
@[simp] theorem touch_slice (n:Nat) (x:AOpd) (a b c:Option AOpd):AOp.touch (.slice n x a b c) α=none:=rfl
@[simp] theorem touch_sliceArr (n:Nat) (x y:AOpd):AOp.touch (.sliceArr n x y) α=none:=rfl
@[simp] theorem touch_fieldAddr (n:Nat) (x:AOpd):AOp.touch (.fieldAddr n x) α=none:=rfl
@[simp] theorem touch_field (n m:Nat) (b:Bool) (x:AOpd):AOp.touch (.field n m b x) α=none:=rfl
@[simp] theorem touch_indexAddr (n:Nat) (x y:AOpd):AOp.touch (.indexAddr n x y) α=none:=rfl
@[simp] theorem touch_call (p:Bool) (f:AOpd) (as:List AOpd):AOp.touch (.call p f as) α=none:=rfl
end
end
theorem awpFun_go [Glob] (af:AFun) (args:List AV) (s:St) (K:KS) (h:go (awp P af.body (finQ af.results K) (argEnv 0 args) s)):awpFun P af args s K:=by
 have e:finQ af.results K=(fun e g s => match e with | .exit _ => False | _ => match resVals af.results g s with | some vs => K (oneOf vs) s | none => False):=by
  funext e g s
  cases e <;> rfl
 rw [e] at h
 exact h
theorem awp_loop [Glob] {b:ACode} {Q:AExit→Env→St→Prop} {g:Env} {s:St} (I:Nat→Env→St→Prop) (n:Nat) (h0:I n g s) (h:∀ n g s,I n g s→awp P b (loopQ n I Q) g s):awp P (.loop b) Q g s :=
 ⟨I,n,h0,fun n g s hI => by
  have:=h n g s hI
  have e:loopQ n I Q=fun e g' s' => match e with | .normal => ∃ m,m < n∧I m g' s' | e => Q e g' s':=by funext e g s;cases e <;> rfl
  rwa [e] at this⟩
theorem go_loop [Glob] {b:ACode} {Q:AExit→Env→St→Prop} {g:Env} {s:St} (I:Nat→Env→St→Prop) (n:Nat) (h0:I n g s) (h:∀ n g s,I n g s→go (awp P b (loopQ n I Q) g s)):go (awp P (.loop b) Q g s):=awp_loop I n h0 h
@[simp] theorem argEnv_nil (i:Nat):argEnv i []=[]:=rfl
@[simp] theorem argEnv_cons (i:Nat) (v:AV) (r:List AV):argEnv i (v::r)=(i,v)::argEnv (i+1) r:=rfl
end Go.AL
namespace Go.AL
variable {P:Program} {f:FuncId} {args:List AV} {s:St} {K K':AV→St→Prop} {ι:Nat→Option Nat} {F:Nat→Nat→Prop} {w:World}
theorem ACalls.mono [Glob] (h:ACalls P f args s K) (hk:∀ r s',s.nx≤s'.nx→K r s'→K' r s'):ACalls P f args s K' :=
 ⟨h.1,fun ι w vs h1 h2 h3 => Calls.mono (h.2 ι w vs h1 h2 h3) fun e w' ⟨v,r,s',ι',k1,k2,k3,k4,k5,k6,k7⟩ => ⟨v,r,s',ι',k1,k2,k3,k4,k5,k6,hk r s' k5.1 k7⟩⟩
theorem ACalls.bnd [Glob] (hc:Callable P f) (h:(∀ q ob,s.m q=some ob→q < s.nx)→ACalls P f args s K):ACalls P f args s K :=
 ⟨hc,fun ι w vs h1 h2 h3 => (h h2.lt).2 ι w vs h1 h2 h3⟩
theorem ACalls.norm [Glob] (h:ACalls P f args s fun r s' => ∃ S,(∀ q ob,S q=some ob→s'.m q=some ob)∧K r ⟨S,s'.nx⟩):ACalls P f args s K:=by
 refine ⟨h.1,fun ι w vs h1 h2 h3 => Calls.mono (h.2 ι w vs h1 h2 h3) ?_⟩
 rintro e w' ⟨v,r,s',ι',k1,k2,k3,k4,k5,k6,S,hS,hk⟩
 exact ⟨v,r,⟨S,s'.nx⟩,ι',k1,k2.trans (drop_step s'.m S hS ι' w'),k3.drop hS,⟨fun q ob hq => k4.lt q ob (hS q ob hq),k4.ilt⟩,k5,k6.step (drop_step s'.m S hS ι' w'),hk⟩
theorem PureC.calls [Glob] {r:AV} (h:PureC P f args r) (hk:∀ m,s.nx≤m→K r (s.bump m)):ACalls P f args s K:=by
 refine ACalls.bnd (h s).1 fun hb => ACalls.norm (ACalls.mono (h s) fun r' s' hn hr => ?_)
 obtain ⟨rfl,hm⟩:=hr
 exact ⟨s.m,fun q ob hq => by rw [hm q (hb q ob hq)];exact hq,hk _ hn⟩
@[simp] theorem St.new_at [Glob] (s:St) (o:AObj) (q:Nat) (h:q≤s.nx∧s.nx≤q):(s.new o).m q=some o:=by
 have e:q=s.nx:=by omega
 rw [e];simp
mutual
def wk:AV→AV→Prop
 | .list sz t xs,.list sz' t' ys => (t'=.none∨t'=t)∧(sz=sz'∨(xs=[]∧t'=.none))∧wkL xs ys
 | .agg xs,.agg ys => wkL xs ys
 | .tup xs,.tup ys => wkL xs ys
 | .cptr xs,.cptr ys => wkL xs ys
 | .fn f a b,.fn f' a' b' => f=f'∧wkL a a'∧wkL b b'
 | v,v' => v=v'
def wkL:List AV→List AV→Prop
 | [],[] => True
 | x::xs,y::ys => wk x y∧wkL xs ys
 | _,_ => False
end
mutual
theorem wk_refl:∀ v,wk v v
 | .list sz t xs => by simp only [wk];exact ⟨.inr trivial,.inl trivial,wkL_refl xs⟩
 | .agg xs => by simp only [wk];exact wkL_refl xs
 | .tup xs => by simp only [wk];exact wkL_refl xs
 | .cptr xs => by simp only [wk];exact wkL_refl xs
 | .fn f a b => by simp only [wk];exact ⟨trivial,wkL_refl a,wkL_refl b⟩
 | .any | .bool _ | .int .. | .str _ | .ptr .. | .nilptr | .nilfn | .map _ | .nilmap | .cmap _ | .kmap _ | .mref .. | .aptr .. | .yld _ => by simp [wk]
theorem wkL_refl:∀ v,wkL v v
 | [] => by simp [wkL]
 | x::xs => by simp only [wkL];exact ⟨wk_refl x,wkL_refl xs⟩
end
theorem wkL_get:∀ {xs ys:List AV},wkL xs ys→xs.length=ys.length∧∀ (i:Nat) x y,xs[i]?=some x→ys[i]?=some y→wk x y
 | [],[],_ => ⟨rfl,by simp⟩
 | x::xs,y::ys,h => by
  simp only [wkL] at h
  obtain ⟨h1,h2⟩:=wkL_get h.2
  refine ⟨by simp [h1],fun i a b ha hb => ?_⟩
  cases i with
  | zero => simp at ha hb;subst ha hb;exact h.1
  | succ i => simp at ha hb;exact h2 i a b ha hb
 | [],_::_,h => by simp [wkL] at h
 | _::_,[],h => by simp [wkL] at h
theorem wkL_append:∀ {xs ys xs' ys':List AV},wkL xs ys→wkL xs' ys'→wkL (xs++xs') (ys++ys')
 | [],[],_,_,_,h => h
 | x::xs,y::ys,_,_,h,h' => by
  simp only [wkL] at h
  simp only [List.cons_append,wkL]
  exact ⟨h.1,wkL_append h.2 h'⟩
 | [],_::_,_,_,h,_ => by simp [wkL] at h
 | _::_,[],_,_,h,_ => by simp [wkL] at h
theorem wk_cells [Glob] {x y:AV} (h:wk x y):wkL x.cells y.cells:=by
 cases x <;> cases y <;> simp only [wk] at h <;> first
  | (cases h;done)
  | (cases h;exact wkL_refl _)
  | exact h
  | exact ⟨by simpa only [wk] using h,trivial⟩
theorem wkL_flat [Glob]:∀ {xs ys:List AV},wkL xs ys→wkL (flat xs) (flat ys)
 | [],[],_ => by simp [wkL]
 | x::xs,y::ys,h => by
  simp only [wkL] at h
  simp only [flat_cons]
  exact wkL_append (wk_cells h.1) (wkL_flat h.2)
 | [],_::_,h => by simp [wkL] at h
 | _::_,[],h => by simp [wkL] at h
theorem wkL_some [Glob] {xs ys:List AV} (h:wkL xs ys) {i:Nat} {y:AV} (hy:ys[i]?=some y):∃ x,xs[i]?=some x∧wk x y:=by
 obtain ⟨h1,h2⟩:=wkL_get h
 have hi:i < xs.length:=by rw [h1];exact (List.getElem?_eq_some_iff.1 hy).1
 exact ⟨xs[i],by simp [hi],h2 i _ y (by simp [hi]) hy⟩
theorem Rep.wk [Glob] {v:Value} {x:AV} (h:Rep ι F w v x):∀ {y:AV},AL.wk x y→Rep ι F w v y:=by
 induction h with
 | @list a len cap sz t xs cs hlen hcap hsz ht hnone hc hr ih =>
  intro y hy
  cases y <;> simp only [AL.wk] at hy <;> try (cases hy;done)
  rename_i sz' t' ys
  obtain ⟨h1,h2,h3⟩:=hy
  have hl:=(wkL_get h3).1
  have key:∀ j y,(flat ys)[j]?=some y→Rep ι F w (cs j) y:=by
   intro j y hj
   obtain ⟨x,hx,hxy⟩:=wkL_some (wkL_flat h3) hj
   exact ih j x hx hxy
  rcases h2 with rfl | ⟨rfl,rfl⟩
  ·refine .list cs (hlen.trans hl) hcap (fun y hy => ?_) ?_ hnone hc key
   ·obtain ⟨i,hi⟩:=List.mem_iff_getElem?.1 hy
    obtain ⟨x,hx,hxy⟩:=wkL_some h3 hi
    rw [← (wkL_get (wk_cells hxy)).1]
    exact hsz x (List.mem_of_getElem? hx)
   ·rcases h1 with rfl | rfl
    ·trivial
    ·exact ht
  ·have:ys=[]:=List.length_eq_zero_iff.1 (by rw [← hl];rfl)
   subst this
   simp only [List.length_nil] at hlen
   subst hlen
   exact .list cs rfl hcap (by simp) trivial hnone (fun j hj => by omega) (by simp)
 | agg hl hc hr ih =>
  intro y hy
  cases y <;> simp only [AL.wk] at hy <;> try (cases hy;done)
  have h1:=(wkL_get hy).1
  refine .agg (hl.trans h1) hc fun j v y hv hj => ?_
  obtain ⟨x,hx,hxy⟩:=wkL_some hy hj
  exact ih j v x hv hx hxy
 | tup hl hr ih =>
  intro y hy
  cases y <;> simp only [AL.wk] at hy <;> try (cases hy;done)
  have h1:=(wkL_get hy).1
  refine .tup (hl.trans h1) fun j v y hv hj => ?_
  obtain ⟨x,hx,hxy⟩:=wkL_some hy hj
  exact ih j v x hv hx hxy
 | cptr cs ha hc hr ih =>
  intro y hy
  cases y <;> simp only [AL.wk] at hy <;> try (cases hy;done)
  have h1:=(wkL_get hy).1
  refine .cptr cs ha (fun j hj => hc j (by omega)) fun j y hj => ?_
  obtain ⟨x,hx,hxy⟩:=wkL_some hy hj
  exact ih j x hx hxy
 | fn f hl hl' hf hr ih1 ih2 =>
  intro y hy
  cases y <;> simp only [AL.wk] at hy <;> try (cases hy;done)
  obtain ⟨rfl,h1,h2⟩:=hy
  refine .fn _ (hl.trans (wkL_get h1).1) (hl'.trans (wkL_get h2).1) (fun j v y hv hj => ?_) fun j v y hv hj => ?_
  ·obtain ⟨x,hx,hxy⟩:=wkL_some h1 hj
   exact ih1 j v x hv hx hxy
  ·obtain ⟨x,hx,hxy⟩:=wkL_some h2 hj
   exact ih2 j v x hv hx hxy
 | any v => intro y hy;simp only [AL.wk] at hy;subst hy;exact .any v
 | bool b => intro y hy;simp only [AL.wk] at hy;subst hy;exact .bool b
 | int k n => intro y hy;simp only [AL.wk] at hy;subst hy;exact .int k n
 | str s => intro y hy;simp only [AL.wk] at hy;subst hy;exact .str s
 | ptr off h => intro y hy;simp only [AL.wk] at hy;subst hy;exact .ptr off h
 | nilptr => intro y hy;simp only [AL.wk] at hy;subst hy;exact .nilptr
 | nilfn => intro y hy;simp only [AL.wk] at hy;subst hy;exact .nilfn
 | map h => intro y hy;simp only [AL.wk] at hy;subst hy;exact .map h
 | nilmap => intro y hy;simp only [AL.wk] at hy;subst hy;exact .nilmap
 | cmap h hf hin hout hnd => intro y hy;simp only [AL.wk] at hy;subst hy;exact .cmap h hf hin hout hnd
 | kmap σ h hf hsz hσ hinj hsur hborn hnd hk hv ih1 ih2 => intro y hy;simp only [AL.wk] at hy;subst hy;exact .kmap σ h hf hsz hσ hinj hsur hborn hnd hk hv
 | mref h hcap hb => intro y hy;simp only [AL.wk] at hy;subst hy;exact .mref h hcap hb
 | mnil => intro y hy;simp only [AL.wk] at hy;subst hy;exact .mnil
 | aptr h => intro y hy;simp only [AL.wk] at hy;subst hy;exact .aptr h
 | yld h => intro y hy;simp only [AL.wk] at hy;subst hy;exact .yld h
theorem RepL.wk [Glob] {vs:Array Value} {xs ys:List AV} (h:RepL ι F w vs xs) (hw:wkL xs ys):RepL ι F w vs ys:=by
 refine ⟨h.1.trans (wkL_get hw).1,fun j v y hv hy => ?_⟩
 obtain ⟨x,hx,hxy⟩:=wkL_some hw hy
 exact (h.2 j v x hv hx).wk hxy
theorem ACalls.argw [Glob] {args':List AV} (h:ACalls P f args' s K) (hw:wkL args args'):ACalls P f args s K :=
 ⟨h.1,fun ι w vs h1 h2 h3 => h.2 ι w vs h1 h2 (h3.wk hw)⟩
theorem PureC.argw [Glob] {args':List AV} {r:AV} (h:PureC P f args' r) (hw:wkL args args'):PureC P f args r:=fun s => (h s).argw hw
theorem ACalls.res [Glob] (h:ACalls P f args s fun r s' => ∃ r',AL.wk r r'∧K r' s'):ACalls P f args s K :=
 ⟨h.1,fun ι w vs h1 h2 h3 => Calls.mono (h.2 ι w vs h1 h2 h3) fun e w' ⟨v,r,s',ι',k1,k2,k3,k4,k5,k6,r',hw,k7⟩ => ⟨v,r',s',ι',k1,k2,k3,k4,k5,k6.wk hw,k7⟩⟩
def Kept (s s':St):Prop:=∀ q,q < s.nx→s'.m q=s.m q
@[simp] theorem kept_refl (s:St):Kept s s:=fun _ _ => rfl
@[simp] theorem kept_bump (s s':St) (n:Nat):Kept s (s'.bump n)=Kept s s':=rfl
@[simp] theorem kept_new [Glob] (s s':St) (ob:AObj) (h:s.nx≤s'.nx):Kept s (s'.new ob)=Kept s s':=by
 have:∀ q,q < s.nx→(s'.new ob).m q=s'.m q:=fun q hq => St.new_ne _ _ _ (by omega)
 simp only [Kept]
 exact propext ⟨fun k q hq => by rw [← this q hq];exact k q hq,fun k q hq => by rw [this q hq];exact k q hq⟩
@[simp] theorem kept_set [Glob] (s s':St) (o:Nat) (ob:AObj) (h:s.nx≤o):Kept s (s'.set o ob)=Kept s s':=by
 have:∀ q,q < s.nx→(s'.set o ob).m q=s'.m q:=fun q hq => St.set_ne _ _ _ _ (by omega)
 simp only [Kept]
 exact propext ⟨fun k q hq => by rw [← this q hq];exact k q hq,fun k q hq => by rw [this q hq];exact k q hq⟩
@[simp] theorem kept_del [Glob] (s s':St) (o:Nat) (h:s.nx≤o):Kept s (s'.del o)=Kept s s':=by
 have:∀ q,q < s.nx→(s'.del o).m q=s'.m q:=fun q hq => St.del_ne _ _ _ (by omega)
 simp only [Kept]
 exact propext ⟨fun k q hq => by rw [← this q hq];exact k q hq,fun k q hq => by rw [this q hq];exact k q hq⟩
theorem PureC.intro [Glob] {r:AV} (h:∀ s,ACalls P f args s fun r' s' => AL.wk r' r∧Kept s s'):PureC P f args r :=
 fun s => ACalls.res (ACalls.mono (h s) fun r' s' _ h => ⟨r,h.1,rfl,h.2⟩)
theorem Rep.freeze [Glob] {ι:Nat→Option Nat} {S:Store} {v:Value} {sz o len:Nat} {xs:List AV} (hwf:WF ι S w) (h:Rep ι (Foot ι S) w v (.mref sz o 0 len)) (ho:S o=some (.box (flat xs)))
  (hsz:∀ x∈xs,x.cells.length=sz) (hlen:xs.length=len):Rep ι (Foot ι (delS S o)) w v (.list sz .none xs):=by
 have hfl:=flat_length hsz
 cases h with
 | @mref _ _ b _ _ cap h hcap hb =>
  obtain ⟨vs,e,h1,h2,h3,h4⟩:=hwf.rep o _ b ho h
  have hst:=drop_step S (delS S o) (delS_sub S o) ι w
  simp only [Nat.zero_mul]
  refine Rep.list_of_block (vs:=vs) (e:=e) hlen.symm hcap hsz trivial h1 (fun j hj hf => ?_) (fun j v x hv hx => (h3 j v x hv hx).step hst) (fun j v hj hv => h4 j v (by rw [hfl,hlen];exact hj) hv) (by rw [← hlen,← hfl];exact h2)
  obtain ⟨q,ob,k1,k2,k3⟩:=hf
  have hq:q≠o:=by
   intro e
   simp [delS,e] at k1
  exact hq (hwf.inj q o ob _ b (delS_sub S o q ob k1) ho k2 h)
 | mnil =>
  have:xs=[]:=List.length_eq_zero_iff.1 hlen
  subst this
  exact .list (fun _ => undef) rfl (Nat.le_refl _) (by simp) trivial (by simp) (by simp) (by simp)
section
variable (k k':IntKind) (a b:Int) (x y:Bool) (u v:ByteArray) (xs ys us vs:List AV) (sz sz':Nat) (t t':Tok) (f g:FuncId)
@[simp] theorem wk_rfl [Glob] (v:AV):wk v v:=wk_refl v
@[simp] theorem wkL_rfl [Glob]:wkL xs xs:=wkL_refl xs
@[simp] theorem wk_int:wk (.int k a) (.int k' b)=(k=k'∧a=b):=by simp [wk]
@[simp] theorem wk_bool:wk (.bool x) (.bool y)=(x=y):=by simp [wk]
@[simp] theorem wk_str:wk (.str u) (.str v)=(u=v):=by simp [wk]
@[simp] theorem wk_agg:wk (.agg xs) (.agg ys)=wkL xs ys:=by simp [wk]
@[simp] theorem wk_tup:wk (.tup xs) (.tup ys)=wkL xs ys:=by simp [wk]
@[simp] theorem wk_cptr:wk (.cptr xs) (.cptr ys)=wkL xs ys:=by simp [wk]
@[simp] theorem wk_list:wk (.list sz t xs) (.list sz' .none ys)=((sz=sz'∨xs=[])∧wkL xs ys):=by simp [wk]
@[simp] theorem wk_fn:wk (.fn f xs ys) (.fn g us vs)=(f=g∧wkL xs us∧wkL ys vs):=by simp [wk]
@[simp] theorem wkL_nil:wkL [] []=True:=by simp [wkL]
@[simp] theorem wkL_cons (x y:AV):wkL (x::xs) (y::ys)=(wk x y∧wkL xs ys):=by simp [wkL]
end
theorem go_pure [Glob] {r:AV} (h:PureC P f args r) (hk:∀ m,s.nx≤m→go (K r (s.bump m))):go (ACalls P f args s K):=h.calls hk
theorem go_next {n:Nat} {I:Nat→Env→St→Prop} {Q:AExit→Env→St→Prop} {g:Env} {s:St} (m:Nat) (h:m < n) (hI:I m g s):go (loopQ n I Q .normal g s):=⟨m,h,hI⟩
theorem go_calls [Glob] (h:ACalls P f args s K):go (ACalls P f args s K):=h
def KeptX (s:St) (o:Nat) (s':St):Prop:=∀ q,q < s.nx→q≠o→s'.m q=s.m q
@[simp] theorem keptX_refl (s:St) (o:Nat):KeptX s o s:=fun _ _ _ => rfl
@[simp] theorem keptX_bump (s s':St) (o n:Nat):KeptX s o (s'.bump n)=KeptX s o s':=rfl
@[simp] theorem keptX_new [Glob] (s s':St) (o:Nat) (ob:AObj) (h:s.nx≤s'.nx):KeptX s o (s'.new ob)=KeptX s o s':=by
 have:∀ q,q < s.nx→(s'.new ob).m q=s'.m q:=fun q hq => St.new_ne _ _ _ (by omega)
 simp only [KeptX]
 exact propext ⟨fun k q hq => by rw [← this q hq];exact k q hq,fun k q hq => by rw [this q hq];exact k q hq⟩
@[simp] theorem keptX_self [Glob] (s s':St) (o:Nat) (ob:AObj):KeptX s o (s'.set o ob)=KeptX s o s':=by
 have:∀ q,q≠o→(s'.set o ob).m q=s'.m q:=fun q hq => St.set_ne _ _ _ _ hq
 simp only [KeptX]
 exact propext ⟨fun k q hq h => by rw [← this q h];exact k q hq h,fun k q hq h => by rw [this q h];exact k q hq h⟩
@[simp] theorem keptX_set [Glob] (s s':St) (o p:Nat) (ob:AObj) (h:s.nx≤p):KeptX s o (s'.set p ob)=KeptX s o s':=by
 have:∀ q,q < s.nx→(s'.set p ob).m q=s'.m q:=fun q hq => St.set_ne _ _ _ _ (by omega)
 simp only [KeptX]
 exact propext ⟨fun k q hq => by rw [← this q hq];exact k q hq,fun k q hq => by rw [this q hq];exact k q hq⟩
@[simp] theorem keptX_del [Glob] (s s':St) (o p:Nat) (h:s.nx≤p):KeptX s o (s'.del p)=KeptX s o s':=by
 have:∀ q,q < s.nx→(s'.del p).m q=s'.m q:=fun q hq => St.del_ne _ _ _ (by omega)
 simp only [KeptX]
 exact propext ⟨fun k q hq => by rw [← this q hq];exact k q hq,fun k q hq => by rw [this q hq];exact k q hq⟩
theorem ACalls.upd [Glob] {o:Nat} {ob:AObj} {r:AV} (ho:o < s.nx) (h:ACalls P f args s fun r' s' => wk r' r∧s'.m o=some ob∧KeptX s o s') (hK:∀ m,s.nx≤m→K r ((s.set o ob).bump m)):ACalls P f args s K:=by
 refine ACalls.bnd h.1 fun hb => ACalls.res (ACalls.norm (ACalls.mono h fun r' s' hn ⟨h1,h2,h3⟩ => ⟨(s.set o ob).m,fun q b hq => ?_,r,h1,hK _ hn⟩))
 by_cases e:q=o
 ·subst e
  rw [St.set_eq] at hq
  rw [h2,hq]
 ·rw [St.set_ne _ _ _ _ e] at hq
  rw [h3 q (hb q b hq) e,hq]
section
variable {o:Nat} {env:Env} {ps:List Nat} {n:Nat} {ca cb:Code} {as bd:ACode} {Q:AExit→Env→St→Prop} {g:Env} {keep:List Nat} {fo:AOpd}
theorem AYields.mono [Glob] (h:AYields P o args s K) (hk:∀ r s',s.nx≤s'.nx→K r s'→K' r s'):AYields P o args s K' :=
 fun ι w vs l h1 h2 h3 h4 => by
  obtain ⟨fn,tmps,a,b,e1,e2⟩:=h ι w vs l h1 h2 h3 h4
  exact ⟨fn,tmps,a,b,e1,RoundIn.mono e2 fun e w' ⟨v,r,s',ι',k1,k2,k3,k4,k5,k6,k7⟩ => ⟨v,r,s',ι',k1,k2,k3,k4,k5,k6,hk r s' k5.1 k7⟩⟩
theorem go_range [Glob] {fid:FuncId} {first cap:List AV} (hf:fo.val g []=.fn fid first cap)
  (h:∀ ca cb,rndOK P s.nx (envK keep g) ps n ca cb (awp P as) (awp P bd) →
   ACalls P fid (first++[.yld s.nx]++cap) (s.new (.loop 0 none (envK keep g) ps n ca cb)) fun _ s' => rangeR s.nx (envK keep g) ps n ca cb Q g s'):go (awp P (.rfunc fo ps n keep as bd) Q g s):=by
 intro ca cb hY
 rw [hf]
 exact h ca cb hY
theorem rnd_go [Glob] (h:rndOK P o env ps n ca cb (awp P as) (awp P bd)) (hobj:s.m o=some (.loop 0 none env ps n ca cb)) (hlen:args.length=ps.length)
  (hw:go (awp P as (asgQ P o env ps n ca cb bd K) (bindPs ps args env) s)):AYields P o args s K:=h args s K hobj hlen hw
theorem rangeR_end {st:Nat} (h:s.m o=some (.loop st none env ps n ca cb)) (hst:st≠1) (hq:go (Q .normal g (s.del o))):rangeR o env ps n ca cb Q g s:=⟨st,none,h,hst,hq⟩
@[simp] theorem bindPs_nil (g:Env):bindPs [] [] g=g:=rfl
@[simp] theorem bindPs_cons (p:Nat) (ps:List Nat) (x:AV) (xs:List AV) (g:Env):bindPs (p::ps) (x::xs) g=bindPs ps xs ((p,x)::g):=rfl
@[simp] theorem envK_nil (g:Env):envK [] g=[]:=rfl
@[simp] theorem envK_cons (t:Nat) (r:List Nat) (g:Env):envK (t::r) g=(t,g.get t)::envK r g:=rfl
end
theorem nx4:(∀ (s:St) (o:AObj),(s.new o).nx=s.nx+1)∧(∀ (s:St) (q:Nat) (o:AObj),(s.set q o).nx=s.nx)∧(∀ (s:St) (q:Nat),(s.del q).nx=s.nx)∧∀ (s:St) (n:Nat),(s.bump n).nx=n :=
 ⟨fun _ _ => rfl,fun _ _ _ => rfl,fun _ _ => rfl,fun _ _ => rfl⟩
end Go.AL
namespace Go.AL
open Go
abbrev ι0:Nat→Option Nat:=fun _ => none
abbrev F0:Nat→Nat→Prop:=Foot ι0 (fun _ => none)
theorem F0_no (b off:Nat):¬ F0 b off:=fun ⟨_,_,h,_⟩ => by cases h
def Cells (w:World) (cs:List Value) (xs:List AV):Prop :=
 cs.length=xs.length∧(∀ v∈cs,v.oneCell'=true)∧∀ (j:Nat) v y,cs[j]?=some v→xs[j]?=some y→Rep ι0 F0 w v y
theorem Cells.nil (w:World):Cells w [] []:=⟨rfl,by simp,by simp⟩
theorem Cells.cons {w:World} {v:Value} {x:AV} {cs:List Value} {xs:List AV} (h1:v.oneCell'=true) (h2:Rep ι0 F0 w v x) (h:Cells w cs xs):Cells w (v::cs) (x::xs):=by
 refine ⟨by simp [h.1],by simpa using ⟨h1,h.2.1⟩,fun j v' y hv hy => ?_⟩
 cases j with
 | zero => simp at hv hy;subst hv;subst hy;exact h2
 | succ j => exact h.2.2 j v' y (by simpa using hv) (by simpa using hy)
theorem Cells.agg {w:World} {cs:Array Value} {xs:List AV} (h:Cells w cs.toList xs):Rep ι0 F0 w (.agg cs) (.agg xs):=by
 refine .agg (by simpa using h.1) (fun j v hv => h.2.1 v ?_) (fun j v x hv hx => h.2.2 j v x (by simpa using hv) hx)
 have:cs.toList[j]?=some v:=by simpa using hv
 exact List.mem_of_getElem? this
theorem reads_list {α:Type} {n:Nat} {Q:Nat→α→Prop} (h:∀ i,i < n→∃ a,Q i a):∃ l:List α,l.length=n∧∀ i a,l[i]?=some a→Q i a:=by
 induction n with
 | zero => exact ⟨[],rfl,by simp⟩
 | succ n ih =>
  obtain ⟨l,hl,hq⟩:=ih fun i hi => h i (by omega)
  obtain ⟨a,ha⟩:=h n (by omega)
  refine ⟨l++[a],by simp [hl],fun i b hb => ?_⟩
  by_cases hi:i < n
  ·rw [List.getElem?_append_left (by omega)] at hb
   exact hq i b hb
  ·have:i=n:=by
    have:=(List.getElem?_eq_some_iff.1 hb).1
    simp at this;omega
   subst this
   rw [List.getElem?_append_right (by omega)] at hb
   simp [hl] at hb
   subst hb
   exact ha
theorem slice_reads {H:Type} {enc:TypeId × Value→H} {P:Program} {w:World} {n:Nat} {t e:TypeId} {cs:List Value} {x:DataW H × List MemPlace} {α:Type} {f:α→List AV} {sz:Nat}
  (ht:P.underlying t=some (.slice e)) (hs:P.cellsOf e=sz) (hpos:0 < sz)
  (hel:∀ m,m < n→∀ cs y,DataW.trod enc P w 0 (fun _ => true) true m e cs=some y→∃ a,Cells w cs (f a))
  (h:DataW.trod enc P w 0 (fun _ => true) true n t cs=some x) :
  ∃ (v:Value) (l:List α),cs=[v]∧v.oneCell'=true∧(∀ (g:α→AV),(∀ a,(g a).cells=f a)→Rep ι0 F0 w v (.list sz .none (l.map g)))∧(∀ a b,x.1=.slice a b→l.length=a.length)∧(x.1=.nil→l=[])∧l.length≤9223372036854775807:=by
 rcases DataW.trod_slice ht h with ⟨rfl,rfl⟩ | ⟨a,len,cap,elems,rest,m,rfl,rfl,rfl,_,hlc,hcm,hlen,hget,_,_⟩
 ·exact ⟨_,[],rfl,rfl,fun g hg => .list (fun _ => default) rfl (Nat.le_refl _) (by simp) trivial (by simp) (by simp) (by simp),fun a b h => by simp at h,fun _ => rfl,by simp⟩
 ·have key:∀ i,i < len→∃ a0:α,∃ cs':List Value,w.cells? 0 (a.add (i * sz)) sz=some cs'∧Cells w cs' (f a0):=by
   intro i hi
   have h1:=hget i hi
   obtain ⟨y,hy⟩:∃ y,elems[i]?=some y:=⟨elems[i]'(by omega),by simp [hlen,hi]⟩
   rw [hy,hs,Option.bind_eq_some_iff] at h1
   obtain ⟨cs',hc',hd⟩:=h1
   obtain ⟨a0,ha0⟩:=hel m (by omega) cs' y hd
   exact ⟨a0,cs',hc',ha0⟩
  obtain ⟨l,hl,hq⟩:=reads_list key
  refine ⟨_,l,rfl,rfl,fun g hg => ?_,fun a b h => by simp at h;rw [← h.1];simp [hl,hlen],fun h => by simp at h,by rw [hl];exact Nat.le_trans hlc hcm⟩
  have hall:∀ i,i < len→∃ a0 cs',l[i]?=some a0∧w.cells? 0 (a.add (i * sz)) sz=some cs'∧Cells w cs' (f a0):=fun i hi => by
   have h1:l[i]?=some (l[i]'(by omega)):=by simp [hl,hi]
   obtain ⟨cs',h2,h3⟩:=hq i _ h1
   exact ⟨_,cs',h1,h2,h3⟩
  have hfl:∀ a0∈l,(f a0).length=sz:=fun a0 h0 => by
   obtain ⟨i,hi⟩:=List.getElem?_of_mem h0
   obtain ⟨cs',h2,h3⟩:=hq i a0 hi
   rw [← h3.1]
   exact (World.cells?_some h2).2.1
  have hsz:∀ x∈l.map g,x.cells.length=sz:=by
   intro x hx
   obtain ⟨a0,h0,rfl⟩:=List.mem_map.1 hx
   rw [hg];exact hfl a0 h0
  have hcell:∀ j,j < len * sz→∃ a0 cs' v,a.spot=none∧l[j / sz]?=some a0∧Cells w cs' (f a0)∧cs'[j % sz]?=some v∧w.cell? ⟨a.block,a.off+j,none⟩=some v:=by
   intro j hj
   have hi:j / sz < len:=Nat.div_lt_of_lt_mul (by rw [Nat.mul_comm];exact hj)
   have hm:j % sz < sz:=Nat.mod_lt _ hpos
   obtain ⟨a0,cs',h1,h2,h3⟩:=hall _ hi
   obtain ⟨_,e1,e2⟩:=World.cells?_some h2
   obtain ⟨v,hv⟩:∃ v,cs'[j % sz]?=some v:=⟨cs'[j % sz]'(by omega),by simp [e1,hm]⟩
   have e3:=e2 (j % sz) hm
   rw [hv] at e3
   obtain ⟨b,off,spot⟩:=a
   have hsp:spot=none:=by
    obtain ⟨a1,cs1,g1,g2,g3⟩:=hall 0 (Nat.lt_of_le_of_lt (Nat.zero_le _) hi)
    obtain ⟨_,k1,k2⟩:=World.cells?_some g2
    obtain ⟨v1,hv1⟩:∃ v,cs1[0]?=some v:=⟨cs1[0]'(by omega),by simp [k1,hpos]⟩
    have k3:=k2 0 hpos
    rw [hv1] at k3
    simpa [Addr.add] using World.cell?_spot k3
   subst hsp
   rw [WideShapes.add_plain,WideShapes.add_plain] at e3
   refine ⟨a0,cs',v,rfl,h1,h3,hv,?_⟩
   rw [← e3,Nat.add_assoc,Nat.div_add_mod']
  refine .list (fun j => (w.cell? ⟨a.block,a.off+j,none⟩).getD default) (by simp [hl]) hlc hsz trivial (by simp) (fun j hj => ?_) (fun j x hx => ?_)
  ·obtain ⟨a0,cs',v,h1,h2,h3,h4,h5⟩:=hcell j hj
   exact ⟨a,rfl,h1,by rw [h5];rfl,F0_no _ _,by rw [h5];exact h3.2.1 v (List.mem_of_getElem? h4)⟩
  ·have hj:j < len * sz:=by
    have:=(List.getElem?_eq_some_iff.1 hx).1
    rw [flat_length hsz] at this
    simpa [hl] using this
   obtain ⟨a0,cs',v,h1,h2,h3,h4,h5⟩:=hcell j hj
   rw [h5]
   have hm:j % sz < sz:=Nat.mod_lt _ hpos
   have hx':=flat_get hsz (j / sz) (j % sz) hm
   rw [Nat.div_add_mod'] at hx'
   rw [hx',List.getElem?_map,h2] at hx
   simp only [Option.map_some,Option.bind_some,hg] at hx
   exact h3.2.2 _ v x h4 hx
theorem Step.below {w w':World} {ι':Nat→Option Nat} {S':Store} (h:Step ι0 (fun _ => none) w ι' S' w'):RowKit.Below w.heap.size w w' :=
 ⟨h.os,h.tape,h.output,h.size,fun k hk => h.blk k hk fun ⟨_,_,e,_⟩ => by cases e⟩
def LaidAt [Glob] (w:World):Prop:=∀ g x,Glob.gt g=some x→Rep ι0 F0 w (.pointer (some ⟨g,0,none⟩)) x
theorem WF0 [Glob] {w:World} (h:LaidAt w):WF ι0 (fun _ => none) w:=⟨by simp,by simp,by simp,h⟩
theorem law_calls [Glob] {P:Program} {f:FuncId} {args:List AV} {b:Bool} (h:PureC P f args (.bool b)) {w:World} (hl:LaidAt w) {vs:Array Value} (hr:RepL ι0 F0 w vs args) :
  Calls P f vs w fun e w' => e=.returned (.bool b)∧RowKit.Below w.heap.size w w':=by
 refine Calls.mono ((h ⟨fun _ => none,0⟩).2 ι0 w vs (WF0 hl) ⟨by simp,by simp⟩ hr) ?_
 rintro e w' ⟨v,r,s',ι',rfl,h1,h2,h3,h4,h5,rfl,h6⟩
 cases h5
 exact ⟨rfl,h1.below⟩
end Go.AL
