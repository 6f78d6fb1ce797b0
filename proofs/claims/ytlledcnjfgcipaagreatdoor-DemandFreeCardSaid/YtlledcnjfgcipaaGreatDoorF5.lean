/- Plain code as data, and what walks over it need. -/
import Derived.Test.YtlledcnjfgcipaaGreatDoorG1
import Derived.Test.YtlledcnjfgcipaaGreatDoorProg
import Derived.KernelRfl
set_option linter.unusedVariables false
set_option linter.unusedSimpArgs false
namespace Go.AL.Dm
structure Hd where
 op:Int
 s:ByteArray
 n:Int
inductive Pl where
 | mk (op n:Int) (s:ByteArray) (args:List Pl) (alts:List (Hd × Pl))
namespace Pl
def op:Pl→Int | mk o _ _ _ _=>o
def n:Pl→Int | mk _ o _ _ _=>o
def s:Pl→ByteArray | mk _ _ s _ _=>s
def args:Pl→List Pl | mk _ _ _ a _=>a
def alts:Pl→List (Hd × Pl) | mk _ _ _ _ a=>a
@[simp] theorem ALG (o n:Int) (s:ByteArray) (a:List Pl) (b:List (Hd × Pl)):(mk o n s a b).op=o:=rfl
@[simp] theorem ALL (o n:Int) (s:ByteArray) (a:List Pl) (b:List (Hd × Pl)):(mk o n s a b).n=n:=rfl
@[simp] theorem ALM (o n:Int) (s:ByteArray) (a:List Pl) (b:List (Hd × Pl)):(mk o n s a b).s=s:=rfl
@[simp] theorem AJJ (o n:Int) (s:ByteArray) (a:List Pl) (b:List (Hd × Pl)):(mk o n s a b).args=a:=rfl
@[simp] theorem AJK (o n:Int) (s:ByteArray) (a:List Pl) (b:List (Hd × Pl)):(mk o n s a b).alts=b:=rfl
mutual
def av:Pl→AV
 | mk op n s args alts=>.agg [.int .i64 op,.int .i64 n,.str s,.list 5 .none (avs args),.list 8 .none (Lb alts)]
def avs:List Pl→List AV
 | []=>[]
 | t::ts=>av t::avs ts
def Lb:List (Hd × Pl)→List AV
 | []=>[]
 | (h,b)::r=>.agg (.int .i64 h.op::.str h.s::.int .i64 h.n::(av b).cells)::Lb r
end
def BK (a:Hd × Pl):AV:=.agg (.int .i64 a.1.op::.str a.1.s::.int .i64 a.1.n::(av a.2).cells)
theorem Ww:∀ ts,avs ts=ts.map av
 | []=>rfl
 | t::ts=>by simp [avs,Ww ts]
theorem MX:∀ ts,Lb ts=ts.map BK
 | []=>rfl
 | (h,b)::ts=>by simp [Lb,BK,MX ts]
theorem It (op n:Int) (s:ByteArray) (a:List Pl) (b:List (Hd × Pl)):av (mk op n s a b)=.agg [.int .i64 op,.int .i64 n,.str s,.list 5 .none (a.map av),.list 8 .none (b.map BK)]:=by simp [av,Ww,MX]
@[simp] theorem Am (t:Pl):t.av.cells=[.int .i64 t.op,.int .i64 t.n,.str t.s,.list 5 .none (t.args.map av),.list 8 .none (t.alts.map BK)]:=by cases t;simp [It]
@[simp] theorem Wx (t:Pl):t.av.isVal=true:=by cases t;rfl
@[simp] theorem Iu (t:Pl):AV.agg [.int .i64 t.op,.int .i64 t.n,.str t.s,.list 5 .none (t.args.map av),.list 8 .none (t.alts.map BK)]=t.av:=by cases t;simp [It]
@[simp] theorem Ri (a:Hd × Pl):(BK a).cells=[.int .i64 a.1.op,.str a.1.s,.int .i64 a.1.n,.int .i64 a.2.op,.int .i64 a.2.n,.str a.2.s,.list 5 .none (a.2.args.map av),.list 8 .none (a.2.alts.map BK)]:=by simp [BK]
@[simp] theorem ADT (a:Hd × Pl):(BK a).isVal=true:=rfl
@[simp] theorem MY (a:Hd × Pl):AV.agg [.int .i64 a.1.op,.str a.1.s,.int .i64 a.1.n,.int .i64 a.2.op,.int .i64 a.2.n,.str a.2.s,.list 5 .none (a.2.args.map av),.list 8 .none (a.2.alts.map BK)]=BK a:=by simp [BK]
theorem ind {C:Pl→Prop} (h:∀ t,(∀ x∈t.args,C x)→(∀ a∈t.alts,C a.2)→C t) (t:Pl):C t:=by
 refine Pl.rec (motive_1:=C) (motive_2:=fun l=>∀ x∈l,C x) (motive_3:=fun l=>∀ a∈l,C a.2) (motive_4:=fun a=>C a.2) ?_ ?_ ?_ ?_ ?_ ?_ t
 ·intro o n s a b ih1 ih2
  exact h _ ih1 ih2
 ·intro x hx;cases hx
 ·intro a l ha hl x hx
  simp only [List.mem_cons]at hx
  rcases hx with rfl | hx
  ·exact ha
  ·exact hl x hx
 ·intro x hx;cases hx
 ·intro a l ha hl x hx
  simp only [List.mem_cons]at hx
  rcases hx with rfl | hx
  ·exact ha
  ·exact hl x hx
 ·intro a b hb
  exact hb
end Pl
structure Gl where
 name:ByteArray
 body:Pl
def Gl.av (g:Gl):AV:=.agg (.str g.name::g.body.av.cells)
@[simp] theorem Gl.Am (g:Gl):g.av.cells=[.str g.name,.int .i64 g.body.op,.int .i64 g.body.n,.str g.body.s,.list 5 .none (g.body.args.map Pl.av),.list 8 .none (g.body.alts.map Pl.BK)]:=by simp [Gl.av]
@[simp] theorem Gl.Wx (g:Gl):g.av.isVal=true:=rfl
@[simp] theorem Gl.Iu (g:Gl):AV.agg [.str g.name,.int .i64 g.body.op,.int .i64 g.body.n,.str g.body.s,.list 5 .none (g.body.args.map Pl.av),.list 8 .none (g.body.alts.map Pl.BK)]=g.av:=by simp [Gl.av]
theorem wrapS {i:Nat} (h:i < 9000000000000000000):IntKind.i64.wrap ((i:Int)+1)=((i+1:Nat):Int):=by simp [IntKind.wrap,IntKind.signed,IntKind.bits];omega
theorem wrap64 {x:Int} (h1:-9223372036854775808≤x) (h2:x≤9223372036854775807):IntKind.i64.wrap x=x:=by
 unfold IntKind.wrap
 simp [IntKind.bits,IntKind.signed]
 omega
end Go.AL.Dm
namespace Go.AL.Dm
open Go
def Lc:AV:=.Ai [(.int .i64 2),(.int .i64 2),(.int .i64 2),(.int .i64 2),(.int .i64 2),(.int .i64 2),(.int .i64 2),(.int .i64 2),(.int .i64 2),(.int .i64 1),(.int .i64 1),(.int .i64 2),(.int .i64 1),(.int .i64 0),(.int .i64 2),(.int .i64 1),(.int .i64 2),(.int .i64 1),(.int .i64 0),(.int .i64 1),(.int .i64 1),(.int .i64 2),(.int .i64 1),(.int .i64 1),(.int .i64 2),(.int .i64 0),(.int .i64 2)]
def Hx:List (Value × Value):=[(.string ⟨#[97,100,100]⟩,.int .i64 2),(.string ⟨#[97,116,111,109,105,99,97,108,108,121]⟩,.int .i64 1),(.string ⟨#[98,105,110,100,73,79]⟩,.int .i64 2),(.string ⟨#[98,105,110,100,83,84,77]⟩,.int .i64 2),(.string ⟨#[99,97,116,99,104]⟩,.int .i64 2),(.string ⟨#[100,105,118]⟩,.int .i64 2),(.string ⟨#[101,113]⟩,.int .i64 2),(.string ⟨#[102,111,114,107]⟩,.int .i64 1),(.string ⟨#[103,101,116]⟩,.int .i64 0),(.string ⟨#[107,105,108,108]⟩,.int .i64 2),(.string ⟨#[108,101]⟩,.int .i64 2),(.string ⟨#[108,116]⟩,.int .i64 2),(.string ⟨#[109,97,115,107]⟩,.int .i64 1),(.string ⟨#[109,111,100]⟩,.int .i64 2),(.string ⟨#[109,117,108]⟩,.int .i64 2),(.string ⟨#[110,101,119,84,86,97,114]⟩,.int .i64 1),(.string ⟨#[111,114,69,108,115,101]⟩,.int .i64 2),(.string ⟨#[112,117,116]⟩,.int .i64 1),(.string ⟨#[114,101,97,100,84,86,97,114]⟩,.int .i64 1),(.string ⟨#[114,101,116,114,121]⟩,.int .i64 0),(.string ⟨#[114,101,116,117,114,110,73,79]⟩,.int .i64 1),(.string ⟨#[114,101,116,117,114,110,83,84,77]⟩,.int .i64 1),(.string ⟨#[115,101,113]⟩,.int .i64 2),(.string ⟨#[115,117,98]⟩,.int .i64 2),(.string ⟨#[116,104,114,111,119]⟩,.int .i64 1),(.string ⟨#[119,114,105,116,101,84,86,97,114]⟩,.int .i64 2),(.string ⟨#[121,105,101,108,100]⟩,.int .i64 0)]
def EM:AV:=.Ai [.Dc Hx]
def Hy:List (Value × Value):=[(.string ⟨#[97,100,100]⟩,.bool true),(.string ⟨#[100,105,118]⟩,.bool true),(.string ⟨#[101,113]⟩,.bool true),(.string ⟨#[108,101]⟩,.bool true),(.string ⟨#[108,116]⟩,.bool true),(.string ⟨#[109,111,100]⟩,.bool true),(.string ⟨#[109,117,108]⟩,.bool true),(.string ⟨#[115,101,113]⟩,.bool true),(.string ⟨#[115,117,98]⟩,.bool true),(.string ⟨#[116,104,114,111,119]⟩,.bool true)]
def Ns:AV:=.Ai [.Dc Hy]
def JX:List (Value × Value):=[(.int .i64 1,.agg #[.int .i64 0,.int .i64 0,.bool true,.bool false,.bool false]),(.int .i64 2,.agg #[.int .i64 0,.int .i64 0,.bool false,.bool true,.bool false]),(.int .i64 3,.agg #[.int .i64 0,.int .i64 0,.bool true,.bool false,.bool false]),(.int .i64 4,.agg #[.int .i64 0,.int .i64 12,.bool false,.bool true,.bool false]),(.int .i64 5,.agg #[.int .i64 1,.int .i64 1,.bool true,.bool false,.bool false]),(.int .i64 6,.agg #[.int .i64 2,.int .i64 9,.bool false,.bool false,.bool false]),(.int .i64 7,.agg #[.int .i64 2,.int .i64 13,.bool false,.bool false,.bool false]),(.int .i64 8,.agg #[.int .i64 1,.int .i64 1,.bool false,.bool false,.bool true]),(.int .i64 9,.agg #[.int .i64 0,.int .i64 2,.bool false,.bool true,.bool false])]
def JR:AV:=.Ai [.Dc JX]
def AIB:Nat→Option AV
 | 0=>some JR
 | 1=>some EM
 | 2=>some Ns
 | 3=>some Lc
 | _=>none
instance:Glob:=⟨AIB⟩
abbrev oL (t:Nat) (op:AOp):AR:=⟨some (false,t),op,none,[]⟩
abbrev oT (t:Nat) (op:AOp):AR:=⟨some (true,t),op,none,[]⟩
abbrev oN (op:AOp):AR:=⟨none,op,none,[]⟩
abbrev oLf (t:Nat) (op:AOp) (c:Nat):AR:=⟨some (false,t),op,some (false,c,false),[]⟩
abbrev oLt (t:Nat) (op:AOp) (c:Nat):AR:=⟨some (false,t),op,some (false,c,true),[]⟩
abbrev oTf (t:Nat) (op:AOp) (c:Nat):AR:=⟨some (true,t),op,some (false,c,false),[]⟩
abbrev oTt (t:Nat) (op:AOp) (c:Nat):AR:=⟨some (true,t),op,some (false,c,true),[]⟩
abbrev ci (n:Int):AG:=.c (.int .i64 n)
abbrev Rg:=List AR
abbrev rq (l:List AR):Ae:=.reg false l
abbrev cT:AG:=.c (.bool true)
abbrev cF:AG:=.c (.bool false)
abbrev nzl:AV:=.list 0 .full []
abbrev i0:AV:=.int .i64 0
abbrev s0:AV:=.str ⟨#[]⟩
abbrev bF:AV:=.bool false
abbrev _root_.Go.AL.AOp.fa (n:Nat) (x:AG):AOp:=.fieldAddr n x
abbrev _root_.Go.AL.AOp.ia (n:Nat) (x i:AG):AOp:=.indexAddr n x i
abbrev _root_.Go.AL.AOp.ld (x:AG):AOp:=.load 1 false x
abbrev _root_.Go.AL.AOp.cf (f:Nat) (l:List AG):AOp:=.call false (.c (.fn f [] [])) l
abbrev _root_.Go.AL.AOp.ct (f:Nat) (l:List AG):AOp:=.call true (.c (.fn f [] [])) l
end Go.AL.Dm
set_option maxRecDepth 100000
namespace Go.AL.Dm
open Go.Proofs
abbrev CF (gs:List Nat) (f:Func):={x:F7 // A7 Tryz.prog gs f=some x}
/- damask/damaskref15.weight -/
def ABV:Rg:=[oT 3 (.box (.g 0)),oT 6 (.mv (ci 0))]
def ABW:Rg:=[oT 7 (.mv (ci 1))]
def ABX:Rg:=[oL 10 (.mv (.g 2)),oT 11 (.bin .eql (.l 10) (ci 0))]
def ABY:Rg:=[oL 12 (.mv (.g 1)),oL 13 (.bin .add (.l 12) (ci 1)),oT 6 (.mv (.l 13))]
def ABZ:Rg:=[oT 8 (.mv (ci 0))]
def Sw:Rg:=[oL 14 (.mv (.g 8)),oL 15 (.fa 3 (.g 3)),oL 16 (.ld (.l 15)),oL 17 (.len (.l 16)),oL 18 (.bin .lss (.l 14) (.l 17)),oL 19 (.mv (.l 18)),oLt 20 (.mv (.g 7)) 19,oLt 21 (.mv (.g 1)) 19,oLt 22 (.bin .leq (.l 20) (.l 21)) 19,oT 23 (.pick (.l 19) (.l 22) cF)]
def ABa:Rg:=[oL 26 (.mv (.g 7)),oL 27 (.fa 3 (.g 3)),oL 28 (.ld (.l 27)),oL 29 (.mv (.g 8)),oL 30 (.ia 5 (.l 28) (.l 29)),oL 31 (.load 5 true (.l 30)),oL 32 (.mv (.g 1)),oL 33 (.mv (.g 7)),oL 34 (.bin .sub (.l 32) (.l 33)),oL 35 (.mv (.g 2)),oL 36 (.bin .sub (.l 35) (ci 1)),oL 37 (.cf 38 [(.l 31),(.l 34),(.l 36)]),oL 38 (.bin .add (.l 26) (.l 37)),oT 7 (.mv (.l 38))]
def ABb:Rg:=[oL 24 (.mv (.g 8)),oL 25 (.bin .add (.l 24) (ci 1)),oT 8 (.mv (.l 25))]
def Sx:Ae:=(.seq (.seq (rq Sw) (.cond (.g 23) .skip (.exit 0))) (.seq (.block 1 (rq ABa)) (rq ABb)))
def Wy:Rg:=[oT 9 (.mv (ci 0))]
def N8:Rg:=[oL 39 (.mv (.g 9)),oL 40 (.fa 4 (.g 3)),oL 41 (.ld (.l 40)),oL 42 (.len (.l 41)),oL 43 (.bin .lss (.l 39) (.l 42)),oL 44 (.mv (.l 43)),oLt 45 (.mv (.g 7)) 44,oLt 46 (.mv (.g 1)) 44,oLt 47 (.bin .leq (.l 45) (.l 46)) 44,oT 48 (.pick (.l 44) (.l 47) cF)]
def Wz:Rg:=[oL 51 (.mv (.g 7)),oL 52 (.bin .add (.l 51) (ci 1)),oL 53 (.fa 4 (.g 3)),oL 54 (.ld (.l 53)),oL 55 (.mv (.g 9)),oL 56 (.ia 8 (.l 54) (.l 55)),oL 57 (.fa 3 (.l 56)),oL 58 (.load 5 true (.l 57)),oL 59 (.mv (.g 1)),oL 60 (.mv (.g 7)),oL 61 (.bin .sub (.l 59) (.l 60)),oL 62 (.mv (.g 2)),oL 63 (.bin .sub (.l 62) (ci 1)),oL 64 (.cf 38 [(.l 58),(.l 61),(.l 63)]),oL 65 (.bin .add (.l 52) (.l 64)),oT 7 (.mv (.l 65))]
def W0:Rg:=[oL 49 (.mv (.g 9)),oL 50 (.bin .add (.l 49) (ci 1)),oT 9 (.mv (.l 50))]
def Ld:Ae:=(.seq (.seq (rq N8) (.cond (.g 48) .skip (.exit 2))) (.seq (.block 3 (rq Wz)) (rq W0)))
def N9:Rg:=[oL 66 (.mv (.g 7)),oT 6 (.mv (.l 66))]
def AIC:Ae:=(.seq (rq ABV) (.seq (rq ABW) (.seq (.seq (rq ABX) (.cond (.g 11) (.seq (rq ABY) .ret) .skip)) (.seq (.seq (rq ABZ) (.block 0 (.loop Sx))) (.seq (.seq (rq Wy) (.block 2 (.loop Ld))) (.seq (rq N9) .ret))))))
def a38:F7:=⟨3,67,AIC,[.tmp (true,6)]⟩
theorem c38:A7 Tryz.prog [0,1,2,3,6,7,8,9,11,23,48] Tryz.f38=some a38:=by kernel_rfl
def k14:CF [0,1,2,4] Tryz.f14:=by refine⟨?_,?_⟩;rotate_left;cbv;rfl
def k33:CF [0,1,4,5,6,17] Tryz.f33:=by refine⟨?_,?_⟩;rotate_left;cbv;rfl
def k8:CF [0,1,3,4] Tryz.f8:=by refine⟨?_,?_⟩;rotate_left;cbv;rfl
def k106:CF [0,2] Tryz.f106:=by refine⟨?_,?_⟩;rotate_left;cbv;rfl
def k34:CF [0,2,3,21,25,32] Tryz.f34:=by refine⟨?_,?_⟩;rotate_left;cbv;rfl
def k71:CF [0,2] Tryz.f71:=by refine⟨?_,?_⟩;rotate_left;cbv;rfl
def k72:CF [0,2] Tryz.f72:=by refine⟨?_,?_⟩;rotate_left;cbv;rfl
def k73:CF [0,2] Tryz.f73:=by refine⟨?_,?_⟩;rotate_left;cbv;rfl
def k147:CF [0,1,4,5,9,16] Tryz.f147:=by refine⟨?_,?_⟩;rotate_left;cbv;rfl
def k74:CF [0,2,3,15,17,18,19,25] Tryz.f74:=by refine⟨?_,?_⟩;rotate_left;cbv;rfl
def k107:CF [0,2] Tryz.f107:=by refine⟨?_,?_⟩;rotate_left;cbv;rfl
def k108:CF [0,2,3,4] Tryz.f108:=by refine⟨?_,?_⟩;rotate_left;cbv;rfl
end Go.AL.Dm
namespace Go.AL.Dm
open Go Go.Proofs
theorem mixed:Tryz.prog.follows .mixedOrders=true:=by kernel_rfl
mutual
def wt:Pl→Int→Int→Int
 | .mk _ _ _ args alts,most,deep=>if deep=0 then most+1 else wta alts most deep (wts args most deep 1)
def wts:List Pl→Int→Int→Int→Int
 | [],_,_,n=>n
 | t::ts,most,deep,n=>if n≤most then wts ts most deep (n+wt t (most - n) (deep - 1))else n
def wta:List (Hd × Pl)→Int→Int→Int→Int
 | [],_,_,n=>n
 | (_,b)::ts,most,deep,n=>if n≤most then wta ts most deep (n+1+wt b (most - n) (deep - 1))else n
end
theorem SW (t:Pl) (most deep:Int):wt t most deep=if deep=0 then most+1 else wta t.alts most deep (wts t.args most deep 1):=by cases t;rw [wt];rfl
theorem MZ:∀ (ts:List Pl) (most deep n:Int),(∀ x∈ts,∀ most deep,0≤most→0≤deep→1≤wt x most deep∧wt x most deep≤most+1+deep)→0≤most→1≤deep→1≤n→n≤most+1+deep →
  1≤wts ts most deep n∧wts ts most deep n≤most+1+deep
 | [],most,deep,n,_,_,_,h1,h2=>⟨h1,h2⟩
 | t::ts,most,deep,n,h,hm,hd,h1,h2=>by
  simp only [wts]
  split
  ·obtain⟨k1,k2⟩:=h t (by simp) (most - n) (deep - 1) (by omega) (by omega)
   exact MZ ts most deep _ (fun x hx=>h x (by simp [hx])) hm hd (by omega) (by omega)
  ·exact⟨h1,h2⟩
theorem Ma:∀ (ts:List (Hd × Pl)) (most deep n:Int),(∀ x∈ts,∀ most deep,0≤most→0≤deep→1≤wt x.2 most deep∧wt x.2 most deep≤most+1+deep)→0≤most→1≤deep→1≤n→n≤most+1+deep →
  1≤wta ts most deep n∧wta ts most deep n≤most+1+deep
 | [],most,deep,n,_,_,_,h1,h2=>⟨h1,h2⟩
 | (hh,b)::ts,most,deep,n,h,hm,hd,h1,h2=>by
  simp only [wta]
  split
  ·obtain⟨k1,k2⟩:=h (hh,b) (by simp) (most - n) (deep - 1) (by omega) (by omega)
   simp only at k1 k2
   exact Ma ts most deep _ (fun x hx=>h x (by simp [hx])) hm hd (by omega) (by omega)
  ·exact⟨h1,h2⟩
theorem Iv (t:Pl):∀ most deep,0≤most→0≤deep→1≤wt t most deep∧wt t most deep≤most+1+deep:=by
 induction t using Pl.ind with
 | h t ih1 ih2 =>
  intro most deep hm hd
  rw [SW]
  split
  ·omega
  ·obtain⟨k1,k2⟩:=MZ t.args most deep 1 ih1 hm (by omega) (by omega) (by omega)
   exact Ma t.alts most deep _ ih2 hm (by omega) k1 k2
def C38 (t:Pl):Prop:=∀ most deep:Int,0≤most→most≤10000→0≤deep→deep≤1000→AF Tryz.prog 38 [t.av,.int .i64 most,.int .i64 deep] (.int .i64 (wt t most deep))
def I38 (t:Pl) (most deep:Int) (s:St) (m:Nat) (g:Env) (s1:St):Prop :=
 ∃ (i:Nat) (acc:Int),i≤t.args.length∧m=t.args.length - i∧(i:Int)+1≤acc∧acc≤most+1+deep∧wts (t.args.drop i) most deep acc=wts t.args most deep 1 ∧
  g.get 1=.int .i64 most∧g.get 2=.int .i64 deep∧g.get 3=.ptr s.nx 0∧g.get 7=.int .i64 acc∧g.get 8=.int .i64 i∧s1.m s.nx=some (.box t.av.cells)∧Kept s s1∧s.nx < s1.nx
def J38 (t:Pl) (most deep:Int) (s:St) (m:Nat) (g:Env) (s1:St):Prop :=
 ∃ (i:Nat) (acc:Int),i≤t.alts.length∧m=t.alts.length - i∧(i:Int)+1≤acc∧acc≤most+1+deep∧wta (t.alts.drop i) most deep acc=wta t.alts most deep (wts t.args most deep 1) ∧
  g.get 1=.int .i64 most∧g.get 2=.int .i64 deep∧g.get 3=.ptr s.nx 0∧g.get 7=.int .i64 acc∧g.get 9=.int .i64 i∧s1.m s.nx=some (.box t.av.cells)∧Kept s s1∧s.nx < s1.nx
theorem getD_map {α:Type} (f:α→AV) (l:List α) (i:Nat) (h:i < l.length):(l.map f).getD i .any=f l[i]:=by simp [h]
theorem p38 (t:Pl):C38 t:=by
 induction t using Pl.ind with
 | h t ih1 ih2 =>
  intro most deep hm hm2 hd hd2
  refine AF.intro fun s=>AD mixed Tryz.func38 Tryz.call38 c38 rfl (AE _ _ _ _ ?_)
  simp -implicitDefEqProofs (disch:=first|omega|simp only[nx4]<;>omega|fail) [a38,AIC,ABV,ABW,ABX]
  refine⟨fun h0=>?_,fun h0=>?_⟩
  ·have w1:IntKind.i64.wrap (most+1)=most+1:=wrap64 (by omega) (by omega)
   simp -implicitDefEqProofs (disch:=first|omega|simp only[nx4]<;>omega|fail) [ABY,w1,SW,h0]
  simp -implicitDefEqProofs (disch:=first|omega|simp only[nx4]<;>omega|fail) [ABZ]
  refine AQ (I38 t most deep s) t.args.length ⟨0,1,by omega,by omega,by omega,by omega,by simp,?_,?_,?_,?_,?_,?_,?_,?_⟩ ?_
  iterate 8 (simp -implicitDefEqProofs (disch:=first|omega|simp only[nx4]<;>omega|fail))
  ·rintro m g s1 ⟨i,acc,hi,rfl,h1,h2,hw,e1,e2,e3,e7,e8,hb,hk,hn⟩
   by_cases hgo:i < t.args.length∧acc≤most
   ·obtain⟨hlt,hac⟩:=hgo
    have hlt':(i:Int) < t.args.length:=by omega
    have w1:IntKind.i64.wrap (most - acc)=most - acc:=wrap64 (by omega) (by omega)
    have w2:IntKind.i64.wrap (deep - 1)=deep - 1:=wrap64 (by omega) (by omega)
    have w3:=wrapS (i:=i) (by omega)
    obtain⟨b1,b2⟩:=Iv t.args[i] (most - acc) (deep - 1) (by omega) (by omega)
    have w4:IntKind.i64.wrap (acc+wt t.args[i] (most - acc) (deep - 1))=acc+wt t.args[i] (most - acc) (deep - 1):=wrap64 (by omega) (by omega)
    simp -implicitDefEqProofs (disch:=first|omega|simp only[nx4]<;>omega|fail) [Sx,Sw,ABa,ABb,e1,e2,e3,e7,e8,hb,hlt',hac,getD_map _ _ _ hlt,w1,w2]
    refine AA (ih1 _ (List.getElem_mem hlt) _ _ (by omega) (by omega) (by omega) (by omega)) fun mm1 hm1=>?_
    try simp only [nx4]at hm1
    simp -implicitDefEqProofs (disch:=first|omega|simp only[nx4]<;>omega|fail) [e8,w3,w4]
    refine AK (t.args.length - (i+1)) (by omega) ⟨i+1,_,by omega,rfl,?_,?_,?_,?_,?_,?_,rfl,rfl,?_,?_,?_⟩
    iterate 2 (omega)
    ·rw [List.drop_eq_getElem_cons hlt,wts,if_pos hac]at hw
     exact hw
    all_goals (try simp -implicitDefEqProofs (disch:=first|omega|simp only[nx4]<;>omega|fail) [e1,e2,e3,hb,hk])
    all_goals omega
   ·have hfin:wts t.args most deep 1=acc:=by
     rw [← hw]
     by_cases hlt:i < t.args.length
     ·have:¬ acc≤most:=fun h=>hgo ⟨hlt,h⟩
      rw [List.drop_eq_getElem_cons hlt,wts,if_neg this]
     ·rw [List.drop_eq_nil_of_le (by omega),wts]
    have hex:go (awp Tryz.prog (.seq (.seq (.reg false Wy) (.block 2 (.loop Ld))) (.seq (.reg false N9) .ret)) (Dd [.tmp (true,6)] fun r' s'=>wk r' (.int .i64 (wt t most deep))∧Kept s s') ((23,.bool false)::g) s1):=by
     simp -implicitDefEqProofs (disch:=first|omega|simp only[nx4]<;>omega|fail) [Wy]
     refine AQ (J38 t most deep s) t.alts.length ⟨0,acc,by omega,by omega,by omega,by omega,by simp [hfin],?_,?_,?_,?_,?_,?_,?_,?_⟩ ?_
     all_goals (try simp -implicitDefEqProofs (disch:=first|omega|simp only[nx4]<;>omega|fail) [e1,e2,e3,e7,hb,hk])
     ·exact hn
     rintro m g s1 ⟨i,acc,hi,rfl,h1,h2,hw,e1,e2,e3,e7,e8,hb,hk,hn⟩
     by_cases hgo:i < t.alts.length∧acc≤most
     ·obtain⟨hlt,hac⟩:=hgo
      have hlt':(i:Int) < t.alts.length:=by omega
      have w1:IntKind.i64.wrap (most - acc)=most - acc:=wrap64 (by omega) (by omega)
      have w2:IntKind.i64.wrap (deep - 1)=deep - 1:=wrap64 (by omega) (by omega)
      have w3:=wrapS (i:=i) (by omega)
      have w5:IntKind.i64.wrap (acc+1)=acc+1:=wrap64 (by omega) (by omega)
      obtain⟨b1,b2⟩:=Iv t.alts[i].2 (most - acc) (deep - 1) (by omega) (by omega)
      have w4:IntKind.i64.wrap (acc+1+wt t.alts[i].2 (most - acc) (deep - 1))=acc+1+wt t.alts[i].2 (most - acc) (deep - 1):=wrap64 (by omega) (by omega)
      simp -implicitDefEqProofs (disch:=first|omega|simp only[nx4]<;>omega|fail) [Ld,N8,Wz,W0,e1,e2,e3,e7,e8,hb,hlt',hac,getD_map _ _ _ hlt,w1,w2,w5]
      refine AA (ih2 _ (List.getElem_mem hlt) _ _ (by omega) (by omega) (by omega) (by omega)) fun mm2 hm2=>?_
      try simp only [nx4]at hm2
      simp -implicitDefEqProofs (disch:=first|omega|simp only[nx4]<;>omega|fail) [e8,w3,w4]
      refine AK (t.alts.length - (i+1)) (by omega) ⟨i+1,_,by omega,rfl,?_,?_,?_,?_,?_,?_,rfl,rfl,?_,?_,?_⟩
      iterate 2 (omega)
      ·rw [List.drop_eq_getElem_cons hlt,wta,if_pos hac]at hw
       exact hw
      all_goals (try simp -implicitDefEqProofs (disch:=first|omega|simp only[nx4]<;>omega|fail) [e1,e2,e3,hb,hk])
      all_goals omega
     ·have hfin:wt t most deep=acc:=by
       rw [SW,if_neg h0,← hw]
       by_cases hlt:i < t.alts.length
       ·have:¬ acc≤most:=fun h=>hgo ⟨hlt,h⟩
        rw [List.drop_eq_getElem_cons hlt,wta,if_neg this]
       ·rw [List.drop_eq_nil_of_le (by omega),wta]
      by_cases hlt:(i:Int) < t.alts.length
      ·have hac:¬ acc≤most:=fun h=>hgo ⟨by omega,h⟩
       simp -implicitDefEqProofs (disch:=first|omega|simp only[nx4]<;>omega|fail) [Ld,N8,N9,e1,e2,e3,e7,e8,hb,hlt,hac,hfin,hk]
      ·simp -implicitDefEqProofs (disch:=first|omega|simp only[nx4]<;>omega|fail) [Ld,N8,N9,e1,e2,e3,e7,e8,hb,hlt,hfin,hk]
    by_cases hlt:(i:Int) < t.args.length
    ·have hac:¬ acc≤most:=fun h=>hgo ⟨by omega,h⟩
     simp -implicitDefEqProofs (disch:=first|omega|simp only[nx4]<;>omega|fail) [Sx,Sw,e1,e2,e3,e7,e8,hb,hlt,hac]
     exact hex
    ·simp -implicitDefEqProofs (disch:=first|omega|simp only[nx4]<;>omega|fail) [Sx,Sw,e1,e2,e3,e7,e8,hb,hlt]
     exact hex
theorem p14 (t:Pl) (most:Int) (hm:0≤most) (hm2:most≤10000):AF Tryz.prog 14 [t.av,.int .i64 most] (.int .i64 (wt t most 100)):=by
 refine AF.intro fun s=>AD mixed Tryz.func14 Tryz.call14 k14.2 rfl (AE _ _ _ _ ?_)
 simp -implicitDefEqProofs (disch:=first|omega|simp only[nx4]<;>omega|fail) [k14]
 refine AA (p38 t most 100 hm hm2 (by omega) (by omega)) fun mm3 hm3=>?_
 try simp only [nx4]at hm3
 simp -implicitDefEqProofs (disch:=first|omega|simp only[nx4]<;>omega|fail)
def wgs:List Gl→Int→Int→Int
 | [],_,n=>n
 | t::ts,most,n=>if n≤most then wgs ts most (n+wt t.body most 100)else n
def I33 (p:List Gl) (most:Int) (s:St) (m:Nat) (g:Env) (s1:St):Prop :=
 ∃ (i:Nat) (acc:Int),i≤p.length∧m=p.length - i∧(p.length:Int)+i≤acc∧(acc≤most+(most+101)∨acc=p.length)∧wgs (p.drop i) most acc=wgs p most p.length ∧
  g.get 0=.list 6 .none (p.map Gl.av)∧g.get 1=.int .i64 most∧g.get 5=.int .i64 acc∧g.get 6=.int .i64 i∧Kept s s1
theorem p33 (p:List Gl) (most:Int) (hm:0≤most) (hm2:most≤10000):AF Tryz.prog 33 [.list 6 .none (p.map Gl.av),.int .i64 most] (.int .i64 (wgs p most p.length)):=by
 refine AF.intro fun s=>AD mixed Tryz.func33 Tryz.call33 k33.2 rfl (AE _ _ _ _ ?_)
 simp -implicitDefEqProofs (disch:=first|omega|simp only[nx4]<;>omega|fail) [k33]
 refine AQ (I33 p most s) p.length ⟨0,p.length,by omega,by omega,by omega,.inr rfl,by simp,?_,?_,?_,?_,?_⟩ ?_
 iterate 5 (simp -implicitDefEqProofs (disch:=first|omega|simp only[nx4]<;>omega|fail))
 rintro m g s1 ⟨i,acc,hi,rfl,h1,h2,hw,e0,e1,e5,e6,hk⟩
 by_cases hlt:i < p.length
 ·have hlt':(i:Int) < p.length:=by omega
  by_cases hac:acc≤most
  ·have w3:=wrapS (i:=i) (by omega)
   obtain⟨b1,b2⟩:=Iv p[i].body most 100 (by omega) (by omega)
   have w4:IntKind.i64.wrap (acc+wt p[i].body most 100)=acc+wt p[i].body most 100:=wrap64 (by omega) (by omega)
   simp -implicitDefEqProofs (disch:=first|omega|simp only[nx4]<;>omega|fail) [e0,e1,e5,e6,hlt',hac,getD_map _ _ _ hlt]
   refine AA (p14 p[i].body most hm hm2) fun mm4 hm4=>?_
   try simp only [nx4]at hm4
   simp -implicitDefEqProofs (disch:=first|omega|simp only[nx4]<;>omega|fail) [e6,w3,w4]
   refine AK (p.length - (i+1)) (by omega) ⟨i+1,_,by omega,rfl,?_,?_,?_,?_,?_,rfl,rfl,?_⟩
   ·omega
   ·omega
   ·rw [List.drop_eq_getElem_cons hlt,wgs,if_pos hac]at hw
    exact hw
   all_goals (try simp -implicitDefEqProofs (disch:=first|omega|simp only[nx4]<;>omega|fail) [e0,e1,hk])
  ·have hfin:wgs p most p.length=acc:=by rw [← hw,List.drop_eq_getElem_cons hlt,wgs,if_neg hac]
   simp -implicitDefEqProofs (disch:=first|omega|simp only[nx4]<;>omega|fail) [e0,e1,e5,e6,hlt',hac,hfin,hk]
 ·have hlt':¬ (i:Int) < p.length:=by omega
  have hfin:wgs p most p.length=acc:=by rw [← hw,List.drop_eq_nil_of_le (by omega),wgs]
  simp -implicitDefEqProofs (disch:=first|omega|simp only[nx4]<;>omega|fail) [e0,e1,e5,e6,hlt',hfin,hk]
def Pq (p:List Gl) (t:Pl):Bool:=decide (wgs p 3000 p.length≤3000) && decide (wt t 3000 100≤3000)
theorem p8 (p:List Gl) (t:Pl):AF Tryz.prog 8 [.list 6 .none (p.map Gl.av),t.av] (.bool (Pq p t)):=by
 refine AF.intro fun s=>AD mixed Tryz.func8 Tryz.call8 k8.2 rfl (AE _ _ _ _ ?_)
 simp -implicitDefEqProofs (disch:=first|omega|simp only[nx4]<;>omega|fail) [k8]
 refine AA (p33 p 3000 (by omega) (by omega)) fun m1 hm1=>?_
 by_cases h1:wgs p 3000 p.length≤3000
 ·simp -implicitDefEqProofs (disch:=first|omega|simp only[nx4]<;>omega|fail) [h1]
  refine AA (p14 t 3000 (by omega) (by omega)) fun m2 hm2=>?_
  simp -implicitDefEqProofs (disch:=first|omega|simp only[nx4]<;>omega|fail) [Pq,h1]
 ·simp -implicitDefEqProofs (disch:=first|omega|simp only[nx4]<;>omega|fail) [h1,Pq]
def E4 (s:ByteArray) (i:Nat):Int:=((s.data[i]?.getD 0).toNat:Int)
theorem Mb (s:ByteArray) (i:Nat):((s.data[i]?.getD 0).toNat:Int)=E4 s i:=rfl
def hasB:List UInt8→Int→Bool
 | [],_=>false
 | b::r,c=>decide ((b.toNat:Int)=c) || hasB r c
def AKL (t:ByteArray) (c:Int) (s:St) (m:Nat) (g:Env) (s1:St):Prop :=
 ∃ i:Nat,i≤t.size∧m=t.size - i∧hasB (t.data.toList.drop i) c=hasB t.data.toList c∧g.get 0=.str t∧g.get 1=.int .u8 c∧g.get 5=.int .i64 i∧Kept s s1
theorem Jf (t:ByteArray):t.data.toList.length=t.size:=rfl
theorem AKM (t:ByteArray) (c:Int) (ht:t.size≤1000000):AF Tryz.prog 147 [.str t,.int .u8 c] (.bool (hasB t.data.toList c)):=by
 refine AF.intro fun s=>AD mixed Tryz.func147 Tryz.call147 k147.2 rfl (AE _ _ _ _ ?_)
 simp -implicitDefEqProofs (disch:=first|omega|simp only[nx4]<;>omega|fail) [k147]
 refine AQ (AKL t c s) t.size ⟨0,by omega,by omega,by simp,?_,?_,?_,?_⟩ ?_
 iterate 4 (simp -implicitDefEqProofs (disch:=first|omega|simp only[nx4]<;>omega|fail))
 rintro m g s1 ⟨i,hi,rfl,hw,e0,e1,e5,hk⟩
 by_cases hlt:i < t.size
 ·have hlt':(i:Int) < t.size:=by omega
  have hl2:i < t.data.toList.length:=hlt
  have w3:=wrapS (i:=i) (by omega)
  rw [List.drop_eq_getElem_cons hl2,hasB]at hw
  simp only [Array.getElem_toList]at hw
  simp -implicitDefEqProofs (disch:=first|omega|simp only[nx4]<;>omega|fail) [e0,e1,e5,hlt',w3]
  refine⟨fun h=>?_,fun h=>?_⟩
  ·refine⟨?_,hk⟩
   rw [← hw];simp [h]
  ·refine AK (t.size - (i+1)) (by omega) ⟨i+1,by omega,rfl,?_,?_,?_,rfl,hk⟩
   ·rw [← hw];simp [h]
   ·simp -implicitDefEqProofs (disch:=first|omega|simp only[nx4]<;>omega|fail) [e0]
   ·simp -implicitDefEqProofs (disch:=first|omega|simp only[nx4]<;>omega|fail) [e1]
 ·have hlt':¬ (i:Int) < t.size:=by omega
  have hl2:t.data.toList.length≤i:=by rw [Jf];omega
  rw [List.drop_eq_nil_of_le hl2,hasB]at hw
  simp -implicitDefEqProofs (disch:=first|omega|simp only[nx4]<;>omega|fail) [e0,e1,e5,hlt',hk,← hw]
def brk (c:Int):Bool:=decide (c=40) || decide (c=41) || decide (c=91) || decide (c=93) || decide (c=123) || decide (c=125)
theorem ADU (c:Int):hasB [40,41,91,93,123,125] c=brk c:=by
 simp only [hasB,brk,Bool.or_false]
 simp [eq_comm,Bool.or_assoc]
theorem AKN (c:Int):AF Tryz.prog 106 [.int .u8 c] (.bool (brk c)):=by
 refine AF.intro fun s=>AD mixed Tryz.func106 Tryz.call106 k106.2 rfl (AE _ _ _ _ ?_)
 simp -implicitDefEqProofs (disch:=first|omega|simp only[nx4]<;>omega|fail) [k106]
 refine AA (AKM ⟨#[40,41,91,93,123,125]⟩ c (by decide)) fun mm1 hm1=>?_
 try simp only [nx4]at hm1
 simp -implicitDefEqProofs (disch:=first|omega|simp only[nx4]<;>omega|fail) [ADU]
def isB (c:Int):Bool:=decide (33≤c) && decide (c≤126) && !brk c
theorem p73 (c:Int):AF Tryz.prog 73 [.int .u8 c] (.bool (isB c)):=by
 refine AF.intro fun s=>AD mixed Tryz.func73 Tryz.call73 k73.2 rfl (AE _ _ _ _ ?_)
 by_cases h1:33≤c
 ·by_cases h2:c≤126
  ·simp -implicitDefEqProofs (disch:=first|omega|simp only[nx4]<;>omega|fail) [k73,h1,h2,isB]
   refine AA (AKN c) fun mm2 hm2=>?_
   try simp only [nx4]at hm2
   simp -implicitDefEqProofs (disch:=first|omega|simp only[nx4]<;>omega|fail)
  ·simp -implicitDefEqProofs (disch:=first|omega|simp only[nx4]<;>omega|fail) [k73,h1,h2,isB]
 ·simp -implicitDefEqProofs (disch:=first|omega|simp only[nx4]<;>omega|fail) [k73,h1,isB]
def ltr (c:Int):Bool:=decide (97≤c∧c≤122) || decide (65≤c∧c≤90)
theorem p72 (c:Int):AF Tryz.prog 72 [.int .u8 c] (.bool (ltr c)):=by
 refine AF.intro fun s=>AD mixed Tryz.func72 Tryz.call72 k72.2 rfl (AE _ _ _ _ ?_)
 by_cases h1:97≤c <;> by_cases h2:c≤122 <;> by_cases h3:65≤c <;> by_cases h4:c≤90 <;> first | omega | simp -implicitDefEqProofs (disch:=first|omega|simp only[nx4]<;>omega|fail) [k72,h1,h2,h3,h4,ltr]
def W2:ByteArray:=⟨#[108,101,116]⟩
def wIn:ByteArray:=⟨#[105,110]⟩
def Pr:ByteArray:=⟨#[99,97,115,101]⟩
def W3:ByteArray:=⟨#[112,114,105,109]⟩
def wrd (t:ByteArray):Bool:=decide (t=W2) || decide (t=wIn) || decide (t=Pr) || decide (t=W3)
theorem p71 (t:ByteArray):AF Tryz.prog 71 [.str t] (.bool (wrd t)):=by
 refine AF.intro fun s=>AD mixed Tryz.func71 Tryz.call71 k71.2 rfl (AE _ _ _ _ ?_)
 simp -implicitDefEqProofs (disch:=first|omega|simp only[nx4]<;>omega|fail) [k71]
 rw [← W2,← wIn,← Pr,← W3]
 by_cases h1:t=W2
 ·simp -implicitDefEqProofs (disch:=first|omega|simp only[nx4]<;>omega|fail) [h1,wrd]
 by_cases h2:t=wIn
 ·simp -implicitDefEqProofs (disch:=first|omega|simp only[nx4]<;>omega|fail) [h1,h2,wrd]
 by_cases h3:t=Pr
 ·simp -implicitDefEqProofs (disch:=first|omega|simp only[nx4]<;>omega|fail) [h1,h2,h3,wrd]
 simp -implicitDefEqProofs (disch:=first|omega|simp only[nx4]<;>omega|fail) [h1,h2,h3,wrd]
theorem AKO (t:ByteArray):AF Tryz.prog 107 [.str t] (.bool (wrd t)):=by
 refine AF.intro fun s=>AD mixed Tryz.func107 Tryz.call107 k107.2 rfl (AE _ _ _ _ ?_)
 simp -implicitDefEqProofs (disch:=first|omega|simp only[nx4]<;>omega|fail) [k107]
 rw [← W2,← wIn,← Pr,← W3]
 by_cases h1:t=W2
 ·simp -implicitDefEqProofs (disch:=first|omega|simp only[nx4]<;>omega|fail) [h1,wrd]
 by_cases h2:t=wIn
 ·simp -implicitDefEqProofs (disch:=first|omega|simp only[nx4]<;>omega|fail) [h1,h2,wrd]
 by_cases h3:t=Pr
 ·simp -implicitDefEqProofs (disch:=first|omega|simp only[nx4]<;>omega|fail) [h1,h2,h3,wrd]
 simp -implicitDefEqProofs (disch:=first|omega|simp only[nx4]<;>omega|fail) [h1,h2,h3,wrd]
theorem AKP (c:Int):AF Tryz.prog 108 [.int .u8 c] (.bool (isB c)):=by
 refine AF.intro fun s=>AD mixed Tryz.func108 Tryz.call108 k108.2 rfl (AE _ _ _ _ ?_)
 by_cases h:brk c=true
 ·simp only [brk,Bool.or_eq_true,decide_eq_true_eq]at h
  rcases h with ((((h | h) | h) | h) | h) | h <;> subst h <;> simp -implicitDefEqProofs (disch:=first|omega|simp only[nx4]<;>omega|fail) [k108,isB,brk]
 ·have h':=h
  simp only [brk,Bool.or_eq_true,decide_eq_true_eq,not_or]at h'
  obtain⟨⟨⟨⟨⟨k1,k2⟩,k3⟩,k4⟩,k5⟩,k6⟩:=h'
  have hb:brk c=false:=by simpa using h
  by_cases h1:33≤c <;> by_cases h2:c≤126 <;> simp -implicitDefEqProofs (disch:=first|omega|simp only[nx4]<;>omega|fail) [k108,k1,k2,k3,k4,k5,k6,h1,h2,isB,hb]
def nm (t:ByteArray):Bool:=decide (1≤t.size) && decide (t.size≤60) && !wrd t && ltr (E4 t 0) && t.data.toList.all fun b=>isB (b.toNat:Int)
theorem Sy (t:ByteArray) (i:Nat) (h:i < t.size):E4 t i=(t.data[i].toNat:Int):=by
 have:i < t.data.size:=h
 unfold E4
 rw [Array.getElem?_eq_getElem this]
 rfl
def I34 (t:ByteArray) (s:St) (m:Nat) (g:Env) (s1:St):Prop :=
 ∃ i:Nat,i≤t.size∧m=t.size - i∧((t.data.toList.drop i).all fun b=>isB (b.toNat:Int))=(t.data.toList.all fun b=>isB (b.toNat:Int))∧g.get 0=.str t∧g.get 3=.int .i64 i∧Kept s s1
theorem p34 (t:ByteArray):AF Tryz.prog 34 [.str t] (.bool (nm t)):=by
 refine AF.intro fun s=>AD mixed Tryz.func34 Tryz.call34 k34.2 rfl (AE _ _ _ _ ?_)
 by_cases h1:(t.size:Int) < 1
 ·have:¬ 1≤t.size:=by omega
  simp -implicitDefEqProofs (disch:=first|omega|simp only[nx4]<;>omega|fail) [k34,h1,nm,this]
 by_cases h2:(60:Int) < t.size
 ·have:¬ t.size≤60:=by omega
  simp -implicitDefEqProofs (disch:=first|omega|simp only[nx4]<;>omega|fail) [k34,h1,h2,nm,this]
 simp -implicitDefEqProofs (disch:=first|omega|simp only[nx4]<;>omega|fail) [k34,h1,h2]
 refine AA (p71 t) fun mm3 hm3=>?_
 try simp only [nx4]at hm3
 simp -implicitDefEqProofs (disch:=first|omega|simp only[nx4]<;>omega|fail)
 cases hw:wrd t with
 | true=>simp -implicitDefEqProofs (disch:=first|omega|simp only[nx4]<;>omega|fail) [nm,hw]
 | false =>
  have h0:0 < t.size:=by omega
  have k1:1≤t.size:=by omega
  have k2:t.size≤60:=by omega
  simp -implicitDefEqProofs (disch:=first|omega|simp only[nx4]<;>omega|fail) [h0]
  rw [Mb]
  refine AA (p72 (E4 t 0)) fun mm4 hm4=>?_
  try simp only [nx4]at hm4
  simp -implicitDefEqProofs (disch:=first|omega|simp only[nx4]<;>omega|fail)
  cases hl:ltr (E4 t 0)with
  | false=>simp -implicitDefEqProofs (disch:=first|omega|simp only[nx4]<;>omega|fail) [nm,hw,hl]
  | true =>
   simp -implicitDefEqProofs (disch:=first|omega|simp only[nx4]<;>omega|fail) []
   refine AQ (I34 t s) t.size ⟨0,by omega,by omega,by simp,?_,?_,?_⟩ ?_
   iterate 3 (simp -implicitDefEqProofs (disch:=first|omega|simp only[nx4]<;>omega|fail))
   rintro m g s1 ⟨i,hi,rfl,ha,e0,e3,hk⟩
   by_cases hlt:i < t.size
   ·have hlt':(i:Int) < t.size:=by omega
    have hl2:i < t.data.toList.length:=hlt
    have w3:=wrapS (i:=i) (by omega)
    rw [List.drop_eq_getElem_cons hl2,List.all_cons]at ha
    simp only [Array.getElem_toList]at ha
    rw [← Sy t i hlt]at ha
    simp -implicitDefEqProofs (disch:=first|omega|simp only[nx4]<;>omega|fail) [e0,e3,hlt']
    rw [← Sy t i hlt]
    refine AA (p73 (E4 t i)) fun mm5 hm5=>?_
    try simp only [nx4]at hm5
    simp -implicitDefEqProofs (disch:=first|omega|simp only[nx4]<;>omega|fail)
    cases hb:isB (E4 t i)with
    | false =>
     rw [hb,Bool.false_and]at ha
     simp -implicitDefEqProofs (disch:=first|omega|simp only[nx4]<;>omega|fail) [nm,← ha,hk]
    | true =>
     rw [hb,Bool.true_and]at ha
     simp -implicitDefEqProofs (disch:=first|omega|simp only[nx4]<;>omega|fail) [e3,w3]
     refine AK (t.size - (i+1)) (by omega) ⟨i+1,by omega,rfl,ha,?_,rfl,?_⟩
     ·simp -implicitDefEqProofs (disch:=first|omega|simp only[nx4]<;>omega|fail) [e0]
     ·simp -implicitDefEqProofs (disch:=first|omega|simp only[nx4]<;>omega|fail) [hk]
   ·have hlt':¬ (i:Int) < t.size:=by omega
    have hl2:t.data.toList.length≤i:=by rw [Jf];omega
    rw [List.drop_eq_nil_of_le hl2,List.all_nil]at ha
    simp -implicitDefEqProofs (disch:=first|omega|simp only[nx4]<;>omega|fail) [e0,e3,hlt',nm,hw,hl,k1,k2,hk,← ha]
def I74 (t:ByteArray) (s:St) (m:Nat) (g:Env) (s1:St):Prop :=
 ∃ i:Nat,i≤t.size∧m=t.size - i∧((t.data.toList.drop i).all fun b=>isB (b.toNat:Int))=(t.data.toList.all fun b=>isB (b.toNat:Int))∧g.get 0=.str t∧g.get 17=.int .i64 t.size∧g.get 18=.int .i64 i∧Kept s s1
theorem p74 (t:ByteArray):AF Tryz.prog 74 [.str t] (.bool (nm t)):=by
 refine AF.intro fun s=>AD mixed Tryz.func74 Tryz.call74 k74.2 rfl (AE _ _ _ _ ?_)
 by_cases h1:(t.size:Int) < 1
 ·have:¬ 1≤t.size:=by omega
  simp -implicitDefEqProofs (disch:=first|omega|simp only[nx4]<;>omega|fail) [k74,h1,nm,this]
 by_cases h2:(60:Int) < t.size
 ·have:¬ t.size≤60:=by omega
  simp -implicitDefEqProofs (disch:=first|omega|simp only[nx4]<;>omega|fail) [k74,h1,h2,nm,this]
 simp -implicitDefEqProofs (disch:=first|omega|simp only[nx4]<;>omega|fail) [k74,h1,h2]
 refine AA (AKO t) fun mm6 hm6=>?_
 try simp only [nx4]at hm6
 simp -implicitDefEqProofs (disch:=first|omega|simp only[nx4]<;>omega|fail)
 cases hw:wrd t with
 | true=>simp -implicitDefEqProofs (disch:=first|omega|simp only[nx4]<;>omega|fail) [nm,hw]
 | false =>
  have h0:0 < t.size:=by omega
  have k1:1≤t.size:=by omega
  have k2:t.size≤60:=by omega
  simp -implicitDefEqProofs (disch:=first|omega|simp only[nx4]<;>omega|fail) []
  refine AQ (I74 t s) t.size ⟨0,by omega,by omega,by simp,?_,?_,?_,?_⟩ ?_
  iterate 4 (simp -implicitDefEqProofs (disch:=first|omega|simp only[nx4]<;>omega|fail))
  rintro m g s1 ⟨i,hi,rfl,ha,e0,e17,e18,hk⟩
  by_cases hlt:i < t.size
  ·have hlt':(i:Int) < t.size:=by omega
   have hl2:i < t.data.toList.length:=hlt
   have w3:=wrapS (i:=i) (by omega)
   rw [List.drop_eq_getElem_cons hl2,List.all_cons]at ha
   simp only [Array.getElem_toList]at ha
   rw [← Sy t i hlt]at ha
   simp -implicitDefEqProofs (disch:=first|omega|simp only[nx4]<;>omega|fail) [e0,e17,e18,hlt']
   rw [← Sy t i hlt]
   refine AA (AKP (E4 t i)) fun mm7 hm7=>?_
   try simp only [nx4]at hm7
   simp -implicitDefEqProofs (disch:=first|omega|simp only[nx4]<;>omega|fail)
   cases hb:isB (E4 t i)with
   | false =>
    rw [hb,Bool.false_and]at ha
    simp -implicitDefEqProofs (disch:=first|omega|simp only[nx4]<;>omega|fail) [nm,← ha,hk]
   | true =>
    rw [hb,Bool.true_and]at ha
    simp -implicitDefEqProofs (disch:=first|omega|simp only[nx4]<;>omega|fail) [e18,w3]
    refine AK (t.size - (i+1)) (by omega) ⟨i+1,by omega,rfl,ha,?_,?_,rfl,?_⟩
    ·simp -implicitDefEqProofs (disch:=first|omega|simp only[nx4]<;>omega|fail) [e0]
    ·simp -implicitDefEqProofs (disch:=first|omega|simp only[nx4]<;>omega|fail) [e17]
    ·simp -implicitDefEqProofs (disch:=first|omega|simp only[nx4]<;>omega|fail) [hk]
  ·have hlt':¬ (i:Int) < t.size:=by omega
   have hl2:t.data.toList.length≤i:=by rw [Jf];omega
   rw [List.drop_eq_nil_of_le hl2,List.all_nil]at ha
   have hd:∀ x:Int,ltr x=(decide (97≤x∧x≤122) || decide (65≤x∧x≤90)):=fun _=>rfl
   simp -implicitDefEqProofs (disch:=first|omega|simp only[nx4]<;>omega|fail) [e0,e17,e18,hlt']
   have hbn:((t.data[0]?.getD 0).toNat:Int)=E4 t 0:=rfl
   by_cases q1:97≤E4 t 0 <;> by_cases q2:E4 t 0≤122 <;> by_cases q3:65≤E4 t 0 <;> by_cases q4:E4 t 0≤90 <;>
    first
     | omega
     | simp -implicitDefEqProofs (disch:=first|omega|simp only[nx4]<;>omega|fail) [e0,h0,Mb,q1,q2,q3,q4,nm,hw,hd,k1,k2,hk,← ha]
end Go.AL.Dm
set_option maxRecDepth 100000
namespace Go.AL.Dm
open Go.Proofs
/- (*damask/term.Counter).well -/
def SZ:Rg:=[oT 4 (.box (.g 1)),oT 6 (.mv cF)]
def Sa:Rg:=[oL 16 (.ld (.c JR)),oL 17 (.fa 0 (.g 4)),oL 18 (.ld (.l 17)),oL 19 (.lookup false true [i0,i0,bF,bF,bF] true (.l 16) (.l 18)),oL 15 (.mv (.l 19)),oL 20 (.extract (.l 15) 0),oL 21 (.extract (.l 15) 1),oT 7 (.alloc [i0,i0,bF,bF,bF]),oN (.store 5 (.g 7) (.l 20)),oT 8 (.mv (.l 21))]
def Sb:Rg:=[oL 22 (.mv (.g 8)),oL 23 (.un .not (.l 22)),oL 24 (.mv (.l 23)),oLf 25 (.mv (.g 0)) 24,oLf 26 (.mv (.g 2)) 24,oLf 27 (.cf 115 [(.l 25),(.l 26)]) 24,oLf 28 (.un .not (.l 27)) 24,oL 29 (.pick (.l 24) cT (.l 28)),oL 30 (.mv (.l 29)),oLf 31 (.fa 3 (.g 4)) 30,oLf 32 (.ld (.l 31)) 30,oLf 33 (.len (.l 32)) 30,oLf 34 (.fa 0 (.g 7)) 30,oLf 35 (.ld (.l 34)) 30,oLf 36 (.fa 1 (.g 7)) 30,oLf 37 (.ld (.l 36)) 30,oLf 38 (.cf 116 [(.l 33),(.l 35),(.l 37)]) 30,oLf 39 (.un .not (.l 38)) 30,oL 40 (.pick (.l 30) cT (.l 39)),oL 41 (.mv (.l 40)),oLf 42 (.fa 2 (.g 7)) 41,oLf 43 (.ld (.l 42)) 41,oLf 44 (.un .not (.l 43)) 41,oLf 45 (.mv (.l 44)) 41,oLt 46 (.fa 1 (.g 4)) 45,oLt 47 (.ld (.l 46)) 45,oLt 48 (.bin .neq (.l 47) (ci 0)) 45,oLf 49 (.pick (.l 45) (.l 48) cF) 41,oL 50 (.pick (.l 41) cT (.l 49)),oL 51 (.mv (.l 50)),oLf 52 (.fa 4 (.g 7)) 51,oLf 53 (.ld (.l 52)) 51,oLf 54 (.fa 4 (.g 4)) 51,oLf 55 (.ld (.l 54)) 51,oLf 56 (.len (.l 55)) 51,oLf 57 (.bin .gtr (.l 56) (ci 0)) 51,oLf 58 (.eqb true (.l 53) (.l 57)) 51,oL 59 (.pick (.l 51) cT (.l 58)),oL 60 (.mv (.l 59)),oLf 61 (.fa 4 (.g 4)) 60,oLf 62 (.ld (.l 61)) 60,oLf 63 (.len (.l 62)) 60,oLf 64 (.bin .gtr (.l 63) (ci 40)) 60,oT 65 (.pick (.l 60) cT (.l 64))]
def Ih:Rg:=[oT 6 (.mv cF)]
def Ie:Rg:=[oL 67 (.ld (.c EM)),oL 68 (.fa 2 (.g 4)),oL 69 (.ld (.l 68)),oL 70 (.lookup true true [i0] false (.l 67) (.l 69)),oL 66 (.mv (.l 70)),oL 71 (.extract (.l 66) 0),oL 72 (.extract (.l 66) 1),oT 9 (.mv (.l 71)),oT 10 (.mv (.l 72))]
def Ig:Rg:=[oL 77 (.fa 0 (.g 4)),oL 78 (.ld (.l 77)),oL 79 (.bin .eql (.l 78) (ci 9)),oT 76 (.mv (.l 79))]
def PQ:Rg:=[oL 80 (.mv (.g 10)),oL 81 (.mv (.l 80)),oLt 82 (.mv (.g 9)) 81,oLt 83 (.fa 3 (.g 4)) 81,oLt 84 (.ld (.l 83)) 81,oLt 85 (.len (.l 84)) 81,oLt 86 (.bin .eql (.l 82) (.l 85)) 81,oL 87 (.pick (.l 81) (.l 86) cF),oT 8 (.mv (.l 87))]
def MN:Rg:=[oL 89 (.fa 3 (.g 7)),oL 90 (.ld (.l 89)),oT 88 (.mv (.l 90))]
def SX:Rg:=[oL 91 (.fa 2 (.g 4)),oL 92 (.ld (.l 91)),oL 93 (.cf 74 [(.l 92)]),oT 8 (.mv (.l 93))]
def SY:Rg:=[oL 73 (.fa 2 (.g 4)),oL 74 (.ld (.l 73)),oL 75 (.bin .eql (.l 74) (.c s0)),oT 8 (.mv (.l 75))]
def Dw:Rg:=[oL 94 (.mv (.g 8)),oL 95 (.un .not (.l 94)),oL 96 (.mv (.l 95)),oLf 97 (.fa 0 (.g 4)) 96,oLf 98 (.ld (.l 97)) 96,oLf 99 (.bin .eql (.l 98) (ci 1)) 96,oLf 100 (.mv (.l 99)) 96,oLt 101 (.fa 1 (.g 4)) 100,oLt 102 (.ld (.l 101)) 100,oLt 103 (.bin .lss (.l 102) (ci 0)) 100,oLf 104 (.pick (.l 100) (.l 103) cF) 96,oL 105 (.pick (.l 96) cT (.l 104)),oL 106 (.mv (.l 105)),oLf 107 (.fa 0 (.g 4)) 106,oLf 108 (.ld (.l 107)) 106,oLf 109 (.bin .eql (.l 108) (ci 5)) 106,oLf 110 (.mv (.l 109)) 106,oLt 111 (.fa 1 (.g 4)) 110,oLt 112 (.ld (.l 111)) 110,oLt 113 (.cf 116 [(.l 112),(ci 1),(ci 8)]) 110,oLt 114 (.un .not (.l 113)) 110,oLf 115 (.pick (.l 110) (.l 114) cF) 106,oL 116 (.pick (.l 106) cT (.l 115)),oL 117 (.mv (.l 116)),oLf 118 (.fa 4 (.g 4)) 117,oLf 119 (.ld (.l 118)) 117,oLf 120 (.cf 117 [(.l 119)]) 117,oLf 121 (.un .not (.l 120)) 117,oT 122 (.pick (.l 117) cT (.l 121))]
def FT:Rg:=[oT 6 (.mv cF)]
def FR:Rg:=[oL 123 (.fa 3 (.g 4)),oT 124 (.ld (.l 123)),oT 125 (.len (.g 124)),oT 126 (.mv (ci 0))]
def LG:Rg:=[oT 127 (.bin .lss (.g 126) (.g 125))]
def RR:Rg:=[oL 128 (.ia 5 (.g 124) (.g 126)),oL 129 (.load 5 true (.l 128)),oT 12 (.alloc [i0,i0,s0,nzl,nzl]),oN (.store 5 (.g 12) (.l 129))]
def RS:Rg:=[oL 130 (.mv (.g 0)),oL 131 (.load 5 true (.g 12)),oL 132 (.mv (.g 2)),oL 133 (.bin .add (.l 132) (ci 1)),oL 134 (.cf 82 [(.l 130),(.l 131),(.l 133)]),oT 135 (.un .not (.l 134))]
def RU:Rg:=[oT 6 (.mv cF)]
def RV:Rg:=[oL 136 (.bin .add (.g 126) (ci 1)),oT 126 (.mv (.l 136))]
def EP:Ae:=(.seq (rq LG) (.seq (.cond (.g 127) .skip (.exit 1)) (.seq (.block 2 (.seq (rq RR) (.seq (rq RS) (.cond (.g 135) (.seq (rq RU) .ret) .skip)))) (rq RV))))
def EN:Rg:=[oL 137 (.fa 4 (.g 4)),oT 138 (.ld (.l 137)),oT 139 (.len (.g 138)),oT 140 (.mv (ci 0))]
def LF:Rg:=[oT 141 (.bin .lss (.g 140) (.g 139))]
def RO:Rg:=[oL 142 (.ia 8 (.g 138) (.g 140)),oL 143 (.load 8 true (.l 142)),oT 14 (.alloc [i0,s0,i0,i0,i0,s0,nzl,nzl]),oN (.store 8 (.g 14) (.l 143))]
def RP:Rg:=[oL 144 (.mv (.g 0)),oL 145 (.mv (.g 2)),oL 146 (.bin .add (.l 145) (ci 1)),oL 147 (.cf 115 [(.l 144),(.l 146)]),oL 148 (.un .not (.l 147)),oL 149 (.mv (.l 148)),oLf 150 (.mv (.g 0)) 149,oLf 151 (.fa 3 (.g 14)) 149,oLf 152 (.load 5 true (.l 151)) 149,oLf 153 (.mv (.g 2)) 149,oLf 154 (.bin .add (.l 153) (ci 2)) 149,oLf 155 (.cf 82 [(.l 150),(.l 152),(.l 154)]) 149,oLf 156 (.un .not (.l 155)) 149,oT 157 (.pick (.l 149) cT (.l 156))]
def Nu:Rg:=[oT 6 (.mv cF)]
def RQ:Rg:=[oL 158 (.bin .add (.g 140) (ci 1)),oT 140 (.mv (.l 158))]
def DY:Ae:=(.seq (rq LF) (.seq (.cond (.g 141) .skip (.exit 3)) (.seq (.block 4 (.seq (rq RO) (.seq (rq RP) (.cond (.g 157) (.seq (rq Nu) .ret) .skip)))) (rq RQ))))
def EO:Rg:=[oT 6 (.mv cT)]
def Yt:Ae:=(.seq (rq SZ) (.seq (rq Sa) (.seq (.seq (rq Sb) (.cond (.g 65) (.seq (rq Ih) .ret) .skip)) (.seq (rq Ie) (.seq (.block 0 (.seq (rq Ig) (.cond (.g 76) (rq PQ) (.seq (rq MN) (.cond (.g 88) (rq SX) (rq SY)))))) (.seq (.seq (rq Dw) (.cond (.g 122) (.seq (rq FT) .ret) .skip)) (.seq (.seq (rq FR) (.block 1 (.loop EP))) (.seq (.seq (rq EN) (.block 3 (.loop DY))) (.seq (rq EO) .ret)))))))))
def a82:F7:=⟨3,159,Yt,[.tmp (true,6)]⟩
theorem c82:A7 Tryz.prog [0,1,2,4,6,7,8,9,10,12,14,65,76,88,122,124,125,126,127,135,138,139,140,141,157] Tryz.f82=some a82:=by kernel_rfl
/- (*damask/damaskref15.counter).code -/
def WU:Rg:=[oT 4 (.box (.g 1))]
def WV:Rg:=[oL 8 (.mv (.g 0)),oL 9 (.nilCheck (.l 8)),oL 10 (.fa 0 (.l 9)),oL 11 (.ld (.l 10)),oL 12 (.bin .add (.l 11) (ci 1)),oL 13 (.nilCheck (.l 8)),oL 14 (.fa 0 (.l 13)),oN (.store 1 (.l 14) (.l 12))]
def WW:Rg:=[oL 15 (.mv (.g 0)),oL 16 (.mv (.g 0)),oL 17 (.nilCheck (.l 16)),oL 18 (.fa 1 (.l 17)),oL 19 (.ld (.l 18)),oL 20 (.mv (.g 2)),oL 21 (.max (.l 19) (.l 20)),oL 22 (.nilCheck (.l 15)),oL 23 (.fa 1 (.l 22)),oN (.store 1 (.l 23) (.l 21))]
def WX:Rg:=[oL 24 (.mv (.g 0)),oL 25 (.nilCheck (.l 24)),oL 26 (.fa 0 (.l 25)),oL 27 (.ld (.l 26)),oL 28 (.bin .gtr (.l 27) (ci 4000)),oL 29 (.mv (.l 28)),oLf 30 (.mv (.g 2)) 29,oLf 31 (.bin .gtr (.l 30) (ci 200)) 29,oL 32 (.pick (.l 29) cT (.l 31)),oL 33 (.mv (.l 32)),oLf 34 (.load 5 true (.g 4)) 33,oLf 35 (.cf 140 [(.l 34)]) 33,oLf 36 (.un .not (.l 35)) 33,oT 37 (.pick (.l 33) cT (.l 36))]
def ABS:Rg:=[oL 38 (.mv (.g 0)),oL 39 (.nilCheck (.l 38)),oL 40 (.fa 2 (.l 39)),oN (.store 1 (.l 40) cT)]
def WT:Rg:=[oT 6 (.mv (ci 0))]
def Sf:Rg:=[oL 41 (.mv (.g 6)),oL 42 (.fa 3 (.g 4)),oL 43 (.ld (.l 42)),oL 44 (.len (.l 43)),oL 45 (.bin .lss (.l 41) (.l 44)),oL 46 (.mv (.l 45)),oLt 47 (.mv (.g 0)) 46,oLt 48 (.nilCheck (.l 47)) 46,oLt 49 (.fa 2 (.l 48)) 46,oLt 50 (.ld (.l 49)) 46,oLt 51 (.un .not (.l 50)) 46,oT 52 (.pick (.l 46) (.l 51) cF)]
def ABQ:Rg:=[oL 55 (.mv (.g 0)),oL 56 (.fa 3 (.g 4)),oL 57 (.ld (.l 56)),oL 58 (.mv (.g 6)),oL 59 (.ia 5 (.l 57) (.l 58)),oL 60 (.load 5 true (.l 59)),oL 61 (.mv (.g 2)),oL 62 (.bin .add (.l 61) (ci 1)),oL 63 (.cf 91 [(.l 55),(.l 60),(.l 62)])]
def ABR:Rg:=[oL 53 (.mv (.g 6)),oL 54 (.bin .add (.l 53) (ci 1)),oT 6 (.mv (.l 54))]
def PS:Ae:=(.seq (.seq (rq Sf) (.cond (.g 52) .skip (.exit 0))) (.seq (.block 1 (rq ABQ)) (rq ABR)))
def Nx:Rg:=[oT 7 (.mv (ci 0))]
def Ny:Rg:=[oL 64 (.mv (.g 7)),oL 65 (.fa 4 (.g 4)),oL 66 (.ld (.l 65)),oL 67 (.len (.l 66)),oL 68 (.bin .lss (.l 64) (.l 67)),oL 69 (.mv (.l 68)),oLt 70 (.mv (.g 0)) 69,oLt 71 (.nilCheck (.l 70)) 69,oLt 72 (.fa 2 (.l 71)) 69,oLt 73 (.ld (.l 72)) 69,oLt 74 (.un .not (.l 73)) 69,oT 75 (.pick (.l 69) (.l 74) cF)]
def WQ:Rg:=[oL 78 (.mv (.g 0)),oL 79 (.nilCheck (.l 78)),oL 80 (.fa 0 (.l 79)),oL 81 (.ld (.l 80)),oL 82 (.bin .add (.l 81) (ci 1)),oL 83 (.nilCheck (.l 78)),oL 84 (.fa 0 (.l 83)),oN (.store 1 (.l 84) (.l 82))]
def WR:Rg:=[oL 85 (.mv (.g 0)),oL 86 (.fa 4 (.g 4)),oL 87 (.ld (.l 86)),oL 88 (.mv (.g 7)),oL 89 (.ia 8 (.l 87) (.l 88)),oL 90 (.fa 3 (.l 89)),oL 91 (.load 5 true (.l 90)),oL 92 (.mv (.g 2)),oL 93 (.bin .add (.l 92) (ci 2)),oL 94 (.cf 91 [(.l 85),(.l 91),(.l 93)])]
def WS:Rg:=[oL 76 (.mv (.g 7)),oL 77 (.bin .add (.l 76) (ci 1)),oT 7 (.mv (.l 77))]
def JS:Ae:=(.seq (.seq (rq Ny) (.cond (.g 75) .skip (.exit 2))) (.seq (.block 3 (.seq (rq WQ) (rq WR))) (rq WS)))
def AC5:Ae:=(.seq (rq WU) (.seq (rq WV) (.seq (rq WW) (.seq (.seq (rq WX) (.cond (.g 37) (rq ABS) .skip)) (.seq (.seq (rq WT) (.block 0 (.loop PS))) (.seq (rq Nx) (.block 2 (.loop JS))))))))
def a91:F7:=⟨3,95,AC5,[]⟩
theorem c91:A7 Tryz.prog [0,1,2,4,6,7,37,52,75] Tryz.f91=some a91:=by kernel_rfl
/- damask/damaskref15.cases -/
def OA:Rg:=[oT 2 (.mv cF)]
def OB:Rg:=[oL 6 (.mv (.g 0)),oL 7 (.len (.l 6)),oL 8 (.bin .lss (.l 7) (ci 1)),oL 9 (.mv (.l 8)),oLf 10 (.mv (.g 0)) 9,oLf 11 (.len (.l 10)) 9,oLf 12 (.bin .gtr (.l 11) (ci 40)) 9,oT 13 (.pick (.l 9) cT (.l 12))]
def Rj:Rg:=[oT 2 (.mv cF)]
def W4:Rg:=[oT 3 (.mv (ci 0))]
def D0:Rg:=[oL 14 (.mv (.g 3)),oL 15 (.mv (.g 0)),oL 16 (.len (.l 15)),oT 17 (.bin .lss (.l 14) (.l 16))]
def ER:Rg:=[oL 20 (.mv (.g 0)),oL 21 (.mv (.g 3)),oL 22 (.ia 8 (.l 20) (.l 21)),oL 23 (.load 8 true (.l 22)),oT 4 (.alloc [i0,s0,i0,i0,i0,s0,nzl,nzl]),oN (.store 8 (.g 4) (.l 23))]
def ES:Rg:=[oL 24 (.fa 0 (.g 4)),oT 25 (.ld (.l 24))]
def ET:Rg:=[oL 27 (.bin .eql (.g 25) (ci 1)),oT 26 (.mv (.l 27))]
def Le:Rg:=[oL 28 (.mv (.g 3)),oL 29 (.mv (.g 0)),oL 30 (.len (.l 29)),oL 31 (.bin .sub (.l 30) (ci 1)),oL 32 (.bin .lss (.l 28) (.l 31)),oL 33 (.mv (.l 32)),oLf 34 (.fa 1 (.g 4)) 33,oLf 35 (.ld (.l 34)) 33,oLf 36 (.bin .neq (.l 35) (.c s0)) 33,oL 37 (.pick (.l 33) cT (.l 36)),oL 38 (.mv (.l 37)),oLf 39 (.fa 2 (.g 4)) 38,oLf 40 (.ld (.l 39)) 38,oLf 41 (.bin .neq (.l 40) (ci 0)) 38,oT 42 (.pick (.l 38) cT (.l 41))]
def OC:Rg:=[oT 2 (.mv cF)]
def FF:Rg:=[oL 44 (.bin .eql (.g 25) (ci 2)),oT 43 (.mv (.l 44))]
def Iw:Rg:=[oL 45 (.fa 1 (.g 4)),oL 46 (.ld (.l 45)),oL 47 (.cf 34 [(.l 46)]),oL 48 (.un .not (.l 47)),oL 49 (.mv (.l 48)),oLf 50 (.fa 2 (.g 4)) 49,oLf 51 (.ld (.l 50)) 49,oLf 52 (.bin .lss (.l 51) (ci 0)) 49,oL 53 (.pick (.l 49) cT (.l 52)),oL 54 (.mv (.l 53)),oLf 55 (.fa 2 (.g 4)) 54,oLf 56 (.ld (.l 55)) 54,oLf 57 (.bin .gtr (.l 56) (ci 12)) 54,oT 58 (.pick (.l 54) cT (.l 57))]
def KW:Rg:=[oT 2 (.mv cF)]
def KX:Rg:=[oL 60 (.bin .eql (.g 25) (ci 3)),oT 59 (.mv (.l 60))]
def OD:Rg:=[oL 61 (.fa 1 (.g 4)),oL 62 (.ld (.l 61)),oT 63 (.bin .neq (.l 62) (.c s0))]
def Sz:Rg:=[oT 2 (.mv cF)]
def S4:Rg:=[oT 2 (.mv cF)]
def OE:Rg:=[oT 5 (.mv (ci 0))]
def FG:Rg:=[oL 64 (.mv (.g 5)),oL 65 (.mv (.g 3)),oT 66 (.bin .lss (.l 64) (.l 65))]
def GU:Rg:=[oL 69 (.mv (.g 0)),oL 70 (.mv (.g 5)),oL 71 (.ia 8 (.l 69) (.l 70)),oL 72 (.fa 0 (.l 71)),oL 73 (.ld (.l 72)),oL 74 (.fa 0 (.g 4)),oL 75 (.ld (.l 74)),oL 76 (.bin .neq (.l 73) (.l 75)),oL 77 (.mv (.l 76)),oLf 78 (.fa 0 (.g 4)) 77,oLf 79 (.ld (.l 78)) 77,oLf 80 (.bin .eql (.l 79) (ci 2)) 77,oLf 81 (.mv (.l 80)) 77,oLt 82 (.mv (.g 0)) 81,oLt 83 (.mv (.g 5)) 81,oLt 84 (.ia 8 (.l 82) (.l 83)) 81,oLt 85 (.fa 1 (.l 84)) 81,oLt 86 (.ld (.l 85)) 81,oLt 87 (.fa 1 (.g 4)) 81,oLt 88 (.ld (.l 87)) 81,oLt 89 (.bin .eql (.l 86) (.l 88)) 81,oLf 90 (.pick (.l 81) (.l 89) cF) 77,oL 91 (.pick (.l 77) cT (.l 90)),oL 92 (.mv (.l 91)),oLf 93 (.fa 0 (.g 4)) 92,oLf 94 (.ld (.l 93)) 92,oLf 95 (.bin .eql (.l 94) (ci 3)) 92,oLf 96 (.mv (.l 95)) 92,oLt 97 (.mv (.g 0)) 96,oLt 98 (.mv (.g 5)) 96,oLt 99 (.ia 8 (.l 97) (.l 98)) 96,oLt 100 (.fa 2 (.l 99)) 96,oLt 101 (.ld (.l 100)) 96,oLt 102 (.fa 2 (.g 4)) 96,oLt 103 (.ld (.l 102)) 96,oLt 104 (.bin .eql (.l 101) (.l 103)) 96,oLf 105 (.pick (.l 96) (.l 104) cF) 92,oT 106 (.pick (.l 92) cT (.l 105))]
def GV:Rg:=[oT 2 (.mv cF)]
def KY:Rg:=[oL 67 (.mv (.g 5)),oL 68 (.bin .add (.l 67) (ci 1)),oT 5 (.mv (.l 68))]
def Ef:Ae:=(.seq (.seq (rq FG) (.cond (.g 66) .skip (.exit 3))) (.seq (.block 4 (.seq (.reg true GU) (.cond (.g 106) (.seq (rq GV) .ret) .skip))) (rq KY)))
def Ix:Rg:=[oL 18 (.mv (.g 3)),oL 19 (.bin .add (.l 18) (ci 1)),oT 3 (.mv (.l 19))]
def Cw:Ae:=(.seq (.seq (rq D0) (.cond (.g 17) .skip (.exit 0))) (.seq (.block 1 (.seq (rq ER) (.seq (.seq (rq ES) (.block 2 (.seq (rq ET) (.cond (.g 26) (.seq (.seq (rq Le) (.cond (.g 42) (.seq (rq OC) .ret) .skip)) (.exit 1)) (.seq (rq FF) (.cond (.g 43) (.seq (rq Iw) (.cond (.g 58) (.seq (rq KW) .ret) .skip)) (.seq (rq KX) (.cond (.g 59) (.seq (rq OD) (.cond (.g 63) (.seq (rq Sz) .ret) .skip)) (.seq (rq S4) .ret))))))))) (.seq (rq OE) (.block 3 (.loop Ef)))))) (rq Ix)))
def KZ:Rg:=[oT 2 (.mv cT)]
def S5:Ae:=(.seq (rq OA) (.seq (.seq (rq OB) (.cond (.g 13) (.seq (rq Rj) .ret) .skip)) (.seq (.seq (rq W4) (.block 0 (.loop Cw))) (.seq (rq KZ) .ret))))
def a175:F7:=⟨1,107,S5,[.tmp (true,2)]⟩
theorem AKQ:A7 Tryz.prog [0,2,3,4,5,13,17,25,26,42,43,58,59,63,66,106] Tryz.f175=some a175:=by kernel_rfl
/- damask/damaskref15.Arity -/
def W5:Rg:=[oT 2 (.mv (ci 0)),oT 3 (.mv cF)]
def W6:Rg:=[oL 5 (.mv (.g 0)),oL 6 (.cf 56 [(.l 5)]),oT 4 (.mv (.l 6))]
def W7:Rg:=[oL 7 (.mv (.g 4)),oT 8 (.bin .lss (.l 7) (ci 0))]
def W8:Rg:=[oT 2 (.mv (ci 0)),oT 3 (.mv cF)]
def W9:Rg:=[oL 9 (.mv (.g 4)),oL 10 (.D2 1 27 (.c Lc) (.l 9)),oL 11 (.ld (.l 10)),oT 2 (.mv (.l 11)),oT 3 (.mv cT)]
def ABc:Ae:=(.seq (rq W5) (.seq (rq W6) (.seq (.seq (rq W7) (.cond (.g 8) (.seq (rq W8) .ret) .skip)) (.seq (rq W9) .ret))))
def AID:F7:=⟨1,12,ABc,[.tmp (true,2),.tmp (true,3)]⟩
theorem AKR:A7 Tryz.prog [0,2,3,4,8] Tryz.f176=some AID:=by kernel_rfl
def k115:CF [0,1,4] Tryz.f115:=by refine⟨?_,?_⟩;rotate_left;cbv;rfl
def k116:CF [0,1,2,6] Tryz.f116:=by refine⟨?_,?_⟩;rotate_left;cbv;rfl
def k117:CF [0,2,3,4,5,6,7,10,11,12,13,18,19,35,36,53,57,67,78] Tryz.f117:=by refine⟨?_,?_⟩;rotate_left;cbv;rfl
def k45:CF [0,1,2,3] Tryz.f45:=by refine⟨?_,?_⟩;rotate_left;cbv;rfl
def k140:CF [0,1,2,3,4,5,37,55,57,58,67,76,80,89,103,111,119,128] Tryz.f140:=by refine⟨?_,?_⟩;rotate_left;cbv;rfl
def k56:CF [0,2,3,4,9,17] Tryz.f56:=by refine⟨?_,?_⟩;rotate_left;cbv;rfl
def k97:CF [0] Tryz.f97:=by refine⟨?_,?_⟩;rotate_left;cbv;rfl
def k51:CF [0,1,2,3,4,5,14] Tryz.f51:=by refine⟨?_,?_⟩;rotate_left;cbv;rfl
def k27:CF [0,1,2,5] Tryz.f27:=by refine⟨?_,?_⟩;rotate_left;cbv;rfl
end Go.AL.Dm
namespace Go.AL.Dm
open Go Go.Proofs
def EE:List ByteArray:=[⟨#[97,100,100]⟩,⟨#[115,117,98]⟩,⟨#[109,117,108]⟩,⟨#[100,105,118]⟩,⟨#[109,111,100]⟩,⟨#[101,113]⟩,⟨#[108,116]⟩,⟨#[108,101]⟩,⟨#[115,101,113]⟩,⟨#[116,104,114,111,119]⟩,⟨#[114,101,116,117,114,110,73,79]⟩,⟨#[98,105,110,100,73,79]⟩,⟨#[112,117,116]⟩,⟨#[103,101,116]⟩,⟨#[99,97,116,99,104]⟩,⟨#[102,111,114,107]⟩,⟨#[107,105,108,108]⟩,⟨#[109,97,115,107]⟩,⟨#[121,105,101,108,100]⟩,⟨#[97,116,111,109,105,99,97,108,108,121]⟩,⟨#[114,101,116,117,114,110,83,84,77]⟩,⟨#[98,105,110,100,83,84,77]⟩,⟨#[110,101,119,84,86,97,114]⟩,⟨#[114,101,97,100,84,86,97,114]⟩,⟨#[119,114,105,116,101,84,86,97,114]⟩,⟨#[114,101,116,114,121]⟩,⟨#[111,114,69,108,115,101]⟩]
def ars:List Int:=[2,2,2,2,2,2,2,2,2,1,1,2,1,0,2,1,2,1,0,1,1,2,1,1,2,0,2]
theorem p97:AF Tryz.prog 97 [] (.list 1 .none (EE.map .str)):=by
 refine AF.intro fun s=>AD mixed Tryz.func97 Tryz.call97 k97.2 rfl (AE _ _ _ _ ?_)
 simp -implicitDefEqProofs (disch:=first|omega|simp only[nx4]<;>omega|fail) [k97,EE]
def Fq:List ByteArray→ByteArray→Int→Int
 | [],_,_=>-1
 | x::r,t,i=>if x=t then i else Fq r t (i+1)
def Ab (t:ByteArray):Int:=Fq EE t 0
def I56 (t:ByteArray) (s:St) (m:Nat) (g:Env) (s1:St):Prop :=
 ∃ i:Nat,i≤27∧m=27 - i∧Fq (EE.drop i) t i=Ab t∧g.get 0=.str t∧g.get 3=.list 1 .none (EE.map .str)∧g.get 4=.int .i64 i∧Kept s s1
theorem Fv:EE.length=27:=rfl
theorem p56 (t:ByteArray):AF Tryz.prog 56 [.str t] (.int .i64 (Ab t)):=by
 refine AF.intro fun s=>AD mixed Tryz.func56 Tryz.call56 k56.2 rfl (AE _ _ _ _ ?_)
 simp -implicitDefEqProofs (disch:=first|omega|simp only[nx4]<;>omega|fail) [k56]
 refine AA p97 fun mm1 hm1=>?_
 try simp only [nx4]at hm1
 simp -implicitDefEqProofs (disch:=first|omega|simp only[nx4]<;>omega|fail) []
 refine AQ (I56 t s) 27 ⟨0,by omega,by omega,rfl,?_,?_,?_,?_⟩ ?_
 iterate 4 (simp -implicitDefEqProofs (disch:=first|omega|simp only[nx4]<;>omega|fail))
 rintro m g s1 ⟨i,hi,rfl,hw,e0,e3,e4,hk⟩
 by_cases hlt:i < EE.length
 ·have hlt':(i:Int) < 27:=by rw [Fv]at hlt;omega
  have w3:=wrapS (i:=i) (by omega)
  rw [List.drop_eq_getElem_cons hlt,Fq]at hw
  simp -implicitDefEqProofs (disch:=first|omega|simp only[nx4]<;>omega|fail) [e0,e3,e4,hlt',Fv,getD_map _ _ _ hlt]
  refine⟨fun h=>?_,fun h=>?_⟩
  ·rw [if_pos h]at hw
   exact⟨hw,hk⟩
  ·rw [if_neg h]at hw
   simp -implicitDefEqProofs (disch:=first|omega|simp only[nx4]<;>omega|fail) [e4,w3]
   refine AK (27 - (i+1)) (by omega) ⟨i+1,by omega,rfl,hw,?_,?_,rfl,?_⟩
   ·simp -implicitDefEqProofs (disch:=first|omega|simp only[nx4]<;>omega|fail) [e0]
   ·simp -implicitDefEqProofs (disch:=first|omega|simp only[nx4]<;>omega|fail) [e3]
   ·simp -implicitDefEqProofs (disch:=first|omega|simp only[nx4]<;>omega|fail) [hk]
 ·have hlt':¬ (i:Int) < 27:=by rw [Fv]at hlt;omega
  rw [List.drop_eq_nil_of_le (by rw [Fv]at hlt ⊢;omega),Fq]at hw
  simp -implicitDefEqProofs (disch:=first|omega|simp only[nx4]<;>omega|fail) [e0,e3,e4,hlt',Fv,← hw,hk]
def arI (t:ByteArray):Option Int:=if Ab t < 0 then none else ars[(Ab t).toNat]?
theorem N5:∀ (l:List ByteArray) (t:ByteArray) (i:Int),0≤i→-1≤Fq l t i∧Fq l t i < i+l.length
 | [],t,i,h=>by simp [Fq];omega
 | x::r,t,i,h=>by
  simp only [Fq]
  split
  ·simp;omega
  ·have:=N5 r t (i+1) (by omega)
   simp only [List.length_cons];omega
theorem XA (t:ByteArray):-1≤Ab t∧Ab t < 27:=N5 EE t 0 (by omega)
def arR (t:ByteArray):AV:=match arI t with | some n=>.tup [.int .i64 n,.bool true] | none=>.tup [.int .i64 0,.bool false]
theorem Rk (k:Nat) (h:k < 27):∃ n,ars[k]?=some n∧Lc=.Ai (ars.map (.int .i64)):=by
 have:k < ars.length:=h
 exact⟨ars[k],by simp [this],rfl⟩
theorem AJi (t:ByteArray):AF Tryz.prog 176 [.str t] (arR t):=by
 refine AF.intro fun s=>AD mixed Tryz.func176 Tryz.call176 AKR rfl (AE _ _ _ _ ?_)
 simp -implicitDefEqProofs (disch:=first|omega|simp only[nx4]<;>omega|fail) [AID,ABc,W5,W6]
 refine AA (p56 t) fun mm2 hm2=>?_
 try simp only [nx4]at hm2
 simp -implicitDefEqProofs (disch:=first|omega|simp only[nx4]<;>omega|fail) [W7]
 obtain⟨h1,h2⟩:=XA t
 refine⟨fun h=>?_,fun h=>?_⟩
 ·have:arI t=none:=by rw [arI,if_pos h]
  simp -implicitDefEqProofs (disch:=first|omega|simp only[nx4]<;>omega|fail) [W8,arR,this]
 ·obtain⟨n,hn,hg⟩:=Rk (Ab t).toNat (by omega)
  have:arI t=some n:=by rw [arI,if_neg (by omega)];exact hn
  have hd:(ars.map (AV.int .i64)).drop (Ab t).toNat=.int .i64 n::(ars.map (AV.int .i64)).drop ((Ab t).toNat+1):=by
   have hl:(Ab t).toNat < (ars.map (AV.int .i64)).length:=by
    have:=(List.getElem?_eq_some_iff.1 hn).1
    simpa using this
   rw [List.drop_eq_getElem_cons hl]
   congr 1
   obtain⟨q1,q2⟩:=List.getElem?_eq_some_iff.1 hn
   simp [q2]
  simp -implicitDefEqProofs (disch:=first|omega|simp only[nx4]<;>omega|fail) [W9,hg,h,h2,hd,arR,this]
theorem Lf (t:ByteArray):∀ (es:List (Value × Value)),(∀ p∈es,∃ k,p.1=.string k∧k≠t)→DU (.str t) es=some none
 | [],_=>rfl
 | p::r,h=>by
  obtain⟨k,hk,hne⟩:=h p (by simp)
  have ih:=Lf t r fun q hq=>h q (by simp [hq])
  have hne':¬ t=k:=fun e=>hne e.symm
  rw [DU,ih,hk]
  simp [A9,keq,hne']
def ADV (es:List (Value × Value)) (l:List ByteArray):Bool:=es.all fun p=>match p.1 with | .string k=>l.any fun x=>decide (x=k) | _=>false
theorem J0 {es:List (Value × Value)} {l:List ByteArray} (h:ADV es l=true) (t:ByteArray) (ht:¬ t∈l):DU (.str t) es=some none:=by
 refine Lf t es fun p hp=>?_
 have:=List.all_eq_true.1 h p hp
 split at this
 ·rename_i k hk
  obtain⟨x,hx,he⟩:=List.any_eq_true.1 this
  have he:=of_decide_eq_true he
  exact⟨k,hk,fun e=>ht (by rw [← e,← he];exact hx)⟩
 ·cases this
theorem Jg:∀ (l:List ByteArray) (t:ByteArray) (i:Int),¬ t∈l→Fq l t i=-1
 | [],_,_,_=>rfl
 | x::r,t,i,h=>by
  simp only [List.mem_cons,not_or]at h
  rw [Fq,if_neg (fun e=>h.1 e.symm),Jg r t _ h.2]
theorem Y4:∀ t∈EE,DU (.str t) Hx=some ((arI t).map (.int .i64)):=by
 intro t ht
 simp only [EE,List.mem_cons,List.not_mem_nil,or_false]at ht
 rcases ht with rfl | rfl | rfl | rfl | rfl | rfl | rfl | rfl | rfl | rfl | rfl | rfl | rfl | rfl | rfl | rfl | rfl | rfl | rfl | rfl | rfl | rfl | rfl | rfl | rfl | rfl | rfl <;> kernel_rfl
theorem LH (t:ByteArray):DU (.str t) Hx=some ((arI t).map (.int .i64)):=by
 by_cases h:t∈EE
 ·exact Y4 t h
 ·rw [J0 (l:=EE) (by kernel_rfl) t h,arI,Ab,Jg _ _ _ h]
  rfl
def UR (t:ByteArray):Bool:=decide (0≤Ab t∧Ab t < 10)
theorem Y5:∀ t∈EE,DU (.str t) Hy=some (if UR t then some (.bool true)else none):=by
 intro t ht
 simp only [EE,List.mem_cons,List.not_mem_nil,or_false]at ht
 rcases ht with rfl | rfl | rfl | rfl | rfl | rfl | rfl | rfl | rfl | rfl | rfl | rfl | rfl | rfl | rfl | rfl | rfl | rfl | rfl | rfl | rfl | rfl | rfl | rfl | rfl | rfl | rfl <;> kernel_rfl
theorem Wd (t:ByteArray):DU (.str t) Hy=some (if UR t then some (.bool true)else none):=by
 by_cases h:t∈EE
 ·exact Y5 t h
 ·rw [J0 (l:=EE) (by kernel_rfl) t h,UR,Ab,Jg _ _ _ h]
  rfl
def shp:Int→Option (Int × Int × Bool × Bool × Bool)
 | 1=>some (0,0,true,false,false)
 | 2=>some (0,0,false,true,false)
 | 3=>some (0,0,true,false,false)
 | 4=>some (0,12,false,true,false)
 | 5=>some (1,1,true,false,false)
 | 6=>some (2,9,false,false,false)
 | 7=>some (2,13,false,false,false)
 | 8=>some (1,1,false,false,true)
 | 9=>some (0,2,false,true,false)
 | _=>none
def AC4 (x:Int × Int × Bool × Bool × Bool):AV:=.agg [.int .i64 x.1,.int .i64 x.2.1,.bool x.2.2.1,.bool x.2.2.2.1,.bool x.2.2.2.2]
theorem J4 (n:Int):∀ (es:List (Value × Value)),(∀ p∈es,∃ k,p.1=.int .i64 k∧k≠n)→DU (.int .i64 n) es=some none
 | [],_=>rfl
 | p::r,h=>by
  obtain⟨k,hk,hne⟩:=h p (by simp)
  have ih:=J4 n r fun q hq=>h q (by simp [hq])
  have hne':¬ n=k:=fun e=>hne e.symm
  rw [DU,ih,hk]
  simp [A9,keq,hne']
theorem PR (op:Int):DU (.int .i64 op) JX=some ((shp op).map AC4):=by
 by_cases h:op=1∨op=2∨op=3∨op=4∨op=5∨op=6∨op=7∨op=8∨op=9
 ·rcases h with rfl | rfl | rfl | rfl | rfl | rfl | rfl | rfl | rfl <;> kernel_rfl
 ·have h1:shp op=none:=by
   unfold shp
   split <;> first | rfl | (exfalso;omega)
  rw [h1]
  refine J4 op _ fun p hp=>?_
  simp only [JX,List.mem_cons,List.not_mem_nil,or_false]at hp
  rcases hp with rfl | rfl | rfl | rfl | rfl | rfl | rfl | rfl | rfl <;> exact⟨_,rfl,by omega⟩
end Go.AL.Dm
namespace Go.AL.Dm
open Go Go.Proofs
section
variable {α:Type} [DecidableEq α]
def E9 (f:α→AV) (es:List (Nat × AV × AV)) (l:List α):Prop:=es.map (·.2)=l.map fun k=>(f k,AV.bool true)
theorem Mc {f:α→AV} (hf:∀ a b,keq (f a) (f b)=some (decide (a=b))) (k:α):∀ {es:List (Nat × AV × AV)} {l:List α} (_:E9 f es l) (i:Nat),
  ∃ r,BL (f k) es i=some r∧(k ∉ l→r=none)∧(k∈l→∃ j,r=some (i+j)∧∃ e,es[j]?=some e∧e.2=(f k,.bool true))
 | [],l,h,i=>by
  have:l=[]:=by simpa [E9] using h.symm
  subst this
  exact⟨none,rfl,fun _=>rfl,by simp⟩
 | e::es,l,h,i=>by
  cases l with
  | nil=>simp [E9]at h
  | cons x l =>
   simp only [E9,List.map_cons,List.cons.injEq]at h
   obtain⟨h1,h2⟩:=h
   by_cases hx:k=x
   ·subst hx
    refine⟨some i,?_,by simp,fun _=>⟨0,by simp,e,rfl,h1⟩⟩
    rw [BL,h1]
    simp [hf]
   ·obtain⟨r,k1,k2,k3⟩:=Mc hf k h2 (i+1)
    refine⟨r,?_,fun hn=>k2 fun hm=>hn (by simp [hm]),fun hm=>?_⟩
    ·rw [BL,h1]
     simp [hf,hx,k1]
    ·have hm':k∈l:=by simpa [hx] using hm
     obtain⟨j,q1,q2⟩:=k3 hm'
     exact⟨j+1,by rw [q1];congr 1;omega,by simpa using q2⟩
theorem Md {f:α→AV} (hf:∀ a b,keq (f a) (f b)=some (decide (a=b))) (k:α) {es:List (Nat × AV × AV)} {l:List α} (h:E9 f es l) (clock:Nat) :
  ∃ r,BL (f k) es 0=some r∧A2 false [.bool false] false (r.bind fun i=>(es[i]?).map (·.2.2))=.bool (decide (k∈l))∧(r.bind fun i=>(es[i]?).map (·.2.2)).isSome=decide (k∈l) ∧
   ∃ es' clock',Hn es clock (f k) (.bool true) r=.map es' clock'∧E9 f es' (if k∈l then l else l++[k]):=by
 obtain⟨r,h1,h2,h3⟩:=Mc hf k h 0
 refine⟨r,h1,?_⟩
 by_cases hm:k∈l
 ·obtain⟨j,hj,e,q1,q2⟩:=h3 hm
  simp only [Nat.zero_add]at hj
  subst hj
  refine⟨by simp [A2,q1,q2,hm],by simp [q1,hm],_,_,rfl,?_⟩
  rw [if_pos hm]
  unfold E9 at h ⊢
  rw [← h]
  apply List.ext_getElem?
  intro n
  simp only [List.getElem?_map,List.getElem?_modify]
  by_cases hn:j=n
  ·subst hn
   simp [q1,q2]
  ·simp [hn]
 ·have hr:=h2 hm
  subst hr
  refine⟨by simp [A2,hm],by simp [hm],_,_,rfl,?_⟩
  rw [if_neg hm]
  unfold E9 at h ⊢
  simp [h]
theorem HF {f:α→AV} (hf:∀ a b,keq (f a) (f b)=some (decide (a=b))) (k:α) {es:List (Nat × AV × AV)} {l:List α} (h:E9 f es l) (s:St) (K:KS) :
  lkR false [.bool false] false es (BL (f k) es 0) s K=K (.bool (decide (k∈l))) s:=by
 obtain⟨r,h1,h2,_⟩:=Md hf k h 0
 rw [h1]
 show K _ s=_
 rw [h2]
theorem KR {f:α→AV} (hf:∀ a b,keq (f a) (f b)=some (decide (a=b))) (k:α) {es:List (Nat × AV × AV)} {l:List α} (h:E9 f es l) (clock:Nat) :
  ∃ es' clock',E9 f es' (if k∈l then l else l++[k])∧∀ (o:Nat) (s:St) (K:KS),upR o es clock (f k) (.bool true) (BL (f k) es 0) s K=K (.tup []) (s.set o (.map es' clock')):=by
 obtain⟨r,h1,_,_,es',clock',h4,h5⟩:=Md hf k h clock
 refine⟨es',clock',h5,fun o s K=>?_⟩
 rw [h1]
 show K _ (s.set o _)=_
 rw [h4]
end
theorem Pe {α:Type} (f:α→AV):E9 f [] []:=rfl
theorem GN (a b:ByteArray):keq (.str a) (.str b)=some (decide (a=b)):=rfl
theorem Nt (a b:Int):keq (.int .i64 a) (.int .i64 b)=some (decide (a=b)):=by simp [keq]
theorem WN (a b c:Int):AF Tryz.prog 116 [.int .i64 a,.int .i64 b,.int .i64 c] (.bool (decide (b≤a) && decide (a≤c))):=by
 refine AF.intro fun s=>AD mixed Tryz.func116 Tryz.call116 k116.2 rfl (AE _ _ _ _ ?_)
 by_cases h1:b≤a <;> by_cases h2:a≤c <;> simp -implicitDefEqProofs (disch:=first|omega|simp only[nx4]<;>omega|fail) [k116,h1,h2]
def emp:ByteArray:=⟨#[]⟩
def Aq (a:Hd) (last:Bool):Bool :=
 if a.op=1 then last && decide (a.s=emp) && decide (a.n=0)else if a.op=2 then nm a.s && (decide (0≤a.n) && decide (a.n≤12))else if a.op=3 then decide (a.s=emp)else false
def Bl (h a:Hd):Bool:=decide (h.op=a.op) && !(decide (a.op=2) && decide (h.s=a.s)) && !(decide (a.op=3) && decide (h.n=a.n))
def As:List Hd→List (Hd × Pl)→Bool
 | _,[]=>true
 | pre,a::r=>Aq a.1 r.isEmpty && (if a.1.op=1 then As pre r else(pre.all fun h=>Bl h a.1) && As (pre++[a.1]) r)
end Go.AL.Dm
namespace Go.AL.Dm
open Go Go.Proofs
def ADW (l:List (Hd × Pl)) (s:St) (m:Nat) (g:Env) (s1:St):Prop :=
 ∃ i:Nat,i≤l.length∧m=l.length - i∧As ((l.take i).map (·.1)) (l.drop i)=As [] l∧g.get 0=.list 8 .none (l.map Pl.BK)∧g.get 3=.int .i64 i∧Kept s s1∧s.nx≤s1.nx
def AIE (l:List (Hd × Pl)) (i o:Nat) (a:Hd × Pl) (s:St) (m:Nat) (g:Env) (s1:St):Prop :=
 ∃ k:Nat,k≤i∧m=i - k∧(((l.take i).map (·.1)).drop k |>.all fun h=>Bl h a.1)=(((l.take i).map (·.1)).all fun h=>Bl h a.1) ∧
  g.get 0=.list 8 .none (l.map Pl.BK)∧g.get 3=.int .i64 i∧g.get 4=.ptr o 0∧g.get 5=.int .i64 k∧s1.m o=some (.box (Pl.BK a).cells)∧Kept s s1∧o < s1.nx
theorem Az:(⟨#[]⟩:ByteArray)=emp:=rfl
theorem AJh (l:List (Hd × Pl)):AF Tryz.prog 175 [.list 8 .none (l.map Pl.BK)] (.bool (decide (1≤l.length) && decide (l.length≤40) && As [] l)):=by
 refine AF.intro fun s=>AD mixed Tryz.func175 Tryz.call175 AKQ rfl (AE _ _ _ _ ?_)
 by_cases h1:(l.length:Int) < 1
 ·have:¬ 1≤l.length:=by omega
  simp -implicitDefEqProofs (disch:=first|omega|simp only[nx4]<;>omega|fail) [a175,S5,OA,OB,Rj,h1,this]
 by_cases h2:(40:Int) < l.length
 ·have:¬ l.length≤40:=by omega
  simp -implicitDefEqProofs (disch:=first|omega|simp only[nx4]<;>omega|fail) [a175,S5,OA,OB,Rj,h1,h2,this]
 have k1:1≤l.length:=by omega
 have k2:l.length≤40:=by omega
 simp -implicitDefEqProofs (disch:=first|omega|simp only[nx4]<;>omega|fail) [a175,S5,OA,OB,W4,h1,h2,k1,k2]
 refine AQ (ADW l s) l.length ⟨0,by omega,by omega,by simp,?_,?_,?_,?_⟩ ?_
 iterate 4 (try simp -implicitDefEqProofs (disch:=first|omega|simp only[nx4]<;>omega|fail))
 rintro m g s1 ⟨i,hi,rfl,hw,e0,e3,hk,hn⟩
 by_cases hlt:i < l.length
 ·have hlt':(i:Int) < l.length:=by omega
  have w3:=wrapS (i:=i) (by omega)
  have w4:IntKind.i64.wrap ((l.length:Int) - 1)=(l.length:Int) - 1:=wrap64 (by omega) (by omega)
  rw [List.drop_eq_getElem_cons hlt,As]at hw
  generalize hx:l[i]=x at hw
  have hget:(l.map Pl.BK).getD i .any=Pl.BK x:=by rw [getD_map _ _ _ hlt,hx]
  have hemp:(l.drop (i+1)).isEmpty=decide ((i:Int)=l.length - 1):=by
   by_cases e:i+1=l.length
   ·have:(i:Int)=l.length - 1:=by omega
    simp [this,List.drop_eq_nil_of_le (show l.length≤i+1 by omega)]
   ·have:¬ (i:Int)=l.length - 1:=by omega
    simp [this];omega
  have e4:emp=⟨#[]⟩:=rfl
  have hin:x.1.op≠1→((((l.take i).map (·.1)).all fun h=>Bl h x.1) && As ((l.take i).map (·.1)++[x.1]) (l.drop (i+1)))=As [] l →
    ∀ (G:Env) (S:St),G.get 0=.list 8 .none (l.map Pl.BK)→G.get 3=.int .i64 i→G.get 4=.ptr s1.nx 0→S.m s1.nx=some (.box (Pl.BK x).cells)→Kept s S→s1.nx < S.nx →
    go (awp Tryz.prog (.seq (.reg false OE) (.block 3 (.loop Ef))) (DZ 1 (FQ Tryz.prog (.reg false Ix) (Fu (l.length - i) (ADW l s) (DZ 0 (FQ Tryz.prog (.seq (.reg false KZ) .ret) (Dd [.tmp (true,2)] fun r' s'=>wk r' (.bool (As [] l))∧Kept s s')))))) G S):=by
   intro hne hall G S g0 g3 g4 hb hk hn1
   simp -implicitDefEqProofs (disch:=first|omega|simp only[nx4]<;>omega|fail) [OE]
   refine AQ (AIE l i s1.nx x s) i ⟨0,by omega,by omega,by simp,?_,?_,?_,?_,?_,?_,?_⟩ ?_
   iterate 7 (try simp -implicitDefEqProofs (disch:=first|omega|simp only[nx4]<;>omega|fail) [g0,g3,g4,hb,hk])
   ·exact hn1
   rintro m g s2 ⟨k,hki,rfl,hp,e0,e3,e4,e5,hb,hk,hn2⟩
   by_cases hklt:k < i
   ·have hklt':(k:Int) < i:=by omega
    have hkl:k < l.length:=by omega
    have hkl':(k:Int) < l.length:=by omega
    have w5:=wrapS (i:=k) (by omega)
    have hlen:k < ((l.take i).map (·.1)).length:=by simp;omega
    rw [List.drop_eq_getElem_cons hlen,List.all_cons]at hp
    have hy:((l.take i).map (·.1))[k]=l[k].1:=by simp
    rw [hy]at hp
    generalize hyy:l[k]=y at hp
    have hnext:Bl y.1 x.1=true→∀ mm,s2.nx≤mm→go (Fu (i - k) (AIE l i s1.nx x s) (DZ 3 (DZ 1 (FQ Tryz.prog (.reg false Ix) (Fu (l.length - i) (ADW l s) (DZ 0 (FQ Tryz.prog (.seq (.reg false KZ) .ret) (Dd [.tmp (true,2)] fun r' s'=>wk r' (.bool (As [] l))∧Kept s s'))))))) .normal ((5,.int .i64 ((k:Int)+1))::(106,.bool false)::(66,.bool true)::g) (s2.bump mm)):=by
     intro hpk mm hmm
     rw [hpk,Bool.true_and]at hp
     refine AK (i - (k+1)) (by omega) ⟨k+1,by omega,rfl,hp,?_,?_,?_,rfl,?_,?_,?_⟩
     all_goals (try simp -implicitDefEqProofs (disch:=first|omega|simp only[nx4]<;>omega|fail) [e0,e3,e4,hb,hk])
     all_goals omega
    by_cases c1:y.1.op=x.1.op
    ·by_cases q2:x.1.op=2
     ·by_cases d:y.1.s=x.1.s
      ·have:Bl y.1 x.1=false:=by simp [Bl,c1,q2,d]
       rw [this,Bool.false_and]at hp
       rw [← hp,Bool.false_and]at hall
       simp -implicitDefEqProofs (disch:=first|omega|simp only[nx4]<;>omega|fail) [Ef,FG,GU,GV,e0,e3,e4,e5,hb,hklt',hkl',hkl,hyy,c1,q2,d,← hall,hk]
      ·have:Bl y.1 x.1=true:=by simp [Bl,c1,q2,d]
       simp -implicitDefEqProofs (disch:=first|omega|simp only[nx4]<;>omega|fail) [Ef,FG,GU,GV,KY,e0,e3,e4,e5,hb,hklt',hkl',hkl,hyy,c1,q2,d,w5]
       exact hnext this
     ·by_cases q3:x.1.op=3
      ·by_cases d:y.1.n=x.1.n
       ·have:Bl y.1 x.1=false:=by simp [Bl,c1,q3,d]
        rw [this,Bool.false_and]at hp
        rw [← hp,Bool.false_and]at hall
        simp -implicitDefEqProofs (disch:=first|omega|simp only[nx4]<;>omega|fail) [Ef,FG,GU,GV,e0,e3,e4,e5,hb,hklt',hkl',hkl,hyy,c1,q3,d,← hall,hk]
       ·have:Bl y.1 x.1=true:=by simp [Bl,c1,q3,d]
        simp -implicitDefEqProofs (disch:=first|omega|simp only[nx4]<;>omega|fail) [Ef,FG,GU,GV,KY,e0,e3,e4,e5,hb,hklt',hkl',hkl,hyy,c1,q3,d,w5]
        exact hnext this
      ·have:Bl y.1 x.1=true:=by simp [Bl,c1,q2,q3]
       simp -implicitDefEqProofs (disch:=first|omega|simp only[nx4]<;>omega|fail) [Ef,FG,GU,GV,KY,e0,e3,e4,e5,hb,hklt',hkl',hkl,hyy,c1,q2,q3,w5]
       exact hnext this
    ·have:Bl y.1 x.1=false:=by simp [Bl,c1]
     rw [this,Bool.false_and]at hp
     rw [← hp,Bool.false_and]at hall
     simp -implicitDefEqProofs (disch:=first|omega|simp only[nx4]<;>omega|fail) [Ef,FG,GU,GV,e0,e3,e4,e5,hb,hklt',hkl',hkl,hyy,c1,← hall,hk]
   ·have hklt':¬ (k:Int) < i:=by omega
    have hlen:((l.take i).map (·.1)).length≤k:=by simp;omega
    rw [List.drop_eq_nil_of_le hlen,List.all_nil]at hp
    rw [← hp,Bool.true_and]at hall
    simp -implicitDefEqProofs (disch:=first|omega|simp only[nx4]<;>omega|fail) [Ef,FG,Ix,e0,e3,e4,e5,hklt',w3]
    refine AK (l.length - (i+1)) (by omega) ⟨i+1,by omega,rfl,?_,?_,rfl,?_,?_⟩
    ·rw [List.take_add_one,List.getElem?_eq_getElem hlt,hx]
     simpa using hall
    ·simp -implicitDefEqProofs (disch:=first|omega|simp only[nx4]<;>omega|fail) [e0]
    ·simp -implicitDefEqProofs (disch:=first|omega|simp only[nx4]<;>omega|fail) [hk]
    ·omega
  by_cases o1:x.1.op=1
  ·by_cases d1:(i:Int)=l.length - 1
   ·have d1':¬ (i:Int) < l.length - 1:=by omega
    by_cases d2:x.1.s=emp
    ·by_cases d3:x.1.n=0
     ·have hh:Aq x.1 (l.drop (i+1)).isEmpty=true:=by simp [Aq,o1,hemp,d1,d2,d3]
      rw [hh,Bool.true_and,if_pos o1,List.drop_eq_nil_of_le (by omega),As]at hw
      simp -implicitDefEqProofs (disch:=first|omega|simp only[nx4]<;>omega|fail) [Cw,D0,ER,ES,ET,Le,Ix,e0,e3,hlt',hx,o1,w4,d1',Az,d2,d3,w3]
      refine AK (l.length - (i+1)) (by omega) ⟨i+1,by omega,rfl,?_,?_,rfl,?_,?_⟩
      ·rw [List.drop_eq_nil_of_le (by omega),As];exact hw
      ·simp -implicitDefEqProofs (disch:=first|omega|simp only[nx4]<;>omega|fail) [e0]
      ·simp -implicitDefEqProofs (disch:=first|omega|simp only[nx4]<;>omega|fail) [hk]
      ·simp -implicitDefEqProofs (disch:=first|omega|simp only[nx4]<;>omega|fail)
       omega
     ·have hh:Aq x.1 (l.drop (i+1)).isEmpty=false:=by simp [Aq,o1,d3]
      rw [hh,Bool.false_and]at hw
      simp -implicitDefEqProofs (disch:=first|omega|simp only[nx4]<;>omega|fail) [Cw,D0,ER,ES,ET,Le,OC,e0,e3,hlt',hx,o1,w4,d1',Az,d2,d3,← hw,hk]
    ·have hh:Aq x.1 (l.drop (i+1)).isEmpty=false:=by simp [Aq,o1,d2]
     rw [hh,Bool.false_and]at hw
     simp -implicitDefEqProofs (disch:=first|omega|simp only[nx4]<;>omega|fail) [Cw,D0,ER,ES,ET,Le,OC,e0,e3,hlt',hx,o1,w4,d1',Az,d2,← hw,hk]
   ·have d1':(i:Int) < l.length - 1:=by omega
    have hh:Aq x.1 (l.drop (i+1)).isEmpty=false:=by simp [Aq,o1,hemp,d1]
    rw [hh,Bool.false_and]at hw
    simp -implicitDefEqProofs (disch:=first|omega|simp only[nx4]<;>omega|fail) [Cw,D0,ER,ES,ET,Le,OC,e0,e3,hlt',hx,o1,w4,d1',← hw,hk]
  rw [if_neg o1]at hw
  by_cases o2:x.1.op=2
  ·have h34:=p34 x.1.s
   cases hnm:nm x.1.s with
   | false =>
    rw [hnm]at h34
    have hh:Aq x.1 (l.drop (i+1)).isEmpty=false:=by simp [Aq,o2,hnm]
    rw [hh,Bool.false_and]at hw
    simp -implicitDefEqProofs (disch:=first|omega|simp only[nx4]<;>omega|fail) [Cw,D0,ER,ES,ET,FF,Iw,e0,e3,hlt',hx,o2]
    refine AA h34 fun mm1 hm1=>?_
    try simp only [nx4]at hm1
    simp -implicitDefEqProofs (disch:=first|omega|simp only[nx4]<;>omega|fail) [KW,← hw,hk]
   | true =>
    rw [hnm]at h34
    by_cases d1:x.1.n < 0
    ·have hh:Aq x.1 (l.drop (i+1)).isEmpty=false:=by simp [Aq,o2];omega
     rw [hh,Bool.false_and]at hw
     simp -implicitDefEqProofs (disch:=first|omega|simp only[nx4]<;>omega|fail) [Cw,D0,ER,ES,ET,FF,Iw,e0,e3,hlt',hx,o2]
     refine AA h34 fun mm2 hm2=>?_
     try simp only [nx4]at hm2
     simp -implicitDefEqProofs (disch:=first|omega|simp only[nx4]<;>omega|fail) [KW,d1,← hw,hk]
    ·by_cases d2:12 < x.1.n
     ·have hh:Aq x.1 (l.drop (i+1)).isEmpty=false:=by simp [Aq,o2];omega
      rw [hh,Bool.false_and]at hw
      simp -implicitDefEqProofs (disch:=first|omega|simp only[nx4]<;>omega|fail) [Cw,D0,ER,ES,ET,FF,Iw,e0,e3,hlt',hx,o2]
      refine AA h34 fun mm3 hm3=>?_
      try simp only [nx4]at hm3
      simp -implicitDefEqProofs (disch:=first|omega|simp only[nx4]<;>omega|fail) [KW,d1,d2,← hw,hk]
     ·have q1:0≤x.1.n:=by omega
      have q2:x.1.n≤12:=by omega
      have hh:Aq x.1 (l.drop (i+1)).isEmpty=true:=by simp [Aq,o2,hnm,q1,q2]
      rw [hh,Bool.true_and]at hw
      simp -implicitDefEqProofs (disch:=first|omega|simp only[nx4]<;>omega|fail) [Cw,D0,ER,ES,ET,FF,Iw,e0,e3,hlt',hx,o2]
      refine AA h34 fun mm4 hm4=>?_
      try simp only [nx4]at hm4
      simp -implicitDefEqProofs (disch:=first|omega|simp only[nx4]<;>omega|fail) [d1,d2]
      refine hin (by omega) hw _ _ ?_ ?_ ?_ ?_ ?_ ?_
      all_goals (try simp -implicitDefEqProofs (disch:=first|omega|simp only[nx4]<;>omega|fail) [e0,e3,hk,o2])
      all_goals omega
  ·by_cases o3:x.1.op=3
   ·by_cases d1:x.1.s=emp
    ·have hh:Aq x.1 (l.drop (i+1)).isEmpty=true:=by simp [Aq,o3,d1]
     rw [hh,Bool.true_and]at hw
     simp -implicitDefEqProofs (disch:=first|omega|simp only[nx4]<;>omega|fail) [Cw,D0,ER,ES,ET,FF,KX,OD,e0,e3,hlt',hx,o3,Az,d1]
     refine hin (by omega) hw _ _ ?_ ?_ ?_ ?_ ?_ ?_
     all_goals (try simp -implicitDefEqProofs (disch:=first|omega|simp only[nx4]<;>omega|fail) [e0,e3,hk,o3,d1])
     all_goals omega
    ·have hh:Aq x.1 (l.drop (i+1)).isEmpty=false:=by simp [Aq,o3,d1]
     rw [hh,Bool.false_and]at hw
     simp -implicitDefEqProofs (disch:=first|omega|simp only[nx4]<;>omega|fail) [Cw,D0,ER,ES,ET,FF,KX,OD,Sz,e0,e3,hlt',hx,o3,Az,d1,← hw,hk]
   ·have hh:Aq x.1 (l.drop (i+1)).isEmpty=false:=by simp [Aq,o1,o2,o3]
    rw [hh,Bool.false_and]at hw
    simp -implicitDefEqProofs (disch:=first|omega|simp only[nx4]<;>omega|fail) [Cw,D0,ER,ES,ET,FF,KX,S4,e0,e3,hlt',hx,o1,o2,o3,← hw,hk]
 ·have hlt':¬ (i:Int) < l.length:=by omega
  rw [List.drop_eq_nil_of_le (by omega),As]at hw
  simp -implicitDefEqProofs (disch:=first|omega|simp only[nx4]<;>omega|fail) [Cw,D0,KZ,e0,e3,hlt',← hw,hk]
end Go.AL.Dm
