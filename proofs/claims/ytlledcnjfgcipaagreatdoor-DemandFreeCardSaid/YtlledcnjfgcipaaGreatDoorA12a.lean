/- The abstract layer: code, functions, and that they come to what the abstract ones say. -/
import Derived.Test.YtlledcnjfgcipaaGreatDoorA9
import Derived.OrdersIn
import Derived.RangeFuncNested
import Derived.RangeFuncLeaves
set_option linter.unusedVariables false
set_option linter.unusedSimpArgs false
namespace Go.AL
def C9 (gs:List Nat) (N:Nat):Option Tmp→Option (Option (Bool × Nat))
 | none=>some none
 | some t=>if t < N then some (some (gs.contains t,t))else none
def EH (gs:List Nat) (ops:Array Oper):Option (Nat × Bool)→Option (Option (Bool × Nat × Bool))
 | none=>some none
 | some (j,want)=>((ops[j]?).bind (·.dst)).map fun t=>some (gs.contains t,t,want)
def D5 [Glob] (P:Program) (gs:List Nat) (N:Nat) (ops:Array Oper) (pure:Bool) (Dh:List Nat) (o:Oper):Option AR :=
 match Aa P gs pure o,C9 gs N o.dst,EH gs ops o.guard with
 | some op,some dst,some guard=>some { dst,op,guard,Dh }
 | _,_,_=>none
def BC [Glob] (P:Program) (gs:List Nat) (N:Nat) (ops:Array Oper):List Oper→Option (List AR)
 | []=>some []
 | o::r =>
  match D5 P gs N ops false [] o,BC P gs N ops r with
  | some a,some l=>some (a::l)
  | _,_=>none
def ins:List Nat→List Nat→List Nat
 | [],s=>s
 | x::xs,s=>if s.contains x then ins xs s else ins xs (x::s)
theorem Mw {j:Nat}:∀ {xs s:List Nat},j∈ins xs s→j∈xs∨j∈s
 | [],s,h=>.inr h
 | x::xs,s,h=>by
  simp only [ins]at h
  split at h
  ·exact(Mw h).imp (fun h=>by simp [h]) id
  ·rcases Mw h with h | h
   ·exact .inl (by simp [h])
   ·simp only [List.mem_cons]at h
    rcases h with rfl | h
    ·exact .inl (by simp)
    ·exact .inr h
def AN:List Oper→List (List Nat)→List (List Nat)
 | [],acc=>acc
 | o::r,acc=>AN r (acc++[o.after.toList.foldl (fun s e=>if Region.binds .any e then ins (e.on::acc.getD e.on []) s else s) []])
def AOp.looks:AOp→Bool
 | .load .. | .lookup .. | .Hg _ | .store .. | .append .. | .mapUpdate .. | .delete .. | .call .. | .range _ | .next _ | .entry _=>true
 | _=>false
def AOp.writes:AOp→Bool
 | .store .. | .append .. | .mapUpdate .. | .delete .. | .call .. | .next _=>true
 | _=>false
def AOp.makes:AOp→Bool
 | .alloc _ | .box _ | .append .. | .Cj | .C5 .. | .range _=>true
 | _=>false
def A1 (ops:Array Oper) (o:Oper):List Nat :=
 o.dst.toList++(o.op.operands.toList.filterMap fun | .tmp t=>some t | _=>none)++(match o.guard with | some (j,_)=>((ops[j]?).bind (·.dst)).toList | none=>[])
def MC (ops:Array Oper) (a b:Oper):Bool :=
 (match a.dst with | some d=>(A1 ops b).contains d | none=>false) || (match b.dst with | some d=>(A1 ops a).contains d | none=>false)
def Cp (ops:Array Oper) (bs:List (List Nat)):Bool :=
 (List.range ops.size).all fun j=>(List.range j).all fun i =>
  match ops[i]?,ops[j]? with
  | some a,some b=>!MC ops a b || (bs.getD j []).contains i
  | _,_=>false
def Cq (ops:Array Oper) (bs:List (List Nat)):Bool :=
 (List.range ops.size).all fun j =>
  match ops[j]? with
  | some o=>(o.after.toList.all fun e=>!Region.binds .any e || decide (e.on < j)) && (match o.guard with | some (g,_)=>(bs.getD j []).contains g | none=>true)
  | none=>false
def Gb (ops:Array Oper) (k:Nat):Bool :=
 decide (k≤ops.size) && (List.range ops.size).all fun j =>
  (match ops[j]? with | some o=>o.after.toList.all (fun e=>!Region.binds .any e || decide (e.on < j)) | none=>true) &&
  (decide (j < k) || (List.range j).all fun i=>((AN ops.toList []).getD j []).contains i) &&
  (match ops[j]? with | some o=>(match o.guard with | some (i,_)=>decide (k≤j) || decide (i < k) | none=>true) | none=>true)
def Hh (ops:Array Oper) (k:Nat):Bool :=
 decide (k+2≤ops.size) && (List.range ops.size).all fun j =>
  (match ops[j]? with | some o=>o.after.toList.all (fun e=>!Region.binds .any e || decide (e.on < j)) | none=>true) &&
  (!(decide (j=k)) || ((List.range k).all (fun i=>((AN ops.toList []).getD k []).contains i) && !((AN ops.toList []).getD k []).contains (k+1))) &&
  (!(decide (j=k+1)) || (match ops[j]? with | some o=>o.after.toList.all (fun e=>!Region.binds .any e) | none=>true)) &&
  (decide (j < k+2) || (List.range j).all fun i=>((AN ops.toList []).getD j []).contains i) &&
  (match ops[j]? with | some o=>(match o.guard with | some (i,_)=>decide (k≤j) || decide (i < k) | none=>true) | none=>true)
def F5 (gs names:List Nat):AG→Bool
 | .g t=>gs.contains t && names.contains t
 | .l t=>!gs.contains t && names.contains t
 | .c _=>true
def QT:Option AG→List AG
 | some x=>[x]
 | none=>[]
def AOp.D6:AOp→List AG
 | .mv x | .box x | .nilCheck x | .un _ x | .conv _ x | .fieldAddr _ x | .field _ _ _ x | .extract x _ | .len x | .Kc x | .Hg x | .load _ _ x | .range x | .next x | .entry x | .Jq _ x=>[x]
 | .pick a b c | .mapUpdate _ a b c=>[a,b,c]
 | .build _ ps=>ps.map (·.2.2)
 | .buildSlice _ _ _ _ ps=>ps.map (·.2)
 | .store _ a b | .bin _ a b | .eqb _ a b | .eqa _ _ a b | .indexAddr _ a b | .D2 _ _ a b | .FY a b | .append _ _ a b | .min a b | .max a b | .lookup _ _ _ _ a b | .delete _ a b | .C5 _ _ _ _ a b=>[a,b]
 | .QU _ a b=>a++b
 | .slice _ x a b c=>x::(QT a++QT b++QT c)
 | .Gk x a b=>x::(QT a++QT b)
 | .Ej _ x h=>[x,h]
 | .call _ f as=>f::as
 | .alloc _ | .Cj=>[]
def C6 (gs names:List Nat) (o:AR):Bool :=
 o.op.D6.all (F5 gs names) &&
 (match o.dst with | some (gl,t)=>(gl == gs.contains t) && names.contains t | none=>true) &&
 (match o.guard with | some (gl,t,_)=>(gl == gs.contains t) && names.contains t | none=>true)
def A0 [Glob] (P:Program) (gs:List Nat) (N:Nat) (ops:Array Oper) (bs:List (List Nat)) (kinds:List AOp):Nat→List Oper→Option (List AR)
 | _,[]=>some []
 | i,o::r =>
  let me:=kinds.getD i .Cj
  let unord (j:Nat):Bool:=!(bs.getD i []).contains j
  let Dh:=(List.range i).filter fun j=>unord j && me.looks && ((kinds.getD j .Cj).makes || ((kinds.getD j .Cj).looks && (me.writes || (kinds.getD j .Cj).writes))) && !me.Ah && !(kinds.getD j .Cj).Ah
  match D5 P gs N ops true Dh o,A0 P gs N ops bs kinds (i+1) r with
  | some a,some l=>if C6 gs (A1 ops o) a then some (a::l)else none
  | _,_=>none
def B6 [Glob] (P:Program) (gs:List Nat):List Oper→Option (List AOp)
 | []=>some []
 | o::r =>
  match Aa P gs false o,B6 P gs r with
  | some a,some l=>some (a::l)
  | _,_=>none
def AHe (gs:List Nat) (id:Nat):Bool:=gs.contains ((id+1) * 1000000000000+999998)
def AHf (gs:List Nat) (id:Nat):Option Nat:=gs.findSome? fun x=>if x / 1000000000000 == id+1 && decide (900000000≤x % 1000000000000)then some (x % 1000000000000 - 900000000)else none
def AHg (gs:List Nat) (id:Nat):Bool:=gs.contains ((id+1) * 1000000000000+999999)
def AAs (gs:List Nat) (id:Nat):List Nat:=gs.filterMap fun x=>if x / 1000000000000 == id+1 && x % 1000000000000 != 999999 && x % 1000000000000 != 999998 && decide (x % 1000000000000 < 900000000)then some (x % 1000000000000)else none
def AI (ops:Array Oper) (k:Nat):Array Oper:=(ops.toList.take k).toArray
def ACe:List Nat→Ae→Ae
 | [],c=>c
 | t::r,c=>ACe r (.seq c (.frz t))
def Gm [Glob] (P:Program) (gs:List Nat) (N:Nat) (ops:Array Oper):Option Ae :=
 let k:=((List.range (ops.size+1)).find? (Gb ops)).getD ops.size
 let pre:=AI ops k
 let bs:=AN pre.toList []
 if Gb ops k && (Cp pre bs && Cq pre bs)then
  match B6 P gs pre.toList with
  | some kinds =>
   match A0 P gs N pre bs kinds 0 pre.toList,BC P gs N ops (ops.toList.drop k)with
   | some os,some suf=>some (.YR os suf)
   | _,_=>none
  | none=>none
 else none
def Gn [Glob] (P:Program) (gs:List Nat) (N:Nat) (ops:Array Oper):Option Ae :=
 let k:=((List.range (ops.size+1)).find? (Hh ops)).getD ops.size
 let pre:=AI ops k
 let bs:=AN pre.toList []
 if Hh ops k && (Cp pre bs && Cq pre bs)then
  match B6 P gs pre.toList,ops[k]?,ops[k+1]? with
  | some kinds,some oc,some oa =>
   if kinds.all (fun x=>x.Ah || !x.writes)then
    match oa.op,oa.dst,oc.guard,oa.guard with
    | .alloc e,some t,none,none =>
     if decide (t < N) && (oc.dst != some t) && (List.range k).all fun i=>(match ops[i]? with | some o=>o.dst != some t | none=>true)then
      match Ca P e,Aa P gs false oc,C9 gs N oc.dst,A0 P gs N pre bs kinds 0 pre.toList,BC P gs N ops (ops.toList.drop (k+2))with
      | some zs,some ac,some dc,some os,some suf=>some (.ACf os zs (gs.contains t) t ⟨dc,ac,none,[]⟩ suf)
      | _,_,_,_,_=>none
     else none
    | _,_,_,_=>none
   else none
  | _,_,_=>none
 else none
def Kd (ds:List (Option (Bool × Nat))):AG→Bool
 | .g t=>ds.all fun d=>match d with | some (_,u)=>u != t | none=>true
 | .l t=>ds.all fun d=>match d with | some (_,u)=>u != t | none=>true
 | .c _=>true
def Mx (b:List Nat) (k:Nat):List Nat:=(List.range k).filter fun i=>!b.contains i
def U0 (os:List AR) (k:Nat) (F:List Nat):Bool :=
 F.all fun i=>match os[i]? with | some o=>o.op.D6.all (Kd (((os.take k).drop i).map (·.dst))) | none=>false
def Gp [Glob] (P:Program) (gs:List Nat) (N:Nat) (ops:Array Oper) (k:Nat):Option Ae :=
 let m:=((List.range (ops.size+1)).find? fun j=>decide (k < j) && Gb ops j).getD 0
 let a:=AI ops m
 let bs:=AN a.toList []
 if decide (k < m) && Gb ops m && (Cp a bs && Cq a bs) && ((List.range m).all fun j=>decide (j≤k) || (bs.getD j []).contains k)then
  match B6 P gs a.toList,ops[k]? with
  | some kinds,some oc =>
   if kinds.all (fun x=>x.Ah || (!x.writes && !x.makes)) && oc.guard.isNone then
    match Aa P gs false oc,C9 gs N oc.dst,A0 P gs N a bs kinds 0 a.toList,BC P gs N ops (ops.toList.drop m)with
    | some ac,some dc,some os,some suf =>
     if ac.Ah && U0 os k (Mx (bs.getD k []) k) && os.all (fun o=>o.Dh.isEmpty)then
      some (.U1 (os.take k) ((Mx (bs.getD k []) k).filterMap fun i=>(os[i]?).map (·.op)) ⟨dc,ac,none,[]⟩ (os.drop (k+1)) suf)
     else none
    | _,_,_,_=>none
   else none
  | _,_=>none
 else none
def HW [Glob] (P:Program) (gs:List Nat) (N:Nat) (ops:Array Oper) (draw:Bool):Option Ae :=
 if draw then
  let bs:=AN ops.toList []
  if Cp ops bs && Cq ops bs then
   match B6 P gs ops.toList with
   | some kinds=>(A0 P gs N ops bs kinds 0 ops.toList).map (.reg true)
   | none=>none
  else none
 else(BC P gs N ops ops.toList).map (.reg false)
def IB [Glob] (gs:List Nat) (c:Operand):Option AG :=
 match opd gs c with
 | some (.l _)=>none
 | x=>x
def Tf (o:Oper):List Nat:=o.op.operands.toList.filterMap fun | .tmp t=>some t | _=>none
def F6:Code→List Nat
 | .region _ ops _=>ops.toList.flatMap Tf
 | .seq a b=>F6 a++F6 b
 | .cond c a b=>(match c with | .tmp t=>[t] | _=>[])++F6 a++F6 b
 | .block _ b | .loop b | .scope b=>F6 b
 | .rangeFunc f ps a b=>(match f with | .tmp t=>[t] | _=>[])++F6 a++F6 b
 | _=>[]
def Cz:Code→Bool
 | .seq a b | .cond _ a b=>Cz a && Cz b
 | .block _ b | .loop b | .scope b=>Cz b
 | .rangeFunc ..=>false
 | _=>true
def Di (gs:List Nat) (N:Nat) (a b:Code):List Nat:=(List.range N).filter fun t=>gs.contains t && (F6 a++F6 b).contains t
theorem MD {gs:List Nat} {N:Nat} {a b:Code} {t:Nat} (h:t∈Di gs N a b):gs.contains t=true:=by
 simp only [Di,List.mem_filter,Bool.and_eq_true]at h
 exact h.2.1
def J8 (ops:Array Oper):Bool:=ops.toList.all fun o=>match o.op with | .defer _=>false | _=>true
def Aj [Glob] (P:Program) (gs:List Nat) (N:Nat):Code→Option Ae
 | .skip=>some .skip
 | .region id ops draw =>
  if (AAs gs id).all gs.contains && J8 ops then(match AHf gs id with | some k=>if draw then Gp P gs N ops k else none | none=>if AHe gs id && draw then Gn P gs N ops else if AHg gs id && draw then Gm P gs N ops else HW P gs N ops draw).map (ACe (AAs gs id))else none
 | .seq a b=>match Aj P gs N a,Aj P gs N b with | some a',some b'=>some (.seq a' b') | _,_=>none
 | .cond c a b=>match IB gs c,Aj P gs N a,Aj P gs N b with | some c',some a',some b'=>some (.cond c' a' b') | _,_,_=>none
 | .block id b=>(Aj P gs N b).map (.block id)
 | .loop b=>(Aj P gs N b).map .loop
 | .exit id=>some (.exit id)
 | .ret=>some .ret
 | .label _=>some .skip
 | .scope b=>Aj P gs N b
 | .rangeFunc f ps a b=>match IB gs f,Aj P gs N a,Aj P gs N b with
  | some f',some a',some b'=>if Cz a && Cz b && ps.toList.all fun t=>decide (t < N)then some (.R3 f' ps.toList N (Di gs N a b) a' b')else none
  | _,_,_=>none
 | _=>none
def Bz (P:Program) (gs:List Nat):List ResultVar→Option (List JB)
 | []=>some []
 | .tmp t::r=>(Bz P gs r).map fun l=>.tmp (gs.contains t,t)::l
 | .cell a t::r =>
  match FL P t,Jr P t,Bz P gs r with
  | some n,some agg,some l=>some (.cell (gs.contains a,a) n agg::l)
  | _,_,_=>none
def A7 [Glob] (P:Program) (gs:List Nat) (fn:Func):Option F7 :=
 match fn.body.bind (Aj P gs fn.ntmps),Bz P gs fn.results.toList with
 | some body,some results=>if fn.params.size+fn.nfree≤fn.ntmps then some { np:=fn.params.size+fn.nfree,ntmps:=fn.ntmps,body,results } else none
 | _,_=>none
section
variable (P:Program)
def EV (i:Nat) (t:Option Nat) (mk:Bool) (nx:Nat) (acc:List (Nat × Nat)):List (Nat × Nat) :=
 (match t with | some q=>[(i,q)] | none=>[])++(if mk then [(i,nx)]else [])++acc
def BM [Glob]:Nat→List (Nat × Nat)→List AR→(Env→Env→St→Prop)→Env→Env→St→Prop
 | _,_,[],K,g,l,s=>∀ m,s.nx≤m→K g l (s.bump m)
 | i,acc,o::os,K,g,l,s =>
  guarded o.guard g l
   (fun g l=>(match o.op.AT (AG.val g l)with | some q=>∀ p∈acc,p.1∈o.Dh→p.2≠q | none=>True) ∧
    o.op.step P g l s fun v s'=>BY o.dst v g l fun g' l'=>BM (i+1) (EV i (o.op.AT (AG.val g l)) o.op.makes s.nx acc) os K g' l' s')
   (fun g l=>BY o.dst (.tup []) g l fun g' l'=>BM (i+1) acc os K g' l' s)
def OW (gl:Bool) (t:Nat) (g:Env):Env:=if gl then(t,.any)::g else g
def U2 [Glob] (gl:Bool) (ac:AOp) (dc:Option (Bool × Nat)) (t:Nat) (zs:List AV) (X:Nat) (suf:List AR) (K:Env→Env→St→Prop) (g l:Env) (s':St):Prop :=
 ac.step P g l s' fun v s2=>s2.m X=some (.box zs)∧BY dc v g l fun g1 l1=>BY (some (gl,t)) (.ptr X 0) g1 l1 fun g2 l2=>Cr P suf K g2 l2 s2
def frs (g l:Env) (s' s2:St):List AOp→Prop
 | []=>True
 | op::r=>(match op.AT (AG.val g l)with | some q=>s2.m q=s'.m q | none=>True)∧frs g l s' s2 r
def My [Glob] (fr:List AOp) (ac:AOp) (dc:Option (Bool × Nat)) (k:Nat) (post suf:List AR) (K:Env→Env→St→Prop) (g l:Env) (s':St):Prop :=
 ac.step P g l s' fun v s2=>frs g l s' s2 fr∧BY dc v g l fun g1 l1=>BM P (k+1) [] post (fun g2 l2 s3=>Cr P suf K g2 l2 s3) g1 l1 s2
def AHh (o:Nat) (env:Env) (ps:List Nat) (n:Nat) (ca cb:Code) (K:AV→St→Prop) (e:Ay) (s:St):Prop :=
 s.m o=some (.loop 1 none env ps n ca cb) ∧
 match e with
 | .normal=>K (.bool true) (s.set o (.loop 0 none env ps n ca cb))
 | .ret=>K (.bool false) (s.set o (.loop 2 (some none) env ps n ca cb))
 | .exit i=>K (.bool false) (s.set o (.loop 2 (some (some i)) env ps n ca cb))
def AHi (o:Nat) (env:Env) (ps:List Nat) (n:Nat) (ca cb:Code) (body:Env→St→Prop) (e:Ay) (g:Env) (s:St):Prop :=
 match e with
 | .normal=>s.m o=some (.loop 0 none env ps n ca cb)∧body g (s.set o (.loop 1 none env ps n ca cb))
 | _=>False
def QV (o:Nat) (env:Env) (ps:List Nat) (n:Nat) (ca cb:Code) (Q:Ay→Env→St→Prop) (g:Env) (s:St):Prop :=
 ∃ st j,s.m o=some (.loop st j env ps n ca cb)∧st≠1 ∧
  match j with
  | none=>Q .normal g (s.del o)
  | some none=>Q .ret g (s.del o)
  | some (some i)=>Q (.exit i) g (s.del o)
def F8 (keep:List Nat) (g:Env):Env:=keep.map fun t=>(t,g.get t)
def F9:List Nat→List AV→Env→Env
 | p::ps,x::xs,g=>F9 ps xs ((p,x)::g)
 | _,_,g=>g
def OX [Glob] (o:Nat) (env:Env) (ps:List Nat) (n:Nat) (ca cb:Code) (asg:(Ay→Env→St→Prop)→Env→St→Prop) (body:(Ay→Env→St→Prop)→Env→St→Prop):Prop :=
 ∀ (args:List AV) (s:St) (K:AV→St→Prop),s.m o=some (.loop 0 none env ps n ca cb)→args.length=ps.length →
  asg (AHi o env ps n ca cb fun g s=>body (fun e _ s=>AHh o env ps n ca cb K e s) g s) (F9 ps args env) s→CL P o args s K
def awp [Glob]:Ae→(Ay→Env→St→Prop)→Env→St→Prop
 | .skip,Q,g,s=>Q .normal g s
 | .reg false ops,Q,g,s=>Cr P ops (fun g _ s=>Q .normal g s) g [] s
 | .YR pre suf,Q,g,s=>BM P 0 [] pre (Cr P suf fun g _ s=>Q .normal g s) g [] s
 | .ACf pre zs gl t c suf,Q,g,s=>BM P 0 [] pre (U2 P gl c.op c.dst t zs s.nx suf fun g _ s=>Q .normal g s) (OW gl t g) [] (s.new (.box zs))
 | .U1 pre fr c post suf,Q,g,s=>BM P 0 [] pre (My P fr c.op c.dst pre.length post suf fun g _ s=>Q .normal g s) g [] s
 | .frz t,Q,g,s =>
  match g.get t with
  | .ptr o off=>(match s.m o with | some (.box cs)=>Q .normal ((t,.Ai (cs.drop off))::g) (s.del o) | _=>False)
  | _=>False
 | .reg true ops,Q,g,s=>BM P 0 [] ops (fun g _ s=>Q .normal g s) g [] s
 | .seq a b,Q,g,s=>awp a (fun e g s=>match e with | .normal=>awp b Q g s | e=>Q e g s) g s
 | .cond c a b,Q,g,s =>
  match c.val g []with
  | .bool t=>(t=true→awp a Q g s)∧(t=false→awp b Q g s)
  | _=>False
 | .block id b,Q,g,s=>awp b (fun e g s=>match e with | .exit i=>if i=id then Q .normal g s else Q (.exit i) g s | e=>Q e g s) g s
 | .loop b,Q,g,s=>∃ (I:Nat→Env→St→Prop) (n:Nat),I n g s∧∀ n g s,I n g s→awp b (fun e g' s'=>match e with | .normal=>∃ m,m < n∧I m g' s' | e=>Q e g' s') g s
 | .exit id,Q,g,s=>Q (.exit id) g s
 | .ret,Q,g,s=>Q .ret g s
 | .R3 f ps n keep as bd,Q,g,s =>
  ∀ (ca cb:Code),OX P s.nx (F8 keep g) ps n ca cb (awp as) (awp bd) →
   callee (f.val g []) [.yld s.nx] fun fid args=>AB P fid args (s.new (.loop 0 none (F8 keep g) ps n ca cb)) fun _ s'=>QV s.nx (F8 keep g) ps n ca cb Q g s'
end
def FM:Nat→List AV→Env
 | _,[]=>[]
 | i,v::r=>(i,v)::FM (i+1) r
def BF:List JB→Env→St→Option (List AV)
 | [],_,_=>some []
 | .tmp (true,t)::r,g,s=>(BF r g s).map (g.get t::·)
 | .cell (true,t) n agg::r,g,s =>
  match g.get t with
  | .ptr o off =>
   match s.m o with
   | some (.box cs)=>if off+n≤cs.length then(match CA n agg (cs.drop off),BF r g s with | some v,some l=>some (v::l) | _,_=>none)else none
   | _=>none
  | _=>none
 | _::_,_,_=>none
def oneOf:List AV→AV
 | [v]=>v
 | vs=>.tup vs
def U3 [Glob] (P:Program) (af:F7) (args:List AV) (s:St) (K:AV→St→Prop):Prop :=
 awp P af.body (fun e g s=>match e with | .exit _=>False | _=>match BF af.results g s with | some vs=>K (oneOf vs) s | none=>False) (FM 0 args) s
structure Rel [Glob] (gs:List Nat) (N:Nat) (ι:Nat→Option Nat) (g l:Env) (s:St) (a:Act) (w:World):Prop where
 wf:WF ι s.m w
 bnd:Bnd ι s.m s.nx
 size:a.tmps.size=N
 defers:a.defers=[]
 Ek:∀ t,gs.contains t=true→Rep ι (AZ ι s.m) w (a.tmps.getD t undef) (g.get t)
 loc:∀ t,gs.contains t=false→Rep ι (AZ ι s.m) w (a.tmps.getD t undef) (l.get t)
variable {P:Program} {gs:List Nat} {N:Nat} {ι ι':Nat→Option Nat} {g l:Env} {s s':St} {a:Act} {w w':World}
theorem Rel.val [Glob] (h:Rel gs N ι g l s a w):∀ x y,opd gs x=some y→Rep ι (AZ ι s.m) w (a.eval x) (y.val g l):=by
 intro x y hxy
 cases x with
 | tmp t =>
  simp only [opd,Option.some.injEq]at hxy
  subst hxy
  show Rep _ _ _ (a.tmps.getD t undef) _
  cases hg:gs.contains t with
  | true=>exact h.Ek t hg
  | false=>exact h.loc t hg
 | const v =>
  simp only [opd,Option.map_eq_some_iff]at hxy
  obtain⟨c,hc,rfl⟩:=hxy
  exact Ck v hc
 | func f =>
  simp only [opd,Option.some.injEq]at hxy
  subst hxy
  exact .fn f rfl rfl (by simp) (by simp)
 | global g =>
  simp only [opd,Option.map_eq_some_iff]at hxy
  obtain⟨c,hc,rfl⟩:=hxy
  exact h.wf.laid g c hc
theorem Rel.clear [Glob] (h:Rel gs N ι g l s a w):Rel gs N ι g [] s a w:=⟨h.wf,h.bnd,h.size,h.defers,h.Ek,fun t _=>.any _⟩
theorem FZ {a:Act} {t:Nat} (ht:t < a.tmps.size) (v:Value) (u:Nat):(a.put (some t) v).tmps.getD u undef=if u=t then v else a.tmps.getD u undef:=by
 simp only [Act.put]
 by_cases h:u=t
 ·subst h;simp [ht]
 ·simp only [if_neg h]
  have hne:t≠u:=fun e=>h e.symm
  simp [Array.getElem?_setIfInBounds_ne hne]
theorem Rel.put [Glob] {S:AX} (h:Rel gs N ι g l s a w) (hst:Step ι s.m w ι' s'.m w') (hwf:WF ι' s'.m w') (hb:Bnd ι' s'.m s'.nx) {dst:Option Tmp} {d:Option (Bool × Nat)} (hd:C9 gs N dst=some d)
  {cv:Value} {v:AV} (hv:Rep ι' (AZ ι' s'.m) w' cv v) {K:Env→Env→Prop} (hk:BY d v g l K):∃ g' l',K g' l'∧Rel gs N ι' g' l' s' (a.put dst cv) w':=by
 cases dst with
 | none =>
  simp only [C9,Option.some.injEq]at hd
  subst hd
  exact⟨g,l,hk,hwf,hb,h.size,h.defers,fun t ht=>(h.Ek t ht).step hst,fun t ht=>(h.loc t ht).step hst⟩
 | some t =>
  simp only [C9]at hd
  split at hd
  ·rename_i htN
   simp only [Option.some.injEq]at hd
   subst hd
   have ht:t < a.tmps.size:=by rw [h.size];exact htN
   have hsz:(a.put (some t) cv).tmps.size=N:=by simp [Act.put,h.size]
   have hdf:(a.put (some t) cv).defers=[]:=h.defers
   cases hg:gs.contains t with
   | true =>
    rw [hg]at hk
    refine⟨(t,v)::g,l,hk,hwf,hb,hsz,hdf,fun u hu=>?_,fun u hu=>?_⟩
    ·rw [FZ ht]
     simp only [Env.get]
     by_cases e:u=t
     ·subst e;simpa using hv
     ·rw [if_neg e,if_neg (fun e'=>e e'.symm)]
      exact(h.Ek u hu).step hst
    ·rw [FZ ht,if_neg (fun e=>by rw [e]at hu;rw [hu]at hg;cases hg)]
     exact(h.loc u hu).step hst
   | false =>
    rw [hg]at hk
    refine⟨g,(t,v)::l,hk,hwf,hb,hsz,hdf,fun u hu=>?_,fun u hu=>?_⟩
    ·rw [FZ ht,if_neg (fun e=>by rw [e]at hu;rw [hu]at hg;cases hg)]
     exact(h.Ek u hu).step hst
    ·rw [FZ ht]
     simp only [Env.get]
     by_cases e:u=t
     ·subst e;simpa using hv
     ·rw [if_neg e,if_neg (fun e'=>e e'.symm)]
      exact(h.loc u hu).step hst
  ·cases hd
theorem Rel.BN [Glob] (h:Rel gs N ι g l s a w) {t:Nat} {v:AV} (hv:EI g l (gs.contains t,t)=v) {K:Env→Env→Prop} (hk:BN (gs.contains t,t) v g l K) :
  ∃ g' l',K g' l'∧Rel gs N ι g' l' s a w:=by
 cases hg:gs.contains t with
 | true =>
  rw [hg]at hk hv
  refine⟨(t,v)::g,l,hk,h.wf,h.bnd,h.size,h.defers,fun u hu=>?_,h.loc⟩
  simp only [Env.get]
  split
  ·rename_i e;subst e;subst hv;exact h.Ek t hu
  ·exact h.Ek u hu
 | false =>
  rw [hg]at hk hv
  refine⟨g,(t,v)::l,hk,h.wf,h.bnd,h.size,h.defers,h.Ek,fun u hu=>?_⟩
  simp only [Env.get]
  split
  ·rename_i e;subst e;subst hv;exact h.loc t hu
  ·exact h.loc u hu
theorem Rel.EI [Glob] (h:Rel gs N ι g l s a w) (t:Nat):Rep ι (AZ ι s.m) w (a.tmps.getD t undef) (EI g l (gs.contains t,t)):=by
 unfold AL.EI
 cases hg:gs.contains t with
 | true=>exact h.Ek t hg
 | false=>exact h.loc t hg
end Go.AL
namespace Go.AL
variable {ro:Option Nat} {P:Program} {a:Act} {w:World}
def inR (ro:Option Nat):Fence:={ Fence.wide with round:=ro }
theorem JC {n:Nat} {f:FuncId} {args:Array Value} {R:Ending→World→Prop} (h:Calls P f args w R):CallsIn (inR ro) n P f args w R :=
 (callsIn_wide (n:=n)).2 h
theorem Tg {n l:Nat} {f:FuncId} {tmps:Array Value} {assign body:Code} {R:Ending→World→Prop} (h:RoundIn Fence.wide n P l f tmps assign body w R):RoundIn (inR ro) n P l f tmps assign body w R:=h
def Oper.wpR (ro:Option Nat) (P:Program) (o:Oper) (a:Act) (w:World) (next:Act→World→Prop) (Q:Exit→Act→World→Prop):Prop :=
 o.uponIn (inR ro) 0 P a next Q ((execOp a.eval o).run P w)
def Ba (ro:Option Nat) (P:Program) (ops:Array Oper) (Q:Exit→Act→World→Prop) (i:Nat) (K:Act→World→Prop) (a:Act) (w:World):Prop :=
 match ops[i]? with
 | none=>K a w
 | some o=>if Region.wanted o (yielded ops a.tmps)then Oper.wpR ro P o a w K Q∨False else K (a.put o.dst undef) w
def C0 (ro:Option Nat) (P:Program) (ops:Array Oper) (Q:Exit→Act→World→Prop):List Nat→Act→World→Prop
 | [],a,w=>Q .normal a w
 | i::rest,a,w=>Ba ro P ops Q i (C0 ro P ops Q rest) a w
theorem FC {ops:Array Oper} {Q:Exit→Act→World→Prop} (i:Nat) (rest:List Nat) (a:Act) (w:World) :
  C0 ro P ops Q (i::rest) a w=Ba ro P ops Q i (C0 ro P ops Q rest) a w:=rfl
def CB (ro:Option Nat) (P:Program) (md:Region.Mode) (ops:Array Oper) (Q:Exit→Act→World→Prop):Nat→Array Bool→Act→World→Prop
 | 0,listed,a,w=>Region.ready md ops listed=[]∧Q .normal a w
 | fuel+1,listed,a,w =>
  (Region.ready md ops listed=[]→Q .normal a w) ∧
  ∀ i∈Region.ready md ops listed,Ba ro P ops Q i (CB ro P md ops Q fuel (listed.setIfInBounds i true)) a w
theorem Oper.U4 {o:Oper} {Q:Exit→Act→World→Prop} {K K':Act→World→Prop} (h:∀ a w,K a w→K' a w) (hh:Oper.wpR ro P o a w K Q):Oper.wpR ro P o a w K' Q:=by
 unfold Oper.wpR at *
 generalize (execOp a.eval o).run P w=r at *
 cases r with
 | ok x w' =>
  cases x <;> simp only [Oper.uponIn]at hh ⊢ <;>
   first
    | exact h _ _ hh
    | exact⟨hh.1,CallsIn.mono hh.2 (fun e w'' he=>by cases e <;> first | exact h _ _ he | exact he)⟩
    | exact⟨hh.1,RowsIn.mono hh.2 (fun _ _ he=>h _ _ he)⟩
    | exact⟨hh.1,RoundIn.mono hh.2 (fun e w'' he=>by cases e <;> first | exact h _ _ he | exact he)⟩
 | halt x w'=>cases x <;> simp only [Oper.uponIn]at hh ⊢ <;> exact hh
theorem Dj {ops:Array Oper} {Q:Exit→Act→World→Prop} {i:Nat} {K K':Act→World→Prop} (h:∀ a w,K a w→K' a w)
  (hh:Ba ro P ops Q i K a w):Ba ro P ops Q i K' a w:=by
 unfold Ba at *
 split
 ·exact h _ _ (by simpa [*] using hh)
 ·rename_i o ho
  simp only [ho]at hh
  split
  ·rename_i hw;simp only [hw,if_true]at hh;exact hh.imp (Oper.U4 h) id
  ·rename_i hw;simp only [hw]at hh;exact h _ _ hh
theorem Th {ops:Array Oper} (h:J8 ops=true) {i:Nat} {o:Oper} (ho:ops[i]?=some o) (c:Call):o.op≠.defer c:=by
 intro e
 have hm:o∈ops.toList:=by have:=Array.mem_of_getElem? ho;simpa using this
 have:=List.all_eq_true.1 h o hm
 rw [e]at this
 cases this
theorem R4 {ops:Array Oper} {Q:Exit→Act→World→Prop} (ht:J8 ops=true) {i:Nat} {K:Act→World→Prop} (h:Ba ro P ops Q i K a w):wpOpIn (inR ro) 0 P ops Q i K a w:=by
 unfold Ba at h
 unfold wpOpIn
 cases ho:ops[i]? with
 | none=>simp only [ho]at h ⊢;exact h
 | some o =>
  simp only [ho]at h ⊢
  split at h
  ·rename_i hw
   simp only [hw,if_true]
   refine⟨fun _ _=>trivial,?_⟩
   rw [Oper.semAt_eq _ _ _ (Th ht ho)]
   exact h.resolve_right id
  ·rename_i hw
   simp only [hw]
   exact⟨fun _ _=>trivial,h⟩
theorem OY {ops:Array Oper} {Q:Exit→Act→World→Prop} (ht:J8 ops=true):∀ (l:List Nat) (a:Act) (w:World),C0 ro P ops Q l a w→wpOpsIn (inR ro) 0 P ops Q l a w
 | [],a,w,h=>h
 | i::l,a,w,h=>by
  rw [wpOpsIn_cons]
  rw [FC]at h
  exact R4 ht (Dj (fun a w h=>OY ht l a w h) h)
theorem OZ {ops:Array Oper} {md:Region.Mode} {Q:Exit→Act→World→Prop} (ht:J8 ops=true):∀ (fuel:Nat) (listed:Array Bool) (a:Act) (w:World),CB ro P md ops Q fuel listed a w→wpAnyIn (inR ro) 0 P md ops Q fuel listed a w
 | 0,listed,a,w,h=>h
 | fuel+1,listed,a,w,h=>⟨h.1,fun i hi=>ACg ht fuel listed i (h.2 i hi)⟩
 where
 ACg {ops:Array Oper} {md:Region.Mode} {Q:Exit→Act→World→Prop} (ht:J8 ops=true) (fuel:Nat) (listed:Array Bool) (i:Nat) {a:Act} {w:World} (h:Ba ro P ops Q i (CB ro P md ops Q fuel (listed.setIfInBounds i true)) a w) :
   wpOpIn (inR ro) 0 P ops Q i (wpAnyIn (inR ro) 0 P md ops Q fuel (listed.setIfInBounds i true)) a w :=
  R4 ht (Dj (fun a w h=>OZ ht fuel _ a w h) h)
def Bj (d:List Deferred) (a:Act):Act:={ a with defers:=a.defers++d }
theorem Oa (d:List Deferred) (a:Act) (t:Option Nat) (v:Value):(Bj d a).put t v=Bj d (a.put t v):=by cases t <;> rfl
theorem JD (d:List Deferred) (a:Act):(Bj d a).eval=a.eval:=rfl
theorem Ob (a:Act):Bj [] a=a:=by simp [Bj]
theorem Oper.YS {d:List Deferred} {o:Oper} {Q:Exit→Act→World→Prop} {K:Act→World→Prop} (hh:Oper.wpR ro P o a w (fun a w=>K (Bj d a) w) (fun e a w=>Q e (Bj d a) w)):Oper.wpR ro P o (Bj d a) w K Q:=by
 unfold Oper.wpR at *
 rw [JD]
 have hout:LetsOut (fun e a w=>Q e (Bj d a) w)→LetsOut Q:=fun⟨a,w,h⟩=>⟨_,w,h⟩
 generalize (execOp a.eval o).run P w=r at *
 cases r with
 | ok x w' =>
  cases x <;> simp only [Oper.uponIn,Oa]at hh ⊢ <;>
   first
    | exact hh
    | exact⟨hh.1,CallsIn.mono hh.2 (fun e w'' he=>by cases e <;> first | exact he | exact hout he)⟩
    | exact⟨hh.1,RoundIn.mono hh.2 (fun e w'' he=>by cases e <;> first | exact he | exact hout he)⟩
    | (cases hd:o.dst <;> simpa [Act.put,Bj,hd] using hh)
 | halt x w'=>cases x <;> simp only [Oper.uponIn]at hh ⊢ <;> exact hh
theorem ME {d:List Deferred} {ops:Array Oper} {Q:Exit→Act→World→Prop} {i:Nat} {K:Act→World→Prop}
  (hh:Ba ro P ops (fun e a w=>Q e (Bj d a) w) i (fun a w=>K (Bj d a) w) a w):Ba ro P ops Q i K (Bj d a) w:=by
 unfold Ba at *
 split
 ·simpa [*] using hh
 ·rename_i o ho
  simp only [ho]at hh ⊢
  by_cases hw:Region.wanted o (yielded ops a.tmps)=true
  ·rw [if_pos hw]at hh
   rw [if_pos (show Region.wanted o (yielded ops (Bj d a).tmps)=true from hw)]
   exact hh.imp Oper.YS id
  ·rw [if_neg hw]at hh
   rw [if_neg (show ¬ Region.wanted o (yielded ops (Bj d a).tmps)=true from hw),Oa]
   exact hh
theorem Ke {d:List Deferred} {ops:Array Oper} {Q:Exit→Act→World→Prop}:∀ (l:List Nat) (a:Act) (w:World),C0 ro P ops (fun e a w=>Q e (Bj d a) w) l a w→C0 ro P ops Q l (Bj d a) w
 | [],a,w,h=>h
 | i::l,a,w,h=>by
  rw [FC]at h ⊢
  exact ME (Dj (fun a w h=>Ke l a w h) h)
theorem Kf {d:List Deferred} {ops:Array Oper} {md:Region.Mode} {Q:Exit→Act→World→Prop}:∀ (fuel:Nat) (listed:Array Bool) (a:Act) (w:World),CB ro P md ops (fun e a w=>Q e (Bj d a) w) fuel listed a w→CB ro P md ops Q fuel listed (Bj d a) w
 | 0,listed,a,w,h=>h
 | fuel+1,listed,a,w,h=>⟨h.1,fun i hi=>YT fuel listed i (h.2 i hi)⟩
 where
 YT {d:List Deferred} {ops:Array Oper} {md:Region.Mode} {Q:Exit→Act→World→Prop} (fuel:Nat) (listed:Array Bool) (i:Nat) {a:Act} {w:World} (h:Ba ro P ops (fun e a w=>Q e (Bj d a) w) i (CB ro P md ops (fun e a w=>Q e (Bj d a) w) fuel (listed.setIfInBounds i true)) a w) :
   Ba ro P ops Q i (CB ro P md ops Q fuel (listed.setIfInBounds i true)) (Bj d a) w :=
  ME (Dj (fun a w h=>Kf fuel _ a w h) h)
theorem QW {id:Nat} {ops:Array Oper} {Q:Exit→Act→World→Prop} {d:List Deferred} (ht:J8 ops=true) (h:C0 ro P ops (fun e a w=>Q e (Bj d a) w) (List.range ops.size) a w):(Code.region id ops false).wpIn (inR ro) 0 P Q (Bj d a) w :=
 wpIn_region (OY ht _ _ w (Ke _ a w h))
theorem DP {id:Nat} {ops:Array Oper} {Q:Exit→Act→World→Prop} {d:List Deferred} (ht:J8 ops=true) (hm:P.follows .mixedOrders=true)
  (h:CB ro P .any ops (fun e a w=>Q e (Bj d a) w) ops.size (Array.replicate ops.size false) a { w with drawn:=w.drawn+1 }):(Code.region id ops true).wpIn (inR ro) 0 P Q (Bj d a) w :=
 wpIn_region_any hm (OZ ht _ _ _ _ (Kf _ _ a _ h))
theorem Ti {o:Oper} {next:Act→World→Prop} {Q:Exit→Act→World→Prop} {l:Nat} {vs:Array Value} {R:Ending→World→Prop} (hy:YieldAt Fence.wide 0 P l vs w R) (he:(execOp a.eval o).run P w=(Instr.yield l vs).run P w)
  (hR:∀ e w',R e w'→match e with | .returned v=>next (a.put o.dst v) w' | _=>False):Oper.wpR ro P o a w next Q:=by
 obtain⟨fn,tmps,as,bd,h1,h2⟩:=hy
 unfold Oper.wpR
 rw [he,h1,Oper.uponIn_round]
 refine⟨by simp [inR,Fence.wide],RoundIn.mono (Tg h2) fun e w' h=>?_⟩
 have:=hR e w' h
 cases e with
 | returned v=>exact this
 | _=>exact this.elim
end Go.AL
namespace Go.AL
variable {ι ι':Nat→Option Nat} {S S':AX} {F:Nat→Nat→Prop} {w w':World} {P:Program}
theorem run_choose (n:Nat) (h:0 < n) (w:World):∃ j w1,j < n∧(w1=w∨w1=w.drew)∧(choose (Question.mapNext n)).run P w=.ok j w1:=by
 by_cases hf:n≤1
 ·exact⟨0,w,by omega,.inl rfl,by simp [choose,Sem.run,Question.forced,hf]⟩
 ·refine⟨w.tape w.drawn (.mapNext n) % n,w.drew,Nat.mod_lt _ h,.inr rfl,?_⟩
  simp only [choose,Sem.run,Question.forced,decide_eq_true_eq,hf,if_false,Question.cut]
  rfl
theorem IC [Glob] (hwf:WF ι S w) {q bq since last:Nat} {m:Option Nat} {seen:List Nat} (hq:S q=some (.iter m since seen last)) (hb:ι q=some bq) :
  ∃ cm,w.heap[bq]?=some (.mapIter cm since seen.toArray last)∧R5 ι m cm:=hwf.rep q _ bq hq hb
theorem C7 {w:World} {r:Nat} {a:Option Nat} {b d:Nat} {c:Array Nat} (hb:w.heap[r]?=some (.mapIter a b c d)):(getObj r).run P w=.ok (.mapIter a b c d) w:=by
 simp [getObj,Sem.run,hb]
theorem J9 {w:World} {r:Nat} {a:Option Nat} {b d:Nat} {c:Array Nat} (o:Obj) (hb:w.heap[r]?=some (.mapIter a b c d)):(setObj r o).run P w=.ok () (EJ w r o):=by
 simp [setObj,Sem.run,hb,EJ]
theorem U5 [Glob] (hwf:WF ι S w) {q bq since last:Nat} {seen:List Nat} (hq:S q=some (.iter none since seen last)) (hbq:ι q=some bq) (ty:TypeId) :
  (Instr.next (.pointer (some ⟨bq,0,none⟩)) false ty).run P w=.ok (.tuple #[.bool false]) w:=by
 obtain⟨cm,h1,rfl⟩:=IC hwf hq hbq
 simp [Instr.next,C7 h1]
theorem Oc [Glob] (hwf:WF ι S w) {q bq o since last clock:Nat} {seen:List Nat} {es:List (Nat × AV × AV)} (hq:S q=some (.iter (some o) since seen last)) (hbq:ι q=some bq) (ho:S o=some (.map es clock))
  (hcond:seen=[]∨es=[]∨∃ e∈es,e.1 < last) (ty:TypeId) :
  ∃ b ces w1,ι o=some b∧w.heap[b]?=some (.map ces clock)∧(w1=w∨w1=w.drew)∧((∀ e∈es,e.1 < since→e.1∈seen)∧(Instr.next (.pointer (some ⟨bq,0,none⟩)) false ty).run P w=.ok (.tuple #[.bool false]) w1 ∨
   ∃ (j:Nat) (e:MapEntry) (p:Nat × AV × AV),ces[j]?=some e∧es[j]?=some p∧e.born=p.1∧p.1 ∉ seen∧(Instr.next (.pointer (some ⟨bq,0,none⟩)) false ty).run P w=.ok (.tuple #[.bool true,e.key,e.val]) (EJ w1 bq (.mapIter (some b) since (seen++[p.1]).toArray clock))):=by
 obtain⟨cm,h1,b,hb,rfl⟩:=IC hwf hq hbq
 obtain⟨ces,h2,h3,h4⟩:=EX hwf ho hb
 have htest:(!seen.toArray.isEmpty && !ces.isEmpty && ces.all (fun x=>decide (x.born ≥ last)))=false:=by
  rcases hcond with rfl | rfl | ⟨p,hp,hlt⟩
  ·simp
  ·have:ces=#[]:=Array.eq_empty_of_size_eq_zero (by simpa using h3)
   subst this;simp
  ·obtain⟨j,hj,rfl⟩:=List.getElem_of_mem hp
   have hjc:j < ces.size:=by omega
   have hborn:=(h4 j ces[j] es[j] (by simp [hjc]) (by simp [hj])).1
   have:ces.all (fun x=>decide (x.born ≥ last))=false:=by
    rw [Bool.eq_false_iff]
    intro h
    rw [Array.all_eq_true]at h
    have:=h j hjc
    simp at this
    omega
   simp [this]
 obtain⟨left,hleft⟩:∃ l,l=ces.filter fun e=>!seen.toArray.contains e.born:=⟨_,rfl⟩
 obtain⟨old,hold⟩:∃ l,l=left.filter fun e=>decide (e.born < since):=⟨_,rfl⟩
 obtain⟨new,hnew⟩:∃ l,l=left.filter fun e=>decide (e.born ≥ since):=⟨_,rfl⟩
 obtain⟨cand,hcand⟩:∃ l,l=(if old.isEmpty then #[(none:Option MapEntry)]else #[])++(old++new).map some:=⟨_,rfl⟩
 have hpos:0 < cand.size:=by
  rw [hcand]
  by_cases he:old.isEmpty=true
  ·simp [he];omega
  ·have:0 < old.size:=by
    rcases Nat.eq_zero_or_pos old.size with h0 | h0
    ·simp [Array.isEmpty,h0]at he
    ·exact h0
   simp [he];omega
 have hmem:∀ e,e∈left→e∈ces∧e.born ∉ seen:=by
  intro e he
  rw [hleft,Array.mem_filter]at he
  exact⟨he.1,by simpa using he.2⟩
 obtain⟨j,w1,hj,hw1,hch⟩:=run_choose (P:=P) cand.size hpos w
 have h1':w1.heap[bq]?=some (.mapIter (some b) since seen.toArray last):=by rcases hw1 with rfl | rfl <;> exact h1
 refine⟨b,ces,w1,hb,h2,hw1,?_⟩
 have hc:cand[j]?=some cand[j]:=by simp [hj]
 have hrun:(Instr.next (.pointer (some ⟨bq,0,none⟩)) false ty).run P w=(match cand[j]? with
   | some (some e)=>(do setObj bq (.mapIter (some b) since (seen.toArray.push e.born) clock);pure (.tuple #[.bool true,e.key,e.val]):Sem Value).run P w1
   | some none=>(pure (.tuple #[.bool false]):Sem Value).run P w1
   | none => (stuck "Next: no such candidate" : Sem Value).run P w1):=by
  simp only [Instr.next,Sem.run_bind,C7 h1,Result.andThen,MapKept.run_getObj_map h2,htest,Bool.false_eq_true,if_false]
  rw [← hleft,← hold,← hnew,← hcand]
  simp only [hch]
  cases cand[j]? with
  | none=>rfl
  | some x =>
   cases x with
   | none=>rfl
   | some e=>simp only [Sem.run_bind,Result.andThen]
 rw [hrun,hc]
 cases hx:cand[j]with
 | none =>
  refine .inl ⟨fun p hp hlt=>?_,by simp⟩
  have hempty:old.isEmpty=true:=by
   cases h:old.isEmpty with
   | true=>rfl
   | false =>
    exfalso
    have:cand[j]∈cand:=Array.getElem_mem hj
    rw [hx,hcand,h]at this
    simp at this
  obtain⟨i,hi,rfl⟩:=List.getElem_of_mem hp
  have hic:i < ces.size:=by omega
  have hborn:=(h4 i ces[i] es[i] (by simp [hic]) (by simp [hi])).1
  by_cases hin:es[i].1∈seen
  ·exact hin
  ·exfalso
   have:ces[i]∈old:=by
    rw [hold,Array.mem_filter,hleft,Array.mem_filter]
    refine⟨⟨Array.getElem_mem hic,?_⟩,?_⟩
    ·simpa [hborn] using hin
    ·simpa [hborn] using hlt
   have h0:old=#[]:=by simpa using hempty
   rw [h0]at this
   simp at this
 | some e =>
  refine .inr ?_
  have hel:e∈left:=by
   have:cand[j]∈cand:=Array.getElem_mem hj
   rw [hx,hcand]at this
   have h2:e∈old∨e∈new:=by
    rw [Array.mem_append]at this
    rcases this with h | h
    ·split at h <;> simp at h
    ·simpa using h
   rcases h2 with h | h
   ·rw [hold,Array.mem_filter]at h;exact h.1
   ·rw [hnew,Array.mem_filter]at h;exact h.1
  obtain⟨hec,hns⟩:=hmem e hel
  obtain⟨i,hi,rfl⟩:=Array.getElem_of_mem hec
  have hie:i < es.length:=by omega
  have hborn:=(h4 i ces[i] es[i] (by simp [hi]) (by simp [hie])).1
  refine⟨i,ces[i],es[i],by simp [hi],by simp [hie],hborn,by rw [← hborn];exact hns,?_⟩
  simp [J9 _ h1',hborn]
theorem Tj [Glob] (hwf:WF ι S w) {q bq o since last clock st:Nat} {seen:List Nat} {es:List (Nat × AV × AV)} {p:Nat × AV × AV} (hq:S q=some (.iter (some o) since seen last)) (hbq:ι q=some bq) (ho:S o=some (.map es clock))
  (hst:seen.getLast?=some st) (hcl:clock=last) (hf:(es.find? fun e=>e.1 == st)=some p) :
  ∃ cv,(Instr.entry (.pointer (some ⟨bq,0,none⟩))).run P w=.ok cv w∧Rep ι (AZ ι S) w cv (.tup [p.2.1,p.2.2]):=by
 obtain⟨cm,h1,b,hb,rfl⟩:=IC hwf hq hbq
 obtain⟨ces,h2,h3,h4⟩:=EX hwf ho hb
 have key:∀ (cl:List MapEntry) (el:List (Nat × AV × AV)),cl.length=el.length→(∀ (j:Nat) (e:MapEntry) (p:Nat × AV × AV),cl[j]?=some e→el[j]?=some p→e.born=p.1∧Rep ι (AZ ι S) w e.key p.2.1∧Rep ι (AZ ι S) w e.val p.2.2) →
   (el.find? fun e=>e.1 == st)=some p→∃ e,(cl.find? fun e=>e.born == st)=some e∧Rep ι (AZ ι S) w e.key p.2.1∧Rep ι (AZ ι S) w e.val p.2.2:=by
  intro cl
  induction cl with
  | nil=>intro el hl _ hf;cases el with | nil=>simp at hf | cons _ _=>simp at hl
  | cons e cl ih =>
   intro el hl hr hf
   cases el with
   | nil=>simp at hl
   | cons p0 el =>
    obtain⟨hb0,hk0,hv0⟩:=hr 0 e p0 rfl rfl
    rw [List.find?_cons]at hf ⊢
    rw [hb0]
    cases hq:(p0.1 == st)with
    | true =>
     rw [hq]at hf
     simp at hf
     subst hf
     exact⟨e,rfl,hk0,hv0⟩
    | false =>
     rw [hq]at hf
     exact ih el (by simpa using hl) (fun j e' p' a b=>hr (j+1) e' p' (by simpa using a) (by simpa using b)) hf
 obtain⟨e,e1,e2,e3⟩:=key ces.toList es (by simpa using h3) (fun j e p a b=>h4 j e p (by simpa using a) b) hf
 have e1':ces.find? (fun e=>e.born == st)=some e:=by rw [← Array.find?_toList];exact e1
 have hback:seen.toArray.back?=some st:=by simpa using hst
 refine⟨.tuple #[e.key,e.val],?_,.tup rfl fun j v x hv hx=>?_⟩
 ·simp [Instr.entry,C7 h1,MapKept.run_getObj_map h2,hback,hcl,e1']
 ·cases j with
  | zero=>simp at hv hx;subst hv hx;exact e2
  | succ j =>
   cases j with
   | zero=>simp at hv hx;subst hv hx;exact e3
   | succ j=>simp at hv
theorem JE [Glob] (hwf:WF ι S w) {q bq:Nat} {es:List (AV × AV)} {seen:List Nat} (hq:S q=some (.CU es seen)) (hb:ι q=some bq):C1 ι (AZ ι S) w bq (.CU es seen):=hwf.rep q _ bq hq hb
theorem Tk (G:Glob) (hwf:@WF G ι S w) {q bq o since last clock:Nat} {seen:List Nat} {es:List (Nat × AV × AV)} (hq:S q=some (.iter (some o) since seen last)) (hbq:ι q=some bq) (ho:S o=some (.map es clock))
  (hcond:seen=[]∨es=[]∨∃ e∈es,e.1 < last) (ty:TypeId) :
  ∃ b ces w1,ι o=some b∧w.heap[b]?=some (.map ces clock)∧(w1=w∨w1=w.drew)∧((∀ e∈es,e.1 < since→e.1∈seen)∧(Instr.next (.pointer (some ⟨bq,0,none⟩)) false ty).run P w=.ok (.tuple #[.bool false]) w1 ∨
   ∃ (j:Nat) (e:MapEntry) (p:Nat × AV × AV),ces[j]?=some e∧es[j]?=some p∧e.born=p.1∧p.1 ∉ seen∧(Instr.next (.pointer (some ⟨bq,0,none⟩)) false ty).run P w=.ok (.tuple #[.bool true,e.key,e.val]) (EJ w1 bq (.mapIter (some b) since (seen++[p.1]).toArray clock))) :=
 Oc hwf hq hbq ho hcond ty
theorem Tl [Glob] (hwf:WF ι S w) {q bq:Nat} {es:List (AV × AV)} {seen:List Nat} (hq:S q=some (.CU es seen)) (hbq:ι q=some bq) (ty:TypeId) :
  ∃ w1,(w1=w∨w1=w.drew)∧((∀ j,j < es.length→j∈seen)∧(Instr.next (.pointer (some ⟨bq,0,none⟩)) false ty).run P w=.ok (.tuple #[.bool false]) w1 ∨
   ∃ (j:Nat) (p:AV × AV) (k v:Value) (co:Obj),es[j]?=some p∧j ∉ seen∧Rep ι (AZ ι S) w k p.1∧Rep ι (AZ ι S) w v p.2∧ID co∧(Instr.next (.pointer (some ⟨bq,0,none⟩)) false ty).run P w=.ok (.tuple #[.bool true,k,v]) (EJ w1 bq co) ∧
    ∀ (ι':Nat→Option Nat) (F':Nat→Nat→Prop) (w':World),(∀ v x,Rep ι (AZ ι S) w v x→Rep ι' F' w' v x)→(∀ (mb:Nat) ces c,w.heap[mb]?=some (.map ces c)→(∀ off,¬ AZ ι S mb off)→w'.heap[mb]?=some (.map ces c)∧∀ off,¬ F' mb off)→w'.heap[bq]?=some co→C1 ι' F' w' bq (.CU es (seen++[j]))):=by
 obtain⟨mb,ces,σ,sc,h1,h2,h3,h4,h5,h6,h7,h8,h9,h10,h11⟩:=JE hwf hq hbq
 have hne:bq≠mb:=by
  intro e
  rw [e,h2]at h1
  cases h1
 -- the same walk with names of its own
 let S1:AX:=fun o=>if o=0 then some (.iter (some 1) ces.size sc ces.size)else if o=1 then some (.map ((List.range ces.size).map fun j=>(j,.any,.any)) ces.size)else none
 let ι1:Nat→Option Nat:=fun o=>if o=0 then some bq else if o=1 then some mb else none
 have hlb:=(Array.getElem?_eq_some_iff.1 h1).1
 have hlm:=(Array.getElem?_eq_some_iff.1 h2).1
 have hwf1:@WF ⟨fun _=>none⟩ ι1 S1 w:=by
  refine @WF.mk ⟨fun _=>none⟩ ι1 S1 w (fun o b h=>?_) (fun o o' ob ob' b k1 k2 k3 k4=>?_) (fun o ob b k1 k2=>?_) (fun g x h=>by cases h)
  ·simp only [ι1]at h
   split at h
   ·cases h;exact hlb
   ·split at h
    ·cases h;exact hlm
    ·cases h
  ·simp only [ι1]at k3 k4
   split at k3 <;> split at k4 <;>(try split at k3) <;>(try split at k4) <;> simp_all
  ·simp only [ι1,S1]at k1 k2
   split at k2
   ·rename_i e
    subst e
    simp only [if_true,Option.some.injEq]at k1 k2
    subst k1 k2
    exact⟨some mb,h1,mb,rfl,rfl⟩
   ·split at k2
    ·rename_i e0 e
     subst e
     simp only [Nat.one_ne_zero,if_false,if_true,Option.some.injEq]at k1 k2
     subst k1 k2
     refine⟨ces,h2,by simp,fun j e p he hp=>?_⟩
     have hj:=(Array.getElem?_eq_some_iff.1 he).1
     simp only [List.getElem?_map,List.getElem?_range hj,Option.map_some,Option.some.injEq]at hp
     subst hp
     exact⟨h8 j e he,.any _,.any _⟩
    ·cases k2
 have hcond:sc=[]∨((List.range ces.size).map fun j=>((j,AV.any,AV.any):Nat × AV × AV))=[]∨∃ e∈((List.range ces.size).map fun j=>((j,AV.any,AV.any):Nat × AV × AV)),e.1 < ces.size:=by
  cases hz:ces.size with
  | zero=>exact .inr (.inl rfl)
  | succ n=>exact .inr (.inr ⟨(0,.any,.any),by simp,by simp⟩)
 obtain⟨b',ces',w1,g1,g2,hw1,hrun⟩:=Tk (P:=P) ⟨fun _=>none⟩ hwf1 (q:=0) (bq:=bq) (o:=1) (since:=ces.size) (last:=ces.size) (clock:=ces.size) (seen:=sc) rfl rfl rfl hcond ty
 cases g1
 rw [h2]at g2
 cases g2
 refine⟨w1,hw1,?_⟩
 rcases hrun with ⟨hall,hrun⟩ | ⟨j,e,p,k1,k2,k3,k4,hrun⟩
 ·refine .inl ⟨fun i hi=>?_,hrun⟩
  obtain⟨j,hj,rfl⟩:=h7 i hi
  have:=hall (j,.any,.any) (by simp;omega) (by simp;omega)
  rw [← h10]
  exact List.mem_map_of_mem this
 ·have hj:j < ces.size:=(Array.getElem?_eq_some_iff.1 k1).1
  have hp1:p.1=j:=by rw [← k3,h8 j e k1]
  rw [hp1]at k4 hrun
  have hσj:=h5 j (by omega)
  refine .inr ⟨σ j,es[σ j],e.key,e.val,_,by simp [hσj],fun hm=>?_,(h9 j e _ k1 (by simp [hσj])).1,(h9 j e _ k1 (by simp [hσj])).2,EY _ _ _ _,hrun,fun ι' F' w' hr hm hb=>?_⟩
  ·rw [← h10]at hm
   obtain⟨i,hi,e1⟩:=List.mem_map.1 hm
   exact k4 (h6 i j (h11 i hi) (by omega) e1 ▸ hi)
  ·obtain⟨m1,m2⟩:=hm mb _ _ h2 h3
   refine⟨mb,ces,σ,sc++[j],hb,m1,m2,h4,h5,h6,h7,h8,fun i e p he hp=>⟨hr _ _ (h9 i e p he hp).1,hr _ _ (h9 i e p he hp).2⟩,by simp [h10],fun i hi=>?_⟩
   rcases List.mem_append.1 hi with hi | hi
   ·exact h11 i hi
   ·simp at hi;omega
theorem QX [Glob] (hwf:WF ι S w) {q bq:Nat} {es:List (AV × AV)} {seen:List Nat} {p:AV × AV} (hq:S q=some (.CU es seen)) (hbq:ι q=some bq) (hf:(seen.getLast?).bind (es[·]?)=some p) :
  ∃ cv,(Instr.entry (.pointer (some ⟨bq,0,none⟩))).run P w=.ok cv w∧Rep ι (AZ ι S) w cv (.tup [p.1,p.2]):=by
 obtain⟨mb,ces,σ,sc,h1,h2,h3,h4,h5,h6,h7,h8,h9,h10,h11⟩:=JE hwf hq hbq
 obtain⟨j,hj,hp⟩:∃ j,sc.getLast?=some j∧es[σ j]?=some p:=by
  rw [← h10,List.getLast?_map]at hf
  cases hs:sc.getLast? with
  | none=>rw [hs]at hf;simp at hf
  | some j=>rw [hs]at hf;exact⟨j,rfl,by simpa using hf⟩
 have hjl:=h11 j (List.mem_of_getLast? hj)
 have hjc:j < ces.size:=by omega
 have hfind:ces.find? (fun e=>e.born == j)=some ces[j]:=by
  rw [Array.find?_eq_some_iff_getElem]
  refine⟨by simp [h8 j ces[j] (by simp [hjc])],j,hjc,rfl,fun i hi=>?_⟩
  have:ces[i].born=i:=h8 i _ (by simp)
  simp [this];omega
 obtain⟨r1,r2⟩:=h9 j ces[j] p (by simp [hjc]) hp
 have hback:sc.toArray.back?=some j:=by simpa using hj
 refine⟨.tuple #[ces[j].key,ces[j].val],?_,.tup rfl fun i v x hv hx=>?_⟩
 ·simp [Instr.entry,C7 h1,MapKept.run_getObj_map h2,hback,hfind]
 ·match i with
  | 0=>simp at hv hx;subst hv hx;exact r1
  | 1=>simp at hv hx;subst hv hx;exact r2
  | i+2=>simp at hv
end Go.AL
namespace Go.AL
variable {ro:Option Nat} {P:Program} {gs:List Nat} {N:Nat} {ι ι':Nat→Option Nat} {g l:Env} {s s':St} {a:Act} {w w':World}
theorem YU {ι':Nat→Option Nat} (h:Bnd ι s.m s.nx) (t:Option Nat) (u:Upd) (new:Option Ax) (ht:∀ q,t=some q→∃ ob,s.m q=some ob)
  (hι:∀ q b,ι' q=some b→(new.isSome=true∧q=s.nx)∨ι q=some b):Bnd ι' (Gq (DQ s.m t u) s.nx new) (s.nx+if new.isSome then 1 else 0):=by
 have h1:∀ o ob,DQ s.m t u o=some ob→∃ ob',s.m o=some ob':=by
  intro o ob ho
  cases t with
  | none=>exact⟨ob,by cases u <;> exact ho⟩
  | some q =>
   cases u with
   | keep=>exact⟨ob,ho⟩
   | set obj =>
    simp only [DQ]at ho
    split at ho
    ·rename_i e;subst e;exact ht o rfl
    ·exact⟨ob,ho⟩
   | del =>
    simp only [DQ]at ho
    split at ho
    ·cases ho
    ·exact⟨ob,ho⟩
 constructor
 ·intro o ob ho
  cases new with
  | none =>
   obtain⟨ob',k⟩:=h1 o ob ho
   simpa using h.lt o ob' k
  | some obj =>
   simp only [Gq]at ho
   split at ho
   ·rename_i e;subst e;simp
   ·obtain⟨ob',k⟩:=h1 o ob ho
    have:=h.lt o ob' k
    simp;omega
 ·intro o b ho
  rcases hι o b ho with ⟨e,rfl⟩ | hb
  ·simp [e]
  ·have:=h.ilt o b hb
   split <;> omega
theorem Bs.append {F:Nat→Nat→Prop} {vs us:Array Value} {l m:List AV} (h:Bs ι F w vs l) (k:Bs ι F w us m):Bs ι F w (vs++us) (l++m):=by
 refine⟨by simp [h.1,k.1],fun j v x hv hx=>?_⟩
 by_cases hj:j < vs.size
 ·rw [Array.getElem?_append_left hj]at hv
  rw [List.getElem?_append_left (by rw [← h.1];exact hj)]at hx
  exact h.2 j v x hv hx
 ·rw [Array.getElem?_append_right (by omega)]at hv
  rw [List.getElem?_append_right (by rw [← h.1];omega),← h.1]at hx
  exact k.2 _ v x hv hx
theorem Kg [Glob] {pr p:Bool} {o:Oper} {f:AG} {args:List AG} (hc:Aa P gs pr o=some (.call p f args)) {F:Nat→Nat→Prop} {ρ:Operand→Value} {α:AG→AV}
  (hα:∀ x y,opd gs x=some y→Rep ι F w (ρ x) (α y)) {fid:FuncId} {first captured:List AV} (hf:α f=.fn fid first captured) (hcall:D7 P fid) :
  pr=p∧∃ vs,(execOp ρ o).run P w=.ok (.enter fid vs) w∧Bs ι F w vs (first++args.map α++captured):=by
 obtain⟨dst,op,type,pos,after,guard⟩:=o
 unfold Aa at hc
 split at hc
 ·rename_i fx xs hvc
  cases op <;> simp only [JF]at hvc <;> try (cases hvc;done)
  rename_i c
  split at hvc
  ·rename_i fx' hfx
   cases hvc
   simp only [Option.bind_eq_bind]at hc
   cases h1:opd gs fx <;> cases h2:Lu gs c.args <;> simp [h1,h2]at hc
   obtain⟨hpp,rfl,rfl⟩:=hc
   have hr:=hα fx _ h1
   rw [hf]at hr
   have hargs:=IE hα h2
   cases hv:ρ fx <;> rw [hv]at hr <;> try (cases hr;done)
   rename_i fn fs cs
   cases fn <;> try (cases hr;done)
   cases hr with
   | fn _ hl hl' hff hrr =>
    refine⟨hpp,fs++c.args.map ρ++cs,?_,Bs.append (Bs.append ⟨hl,hff⟩ hargs) ⟨hl',hrr⟩⟩
    have:=hcall (fs++c.args.map ρ++cs) w
    rw [Array.append_assoc]at this
    simp [execOp,resolve,hfx,hv,Deferred.ofValue,invoke,this]
  ·cases hvc
 ·rename_i hvc
  split at hc
  ·split at hc
   ·cases hc
   ·simp only [Option.map_eq_some_iff]at hc
    obtain⟨y,_,hy⟩:=hc
    cases hy
  split at hc
  ·split at hc
   ·cases hc
   ·simp only [Option.map_eq_some_iff]at hc
    obtain⟨y,_,hy⟩:=hc
    split at hy <;> cases hy
  have:=Option.eq_some_of_isSome (o:=AY P gs ⟨dst,op,type,pos,after,guard⟩) (by cases h:AY P gs ⟨dst,op,type,pos,after,guard⟩ <;> simp [h]at hc ⊢)
  rw [this]at hc
  simp only [Option.filter]at hc
  split at hc
  ·rename_i h
   simp only [Option.some.injEq]at hc
   rw [hc]at h
   simp [AOp.Ah]at h
  ·cases hc
theorem Tm [Glob] {pr p:Bool} {o:Oper} {f:AG} {args:List AG} (hc:Aa P gs pr o=some (.call p f args)) {F:Nat→Nat→Prop} {ρ:Operand→Value} {α:AG→AV}
  (hα:∀ x y,opd gs x=some y→Rep ι F w (ρ x) (α y)) {q:Nat} (hf:α f=.yld q) :
  pr=p∧∃ b vs,ι q=some b∧(execOp ρ o).run P w=(Instr.yield b vs).run P w∧Bs ι F w vs (args.map α):=by
 obtain⟨dst,op,type,pos,after,guard⟩:=o
 unfold Aa at hc
 split at hc
 ·rename_i fx xs hvc
  cases op <;> simp only [JF]at hvc <;> try (cases hvc;done)
  rename_i c
  split at hvc
  ·rename_i fx' hfx
   cases hvc
   simp only [Option.bind_eq_bind]at hc
   cases h1:opd gs fx <;> cases h2:Lu gs c.args <;> simp [h1,h2]at hc
   obtain⟨hpp,rfl,rfl⟩:=hc
   have hr:=hα fx _ h1
   rw [hf]at hr
   have hargs:=IE hα h2
   cases hv:ρ fx <;> rw [hv]at hr <;> try (cases hr;done)
   rename_i fn fs cs
   cases fn <;> try (cases hr;done)
   cases hr with
   | yld h =>
    refine⟨hpp,_,c.args.map ρ,h,?_,hargs⟩
    simp [execOp,resolve,hfx,hv,Deferred.ofValue,invoke]
  ·cases hvc
 ·rename_i hvc
  split at hc
  ·split at hc
   ·cases hc
   ·simp only [Option.map_eq_some_iff]at hc
    obtain⟨y,_,hy⟩:=hc
    cases hy
  split at hc
  ·split at hc
   ·cases hc
   ·simp only [Option.map_eq_some_iff]at hc
    obtain⟨y,_,hy⟩:=hc
    split at hy <;> cases hy
  have:=Option.eq_some_of_isSome (o:=AY P gs ⟨dst,op,type,pos,after,guard⟩) (by cases h:AY P gs ⟨dst,op,type,pos,after,guard⟩ <;> simp [h]at hc ⊢)
  rw [this]at hc
  simp only [Option.filter]at hc
  split at hc
  ·rename_i h
   simp only [Option.some.injEq]at hc
   rw [hc]at h
   simp [AOp.Ah]at h
  ·cases hc
theorem HX [Glob] {pr:Bool} {o:Oper} {aop:AOp} (hc:Aa P gs pr o=some aop) (hn:aop.Ah=false):AY P gs o=some aop:=by
 unfold Aa at hc
 split at hc
 ·simp only [Option.bind_eq_bind]at hc
  rename_i f args _
  cases h1:opd gs f <;> cases h2:Lu gs args <;> simp [h1,h2]at hc
  subst hc
  simp [AOp.Ah]at hn
 ·split at hc
  ·split at hc
   ·cases hc
   ·simp only [Option.map_eq_some_iff]at hc
    obtain⟨y,_,hy⟩:=hc
    subst hy
    simp [AOp.Ah]at hn
  split at hc
  ·split at hc
   ·cases hc
   ·simp only [Option.map_eq_some_iff]at hc
    obtain⟨y,_,hy⟩:=hc
    subst hy
    split at hn <;> simp [AOp.Ah]at hn
  cases h:AY P gs o with
  | none=>simp [h]at hc
  | some x =>
   simp only [h,Option.filter]at hc
   split at hc
   ·exact hc
   ·cases hc
theorem KA [Glob] {pr:Bool} {o:Oper} {aop:AOp} (hc:Aa P gs pr o=some aop) (hn:aop.Ah=true) (hnc:∀ p f as,aop≠.call p f as) :
  pr=false∧∃ x y,opd gs x=some y∧((o.op=.next x false∧aop=.next y)∨(o.op=.entry x∧aop=.entry y)∨∃ neg,R6 P o.op=some (neg,x)∧aop=.Jq neg y):=by
 unfold Aa at hc
 split at hc
 ·simp only [Option.bind_eq_bind]at hc
  rename_i f args _
  cases h1:opd gs f <;> cases h2:Lu gs args <;> simp [h1,h2]at hc
  exact absurd hc.symm (hnc _ _ _)
 ·split at hc
  ·rename_i neg x hnil
   split at hc
   ·cases hc
   ·rename_i hpr
    simp only [Option.map_eq_some_iff]at hc
    obtain⟨y,hy,hyy⟩:=hc
    exact⟨by simpa using hpr,x,y,hy,.inr (.inr ⟨neg,hnil,hyy.symm⟩)⟩
  split at hc
  ·rename_i n x hit
   split at hc
   ·cases hc
   ·rename_i hpr
    simp only [Option.map_eq_some_iff]at hc
    obtain⟨y,hy,hyy⟩:=hc
    refine⟨by simpa using hpr,x,y,hy,?_⟩
    unfold U6 at hit
    split at hit
    ·rename_i heq
     cases hit
     exact .inl ⟨heq,hyy.symm⟩
    ·rename_i heq
     cases hit
     exact .inr (.inl ⟨heq,hyy.symm⟩)
    ·cases hit
  ·cases h:AY P gs o with
   | none=>simp [h]at hc
   | some x =>
    simp only [h,Option.filter]at hc
    split at hc
    ·rename_i h2
     simp only [Option.some.injEq]at hc
     rw [hc,hn]at h2
     cases h2
    ·cases hc
theorem Kh [Glob] {aop:AOp} (hn:aop.Ah=false) {K:AV→St→Prop} (hst:aop.step P g l s K) :
  ∃ obj r,(match aop.AT (AG.val g l)with | none=>obj=none | some q=>∃ ob,s.m q=some ob∧obj=some ob)∧aop.ev (AG.val g l) s.nx obj=some r∧aop.side (AG.val g l) obj ∧
   K r.v ((s.HS (aop.AT (AG.val g l)) r.upd).Bk r.new):=by
 have key:aop.BO g l s K→∃ obj r,(match aop.AT (AG.val g l)with | none=>obj=none | some q=>∃ ob,s.m q=some ob∧obj=some ob)∧aop.ev (AG.val g l) s.nx obj=some r∧aop.side (AG.val g l) obj ∧
   K r.v ((s.HS (aop.AT (AG.val g l)) r.upd).Bk r.new):=by
  intro h
  unfold AOp.BO at h
  cases ht:aop.AT (AG.val g l)with
  | none =>
   simp only [ht]at h ⊢
   cases he:aop.ev (AG.val g l) s.nx none with
   | none=>simp only [he]at h
   | some r =>
    simp only [he]at h
    exact⟨none,r,rfl,he,h.1,by simpa [St.HS] using h.2⟩
  | some q =>
   simp only [ht]at h ⊢
   cases ho:s.m q with
   | none=>simp only [ho]at h
   | some ob =>
    simp only [ho]at h
    cases he:aop.ev (AG.val g l) s.nx (some ob)with
    | none=>simp only [he]at h
    | some r =>
     simp only [he]at h
     exact⟨some ob,r,⟨ob,rfl,rfl⟩,he,h.1,h.2⟩
 cases aop <;> first
  | exact key hst
  | simp [AOp.Ah]at hn
theorem Hi [Glob] {pr:Bool} {o:Oper} {aop:AOp} (hc:Aa P gs pr o=some aop) (hp:pr=false) (hrel:Rel gs N ι g l s a w) {K:AV→St→Prop} (hst:aop.step P g l s K)
  {next:Act→World→Prop} {Q:Exit→Act→World→Prop}
  (hnext:∀ ι' cv v s' w',Step ι s.m w ι' s'.m w'→WF ι' s'.m w'→Bnd ι' s'.m s'.nx→Inc ι ι' s.nx s'.nx→Rep ι' (AZ ι' s'.m) w' cv v→K v s'→next (a.put o.dst cv) w'):Oper.wpR ro P o a w next Q:=by
 subst hp
 cases hcl:aop.Ah with
 | true =>
  by_cases hnc0:¬ ∃ p f as,aop=.call p f as
  ·have hnc:∀ p f as,aop≠.call p f as:=fun p f as h=>hnc0 ⟨p,f,as,h⟩
   obtain⟨_,x,y,hxy,hop⟩:=KA hc hcl hnc
   have hval:=hrel.val x y hxy
   have hrefl:∀ w1,(w1=w∨w1=w.drew)→Step ι s.m w ι s.m w1∧WF ι s.m w1:=by
    rintro w1 (rfl | rfl)
    ·exact⟨Step.refl _ _ _,hrel.wf⟩
    ·exact⟨CY ι s.m w,hrel.wf.drew⟩
   rcases hop with ⟨hop,rfl⟩ | ⟨hop,rfl⟩ | ⟨neg,hop,rfl⟩
   case inr.inr =>
    simp only [AOp.step,QY]at hst
    split at hst
    ·rename_i sz t xs hyv
     rw [hyv]at hval
     obtain⟨b,k1,k2⟩:=Tn (P:=P) hop a.eval (fun _=>rfl) o rfl hval
     unfold Oper.wpR
     rw [k1]
     exact hnext ι _ _ s w (Step.refl _ _ _) hrel.wf hrel.bnd (Inc.refl _ _) (.bool b) (hst b k2)
    ·exact hst.elim
   ·simp only [AOp.step,AAt]at hst
    split at hst
    ·rename_i q hyv
     rw [hyv]at hval
     obtain⟨bq,hbq,hv⟩:=EZ hval
     have hex:∀ cv w',(Instr.next (.pointer (some ⟨bq,0,none⟩)) false o.type).run P w=.ok cv w'→(execOp a.eval o).run P w=.ok (.value cv) w':=by
      intro cv w' h
      obtain⟨dst,op,type,pos,after,guard⟩:=o
      simp only at hop
      subst hop
      simp [execOp,hv,h]
     split at hst
     ·rename_i hq
      have:=hex _ _ (U5 hrel.wf hq hbq o.type)
      unfold Oper.wpR
      rw [this]
      exact hnext ι _ _ s w (Step.refl _ _ _) hrel.wf hrel.bnd (Inc.refl _ _) (.tup rfl (fun j v z hv hz=>by cases j with | zero=>simp at hv hz;subst hv hz;exact .bool _ | succ j=>simp at hv)) hst
     ·rename_i so since seen last hq
      split at hst
      ·rename_i es clock ho
       obtain⟨hcond,hend,hgo⟩:=hst
       obtain⟨b,ces,w1,hb,hh,hw1,⟨hall,hrun⟩ | ⟨j,e,p,g1,g2,g3,g4,hrun⟩⟩:=Oc (P:=P) hrel.wf hq hbq ho hcond o.type
       ·obtain⟨k1,k2⟩:=hrefl w1 hw1
        have:=hex _ _ hrun
        unfold Oper.wpR
        rw [this]
        exact hnext ι _ _ s w1 k1 k2 hrel.bnd (Inc.refl _ _) (.tup rfl (fun j v z hv hz=>by cases j with | zero=>simp at hv hz;subst hv hz;exact .bool _ | succ j=>simp at hv)) (hend hall)
       ·obtain⟨k1,k2⟩:=hrefl w1 hw1
        have hq1:w1.heap[bq]?=some (.mapIter (some b) since seen.toArray last):=by
         obtain⟨cm,h1,b',hb',rfl⟩:=IC k2 hq hbq
         rw [hb]at hb'
         cases hb'
         exact h1
        obtain⟨q1,q2⟩:=GA (co':=.mapIter (some b) since (seen++[p.1]).toArray clock) (obj':=.iter (some so) since (seen++[p.1]) clock) k2 hq hbq hq1 (EY _ _ _ _) (EY _ _ _ _) (fun _=>trivial) fun hR hh'=>⟨_,hh',b,hb,rfl⟩
        obtain⟨ces',i1,i2,i3⟩:=EX hrel.wf ho hb
        rw [hh]at i1
        cases i1
        obtain⟨_,j2,j3⟩:=i3 j e p g1 g2
        have hstep:=k1.trans q1
        have:=hex _ _ hrun
        unfold Oper.wpR
        rw [this]
        refine hnext ι _ _ (s.set q (.iter (some so) since (seen++[p.1]) clock)) _ hstep q2 ⟨fun r ob hr=>?_,hrel.bnd.ilt⟩ (Inc.refl _ _) (.tup rfl (fun j v z hv hz=>?_)) (hgo p (List.mem_of_getElem? g2) g4)
        ·by_cases e:r=q
         ·subst e;exact hrel.bnd.lt r _ hq
         ·simp [St.set,e]at hr;exact hrel.bnd.lt r ob hr
        ·match j with
         | 0=>simp at hv hz;subst hv hz;exact .bool _
         | 1=>simp at hv hz;subst hv hz;exact j2.step hstep
         | 2=>simp at hv hz;subst hv hz;exact j3.step hstep
         | n+3=>simp at hv
      ·exact hst.elim
     ·rename_i es seen hq
      obtain⟨hend,hgo⟩:=hst
      obtain⟨w1,hw1,⟨hall,hrun⟩ | ⟨j,p,k,v,co,g1,g2,g3,g4,g5,hrun,hobj⟩⟩:=Tl (P:=P) hrel.wf hq hbq o.type
      ·obtain⟨k1,k2⟩:=hrefl w1 hw1
       have:=hex _ _ hrun
       unfold Oper.wpR
       rw [this]
       exact hnext ι _ _ s w1 k1 k2 hrel.bnd (Inc.refl _ _) (.tup rfl (fun j v z hv hz=>by cases j with | zero=>simp at hv hz;subst hv hz;exact .bool _ | succ j=>simp at hv)) (hend hall)
      ·obtain⟨k1,k2⟩:=hrefl w1 hw1
       obtain⟨mb,ces,σ,sc,i1,i2,_⟩:=JE k2 hq hbq
       obtain⟨q1,q2⟩:=GA (co':=co) (obj':=.CU es (seen++[j])) k2 hq hbq i1 (EY _ _ _ _) g5 (fun _=>trivial) fun hR hh'=>hobj _ _ _ (fun v x h=>hR v x (h.step k1)) (fun mb ces c h hf=>⟨(Dk fun e:mb=bq=>hf 0 ⟨q,_,hq,by rw [e];exact hbq,trivial⟩).trans (by rcases hw1 with rfl | rfl <;> exact h),fun off h'=>hf off (Ki hq (fun j _=>trivial) mb off h')⟩) hh'
       have hstep:=k1.trans q1
       have:=hex _ _ hrun
       unfold Oper.wpR
       rw [this]
       refine hnext ι _ _ (s.set q (.CU es (seen++[j]))) _ hstep q2 ⟨fun r ob hr=>?_,hrel.bnd.ilt⟩ (Inc.refl _ _) (.tup rfl (fun j v z hv hz=>?_)) (hgo j p g1 g2)
       ·by_cases e:r=q
        ·subst e;exact hrel.bnd.lt r _ hq
        ·simp [St.set,e]at hr;exact hrel.bnd.lt r ob hr
       ·match j with
        | 0=>simp at hv hz;subst hv hz;exact .bool _
        | 1=>simp at hv hz;subst hv hz;exact g3.step hstep
        | 2=>simp at hv hz;subst hv hz;exact g4.step hstep
        | n+3=>simp at hv
     ·exact hst.elim
    ·exact hst.elim
   ·simp only [AOp.step,U7]at hst
    split at hst
    ·rename_i q hyv
     rw [hyv]at hval
     obtain⟨bq,hbq,hv⟩:=EZ hval
     split at hst
     ·rename_i so since seen last hq
      split at hst
      ·rename_i es clock st ho hlast
       obtain⟨hcl',hst⟩:=hst
       split at hst
       ·rename_i p hf
        obtain⟨cv,hrun,hrep⟩:=Tj (P:=P) hrel.wf hq hbq ho hlast hcl' hf
        have hex:(execOp a.eval o).run P w=.ok (.value cv) w:=by
         obtain⟨dst,op,type,pos,after,guard⟩:=o
         simp only at hop
         subst hop
         simp [execOp,hv,hrun]
        unfold Oper.wpR
        rw [hex]
        exact hnext ι _ _ s w (Step.refl _ _ _) hrel.wf hrel.bnd (Inc.refl _ _) hrep hst
       ·exact hst.elim
      ·exact hst.elim
     ·rename_i es seen hq
      split at hst
      ·rename_i p hf
       obtain⟨cv,hrun,hrep⟩:=QX (P:=P) hrel.wf hq hbq hf
       have hex:(execOp a.eval o).run P w=.ok (.value cv) w:=by
        obtain⟨dst,op,type,pos,after,guard⟩:=o
        simp only at hop
        subst hop
        simp [execOp,hv,hrun]
       unfold Oper.wpR
       rw [hex]
       exact hnext ι _ _ s w (Step.refl _ _ _) hrel.wf hrel.bnd (Inc.refl _ _) hrep hst
      ·exact hst.elim
     ·exact hst.elim
    ·exact hst.elim
  obtain⟨p,f,args,rfl⟩:=Classical.not_not.1 hnc0
  cases hfv:f.val g l <;>(cases p <;> simp only [AOp.step,hfv,callee]at hst)
  ·rename_i fid first captured
   obtain⟨hcb,hall⟩:=hst
   obtain⟨_,vs,hr,hl⟩:=Kg hc hrel.val hfv hcb
   have:=hall ι w vs hrel.wf hrel.bnd hl
   unfold Oper.wpR
   rw [hr,Oper.uponIn_enter]
   refine⟨by simp [inR,Fence.wide],CallsIn.mono (JC this) fun e w' ⟨v,r,s',ι',he,h1,h2,h3,h4,h5,h6⟩=>?_⟩
   subst he
   exact hnext ι' v r s' w' h1 h2 h3 h4 h5 h6
  ·obtain⟨r,hpure,_⟩:=hst
   have hcb:=(hpure s).1
   obtain⟨e,_⟩:=Kg hc hrel.val hfv hcb
   cases e
  ·rename_i q
   obtain⟨_,b,vs,hb,he,hl⟩:=Tm hc hrel.val hfv
   refine Ti (hst ι w vs b hrel.wf hrel.bnd hb hl) he ?_
   rintro e w' ⟨v,r,s',ι',rfl,h1,h2,h3,h4,h5,h6⟩
   exact hnext ι' v r s' w' h1 h2 h3 h4 h5 h6
 | false =>
  have hco:=HX hc hcl
  obtain⟨obj,r,h1,h2,h3,h4⟩:=Kh hcl hst
  have hfresh:ι s.nx=none:=by
   cases h:ι s.nx with
   | none=>rfl
   | some b=>exact absurd (hrel.bnd.ilt _ b h) (Nat.lt_irrefl _)
  have hSn:s.m s.nx=none:=by
   cases h:s.m s.nx with
   | none=>rfl
   | some b=>exact absurd (hrel.bnd.lt _ b h) (Nat.lt_irrefl _)
  obtain⟨n,cv,w',ι',k1,k2,k3,k4,k5,k6⟩:=Od hco hrel.wf hfresh hSn hrel.val (fun _=>rfl) h1 h2 h3
  have hb:=YU hrel.bnd (aop.AT (AG.val g l)) r.upd r.new (fun q hq=>by rw [hq]at h1;exact⟨h1.choose,h1.choose_spec.1⟩) k6
  rw [← St.AAu]at k3 k4 k5 hb
  have hfin:=hnext ι' cv r.v _ w' k3 k4 (by rw [St.QZ];exact hb) ⟨by rw [St.QZ];omega,fun q b hq hlt=>(k6 q b hq).elim (fun h=>absurd hlt (by rw [h.2];exact Nat.lt_irrefl _)) id⟩ k5 h4
  unfold Oper.wpR
  rw [k1]
  rcases k2 with rfl | ⟨rfl,rfl⟩
  ·exact hfin
  ·exact hfin
theorem MF {F:Nat→Nat→Prop} {v:Value} (h:Rep ι F w v (.tup [])):v=undef:=by
 cases h with
 | tup hl hr =>
  rename_i vs
  have:vs=#[]:=Array.eq_empty_of_size_eq_zero (by simpa using hl)
  subst this;rfl
theorem GB {F:Nat→Nat→Prop}:Rep ι F w undef (.tup []):=.tup rfl (by simp)
theorem HY {ops:Array Oper} {a:Act} {j t:Nat} (hj:(ops[j]?).bind (·.dst)=some t) (h:a.tmps.getD t undef=undef):yielded ops a.tmps j=none:=by
 unfold yielded
 rw [hj]
 cases h':a.tmps[t]? with
 | none=>simp [h']
 | some v =>
  have e:v=undef:=by simpa [h'] using h
  simp [h',e,undef]
theorem Hj {ops:Array Oper} {a:Act} {j t:Nat} (hj:(ops[j]?).bind (·.dst)=some t) {b:Bool} (h:a.tmps.getD t undef=.bool b):yielded ops a.tmps j=some b:=by
 unfold yielded
 rw [hj]
 have:a.tmps[t]?=some (.bool b):=by
  cases h':a.tmps[t]? with
  | none=>simp [h',undef]at h
  | some v=>simp [h']at h;rw [h]
 simp [this]
theorem Gc [Glob] {ops:Array Oper} {pr:Bool} {cc:List Nat} {o:Oper} {ao:AR} (hc:D5 P gs N ops pr cc o=some ao) :
  Aa P gs pr o=some ao.op∧C9 gs N o.dst=some ao.dst∧EH gs ops o.guard=some ao.guard∧ao.Dh=cc:=by
 unfold D5 at hc
 split at hc
 ·rename_i op dst guard h1 h2 h3
  cases hc
  exact⟨h1,h2,h3,rfl⟩
 ·cases hc
end Go.AL
namespace Go.AL
variable {ro:Option Nat} {P:Program} {gs:List Nat} {N:Nat} {ι ι':Nat→Option Nat} {g l:Env} {s s':St} {a:Act} {w w':World}
def merge (gs:List Nat) (g l:Env):Nat→AV:=fun t=>if gs.contains t then g.get t else l.get t
def Ev (E:Nat→AV):AG→AV
 | .g t=>E t
 | .l t=>E t
 | .c v=>v
def Gg (dst:Option (Bool × Nat)) (v:AV) (E:Nat→AV):Nat→AV :=
 match dst with
 | some (_,t)=>fun u=>if u=t then v else E u
 | none=>E
structure Rec where
 ran:Bool
 v:AV
 t:Option Nat
 u:Upd
 new:Option Ax
 nid:Nat
 done:Bool
def KK (gd:Option (Bool × Nat × Bool)) (E:Nat→AV):Prop :=
 match gd with
 | none=>True
 | some (_,t,want)=>E t=.bool want
def AHj [Glob] (P:Program) (op:AOp) (E:Nat→AV) (S:AX) (nx:Nat) (acc:List (Nat × Nat)) (Dh:List Nat) (r:Rec):Prop :=
 (∃ f args fid first cap,op=.call true f args∧Ev E f=.fn fid first cap∧AF P fid (first++args.map (Ev E)++cap) r.v∧r.t=none∧r.new=none) ∨
 (op.Ah=false∧r.t=op.AT (Ev E)∧∃ obj,(match r.t with | none=>obj=none | some q=>∃ ob,S q=some ob∧obj=some ob)∧op.ev (Ev E) nx obj=some ⟨r.v,r.u,r.new⟩∧op.side (Ev E) obj ∧
  (∀ q,r.t=some q→∀ p∈acc,p.1∈Dh→p.2≠q))
structure El [Glob] (P:Program) (j:Nat) (o:AR) (E:Nat→AV) (S:AX) (nx:Nat) (acc:List (Nat × Nat)) (r:Rec) (E':Nat→AV) (S':AX) (nx':Nat) (Em:List (Nat × Nat)):Prop where
 nid:r.nid=nx
 how:(r.ran=false∧r.v=.tup []∧r.t=none∧r.new=none∧∃ gl t want,o.guard=some (gl,t,want)∧(E t=.bool (!want)∨E t=.tup []))∨(r.ran=true∧KK o.guard E∧AHj P o.op E S nx acc o.Dh r)∨(r.done=true∧r.t=none∧r.new=none)
 env:E'=Gg o.dst r.v E
 st:S'=Gq (DQ S r.t r.u) nx r.new
 nx':nx'=nx+if r.new.isSome then 1 else 0
 Em:Em=if r.ran then EV j r.t o.op.makes nx acc else acc
theorem Qa {names:List Nat} {x:AG} (h:F5 gs names x=true):x.val g l=Ev (merge gs g l) x:=by
 cases x with
 | g t=>simp only [F5,Bool.and_eq_true]at h;simp only [AG.val,Ev,merge,h.1,if_true]
 | l t =>
  simp only [F5,Bool.and_eq_true,Bool.not_eq_true']at h
  simp only [AG.val,Ev,merge,h.1,Bool.false_eq_true,if_false]
 | c v=>rfl
theorem Fa {α β:AG→AV} {x:Option AG} (h:∀ y∈QT x,α y=β y):x.map α=x.map β:=by
 cases x with
 | none=>rfl
 | some y=>simp [h y (by simp [QT])]
theorem Oe {α β:AG→AV} {ps:List (Nat × Nat × AG)} (h:∀ y∈ps.map (·.2.2),α y=β y):(ps.map fun p=>(p.1,α p.2.2))=(ps.map fun p=>(p.1,β p.2.2)) :=
 List.map_congr_left fun p hp=>by rw [h _ (List.mem_map_of_mem hp)]
theorem Of {α β:AG→AV} {ps:List (Nat × AG)} (h:∀ y∈ps.map (·.2),α y=β y):(ps.map fun p=>(p.1,α p.2))=(ps.map fun p=>(p.1,β p.2)) :=
 List.map_congr_left fun p hp=>by rw [h _ (List.mem_map_of_mem hp)]
theorem Kj [Glob] (op:AOp) {α β:AG→AV} (h:∀ x∈op.D6,α x=β x):op.AT α=op.AT β∧(∀ nx obj,op.ev α nx obj=op.ev β nx obj)∧∀ obj,op.side α obj=op.side β obj:=by
 cases op <;> simp only [AOp.D6,List.mem_cons,List.mem_append,List.not_mem_nil,or_false,forall_eq_or_imp,forall_eq]at h
 case build zs ps =>
  refine⟨rfl,fun nx obj=>by simp only [AOp.ev,Oe h],fun obj=>?_⟩
  simp only [AOp.side]
  exact propext ⟨fun k p hp=>by rw [← h _ (List.mem_map_of_mem hp)];exact k p hp,fun k p hp=>by rw [h _ (List.mem_map_of_mem hp)];exact k p hp⟩
 case buildSlice sz agg zs m ps =>
  refine⟨rfl,fun nx obj=>by simp only [AOp.ev,Of h],fun obj=>?_⟩
  simp only [AOp.side]
  exact propext ⟨fun k p hp=>by rw [← h _ (List.mem_map_of_mem hp)];exact k p hp,fun k p hp=>by rw [h _ (List.mem_map_of_mem hp)];exact k p hp⟩
 case QU f as bs =>
  have e1:as.map α=as.map β:=List.map_congr_left fun x hx=>h x (.inl hx)
  have e2:bs.map α=bs.map β:=List.map_congr_left fun x hx=>h x (.inr hx)
  exact⟨rfl,fun nx obj=>by simp only [AOp.ev,e1,e2],fun obj=>rfl⟩
 case slice sz x lo hi mx =>
  have e1:=Fa (x:=lo) fun y hy=>h.2 y (.inl (.inl hy))
  have e2:=Fa (x:=hi) fun y hy=>h.2 y (.inl (.inr hy))
  have e3:=Fa (x:=mx) fun y hy=>h.2 y (.inr hy)
  exact⟨rfl,fun nx obj=>by simp only [AOp.ev,h.1,e1,e2,e3],fun obj=>by simp only [AOp.side,h.1,e1,e2,e3]⟩
 case Gk x lo hi =>
  have e1:=Fa (x:=lo) fun y hy=>h.2 y (.inl hy)
  have e2:=Fa (x:=hi) fun y hy=>h.2 y (.inr hy)
  exact⟨rfl,fun nx obj=>by simp only [AOp.ev,h.1,e1,e2],fun obj=>by simp only [AOp.side,h.1,e1,e2]⟩
 all_goals first
  | exact⟨by simp only [AOp.AT,h],fun nx obj=>by simp only [AOp.ev,h],fun obj=>by simp only [AOp.side,h]⟩
  | exact⟨rfl,fun nx obj=>by simp only [AOp.ev,h],fun obj=>by simp only [AOp.side,h]⟩
  | exact⟨rfl,fun nx obj=>rfl,fun obj=>rfl⟩
  | exact⟨by simp only [AOp.AT,h],fun nx obj=>rfl,fun obj=>rfl⟩
  | exact⟨rfl,fun nx obj=>rfl,fun obj=>by simp only [AOp.side,h]⟩
  | exact⟨rfl,fun nx obj=>by simp only [AOp.ev,h],fun obj=>rfl⟩
  | exact⟨by simp only [AOp.AT,h],fun nx obj=>by simp only [AOp.ev,h],fun obj=>rfl⟩
  | exact⟨by simp only [AOp.AT,h],fun nx obj=>rfl,fun obj=>rfl⟩
theorem DR {names:List Nat} {d:Option (Bool × Nat)} (hd:(match d with | some (gl,t)=>(gl == gs.contains t) && names.contains t | none=>true)=true) {v:AV} {K:Env→Env→Prop} (h:BY d v g l K) :
  ∃ g' l',K g' l'∧merge gs g' l'=Gg d v (merge gs g l):=by
 cases d with
 | none=>exact⟨g,l,h,rfl⟩
 | some p =>
  obtain⟨gl,t⟩:=p
  simp only [Bool.and_eq_true,beq_iff_eq]at hd
  obtain⟨hgl,_⟩:=hd
  subst hgl
  cases hg:gs.contains t with
  | true =>
   rw [hg]at h
   refine⟨(t,v)::g,l,h,?_⟩
   funext u
   by_cases e:u=t
   ·subst e;simp only [merge,Gg,Env.get,hg,if_true]
   ·have e':¬ t=u:=fun e'=>e e'.symm
    simp only [merge,Gg,Env.get,e,e',if_false]
  | false =>
   rw [hg]at h
   refine⟨g,(t,v)::l,h,?_⟩
   funext u
   by_cases e:u=t
   ·subst e;simp only [merge,Gg,Env.get,hg,Bool.false_eq_true,if_false,if_true]
   ·have e':¬ t=u:=fun e'=>e e'.symm
    simp only [merge,Gg,Env.get,e,e',if_false]
theorem IF {gl:Bool} {t:Nat} (hgl:gl=gs.contains t) {v:AV} (hv:EI g l (gl,t)=v) {K:Env→Env→Prop} (h:BN (gl,t) v g l K):∃ g' l',K g' l'∧merge gs g' l'=merge gs g l:=by
 subst hgl
 cases hg:gs.contains t with
 | true =>
  rw [hg]at h hv
  refine⟨(t,v)::g,l,h,?_⟩
  funext u
  simp only [EI,if_true]at hv
  by_cases e:t=u
  ·subst e
   simp only [merge,Env.get,hg,if_true,hv]
  ·simp only [merge,Env.get,e,if_false]
 | false =>
  rw [hg]at h hv
  refine⟨g,(t,v)::l,h,?_⟩
  funext u
  simp only [EI,Bool.false_eq_true,if_false]at hv
  by_cases e:t=u
  ·subst e
   simp only [merge,Env.get,hg,Bool.false_eq_true,if_false,if_true,hv]
  ·simp only [merge,Env.get,e,if_false]
theorem IG {gl:Bool} {t:Nat} (hgl:gl=gs.contains t):EI g l (gl,t)=merge gs g l t:=by
 subst hgl
 simp [EI,merge]
theorem extract [Glob] {A1:Nat→List Nat} {K:Env→Env→St→Prop}:∀ (os:List AR) (k:Nat) (acc:List (Nat × Nat)) (g l:Env) (s:St),(∀ (i:Nat) o,os[i]?=some o→C6 gs (A1 (k+i)) o=true∧(o.op.Ah=true→∃ f as,o.op=.call true f as)) →
  BM P k acc os K g l s→∃ (rec:Nat→Rec) (E:Nat→Nat→AV) (S:Nat→AX) (nx:Nat→Nat) (ac:Nat→List (Nat × Nat)),E 0=merge gs g l∧S 0=s.m∧nx 0=s.nx∧ac 0=acc ∧
   (∀ (i:Nat) o,os[i]?=some o→El P (k+i) o (E i) (S i) (nx i) (ac i) (rec i) (E (i+1)) (S (i+1)) (nx (i+1)) (ac (i+1))∧(rec i).done=false) ∧
   ∃ (g' l':Env) (s':St),merge gs g' l'=E os.length∧s'.m=S os.length∧s'.nx=nx os.length∧∀ m,s'.nx≤m→K g' l' (s'.bump m)
 | [],k,acc,g,l,s,hok,h=>by
  refine⟨fun _=>⟨false,.any,none,.keep,none,0,false⟩,fun _=>merge gs g l,fun _=>s.m,fun _=>s.nx,fun _=>acc,rfl,rfl,rfl,rfl,by simp,g,l,s,rfl,rfl,rfl,h⟩
 | o::os,k,acc,g,l,s,hok,h=>by
  obtain⟨hok0,hcall0⟩:=hok 0 o rfl
  simp only [C6,Bool.and_eq_true]at hok0
  obtain⟨⟨hops,hdst⟩,hguard⟩:=hok0
  have hall:∀ x∈o.op.D6,F5 gs (A1 (k+0)) x=true:=fun x hx=>List.all_eq_true.1 hops x hx
  have rest:∀ (g l:Env) (s:St) (acc:List (Nat × Nat)),BM P (k+1) acc os K g l s→_:=fun g l s acc h'=>extract os (k+1) acc g l s (fun i o ho=>by
   have:=hok (i+1) o (by simpa using ho)
   rwa [show k+1+i=k+(i+1)by omega]) h'
  -- what is done with one record
  have join:∀ (r:Rec) (E0:Nat→AV) (S0 S1:AX) (nx0 nx1:Nat) (ac0 ac1:List (Nat × Nat)) (g1 l1:Env) (s1:St),El P k o E0 S0 nx0 ac0 r (merge gs g1 l1) S1 nx1 ac1→s1.m=S1→s1.nx=nx1→BM P (k+1) ac1 os K g1 l1 s1→r.done=false →
    ∃ (rec:Nat→Rec) (E:Nat→Nat→AV) (S:Nat→AX) (nx:Nat→Nat) (ac:Nat→List (Nat × Nat)),E 0=E0∧S 0=S0∧nx 0=nx0∧ac 0=ac0 ∧
     (∀ (i:Nat) o',(o::os)[i]?=some o'→El P (k+i) o' (E i) (S i) (nx i) (ac i) (rec i) (E (i+1)) (S (i+1)) (nx (i+1)) (ac (i+1))∧(rec i).done=false) ∧
     ∃ (g' l':Env) (s':St),merge gs g' l'=E (os.length+1)∧s'.m=S (os.length+1)∧s'.nx=nx (os.length+1)∧∀ m,s'.nx≤m→K g' l' (s'.bump m):=by
   intro r E0 S0 S1 nx0 nx1 ac0 ac1 g1 l1 s1 hstep e1 e2 h' hdn
   obtain⟨rec,E,S,nx,ac,q1,q2,q3,q4,q5,q6⟩:=rest g1 l1 s1 ac1 h'
   refine⟨fun i=>match i with | 0=>r | i+1=>rec i,fun i=>match i with | 0=>E0 | i+1=>E i,fun i=>match i with | 0=>S0 | i+1=>S i,fun i=>match i with | 0=>nx0 | i+1=>nx i,fun i=>match i with | 0=>ac0 | i+1=>ac i,rfl,rfl,rfl,rfl,?_,?_⟩
   ·intro i o' ho
    cases i with
    | zero =>
     simp only [List.getElem?_cons_zero,Option.some.injEq]at ho
     subst ho
     simp only [q1,q2,q3,q4,← e1,← e2,Nat.add_zero]
     rw [← e1,← e2]at hstep
     exact⟨hstep,hdn⟩
    | succ i =>
     simp only [List.getElem?_cons_succ]at ho
     have:=q5 i o' ho
     rwa [show k+1+i=k+(i+1)by omega]at this
   ·exact q6
  have doRun:∀ (g1 l1:Env),merge gs g1 l1=merge gs g l→KK o.guard (merge gs g l) →
    ((match o.op.AT (AG.val g1 l1)with | some q=>∀ p∈acc,p.1∈o.Dh→p.2≠q | none=>True) ∧
    o.op.step P g1 l1 s fun v s'=>BY o.dst v g1 l1 fun g' l'=>BM P (k+1) (EV k (o.op.AT (AG.val g1 l1)) o.op.makes s.nx acc) os K g' l' s') →
    ∃ (r:Rec) (g2 l2:Env) (s2:St) (ac2:List (Nat × Nat)),El P k o (merge gs g l) s.m s.nx acc r (merge gs g2 l2) s2.m s2.nx ac2∧BM P (k+1) ac2 os K g2 l2 s2∧r.done=false:=by
   intro g1 l1 hm hgd ⟨hfar,hst⟩
   have hval:∀ x∈o.op.D6,AG.val g1 l1 x=Ev (merge gs g l) x:=fun x hx=>by rw [Qa (hall x hx),hm]
   obtain⟨c1,c2,c3⟩:=Kj o.op hval
   rw [c1]at hfar
   cases hcl:o.op.Ah with
   | true =>
    obtain⟨f,as,ho⟩:=hcall0 hcl
    have hfv:AG.val g1 l1 f=Ev (merge gs g l) f:=hval f (by rw [ho];simp [AOp.D6])
    have hav:as.map (AG.val g1 l1)=as.map (Ev (merge gs g l)):=List.map_congr_left fun x hx=>hval x (by rw [ho];simp [AOp.D6,hx])
    rw [ho]at hst
    simp only [AOp.step,hfv,hav]at hst
    cases hfe:Ev (merge gs g l) f <;> rw [hfe]at hst <;> simp only [callee]at hst
    rename_i fid first cap
    obtain⟨r,hpure,hk⟩:=hst
    obtain⟨g2,l2,hk2,hm2⟩:=DR (names:=A1 (k+0)) hdst hk
    refine⟨⟨true,r,none,.keep,none,s.nx,false⟩,g2,l2,s,_,⟨rfl,.inr (.inl ⟨rfl,hgd,.inl ⟨f,as,fid,first,cap,ho,hfe,hpure,rfl,rfl⟩⟩),by rw [hm2,hm],rfl,rfl,by rw [ho];rfl⟩,hk2,rfl⟩
   | false =>
    obtain⟨obj,r,h1,h2,h3,h4⟩:=Kh hcl hst
    rw [c1]at h1 h4
    rw [c2]at h2
    rw [c3]at h3
    obtain⟨g2,l2,hk2,hm2⟩:=DR (names:=A1 (k+0)) hdst h4
    refine⟨⟨true,r.v,o.op.AT (Ev (merge gs g l)),r.upd,r.new,s.nx,false⟩,g2,l2,_,_,⟨rfl,.inr (.inl ⟨rfl,hgd,.inr ⟨hcl,rfl,obj,h1,h2,h3,?_⟩⟩),by rw [hm2,hm],?_,?_,?_⟩,hk2,rfl⟩
    ·intro q hq p hp
     simp only at hq
     rw [hq]at hfar
     exact hfar p hp
    ·rw [St.AAu]
    ·rw [St.QZ]
    ·simp only [if_true,c1]
  simp only [BM,guarded]at h
  cases hg:o.guard with
  | none =>
   rw [hg]at h
   obtain⟨r,g2,l2,s2,ac2,q1,q2,q3⟩:=doRun g l rfl (by rw [hg];trivial) h
   exact join r _ _ _ _ _ _ _ g2 l2 s2 q1 rfl rfl q2 q3
  | some gd =>
   obtain⟨gl,t,want⟩:=gd
   rw [hg]at h hguard
   simp only [Bool.and_eq_true,beq_iff_eq]at hguard
   have hgl:=hguard.1
   simp only at h
   split at h
   ·rename_i b hb
    have hbm:=hb
    rw [IG hgl]at hbm
    by_cases e:b=want
    ·subst e
     obtain⟨g1,l1,hk,hm⟩:=IF hgl hb (h.1 rfl)
     obtain⟨r,g2,l2,s2,ac2,q1,q2,q3⟩:=doRun g1 l1 hm (by rw [hg];exact hbm) hk
     exact join r _ _ _ _ _ _ _ g2 l2 s2 q1 rfl rfl q2 q3
    ·have e':b=!want:=by cases b <;> cases want <;> simp_all
     subst e'
     obtain⟨g1,l1,hk,hm⟩:=IF hgl hb (h.2 rfl)
     obtain⟨g2,l2,hk2,hm2⟩:=DR (names:=A1 (k+0)) hdst hk
     refine join ⟨false,.tup [],none,.keep,none,s.nx,false⟩ (merge gs g l) s.m s.m s.nx s.nx acc acc g2 l2 s ⟨rfl,.inl ⟨rfl,rfl,rfl,rfl,gl,t,want,hg,.inl hbm⟩,by rw [hm2,hm],rfl,rfl,rfl⟩ rfl rfl hk2 rfl
   ·rename_i hb
    have hbm:=hb
    rw [IG hgl]at hbm
    obtain⟨g2,l2,hk2,hm2⟩:=DR (names:=A1 (k+0)) hdst h
    exact join ⟨false,.tup [],none,.keep,none,s.nx,false⟩ (merge gs g l) s.m s.m s.nx s.nx acc acc g2 l2 s ⟨rfl,.inl ⟨rfl,rfl,rfl,rfl,gl,t,want,hg,.inr hbm⟩,by rw [hm2],rfl,rfl,rfl⟩ rfl rfl hk2 rfl
   ·exact h.elim
end Go.AL
