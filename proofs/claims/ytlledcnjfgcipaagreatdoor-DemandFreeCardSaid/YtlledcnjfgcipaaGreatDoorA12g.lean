/- The abstract layer: regions whose order is open: whatever order, the same comes out. -/
import Derived.Test.YtlledcnjfgcipaaGreatDoorA12a
set_option linter.unusedVariables false
set_option linter.unusedSimpArgs false
namespace Go.AL
section
variable {α:Type}
def lw (L:Nat→Bool) (w:Nat→Option α):Nat→Option α
 | 0=>none
 | k+1=>if L k then(match w k with | some x=>some x | none=>lw L w k)else lw L w k
theorem DS {L L':Nat→Bool} {w:Nat→Option α}:∀ {n:Nat},(∀ j,j < n→w j≠none→L j=L' j)→lw L w n=lw L' w n
 | 0,_=>rfl
 | n+1,h=>by
  have ih:=DS (n:=n) fun j hj=>h j (by omega)
  simp only [lw]
  cases hw:w n with
  | none=>simp [ih]
  | some x =>
   have:=h n (by omega) (by simp [hw])
   rw [this,ih]
def Bn (i:Nat) (L:Nat→Bool):Nat→Bool:=fun j=>L j || j == i
theorem DF [Glob] {L:Nat→Bool} {w:Nat→Option α} {i n:Nat} (h:w i=none):lw (Bn i L) w n=lw L w n :=
 DS fun j _ hj=>by
  have:j≠i:=fun e=>hj (e ▸ h)
  simp [Bn,this]
theorem D8 {L:Nat→Bool} {w:Nat→Option α} {i:Nat} {x:α} (h:w i=some x):∀ {n:Nat},i < n→(∀ j,i < j→j < n→L j=true→w j=none)→lw (Bn i L) w n=some x
 | n+1,hi,hl=>by
  simp only [lw]
  by_cases e:i=n
  ·subst e
   simp [Bn,h]
  ·have ih:=D8 h (n:=n) (by omega) fun j h1 h2=>hl j h1 (by omega)
   rw [ih]
   cases hL:Bn i L n with
   | false=>rfl
   | true =>
    have hn:L n=true:=by
     have:(n == i)=false:=by simp;omega
     simpa [Bn,this] using hL
    rw [hl n (by omega) (by omega) hn]
    rfl
end
def pre (i:Nat):Nat→Bool:=fun j=>decide (j < i)
theorem Og (i:Nat):pre (i+1)=Bn i (pre i):=by
 funext j
 simp only [pre,Bn]
 by_cases h:j < i
 ·simp [h,Nat.lt_succ_of_lt h]
 ·by_cases e:j=i
  ·subst e;simp
  ·have h1:¬ j < i+1:=by omega
   simp [h,h1,e]
def DG (dst:Nat→Option (Bool × Nat)) (rec:Nat→Rec) (t:Nat) (j:Nat):Option AV :=
 match dst j with
 | some (_,u)=>if u=t then some (rec j).v else none
 | none=>none
def Dl (rec:Nat→Rec) (q:Nat) (j:Nat):Option (Option Ax) :=
 if (rec j).new.isSome=true∧(rec j).nid=q then some (rec j).new
 else if (rec j).t=some q then(match (rec j).u with | .set ob=>some (some ob) | .del=>some none | .keep=>none)else none
def EL (dst:Nat→Option (Bool × Nat)) (rec:Nat→Rec) (E0:Nat→AV) (n:Nat) (L:Nat→Bool) (t:Nat):AV:=(lw L (DG dst rec t) n).getD (E0 t)
def SL (rec:Nat→Rec) (S0:AX) (n:Nat) (L:Nat→Bool):AX:=fun q=>(lw L (Dl rec q) n).getD (S0 q)
theorem IH:∀ (l:List Oper) (acc:List (List Nat)),(AN l acc).length=acc.length+l.length∧(AN l acc).take acc.length=acc ∧
  ∀ (i:Nat) o,l[i]?=some o→(AN l acc).getD (acc.length+i) []=o.after.toList.foldl (fun s e=>if Region.binds .any e then ins (e.on::((AN l acc).take (acc.length+i)).getD e.on []) s else s) []
 | [],acc=>by simp [AN]
 | o::r,acc=>by
  obtain⟨h1,h2,h3⟩:=IH r (acc++[o.after.toList.foldl (fun s e=>if Region.binds .any e then ins (e.on::acc.getD e.on []) s else s) []])
  simp only [List.length_append,List.length_cons,List.length_nil,Nat.zero_add]at h1 h2 h3
  refine⟨by simp only [AN];rw [h1];simp;omega,?_,?_⟩
  ·simp only [AN]
   have:=congrArg (List.take acc.length) h2
   rw [List.take_take,Nat.min_eq_left (by omega)]at this
   rw [this];simp
  ·intro i o' ho
   simp only [AN]
   cases i with
   | zero =>
    simp only [List.getElem?_cons_zero,Option.some.injEq]at ho
    subst ho
    have e1:(AN r (acc++[o.after.toList.foldl (fun s e=>if Region.binds .any e then ins (e.on::acc.getD e.on []) s else s) []])).take acc.length=acc:=by
     have:=congrArg (List.take acc.length) h2
     rw [List.take_take,Nat.min_eq_left (by omega)]at this
     rw [this];simp
    rw [Nat.add_zero,e1]
    have e2:(AN r (acc++[o.after.toList.foldl (fun s e=>if Region.binds .any e then ins (e.on::acc.getD e.on []) s else s) []]))[acc.length]?=some (o.after.toList.foldl (fun s e=>if Region.binds .any e then ins (e.on::acc.getD e.on []) s else s) []):=by
     have:=congrArg (fun l:List (List Nat)=>l[acc.length]?) h2
     rw [List.getElem?_take_of_lt (by omega)]at this
     rw [this];simp
    rw [List.getD_eq_getElem?_getD,e2]
    rfl
   | succ i =>
    simp only [List.getElem?_cons_succ]at ho
    have:=h3 i o' ho
    rwa [show acc.length+1+i=acc.length+(i+1)by omega]at this
theorem Gr [Glob] {f:Nat→List Nat} {j:Nat}:∀ (l:List Edge) (s:List Nat),j∈l.foldl (fun s e=>if Region.binds .any e then ins (e.on::f e.on) s else s) s→j∈s∨∃ e∈l,Region.binds .any e=true∧(j=e.on∨j∈f e.on)
 | [],s,h=>.inl h
 | e::l,s,h=>by
  rcases Gr l _ h with h | ⟨e',h1,h2⟩
  ·dsimp only at h
   split at h
   ·rename_i hb
    rcases Mw h with h | h
    ·simp only [List.mem_cons]at h
     rcases h with h | h
     ·exact .inr ⟨e,by simp,hb,.inl h⟩
     ·exact .inr ⟨e,by simp,hb,.inr h⟩
    ·exact .inl h
   ·exact .inl h
  ·exact .inr ⟨e',by simp [h1],h2⟩
theorem Qb [Glob] {ops:Array Oper} {i j:Nat} {o:Oper} (ho:ops[i]?=some o) (h:j∈(AN ops.toList []).getD i []) :
  ∃ e∈o.after.toList,Region.binds .any e=true∧(j=e.on∨(e.on < i∧j∈(AN ops.toList []).getD e.on [])):=by
 obtain⟨_,_,h3⟩:=IH ops.toList []
 have:=h3 i o (by simpa using ho)
 simp only [List.length_nil,Nat.zero_add]at this
 rw [this]at h
 rcases Gr (f:=fun k=>(List.take i (AN ops.toList [])).getD k []) _ _ h with h | ⟨e,h1,h2,h4⟩
 ·simp at h
 ·refine⟨e,h1,h2,?_⟩
  rcases h4 with h4 | h4
  ·exact .inl h4
  ·by_cases hlt:e.on < i
   ·refine .inr ⟨hlt,?_⟩
    rw [List.getD_eq_getElem?_getD,List.getElem?_take_of_lt hlt,← List.getD_eq_getElem?_getD]at h4
    exact h4
   ·rw [List.getD_eq_getElem?_getD,List.getElem?_eq_none (by simp;omega)]at h4
    simp at h4
def En (ops:Array Oper) (L:Nat→Bool):Prop:=∀ (i:Nat) o,ops[i]?=some o→L i=true→∀ e∈o.after.toList,Region.binds .any e=true→L e.on=true
theorem Ar [Glob] {ops:Array Oper} {L:Nat→Bool} (hc:En ops L) (hin:∀ i,L i=true→i < ops.size):∀ (i:Nat) o,ops[i]?=some o→(∀ e∈o.after.toList,Region.binds .any e=true→L e.on=true) →
  ∀ j∈(AN ops.toList []).getD i [],L j=true:=by
 intro i
 induction i using Nat.strongRecOn with
 | _ i ih =>
  intro o ho hd j hj
  obtain⟨e,h1,h2,h3⟩:=Qb ho hj
  rcases h3 with rfl | ⟨hlt,h3⟩
  ·exact hd e h1 h2
  ·have hL:=hd e h1 h2
   have hsz:=hin _ hL
   have ho':ops[e.on]?=some ops[e.on]:=by simp [hsz]
   exact ih e.on hlt _ ho' (hc e.on _ ho' hL) j h3
theorem Oh {op:AOp} {α:AG→AV} {q:Nat} (h:op.AT α=some q):op.looks=true:=by
 cases op <;> simp only [AOp.AT]at h <;> first | rfl | cases h
theorem JG {op:AOp} {α:AG→AV} {nx:Nat} {obj:Option Ax} {r:Res} (h:op.ev α nx obj=some r) (hu:r.upd≠.keep):op.writes=true:=by
 cases op <;> simp only [AOp.ev]at h <;>(try rfl) <;> exfalso <;>(try (cases h;done)) <;>(try (cases h;exact hu rfl))
 all_goals (repeat' (split at h)) <;>(try (cases h;done)) <;>(try (cases h;exact hu rfl))
 all_goals
  simp only [Option.map_eq_some_iff]at h
  obtain⟨v,_,rfl⟩:=h
  exact hu rfl
theorem Oi {op:AOp} {α:AG→AV} {nx:Nat} {obj:Option Ax} {r:Res} (h:op.ev α nx obj=some r) (hu:r.new.isSome=true):op.makes=true:=by
 cases op <;> simp only [AOp.ev]at h <;>(try rfl) <;> exfalso <;>(try (cases h;done)) <;>(try (cases h;simp at hu;done))
 all_goals (repeat' (split at h)) <;>(try (cases h;done)) <;>(try (cases h;simp at hu;done))
 all_goals
  simp only [Option.map_eq_some_iff]at h
  obtain⟨v,_,rfl⟩:=h
  simp at hu
theorem U8 {op:AOp} {α:AG→AV} {nx:Nat} {obj:Option Ax} {r:Res} (h:op.ev α nx obj=some r) (hn:r.new=none) (m:Nat):op.ev α m obj=some r:=by
 cases hm:op.makes with
 | false=>cases op <;> first | exact h | (simp [AOp.makes]at hm;done)
 | true =>
  exfalso
  cases op <;> simp [AOp.makes]at hm <;> simp only [AOp.ev]at h <;>(try (cases h;done)) <;>(try (cases h;cases hn;done))
  all_goals (repeat' (split at h)) <;>(try (cases h;done)) <;>(try (cases h;cases hn;done))
theorem C8 [Glob] {P:Program} {gs:List Nat} {o:Oper} {a b:AOp} (ha:Aa P gs true o=some a) (hb:Aa P gs false o=some b) :
  a.Ah=b.Ah∧(a.Ah=true→∃ f as,a=.call true f as)∧(a.Ah=false→a=b):=by
 unfold Aa at ha hb
 split at ha
 ·rename_i f args hv
  simp only [hv]at hb
  simp only [Option.bind_eq_bind]at ha hb
  cases h1:opd gs f <;> cases h2:Lu gs args <;> simp [h1,h2]at ha hb
  subst ha hb
  exact⟨rfl,fun _=>⟨_,_,rfl⟩,fun h=>by cases h⟩
 ·rename_i hv
  simp only [hv]at hb
  split at ha
  ·cases ha
  rename_i hnl
  simp only [hnl]at hb
  split at ha
  ·cases ha
  rename_i hit
  simp only [hit]at hb
  rw [ha]at hb
  cases hb
  refine⟨rfl,fun h=>?_,fun _=>rfl⟩
  cases hc:AY P gs o with
  | none=>simp [hc]at ha
  | some x =>
   simp only [hc,Option.filter]at ha
   split at ha
   ·rename_i hx
    cases ha
    simp [h]at hx
   ·cases ha
end Go.AL
namespace Go.AL
variable {ro:Option Nat} {P:Program} {gs:List Nat} {N:Nat} {ι ι':Nat→Option Nat} {g l:Env} {s s':St} {a:Act} {w w':World}
theorem To [Glob] {f:FuncId} {args:List AV} {r:AV} (h:AF P f args r) {S:AX} {M:Nat} (hwf:WF ι S w) (hb:Bnd ι S M) {vs:Array Value} (hvs:Bs ι (AZ ι S) w vs args) :
  Calls P f vs w fun e w'=>∃ v ι' M',e=.returned v∧Step ι S w ι' S w'∧WF ι' S w'∧Bnd ι' S M'∧Inc ι ι' M M'∧Rep ι' (AZ ι' S) w' v r:=by
 refine((h ⟨S,M⟩).2 ι w vs hwf hb hvs).mono fun e w' ⟨v,r',s',ι',he,h1,h2,h3,h4,h5,h6,h7⟩=>?_
 subst h6
 have hsub:∀ o obj,S o=some obj→s'.m o=some obj:=fun o obj ho=>(h7 o (hb.lt o obj ho)).trans ho
 have hd:=BG s'.m S hsub ι' w'
 exact⟨v,ι',s'.nx,he,h1.trans hd,h2.drop hsub,⟨fun o obj ho=>Nat.lt_of_lt_of_le (hb.lt o obj ho) h4.1,h3.ilt⟩,h4,h5.step hd⟩
theorem Cs [Glob] {ops:Array Oper} {bs:List (List Nat)} {kinds:List AOp}:∀ (l:List Oper) (k:Nat) (os:List AR),A0 P gs N ops bs kinds k l=some os→os.length=l.length ∧
  ∀ (i:Nat) o,l[i]?=some o→∃ ao,os[i]?=some ao∧Aa P gs true o=some ao.op∧C9 gs N o.dst=some ao.dst∧EH gs ops o.guard=some ao.guard∧C6 gs (A1 ops o) ao=true ∧
   ∀ j,j < k+i→(bs.getD (k+i) []).contains j=false→(kinds.getD (k+i) .Cj).looks=true→((kinds.getD j .Cj).makes || ((kinds.getD j .Cj).looks && ((kinds.getD (k+i) .Cj).writes || (kinds.getD j .Cj).writes)))=true →
    (kinds.getD (k+i) .Cj).Ah=false→(kinds.getD j .Cj).Ah=false→j∈ao.Dh
 | [],k,os,h=>by simp [A0]at h;subst h;simp
 | o::r,k,os,h=>by
  simp only [A0]at h
  split at h
  ·rename_i ao os' h1 h2
   split at h
   ·rename_i hok
    cases h
    obtain⟨k1,k2⟩:=Cs r (k+1) os' h2
    obtain⟨c1,c2,c3,c4⟩:=Gc h1
    refine⟨by simp [k1],fun i o' ho=>?_⟩
    cases i with
    | zero =>
     simp only [List.getElem?_cons_zero,Option.some.injEq]at ho
     subst ho
     refine⟨ao,rfl,c1,c2,c3,hok,fun j hj hb hl1 hw n1 n2=>?_⟩
     rw [c4]
     simp only [Nat.add_zero]at hj hb hl1 hw n1
     simp only [List.mem_filter,List.mem_range]
     exact⟨hj,by simp only [hb,hl1,hw,n1,n2];rfl⟩
    | succ i =>
     simp only [List.getElem?_cons_succ]at ho
     obtain⟨ao',q1,q2⟩:=k2 i o' ho
     refine⟨ao',by simpa using q1,?_⟩
     rwa [show k+1+i=k+(i+1)by omega]at q2
   ·cases h
  ·cases h
theorem Ea [Glob]:∀ (l:List Oper) (kinds:List AOp),B6 P gs l=some kinds→∀ (i:Nat) o,l[i]?=some o→∃ kd,kinds[i]?=some kd∧Aa P gs false o=some kd
 | [],kinds,h=>by simp
 | o::r,kinds,h=>by
  simp only [B6]at h
  split at h
  ·rename_i a l h1 h2
   cases h
   intro i o' ho
   cases i with
   | zero=>simp only [List.getElem?_cons_zero,Option.some.injEq]at ho;subst ho;exact⟨a,rfl,h1⟩
   | succ i=>simp only [List.getElem?_cons_succ]at ho;simpa using Ea r l h2 i o' ho
  ·cases h
structure CV [Glob] (P:Program) (gs:List Nat) (N:Nat) (ops:Array Oper) (os:List AR) (rec:Nat→Rec) (E:Nat→Nat→AV) (S:Nat→AX) (nx:Nat→Nat) (ac:Nat→List (Nat × Nat)):Prop where
 len:os.length=ops.size
 op:∀ (i:Nat) o,ops[i]?=some o→∃ ao,os[i]?=some ao∧Aa P gs true o=some ao.op∧C9 gs N o.dst=some ao.dst∧EH gs ops o.guard=some ao.guard∧C6 gs (A1 ops o) ao=true
 step:∀ (i:Nat) o,os[i]?=some o→El P i o (E i) (S i) (nx i) (ac i) (rec i) (E (i+1)) (S (i+1)) (nx (i+1)) (ac (i+1))
 De:∀ (i j:Nat) a b,i < j→ops[i]?=some a→ops[j]?=some b→MC ops a b=true→i∈(AN ops.toList []).getD j []
 Tp:∀ (i j:Nat) a b,i < j→os[i]?=some a→os[j]?=some b→b.op.looks=true→(a.op.makes=true∨(a.op.looks=true∧(a.op.writes=true∨b.op.writes=true)))→a.op.Ah=false→b.op.Ah=false→i∈(AN ops.toList []).getD j []∨i∈b.Dh
 back:∀ (i:Nat) o,ops[i]?=some o→∀ e∈o.after.toList,Region.binds .any e=true→e.on < i
 ACh:∀ q ob,S 0 q=some ob→q < nx 0
section
variable {ops:Array Oper} {os:List AR} {rec:Nat→Rec} {E:Nat→Nat→AV} {S:Nat→AX} {nx:Nat→Nat} {ac:Nat→List (Nat × Nat)}
def Bv (os:List AR) (i:Nat):Option (Bool × Nat):=(os[i]?).bind (·.dst)
theorem CV.JH [Glob] (D:CV P gs N ops os rec E S nx ac) {i:Nat} (hi:i < ops.size):∃ ao,os[i]?=some ao:=⟨os[i]'(by rw [D.len];exact hi),by simp [D.len,hi]⟩
theorem CV.Df [Glob] (D:CV P gs N ops os rec E S nx ac) {i:Nat}:∀ {j:Nat},i≤j→j≤ops.size→nx i≤nx j:=by
 intro j
 induction j with
 | zero => intro h _;have:i=0:=by omega
           subst this;exact Nat.le_refl _
 | succ j ih =>
  intro h hj
  by_cases e:i=j+1
  ·subst e;exact Nat.le_refl _
  ·obtain⟨ao,ha⟩:=D.JH (i:=j) (by omega)
   have:=(D.step j ao ha).nx'
   have h2:=ih (by omega) (by omega)
   omega
theorem CV.Js [Glob] (D:CV P gs N ops os rec E S nx ac) {i j:Nat} (hij:i < j) (hj:j≤ops.size) (hn:(rec i).new.isSome=true):nx i < nx j:=by
 obtain⟨ao,ha⟩:=D.JH (i:=i) (by omega)
 have h1:=(D.step i ao ha).nx'
 rw [hn]at h1
 have h2:=D.Df (i:=i+1) (j:=j) hij hj
 simp at h1
 omega
theorem CV.Tq [Glob] (D:CV P gs N ops os rec E S nx ac):∀ (k:Nat),k≤ops.size→∀ t,E k t=EL (Bv os) rec (E 0) ops.size (pre k) t:=by
 intro k
 induction k with
 | zero =>
  intro _ t
  have:lw (pre 0) (DG (Bv os) rec t) ops.size=none:=by
   have:∀ n,lw (pre 0) (DG (Bv os) rec t) n=none:=by
    intro n
    induction n with
    | zero=>rfl
    | succ n ih=>simp [lw,pre,ih]
   exact this _
  simp [EL,this]
 | succ k ih =>
  intro hk t
  obtain⟨ao,ha⟩:=D.JH (i:=k) (by omega)
  have he:=(D.step k ao ha).env
  rw [he]
  have hd:Bv os k=ao.dst:=by simp [Bv,ha]
  simp only [EL,Og]
  cases hdst:ao.dst with
  | none =>
   rw [DF (by simp [DG,hd,hdst])]
   simpa [Gg,EL] using ih (by omega) t
  | some p =>
   obtain⟨gl,u⟩:=p
   by_cases e:t=u
   ·subst e
    rw [D8 (x:=(rec k).v) (by simp [DG,hd,hdst]) (by omega) (fun j h1 h2 h3=>by simp [pre]at h3;omega)]
    simp [Gg]
   ·rw [DF (by simp [DG,hd,hdst];exact fun e'=>e e'.symm)]
    simpa [Gg,e,EL] using ih (by omega) t
theorem CV.MG [Glob] (D:CV P gs N ops os rec E S nx ac):∀ (k:Nat),k≤ops.size→∀ q ob,S k q=some ob→q < nx k:=by
 intro k
 induction k with
 | zero=>exact fun _=>D.ACh
 | succ k ih =>
  intro hk q ob h
  obtain⟨ao,ha⟩:=D.JH (i:=k) (by omega)
  have st:=D.step k ao ha
  rw [st.st]at h
  have hle:=st.nx'
  have h1:∀ ob,DQ (S k) (rec k).t (rec k).u q=some ob→q < nx k:=by
   intro ob h
   cases ht:(rec k).t with
   | none=>rw [ht]at h;exact ih (by omega) q ob (by cases (rec k).u <;> exact h)
   | some q' =>
    rw [ht]at h
    cases hu:(rec k).u with
    | keep=>rw [hu]at h;exact ih (by omega) q ob h
    | del =>
     rw [hu]at h
     simp only [DQ]at h
     split at h
     ·cases h
     ·exact ih (by omega) q ob h
    | set ob' =>
     rw [hu]at h
     simp only [DQ]at h
     split at h
     ·rename_i e
      subst e
      rcases st.how with ⟨_,_,hh,_⟩ | ⟨_,_,hrun⟩ | ⟨_,hh,_⟩
      ·rw [ht]at hh;cases hh
      rotate_left
      ·rw [ht]at hh;cases hh
      ·rcases hrun with ⟨_,_,_,_,_,_,_,_,hh,_⟩ | ⟨_,_,obj,hobj,_⟩
       ·rw [ht]at hh;cases hh
       ·rw [ht]at hobj
        obtain⟨ob2,h2,_⟩:=hobj
        exact ih (by omega) q ob2 h2
     ·exact ih (by omega) q ob h
  cases hn:(rec k).new with
  | none =>
   rw [hn]at h hle
   have:=h1 ob h
   simp at hle
   omega
  | some obj =>
   rw [hn]at h hle
   simp only [Gq]at h
   simp at hle
   split at h
   ·omega
   ·have:=h1 ob h
    omega
theorem R7 (S:AX) (rec:Nat→Rec) (k nxk:Nat) (hnid:(rec k).nid=nxk) (q:Nat) :
  Gq (DQ S (rec k).t (rec k).u) nxk (rec k).new q=(Dl rec q k).getD (S q):=by
 unfold Dl
 cases hn:(rec k).new with
 | none =>
  simp only [Gq,Option.isSome_none,Bool.false_eq_true,false_and,if_false]
  cases ht:(rec k).t with
  | none=>cases (rec k).u <;> simp [DQ]
  | some q' =>
   by_cases e:q'=q
   ·subst e
    cases (rec k).u <;> simp [DQ]
   ·have e2:¬ q=q':=fun h=>e h.symm
    cases (rec k).u <;> simp [DQ,e,e2]
 | some obj =>
  simp only [Gq,Option.isSome_some,true_and,hnid]
  by_cases e:q=nxk
  ·subst e;simp
  ·have e':¬ nxk=q:=fun h=>e h.symm
   simp only [e,e',if_false]
   cases ht:(rec k).t with
   | none=>cases (rec k).u <;> simp [DQ]
   | some q' =>
    by_cases e:q'=q
    ·subst e
     cases (rec k).u <;> simp [DQ]
    ·have e2:¬ q=q':=fun h=>e h.symm
     cases (rec k).u <;> simp [DQ,e,e2]
theorem CV.U9 [Glob] (D:CV P gs N ops os rec E S nx ac):∀ (k:Nat),k≤ops.size→∀ q,S k q=SL rec (S 0) ops.size (pre k) q:=by
 intro k
 induction k with
 | zero =>
  intro _ q
  have:∀ n,lw (pre 0) (Dl rec q) n=none:=by
   intro n
   induction n with
   | zero=>rfl
   | succ n ih=>simp [lw,pre,ih]
  simp [SL,this]
 | succ k ih =>
  intro hk q
  obtain⟨ao,ha⟩:=D.JH (i:=k) (by omega)
  have st:=D.step k ao ha
  rw [st.st,R7 (S k) rec k (nx k) st.nid q]
  simp only [SL,Og]
  cases hw:Dl rec q k with
  | none =>
   rw [DF hw]
   simpa [SL] using ih (by omega) q
  | some x =>
   rw [D8 hw (by omega) (fun j h1 h2 h3=>by simp [pre]at h3;omega)]
   rfl
theorem CV.JI [Glob] (D:CV P gs N ops os rec E S nx ac) {i:Nat} (hran:(rec i).ran=true) {ai:AR} (hai:os[i]?=some ai):∀ {j:Nat},i < j→j≤ops.size →
  (∀ q,(rec i).t=some q→(i,q)∈ac j)∧(ai.op.makes=true→(i,nx i)∈ac j):=by
 intro j
 induction j with
 | zero=>intro h;omega
 | succ j ih =>
  intro h hj
  obtain⟨ao,ha⟩:=D.JH (i:=j) (by omega)
  have hac:=(D.step j ao ha).Em
  by_cases e:i=j
  ·subst e
   rw [hai]at ha
   cases ha
   rw [hac,hran,if_pos rfl]
   refine⟨fun q hq=>?_,fun hm=>?_⟩
   ·simp [EV,hq]
   ·simp [EV,hm]
  ·obtain⟨h1,h2⟩:=ih (by omega) (by omega)
   rw [hac]
   split
   ·exact⟨fun q hq=>by simp [EV,h1 q hq],fun hm=>by simp [EV,h2 hm]⟩
   ·exact⟨h1,h2⟩
end
end Go.AL
set_option maxHeartbeats 1000000
namespace Go.AL
variable {ro:Option Nat} {P:Program} {gs:List Nat} {N:Nat} {g l:Env} {a:Act} {w w':World}
variable {ops:Array Oper} {os:List AR} {rec:Nat→Rec} {E:Nat→Nat→AV} {S:Nat→AX} {nx:Nat→Nat} {ac:Nat→List (Nat × Nat)}
theorem CV.II [Glob] (D:CV P gs N ops os rec E S nx ac) {i:Nat} {ai:AR} (hai:os[i]?=some ai) {q:Nat} (h:(rec i).t=some q) :
  (rec i).ran=true∧ai.op.looks=true∧ai.op.Ah=false∧(∃ ob,S i q=some ob)∧(∀ p∈ac i,p.1∈ai.Dh→p.2≠q):=by
 have st:=D.step i ai hai
 rcases st.how with ⟨_,_,hh,_⟩ | ⟨h0,_,hrun⟩ | ⟨_,hh,_⟩
 ·rw [h]at hh;cases hh
 rotate_left
 ·rw [h]at hh;cases hh
 ·rcases hrun with ⟨_,_,_,_,_,_,_,_,hh,_⟩ | ⟨h1,h2,obj,hobj,_,_,h5⟩
  ·rw [h]at hh;cases hh
  ·refine⟨h0,Oh (h2 ▸ h),h1,?_,h5 q h⟩
   rw [h]at hobj
   obtain⟨ob,ho,_⟩:=hobj
   exact⟨ob,ho⟩
theorem CV.Mz [Glob] (D:CV P gs N ops os rec E S nx ac) {i:Nat} {ai:AR} (hai:os[i]?=some ai) (h:(rec i).new.isSome=true):(rec i).ran=true∧ai.op.makes=true∧ai.op.Ah=false:=by
 have st:=D.step i ai hai
 rcases st.how with ⟨_,_,_,hh,_⟩ | ⟨h0,_,hrun⟩ | ⟨_,_,hh⟩
 ·rw [hh]at h;cases h
 rotate_left
 ·rw [hh]at h;cases h
 ·rcases hrun with ⟨_,_,_,_,_,_,_,_,_,hh⟩ | ⟨h1,h2,obj,hobj,hev,_,_⟩
  ·rw [hh]at h;cases h
  ·exact⟨h0,Oi hev h,h1⟩
theorem CV.R8 [Glob] (D:CV P gs N ops os rec E S nx ac) {i:Nat} {ai:AR} (hai:os[i]?=some ai) {q:Nat} (h:(rec i).t=some q) (hu:(rec i).u≠.keep):ai.op.writes=true:=by
 have st:=D.step i ai hai
 rcases st.how with ⟨_,_,hh,_⟩ | ⟨h0,_,hrun⟩ | ⟨_,hh,_⟩
 ·rw [h]at hh;cases hh
 rotate_left
 ·rw [h]at hh;cases hh
 ·rcases hrun with ⟨_,_,_,_,_,_,_,_,hh,_⟩ | ⟨h1,h2,obj,hobj,hev,_,_⟩
  ·rw [h]at hh;cases hh
  ·exact JG hev hu
theorem Cl {rec:Nat→Rec} {q j:Nat} (h:Dl rec q j≠none):((rec j).new.isSome=true∧(rec j).nid=q)∨((rec j).t=some q∧(rec j).u≠.keep):=by
 unfold Dl at h
 split at h
 ·rename_i hh;exact .inl hh
 ·split at h
  ·rename_i ht
   refine .inr ⟨ht,fun e=>?_⟩
   rw [e]at h
   exact h rfl
  ·exact absurd rfl h
section
variable {L:Nat→Bool}
theorem CV.Kk [Glob] (D:CV P gs N ops os rec E S nx ac) (hc:En ops L) (hin:∀ i,L i=true→i < ops.size) {i:Nat} {o:Oper} (ho:ops[i]?=some o) (hL:L i=false)
  (hready:∀ e∈o.after.toList,Region.binds .any e=true→L e.on=true) {t:Nat} (ht:(A1 ops o).contains t=true):EL (Bv os) rec (E 0) ops.size L t=E i t:=by
 have hi:i < ops.size:=(Array.getElem?_eq_some_iff.1 ho).1
 rw [D.Tq i (by omega) t]
 unfold EL
 congr 1
 refine DS fun j hj hw=>?_
 obtain⟨aj,haj⟩:=D.JH hj
 have hoj:ops[j]?=some ops[j]:=by simp [hj]
 obtain⟨aj',haj',_,hdj,_⟩:=D.op j _ hoj
 rw [haj]at haj'
 cases haj'
 have hdst:(ops[j]).dst=some t:=by
  simp only [DG,Bv,haj,Option.bind_some]at hw
  cases hd:(ops[j]).dst with
  | none=>rw [hd]at hdj;simp only [C9,Option.some.injEq]at hdj;rw [← hdj]at hw;exact absurd rfl hw
  | some u =>
   rw [hd]at hdj
   simp only [C9]at hdj
   split at hdj
   ·simp only [Option.some.injEq]at hdj
    rw [← hdj]at hw
    simp only at hw
    split at hw
    ·rename_i e;rw [e]
    ·exact absurd rfl hw
   ·cases hdj
 rcases Nat.lt_trichotomy j i with hlt | rfl | hgt
 ·have hb:=D.De j i _ _ hlt hoj ho (by simp only [MC,hdst,ht,Bool.true_or])
  rw [Ar hc hin i o ho hready j hb]
  simp [pre,hlt]
 ·rw [hL];simp [pre]
 ·have hb:=D.De i j _ _ hgt ho hoj (by simp only [MC,hdst,ht,Bool.or_true])
  have:L j=false:=by
   cases hLj:L j with
   | false=>rfl
   | true =>
    have:=Ar hc hin j _ hoj (hc j _ hoj hLj) i hb
    rw [hL]at this
    cases this
  rw [this]
  simp [pre];omega
theorem CV.Tr [Glob] (D:CV P gs N ops os rec E S nx ac) (hc:En ops L) (hin:∀ i,L i=true→i < ops.size) {i:Nat} {o:Oper} (ho:ops[i]?=some o) (hL:L i=false)
  (hready:∀ e∈o.after.toList,Region.binds .any e=true→L e.on=true) {q:Nat} (hq:(rec i).t=some q):SL rec (S 0) ops.size L q=S i q:=by
 have hi:i < ops.size:=(Array.getElem?_eq_some_iff.1 ho).1
 obtain⟨ai,hai⟩:=D.JH hi
 obtain⟨r1,r2,r3,⟨ob,r4⟩,r5⟩:=D.II hai hq
 have hqlt:=D.MG i (by omega) q ob r4
 rw [D.U9 i (by omega) q]
 unfold SL
 congr 1
 refine DS fun j hj hw=>?_
 obtain⟨aj,haj⟩:=D.JH hj
 have hoj:ops[j]?=some ops[j]:=by simp [hj]
 have hnidj:=(D.step j aj haj).nid
 rcases Nat.lt_trichotomy j i with hlt | rfl | hgt
 ·-- written ahead of it
  have hord:j∈(AN ops.toList []).getD i []:=by
   rcases Cl hw with ⟨h1,h2⟩ | ⟨h1,h2⟩
   ·obtain⟨m1,m2,m3⟩:=D.Mz haj h1
    rcases D.Tp j i _ _ hlt haj hai r2 (.inl m2) m3 r3 with h | h
    ·exact h
    ·exact absurd (hnidj ▸ h2) (r5 _ ((D.JI m1 haj hlt (by omega)).2 m2) h)
   ·obtain⟨m1,m2,m3,_,_⟩:=D.II haj h1
    have hwr:=D.R8 haj h1 h2
    rcases D.Tp j i _ _ hlt haj hai r2 (.inr ⟨m2,.inl hwr⟩) m3 r3 with h | h
    ·exact h
    ·exact absurd rfl (r5 _ ((D.JI m1 haj hlt (by omega)).1 q h1) h)
  rw [Ar hc hin i o ho hready j hord]
  simp [pre,hlt]
 ·rw [hL];simp [pre]
 ·have hLj:L j=false:=by
   cases hLj:L j with
   | false=>rfl
   | true =>
    exfalso
    rcases Cl hw with ⟨h1,h2⟩ | ⟨h1,h2⟩
    ·have:=D.Df (i:=i) (j:=j) (by omega) (by omega)
     rw [hnidj]at h2
     omega
    ·obtain⟨m1,m2,m3,_,m5⟩:=D.II haj h1
     have hwr:=D.R8 haj h1 h2
     rcases D.Tp i j _ _ hgt hai haj m2 (.inr ⟨r2,.inr hwr⟩) r3 m3 with h | h
     ·have:=Ar hc hin j _ hoj (hc j _ hoj hLj) i h
      rw [hL]at this
      cases this
     ·exact m5 _ ((D.JI r1 hai hgt (by omega)).1 q hq) h rfl
  rw [hLj]
  simp [pre];omega
theorem CV.VA [Glob] (D:CV P gs N ops os rec E S nx ac) (hc:En ops L) (hin:∀ i,L i=true→i < ops.size) {i:Nat} {o:Oper} (ho:ops[i]?=some o) (hL:L i=false) {ai:AR} (hai:os[i]?=some ai) (t:Nat) :
  EL (Bv os) rec (E 0) ops.size (Bn i L) t=Gg ai.dst (rec i).v (EL (Bv os) rec (E 0) ops.size L) t:=by
 have hi:i < ops.size:=(Array.getElem?_eq_some_iff.1 ho).1
 have hd:Bv os i=ai.dst:=by simp [Bv,hai]
 obtain⟨ai',hai',_,hdi,_⟩:=D.op i o ho
 rw [hai]at hai'
 cases hai'
 unfold EL
 cases hdst:ai.dst with
 | none=>rw [DF (by simp [DG,hd,hdst])];rfl
 | some p =>
  obtain⟨gl,u⟩:=p
  by_cases e:t=u
  ·subst e
   have hod:o.dst=some t:=by
    cases hod:o.dst with
    | none=>rw [hod,hdst]at hdi;simp [C9]at hdi
    | some v =>
     rw [hod,hdst]at hdi
     simp only [C9]at hdi
     split at hdi
     ·simp only [Option.some.injEq,Prod.mk.injEq]at hdi;rw [hdi.2]
     ·cases hdi
   rw [D8 (x:=(rec i).v) (by simp [DG,hd,hdst]) hi (fun j h1 h2 h3=>?_)]
   ·simp [Gg]
   ·cases hw:DG (Bv os) rec t j with
    | none=>rfl
    | some x =>
     exfalso
     have hoj:ops[j]?=some ops[j]:=by simp [h2]
     obtain⟨aj,haj,_,hdj,_⟩:=D.op j _ hoj
     simp only [DG,Bv,haj,Option.bind_some]at hw
     have hodj:(ops[j]).dst=some t:=by
      cases hodj:(ops[j]).dst with
      | none=>rw [hodj]at hdj;simp only [C9,Option.some.injEq]at hdj;rw [← hdj]at hw;cases hw
      | some v =>
       rw [hodj]at hdj
       simp only [C9]at hdj
       split at hdj
       ·simp only [Option.some.injEq]at hdj
        rw [← hdj]at hw
        simp only at hw
        split at hw
        ·rename_i e;rw [e]
        ·cases hw
       ·cases hdj
     have hnm:(A1 ops ops[j]).contains t=true:=by simp [A1,hodj]
     have hb:=D.De i j _ _ h1 ho hoj (by simp only [MC,hod,hnm,Bool.true_or])
     have:=Ar hc hin j _ hoj (hc j _ hoj h3) i hb
     rw [hL]at this
     cases this
  ·rw [DF (by simp [DG,hd,hdst];exact fun e'=>e e'.symm)]
   simp [Gg,e]
theorem CV.ACi [Glob] (D:CV P gs N ops os rec E S nx ac) (hc:En ops L) (hin:∀ i,L i=true→i < ops.size) {i:Nat} {o:Oper} (ho:ops[i]?=some o) (hL:L i=false) {ai:AR} (hai:os[i]?=some ai) :
  SL rec (S 0) ops.size (Bn i L)=Gq (DQ (SL rec (S 0) ops.size L) (rec i).t (rec i).u) (nx i) (rec i).new:=by
 have hi:i < ops.size:=(Array.getElem?_eq_some_iff.1 ho).1
 have hnid:=(D.step i ai hai).nid
 funext q
 rw [R7 _ rec i (nx i) hnid q]
 cases hw:Dl rec q i with
 | none=>unfold SL;rw [DF hw];rfl
 | some x =>
  have:lw (Bn i L) (Dl rec q) ops.size=some x:=by
   refine D8 hw hi fun j h1 h2 h3=>?_
   cases hwj:Dl rec q j with
   | none=>rfl
   | some y =>
    exfalso
    obtain⟨aj,haj⟩:=D.JH h2
    have hoj:ops[j]?=some ops[j]:=by simp [h2]
    have hnidj:=(D.step j aj haj).nid
    have no:i∈(AN ops.toList []).getD j []→False:=by
     intro hb
     have:=Ar hc hin j _ hoj (hc j _ hoj h3) i hb
     rw [hL]at this
     cases this
    rcases Cl (by rw [hw];simp:Dl rec q i≠none)with ⟨k1,k2⟩ | ⟨k1,k2⟩
    ·rcases Cl (by rw [hwj];simp:Dl rec q j≠none)with ⟨m1,m2⟩ | ⟨m1,m2⟩
     ·have:=D.Js h1 (by omega) k1
      omega
     ·obtain⟨n1,n2,n3,_,n5⟩:=D.II haj m1
      obtain⟨p1,p2,p3⟩:=D.Mz hai k1
      rcases D.Tp i j _ _ h1 hai haj n2 (.inl p2) p3 n3 with h | h
      ·exact no h
      ·exact n5 _ ((D.JI p1 hai h1 (by omega)).2 p2) h (by rw [← hnid];exact k2)
    ·obtain⟨p1,p2,p3,⟨ob,p4⟩,_⟩:=D.II hai k1
     have hqlt:=D.MG i (by omega) q ob p4
     rcases Cl (by rw [hwj];simp:Dl rec q j≠none)with ⟨m1,m2⟩ | ⟨m1,m2⟩
     ·have:=D.Df (i:=i) (j:=j) (by omega) (by omega)
      omega
     ·obtain⟨n1,n2,n3,_,n5⟩:=D.II haj m1
      rcases D.Tp i j _ _ h1 hai haj n2 (.inr ⟨p2,.inl (D.R8 hai k1 k2)⟩) p3 n3 with h | h
      ·exact no h
      ·exact n5 _ ((D.JI p1 hai h1 (by omega)).1 q k1) h rfl
  unfold SL
  rw [this]
  rfl
end
def LA (listed:Array Bool):Nat→Bool:=fun j=>listed.getD j false
structure DI [Glob] (gs:List Nat) (N:Nat) (ops:Array Oper) (os:List AR) (rec:Nat→Rec) (E:Nat→Nat→AV) (S:Nat→AX) (nx:Nat→Nat) (ι0:Nat→Option Nat) (s0:St) (w0:World)
  (listed:Array Bool) (ι:Nat→Option Nat) (M:Nat) (a:Act) (w:World):Prop where
 sz:listed.size=ops.size
 closed:En ops (LA listed)
 wf:WF ι (SL rec (S 0) ops.size (LA listed)) w
 ιM:∀ q b,ι q=some b→q < M
 nM:nx ops.size≤M
 ACj:∀ i,i < ops.size→LA listed i=false→(rec i).new.isSome=true→ι (nx i)=none
 size:a.tmps.size=N
 defers:a.defers=[]
 De:∀ t,Rep ι (AZ ι (SL rec (S 0) ops.size (LA listed))) w (a.tmps.getD t undef) (EL (Bv os) rec (E 0) ops.size (LA listed) t)
 step:Step ι0 s0.m w0 ι (SL rec (S 0) ops.size (LA listed)) w
 inc:∀ q b,ι q=some b→q < s0.nx→ι0 q=some b
theorem GC {listed:Array Bool} {i:Nat} (h:i < listed.size):LA (listed.setIfInBounds i true)=Bn i (LA listed):=by
 funext j
 simp only [LA,Bn]
 by_cases e:j=i
 ·subst e;simp [h]
 ·have:i≠j:=fun h=>e h.symm
  simp [Array.getElem?_setIfInBounds_ne this,e]
theorem Oj {listed:Array Bool} {n:Nat} (h:listed.size=n):∀ i,LA listed i=true→i < n:=by
 intro i hi
 simp only [LA]at hi
 rcases Nat.lt_or_ge i n with h' | h'
 ·exact h'
 ·simp [Array.getElem?_eq_none (h ▸ h')]at hi
theorem VB [Glob] {E:Nat→AV} {ι:Nat→Option Nat} {F:Nat→Nat→Prop} {a:Act} {w:World} (hl:∀ g x,Glob.gt g=some x→Rep ι F w (.pointer (some ⟨g,0,none⟩)) x) (h:∀ t,Rep ι F w (a.tmps.getD t undef) (E t)):∀ x y,opd gs x=some y→Rep ι F w (a.eval x) (Ev E y):=by
 intro x y hxy
 cases x with
 | tmp t =>
  simp only [opd,Option.some.injEq]at hxy
  subst hxy
  show Rep _ _ _ (a.tmps.getD t undef) _
  cases gs.contains t <;> exact h t
 | const v =>
  simp only [opd,Option.map_eq_some_iff]at hxy
  obtain⟨c,hc,rfl⟩:=hxy
  exact Ck v hc
 | func f =>
  simp only [opd,Option.some.injEq]at hxy
  subst hxy
  exact .fn f rfl rfl (by simp) (by simp)
 | global g =>
  simp only [opd,Option.map_eq_some_iff]at hxy
  obtain⟨c,hc,rfl⟩:=hxy
  exact hl g c hc
theorem Bx {listed:Array Bool} {i:Nat} (hsz:listed.size=ops.size) (h:i∈Region.ready .any ops listed) :
  ∃ o,ops[i]?=some o∧LA listed i=false∧∀ e∈o.after.toList,Region.binds .any e=true→LA listed e.on=true:=by
 simp only [Region.ready,List.mem_filter,List.mem_range,Bool.and_eq_true,Bool.not_eq_true']at h
 obtain⟨hlt,h1,h2⟩:=h
 have ho:ops[i]?=some ops[i]:=by simp [hlt]
 rw [ho]at h2
 simp only [Option.map_some,Option.getD_some,Array.all_eq_true',Bool.or_eq_true,Bool.not_eq_true']at h2
 refine⟨_,ho,?_,fun e he hb=>?_⟩
 ·have hlt':i < listed.size:=by rw [hsz];exact hlt
  have e1:listed.getD i true=listed[i]:=by simp [hlt']
  have e2:listed.getD i false=listed[i]:=by simp [hlt']
  simp only [LA]
  rw [e2,← e1];exact h1
 ·rcases h2 e (by simpa using he)with h | h
  ·rw [hb]at h;cases h
  ·exact h
theorem GD [Glob] {listed:Array Bool} (D:CV P gs N ops os rec E S nx ac) (hsz:listed.size=ops.size) (h:Region.ready .any ops listed=[]):∀ i,i < ops.size→LA listed i=true:=by
 intro i
 induction i using Nat.strongRecOn with
 | _ i ih =>
  intro hi
  cases hL:LA listed i with
  | true=>rfl
  | false =>
   exfalso
   have ho:ops[i]?=some ops[i]:=by simp [hi]
   have:i∈Region.ready .any ops listed:=by
    simp only [Region.ready,List.mem_filter,List.mem_range,Bool.and_eq_true,Bool.not_eq_true']
    refine⟨hi,?_,?_⟩
    ·have hlt':i < listed.size:=by rw [hsz];exact hi
     have e1:listed.getD i true=listed[i]:=by simp [hlt']
     have e2:listed.getD i false=listed[i]:=by simp [hlt']
     simp only [LA]at hL
     rw [e1,← e2];exact hL
    ·rw [ho]
     simp only [Option.map_some,Option.getD_some,Array.all_eq_true',Bool.or_eq_true,Bool.not_eq_true']
     intro e he
     cases hb:Region.binds .any e with
     | false=>exact .inl rfl
     | true =>
      have hlt:=D.back i _ ho e (by simpa using he) hb
      exact .inr (ih e.on hlt (by omega))
   rw [h]at this
   cases this
end Go.AL
set_option maxHeartbeats 1000000
namespace Go.AL
variable {ro:Option Nat} {P:Program} {gs:List Nat} {N:Nat} {g l:Env} {a:Act} {w w':World}
variable {ops:Array Oper} {os:List AR} {rec:Nat→Rec} {E:Nat→Nat→AV} {S:Nat→AX} {nx:Nat→Nat} {ac:Nat→List (Nat × Nat)}
variable {ι0:Nat→Option Nat} {s0:St} {w0:World}
theorem DI.next [Glob] (D:CV P gs N ops os rec E S nx ac) {listed:Array Bool} {ι ι':Nat→Option Nat} {M M':Nat} (h:DI gs N ops os rec E S nx ι0 s0 w0 listed ι M a w) {i:Nat} {o:Oper} (ho:ops[i]?=some o) (hL:LA listed i=false)
  (hready:∀ e∈o.after.toList,Region.binds .any e=true→LA listed e.on=true) {cv:Value}
  (hst:Step ι (SL rec (S 0) ops.size (LA listed)) w ι' (SL rec (S 0) ops.size (Bn i (LA listed))) w') (hwf:WF ι' (SL rec (S 0) ops.size (Bn i (LA listed))) w')
  (hM:∀ q b,ι' q=some b→q < M') (hMM:M≤M') (hnew:∀ q b,ι' q=some b→q < M→(((rec i).new.isSome=true∧q=nx i)∨ι q=some b)) (hs0:s0.nx≤nx 0)
  (hv:Rep ι' (AZ ι' (SL rec (S 0) ops.size (Bn i (LA listed)))) w' cv (rec i).v) :
  DI gs N ops os rec E S nx ι0 s0 w0 (listed.setIfInBounds i true) ι' M' (a.put o.dst cv) w':=by
 have hi:i < ops.size:=(Array.getElem?_eq_some_iff.1 ho).1
 have hLA:LA (listed.setIfInBounds i true)=Bn i (LA listed):=GC (by rw [h.sz];exact hi)
 obtain⟨ai,hai,hcomp,hdst,_⟩:=D.op i o ho
 have hin:=Oj h.sz
 have hnx0:nx 0≤nx ops.size:=D.Df (Nat.zero_le _) (Nat.le_refl _)
 have hnxi:nx 0≤nx i:=D.Df (Nat.zero_le _) (by omega)
 have hnxi2:nx i≤nx ops.size:=D.Df (by omega) (Nat.le_refl _)
 have hnM:=h.nM
 refine⟨by simp [h.sz],?_,by rw [hLA];exact hwf,hM,by omega,?_,?_,?_,?_,by rw [hLA];exact h.step.trans hst,?_⟩
 ·rw [hLA]
  intro j oj hoj hLj e he hb
  simp only [Bn,Bool.or_eq_true,beq_iff_eq]at hLj ⊢
  rcases hLj with hLj | rfl
  ·exact .inl (h.closed j oj hoj hLj e he hb)
  ·rw [ho]at hoj
   cases hoj
   exact .inl (hready e he hb)
 ·intro j hj hLj hnj
  rw [hLA]at hLj
  simp only [Bn,Bool.or_eq_false_iff,beq_eq_false_iff_ne,ne_eq]at hLj
  cases hιj:ι' (nx j)with
  | none=>rfl
  | some b =>
   exfalso
   have hjM:nx j < M:=Nat.lt_of_lt_of_le (D.Js hj (Nat.le_refl _) hnj) hnM
   rcases hnew _ b hιj hjM with ⟨hni,he⟩ | hold
   ·rcases Nat.lt_or_ge i j with hlt | hge
    ·have:=D.Js hlt (by omega) hni;omega
    ·have:j < i:=by omega
     have:=D.Js this (by omega) hnj;omega
   ·rw [h.ACj j hj hLj.1 hnj]at hold
    cases hold
 ·cases hd:o.dst with
  | none=>exact h.size
  | some t=>simp [Act.put,h.size]
 ·cases hd:o.dst with
  | none=>exact h.defers
  | some t=>exact h.defers
 ·intro t
  rw [hLA,D.VA h.closed hin ho hL hai t]
  cases hd:o.dst with
  | none =>
   rw [hd]at hdst
   simp only [C9,Option.some.injEq]at hdst
   rw [← hdst]
   exact(h.De t).step hst
  | some u =>
   rw [hd]at hdst
   simp only [C9]at hdst
   split at hdst
   ·rename_i hu
    simp only [Option.some.injEq]at hdst
    rw [← hdst,FZ (by rw [h.size];exact hu)]
    simp only [Gg]
    split
    ·exact hv
    ·exact(h.De t).step hst
   ·cases hdst
 ·intro q b hq hlt
  rcases hnew q b hq (by omega)with ⟨_,e⟩ | hold
  ·omega
  ·exact h.inc q b hold hlt
theorem HB [Glob] (D:CV P gs N ops os rec E S nx ac) {Q:Exit→Act→World→Prop} {listed:Array Bool} {ι:Nat→Option Nat} {M:Nat} (h:DI gs N ops os rec E S nx ι0 s0 w0 listed ι M a w) (hs0:s0.nx≤nx 0) {i:Nat} {o:Oper}
  (ho:ops[i]?=some o) (hL:LA listed i=false) (hnd:(rec i).done=false) (hready:∀ e∈o.after.toList,Region.binds .any e=true→LA listed e.on=true) {K:Act→World→Prop}
  (hK:∀ ι' M' a' w',DI gs N ops os rec E S nx ι0 s0 w0 (listed.setIfInBounds i true) ι' M' a' w'→K a' w'):Ba ro P ops Q i K a w:=by
 have hi:i < ops.size:=(Array.getElem?_eq_some_iff.1 ho).1
 obtain⟨ai,hai,hcomp,hdst,hgd,hok⟩:=D.op i o ho
 have hin:=Oj h.sz
 have st:=D.step i ai hai
 simp only [C6,Bool.and_eq_true]at hok
 obtain⟨⟨hops,_⟩,hgok⟩:=hok
 have agree:∀ t,(A1 ops o).contains t=true→EL (Bv os) rec (E 0) ops.size (LA listed) t=E i t:=fun t ht=>D.Kk h.closed hin ho hL hready ht
 have hSL:=D.ACi h.closed hin ho hL hai
 have hnxi2:nx i≤nx ops.size:=D.Df (by omega) (Nat.le_refl _)
 have hbnd:Bnd ι (SL rec (S 0) ops.size (LA listed)) M:=by
  refine⟨fun q ob hq=>?_,h.ιM⟩
  have hnM:=h.nM
  unfold SL at hq
  cases hlw:lw (LA listed) (Dl rec q) ops.size with
  | none =>
   rw [hlw]at hq
   have:=D.ACh q ob hq
   have:=D.Df (i:=0) (j:=ops.size) (Nat.zero_le _) (Nat.le_refl _)
   omega
  | some x =>
   have ex:∀ n,n≤ops.size→lw (LA listed) (Dl rec q) n=some x→q < nx ops.size:=by
    intro n
    induction n with
    | zero=>intro _ h;cases h
    | succ n ih =>
     intro hn hl
     simp only [lw]at hl
     split at hl
     ·split at hl
      ·rename_i y hy
       obtain⟨an,han⟩:=D.JH (i:=n) (by omega)
       rcases Cl (by rw [hy];simp:Dl rec q n≠none)with ⟨k1,k2⟩ | ⟨k1,k2⟩
       ·have:=D.Js (i:=n) (j:=ops.size) (by omega) (Nat.le_refl _) k1
        have:=(D.step n an han).nid
        omega
       ·obtain⟨_,_,_,⟨ob',p4⟩,_⟩:=D.II han k1
        have:=D.MG n (by omega) q ob' p4
        have:=D.Df (i:=n) (j:=ops.size) (by omega) (Nat.le_refl _)
        omega
      ·exact ih (by omega) hl
     ·exact ih (by omega) hl
   have:=ex ops.size (Nat.le_refl _) hlw
   omega
 unfold Ba
 rw [ho]
 simp only
 -- the guard
 have hwanted:Region.wanted o (yielded ops a.tmps)=(rec i).ran:=by
  cases hg:o.guard with
  | none =>
   rw [hg]at hgd
   simp only [EH,Option.some.injEq]at hgd
   rcases st.how with ⟨_,_,_,_,_,_,_,hh,_⟩ | ⟨h0,_,_⟩ | ⟨hh,_⟩
   ·rw [← hgd]at hh;cases hh
   ·simp [Region.wanted,hg,h0]
   ·rw [hnd]at hh;cases hh
  | some jw =>
   obtain⟨jg,want⟩:=jw
   rw [hg]at hgd
   simp only [EH,Option.map_eq_some_iff]at hgd
   obtain⟨t,hj,he⟩:=hgd
   rw [← he]at hgok
   simp only [Bool.and_eq_true]at hgok
   have hE:=agree t hgok.2
   have hsl:=h.De t
   rw [hE]at hsl
   rcases st.how with ⟨h0,_,_,_,gl',t',want',hh,hb⟩ | ⟨h0,hgo,_⟩ | ⟨hh,_⟩
   rotate_right
   ·rw [hnd]at hh;cases hh
   ·rw [← he]at hh
    cases hh
    rcases hb with hb | hb
    ·rw [hb]at hsl
     have hy:=Hj hj (CC hsl)
     simp only [Region.wanted,hg,hy,h0]
     cases want <;> rfl
    ·rw [hb]at hsl
     have hy:=HY hj (MF hsl)
     simp only [Region.wanted,hg,hy,h0]
     rfl
   ·rw [← he]at hgo
    simp only [KK]at hgo
    rw [hgo]at hsl
    have hy:=Hj hj (CC hsl)
    simp only [Region.wanted,hg,hy,h0]
    cases want <;> rfl
 rw [hwanted]
 rcases st.how with ⟨h0,hv0,ht0,hn0,_⟩ | ⟨h0,_,hrun⟩ | ⟨hh,_⟩
 rotate_right
 ·rw [hnd]at hh;cases hh
 ·-- it is skipped
  simp only [h0,Bool.false_eq_true,if_false]
  have hsame:SL rec (S 0) ops.size (Bn i (LA listed))=SL rec (S 0) ops.size (LA listed):=by rw [hSL,ht0,hn0];cases (rec i).u <;> rfl
  refine hK ι M _ w (h.next D ho hL hready (cv:=undef) (by rw [hsame];exact Step.refl _ _ _) (by rw [hsame];exact h.wf) h.ιM (Nat.le_refl _) (fun q b hq _=>.inr hq) hs0 (by rw [hv0];exact GB))
 ·simp only [h0,if_true]
  refine .inl ?_
  have hopn:∀ x∈ai.op.D6,Ev (EL (Bv os) rec (E 0) ops.size (LA listed)) x=Ev (E i) x:=by
   intro x hx
   have hok':=List.all_eq_true.1 hops x hx
   cases x with
   | g t=>simp only [F5,Bool.and_eq_true]at hok';exact agree t hok'.2
   | l t=>simp only [F5,Bool.and_eq_true]at hok';exact agree t hok'.2
   | c v=>rfl
  obtain⟨c1,c2,c3⟩:=Kj ai.op hopn
  have hval:=VB (gs:=gs) h.wf.laid h.De
  rcases hrun with ⟨f,args,fid,first,cap,hop,hfv,hpure,ht0,hn0⟩ | ⟨hcl,ht,obj,hobj,hev,hside,_⟩
  ·-- a call
   have hfv':Ev (EL (Bv os) rec (E 0) ops.size (LA listed)) f=.fn fid first cap:=by rw [hopn f (by rw [hop];simp [AOp.D6]),hfv]
   have hav:args.map (Ev (EL (Bv os) rec (E 0) ops.size (LA listed)))=args.map (Ev (E i)):=List.map_congr_left fun x hx=>hopn x (by rw [hop];simp [AOp.D6,hx])
   rw [hop]at hcomp
   obtain⟨_,vs,hr,hl⟩:=Kg hcomp hval hfv' (hpure ⟨fun _=>none,0⟩).1
   rw [hav]at hl
   have hsame:SL rec (S 0) ops.size (Bn i (LA listed))=SL rec (S 0) ops.size (LA listed):=by rw [hSL,ht0,hn0];cases (rec i).u <;> rfl
   unfold Oper.wpR
   rw [hr,Oper.uponIn_enter]
   refine⟨by simp [inR,Fence.wide],CallsIn.mono (JC (To hpure h.wf hbnd hl)) fun e w' ⟨v,ι',M',he,k1,k2,k3,k4,k5⟩=>?_⟩
   subst he
   exact hK ι' M' _ w' (h.next D ho hL hready (by rw [hsame];exact k1) (by rw [hsame];exact k2) k3.ilt k4.1 (fun q b hq hlt=>.inr (k4.2 q b hq hlt)) hs0 (by rw [hsame];exact k5))
  ·-- any other
   have hco:=HX hcomp hcl
   have hSn:SL rec (S 0) ops.size (LA listed) (nx i)=none∨(rec i).new=none:=by
    cases hn:(rec i).new with
    | none=>exact .inr rfl
    | some x =>
     refine .inl ?_
     unfold SL
     have hlw:lw (LA listed) (Dl rec (nx i)) ops.size=none:=by
      have ex:∀ n,n≤ops.size→lw (LA listed) (Dl rec (nx i)) n=none:=by
       intro n
       induction n with
       | zero=>intro _;rfl
       | succ n ih =>
        intro hn'
        simp only [lw]
        cases hLn:LA listed n with
        | false=>simp only [Bool.false_eq_true,if_false];exact ih (by omega)
        | true =>
         simp only [if_true]
         cases hw:Dl rec (nx i) n with
         | none=>exact ih (by omega)
         | some y =>
          exfalso
          obtain⟨an,han⟩:=D.JH (i:=n) (by omega)
          have hne:n≠i:=fun e=>by rw [e,hL]at hLn;cases hLn
          have hnew:(rec i).new.isSome=true:=by rw [hn];rfl
          rcases Cl (by rw [hw];simp:Dl rec (nx i) n≠none)with ⟨k1,k2⟩ | ⟨k1,k2⟩
          ·have hnid:=(D.step n an han).nid
           rcases Nat.lt_or_gt_of_ne hne with hlt | hgt
           ·have:=D.Js hlt (by omega) k1;omega
           ·have:=D.Js hgt (by omega) hnew;omega
          ·obtain⟨p1,p2,p3,⟨ob,p4⟩,p5⟩:=D.II han k1
           have hq:=D.MG n (by omega) _ ob p4
           rcases Nat.lt_or_gt_of_ne hne with hlt | hgt
           ·have:=D.Df (i:=n) (j:=i) (by omega) (by omega);omega
           ·obtain⟨m1,m2,m3⟩:=D.Mz hai hnew
            rcases D.Tp i n _ _ hgt hai han p2 (.inl m2) m3 p3 with hb | hb
            ·have hon:ops[n]?=some (ops[n]'(by omega)):=by simp
             have:=Ar h.closed hin n _ hon (h.closed n _ hon hLn) i hb
             rw [hL]at this
             cases this
            ·exact p5 _ ((D.JI m1 hai hgt (by omega)).2 m2) hb rfl
      exact ex _ (Nat.le_refl _)
     rw [hlw]
     have hnew:(rec i).new.isSome=true:=by rw [hn];rfl
     have:S 0 (nx i)=none:=by
      cases h0:S 0 (nx i)with
      | none=>rfl
      | some ob =>
       have h1:=D.ACh _ ob h0
       have h2:=D.Df (i:=0) (j:=i) (Nat.zero_le _) (by omega)
       omega
     simpa using this
   have hobj':match ai.op.AT (Ev (EL (Bv os) rec (E 0) ops.size (LA listed)))with | none=>obj=none | some q=>∃ ob,SL rec (S 0) ops.size (LA listed) q=some ob∧obj=some ob:=by
    rw [c1,← ht]
    cases hq:(rec i).t with
    | none=>rw [hq]at hobj;exact hobj
    | some q =>
     rw [hq]at hobj
     obtain⟨ob,h1,h2⟩:=hobj
     exact⟨ob,by rw [D.Tr h.closed hin ho hL hready hq];exact h1,h2⟩
   -- a number for what is made
   obtain⟨nid,hn1,hn2,hn3⟩:∃ nid,ι nid=none∧SL rec (S 0) ops.size (LA listed) nid=none∧(ai.op.ev (Ev (EL (Bv os) rec (E 0) ops.size (LA listed))) nid obj=some ⟨(rec i).v,(rec i).u,(rec i).new⟩∧((rec i).new.isSome=true→nid=nx i)):=by
    cases hn:(rec i).new with
    | some x =>
     have hnew:(rec i).new.isSome=true:=by rw [hn];rfl
     refine⟨nx i,h.ACj i hi hL hnew,?_,by rw [c2,← hn];exact hev,fun _=>rfl⟩
     rcases hSn with h' | h'
     ·exact h'
     ·rw [hn]at h';cases h'
    | none =>
     -- nothing is made: the number is not asked for
     by_cases hfree:ι (nx i)=none∧SL rec (S 0) ops.size (LA listed) (nx i)=none
     ·exact⟨nx i,hfree.1,hfree.2,by rw [c2,← hn];exact hev,fun h'=>by cases h'⟩
     ·refine⟨M,?_,?_,?_,fun h'=>by cases h'⟩
      ·cases hι:ι M with
       | none=>rfl
       | some b=>exact absurd (h.ιM _ b hι) (Nat.lt_irrefl _)
      ·cases hs:SL rec (S 0) ops.size (LA listed) M with
       | none=>rfl
       | some b=>exact absurd (hbnd.lt _ b hs) (Nat.lt_irrefl _)
      ·rw [c2]
       rw [hn]at hev
       exact U8 hev rfl M
   obtain⟨n,cv,w',ι',k1,k2,k3,k4,k5,k6⟩:=Od hco h.wf hn1 hn2 hval (fun _=>rfl) hobj' hn3.1 (by rw [c3];exact hside)
   have hSL':Gq (DQ (SL rec (S 0) ops.size (LA listed)) (ai.op.AT (Ev (EL (Bv os) rec (E 0) ops.size (LA listed)))) (rec i).u) nid (rec i).new=SL rec (S 0) ops.size (Bn i (LA listed)):=by
    rw [hSL,c1,← ht]
    cases hn:(rec i).new with
    | none=>rfl
    | some x=>rw [hn3.2 (by rw [hn];rfl)]
   simp only []at k3 k4 k5 k6
   rw [hSL']at k3 k4 k5
   have hfin:=hK ι' M _ w' (h.next D ho hL hready k3 k4 (fun q b hq=>by
    rcases k6 q b hq with ⟨hnew,e⟩ | hold
    ·have hnM:=h.nM
     have:=D.Js hi (Nat.le_refl _) hnew
     rw [e,hn3.2 hnew];omega
    ·exact h.ιM q b hold) (Nat.le_refl _) (fun q b hq hlt=>by
    rcases k6 q b hq with ⟨hnew,e⟩ | hold
    ·exact .inl ⟨hnew,by rw [e,hn3.2 hnew]⟩
    ·exact .inr hold) hs0 k5)
   unfold Oper.wpR
   rw [k1]
   rcases k2 with rfl | ⟨rfl,rfl⟩
   ·exact hfin
   ·exact hfin
end Go.AL
namespace Go.AL
variable {ro:Option Nat} {P:Program} {gs:List Nat} {N:Nat} {ι ι':Nat→Option Nat} {g l:Env} {s s':St} {a:Act} {w w':World}
theorem VC [Glob] {ops:Array Oper} {i:Nat} {o:Oper} {ao:AR} {cc:List Nat} {pr:Bool} (hpr:pr=false) (hi:ops[i]?=some o) (hc:D5 P gs N ops pr cc o=some ao) (hrel:Rel gs N ι g l s a w)
  {K:Env→Env→St→Prop} {run:Env→Env→Prop} (hrun:∀ g l,run g l→ao.op.step P g l s fun v s'=>BY ao.dst v g l fun g' l'=>K g' l' s') (h:guarded ao.guard g l run fun g l=>BY ao.dst (.tup []) g l fun g' l'=>K g' l' s)
  {Q:Exit→Act→World→Prop} {rest:List Nat}
  (hnext:∀ ι' g' l' s' a' w',Rel gs N ι' g' l' s' a' w'→Step ι s.m w ι' s'.m w'→Inc ι ι' s.nx s'.nx→K g' l' s'→C0 ro P ops Q rest a' w'):C0 ro P ops Q (i::rest) a w:=by
 subst hpr
 obtain⟨c1,c2,c3,_⟩:=Gc hc
 rw [FC]
 have doit:∀ {g l},Rel gs N ι g l s a w→run g l→Region.wanted o (yielded ops a.tmps)=true→Ba ro P ops Q i (C0 ro P ops Q rest) a w:=by
  intro g l hrel hst hw
  unfold Ba
  rw [hi]
  simp only [hw,if_true]
  refine .inl (Hi c1 rfl hrel (hrun _ _ hst) fun ι' cv v s' w' k1 k2 k3 k4 k5 k6=>?_)
  obtain⟨g',l',hk,hr'⟩:=hrel.put (S:=s.m) k1 k2 k3 c2 k5 k6
  exact hnext ι' g' l' s' _ w' hr' k1 k4 hk
 unfold guarded at h
 cases hg:o.guard with
 | none =>
  rw [hg]at c3
  simp only [EH,Option.some.injEq]at c3
  rw [← c3]at h
  exact doit hrel h (by simp [Region.wanted,hg])
 | some jw =>
  obtain⟨j,want⟩:=jw
  rw [hg]at c3
  simp only [EH,Option.map_eq_some_iff]at c3
  obtain⟨t,hj,he⟩:=c3
  rw [← he]at h
  simp only at h
  split at h
  ·rename_i b hb
   have hrep:=hrel.EI t
   rw [hb]at hrep
   have hy:=Hj hj (CC hrep)
   have hw:Region.wanted o (yielded ops a.tmps)=(some b == some want):=by simp [Region.wanted,hg,hy]
   by_cases e:b=want
   ·subst e
    obtain⟨g',l',hk,hr'⟩:=hrel.BN hb (h.1 rfl)
    exact doit hr' hk (by rw [hw];simp)
   ·have e':b=!want:=by cases b <;> cases want <;> simp_all
    subst e'
    obtain⟨g1,l1,hk,hr'⟩:=hrel.BN hb (h.2 rfl)
    obtain⟨g2,l2,hk2,hr2⟩:=hr'.put (S:=s.m) (Step.refl ι s.m w) hrel.wf hrel.bnd c2 (cv:=undef) GB hk
    unfold Ba
    rw [hi]
    have hw':Region.wanted o (yielded ops a.tmps)=false:=by rw [hw];cases want <;> rfl
    simp only [hw',Bool.false_eq_true,if_false]
    exact hnext ι g2 l2 s _ w hr2 (Step.refl _ _ _) (Inc.refl _ _) hk2
  ·rename_i hb
   have hrep:=hrel.EI t
   rw [hb]at hrep
   have hy:=HY hj (MF hrep)
   have hw':Region.wanted o (yielded ops a.tmps)=false:=by simp [Region.wanted,hg,hy]
   obtain⟨g2,l2,hk2,hr2⟩:=hrel.put (S:=s.m) (Step.refl ι s.m w) hrel.wf hrel.bnd c2 (cv:=undef) GB h
   unfold Ba
   rw [hi]
   simp only [hw',Bool.false_eq_true,if_false]
   exact hnext ι g2 l2 s _ w hr2 (Step.refl _ _ _) (Inc.refl _ _) hk2
  ·exact h.elim
theorem IJ [Glob] {ops:Array Oper} {ι0:Nat→Option Nat} {s0:St} {w0:World} {K:Env→Env→St→Prop} {Q:Exit→Act→World→Prop}
  (hQ:∀ ι' g' l' s' a' w',Rel gs N ι' g' l' s' a' w'→Step ι0 s0.m w0 ι' s'.m w'→Inc ι0 ι' s0.nx s'.nx→K g' l' s'→Q .normal a' w') :
  ∀ (r:List Oper) (k:Nat) (os:List AR),ops.toList.drop k=r→BC P gs N ops r=some os→∀ (ι:Nat→Option Nat) (g l:Env) (s:St) (a:Act) (w:World),
   Cr P os K g l s→Rel gs N ι g l s a w→Step ι0 s0.m w0 ι s.m w→Inc ι0 ι s0.nx s.nx→C0 ro P ops Q (List.range' k r.length) a w:=by
 intro r
 induction r with
 | nil =>
  intro k os hk hc ι g l s a w h hrel hst hn
  simp [BC]at hc
  subst hc
  exact hQ ι g l s a w hrel hst hn h
 | cons o r ih =>
  intro k os hk hc ι g l s a w h hrel hst hn
  simp only [BC]at hc
  split at hc
  ·rename_i ao os' h1 h2
   cases hc
   have hi:ops[k]?=some o:=by
    have:(ops.toList.drop k)[0]?=some o:=by rw [hk];rfl
    simpa using this
   have hk':ops.toList.drop (k+1)=r:=by
    rw [← List.drop_drop,hk];rfl
   simp only [List.length_cons,List.range'_succ]
   refine VC rfl hi h1 hrel (run:=fun g l=>ao.op.step P g l s fun v s'=>BY ao.dst v g l fun g' l'=>Cr P os' K g' l' s') (fun _ _ h=>h) ?_ (fun ι' g' l' s' a' w' k1 k2 k3 k4=>ih (k+1) os' hk' h2 ι' g' l' s' a' w' k4 k1 (hst.trans k2) (hn.trans k3))
   simpa only [Cr] using h
  ·cases hc
theorem Ts [Glob] {ops:Array Oper} {os:List AR} {ι0:Nat→Option Nat} {s0:St} {w0:World} {K:Env→Env→St→Prop} {Q:Exit→Act→World→Prop} (hc:BC P gs N ops ops.toList=some os)
  (hQ:∀ ι' g' l' s' a' w',Rel gs N ι' g' l' s' a' w'→Step ι0 s0.m w0 ι' s'.m w'→Inc ι0 ι' s0.nx s'.nx→K g' l' s'→Q .normal a' w')
  (h:Cr P os K g l s) (hrel:Rel gs N ι g l s a w) (hst:Step ι0 s0.m w0 ι s.m w) (hn:Inc ι0 ι s0.nx s.nx):C0 ro P ops Q (List.range ops.size) a w:=by
 have:=IJ (ro:=ro) hQ ops.toList 0 os rfl hc ι g l s a w h hrel hst hn
 rwa [List.range_eq_range',← Array.length_toList]
theorem VD [Glob] {ops:Array Oper} {os:List AR} {rec:Nat→Rec} {E:Nat→Nat→AV} {S:Nat→AX} {nx:Nat→Nat} {ac:Nat→List (Nat × Nat)} {ι0:Nat→Option Nat} {s0:St} {w0:World} {Q:Exit→Act→World→Prop}
  (D:CV P gs N ops os rec E S nx ac) (hnd:∀ i,i < ops.size→(rec i).done=false) (hs0:s0.nx≤nx 0) (hQ:∀ listed ι M a w,DI gs N ops os rec E S nx ι0 s0 w0 listed ι M a w→(∀ i,i < ops.size→LA listed i=true)→Q .normal a w) :
  ∀ (fuel:Nat) (listed:Array Bool) (ι:Nat→Option Nat) (M:Nat) (a:Act) (w:World),((List.range ops.size).filter fun i=>!LA listed i).length≤fuel →
   DI gs N ops os rec E S nx ι0 s0 w0 listed ι M a w→CB ro P .any ops Q fuel listed a w:=by
 intro fuel
 induction fuel with
 | zero =>
  intro listed ι M a w hf h
  have hall:∀ i,i < ops.size→LA listed i=true:=by
   intro i hi
   cases hL:LA listed i with
   | true=>rfl
   | false =>
    exfalso
    have:i∈(List.range ops.size).filter fun i=>!LA listed i:=by simp [List.mem_filter,hi,hL]
    have:=List.length_pos_of_mem this
    omega
  refine⟨?_,hQ listed ι M a w h hall⟩
  cases hr:Region.ready .any ops listed with
  | nil=>rfl
  | cons i r =>
   exfalso
   obtain⟨o,ho,hL,_⟩:=Bx h.sz (by rw [hr];simp:i∈Region.ready .any ops listed)
   rw [hall i (Array.getElem?_eq_some_iff.1 ho).1]at hL
   cases hL
 | succ fuel ih =>
  intro listed ι M a w hf h
  refine⟨fun hr=>hQ listed ι M a w h (GD D h.sz hr),fun i hi=>?_⟩
  obtain⟨o,ho,hL,hready⟩:=Bx h.sz hi
  have hilt:=(Array.getElem?_eq_some_iff.1 ho).1
  refine HB D h hs0 ho hL (hnd i hilt) hready fun ι' M' a' w' h'=>ih _ ι' M' a' w' ?_ h'
  rw [GC (by rw [h.sz];exact hilt)]
  have hlt:((List.range ops.size).filter fun j=>!Bn i (LA listed) j).length < ((List.range ops.size).filter fun j=>!LA listed j).length:=by
   have hsub:((List.range ops.size).filter fun j=>!Bn i (LA listed) j)=(((List.range ops.size).filter fun j=>!LA listed j).filter fun j=>j != i):=by
    rw [List.filter_filter]
    congr 1
    funext j
    simp only [Bn,Bool.not_or]
    cases LA listed j <;> simp [bne]
   rw [hsub]
   have hmem:i∈(List.range ops.size).filter fun j=>!LA listed j:=by simp [List.mem_filter,hilt,hL]
   exact List.length_filter_lt_length_iff_exists.2 ⟨i,hmem,by simp⟩
  omega
theorem Kl [Glob] {ops:Array Oper} {os:List AR} {kinds:List AOp} {ι0:Nat→Option Nat} {s0:St} {w0:World} {K:Env→Env→St→Prop}
  (hchk:(Cp ops (AN ops.toList []) && Cq ops (AN ops.toList []))=true) (hk:B6 P gs ops.toList=some kinds) (hc:A0 P gs N ops (AN ops.toList []) kinds 0 ops.toList=some os)
  (h:BM P 0 [] os K g l s) (hrel:Rel gs N ι g l s a w) (hst:Step ι0 s0.m w0 ι s.m w) (hn:Inc ι0 ι s0.nx s.nx) :
  ∃ rec E S nx ac M,CV P gs N ops os rec E S nx ac∧(∀ i,i < ops.size→(rec i).done=false)∧s0.nx≤nx 0∧DI gs N ops os rec E S nx ι0 s0 w0 (Array.replicate ops.size false) ι M a w.drew ∧
   ∀ listed ι' M a' w',DI gs N ops os rec E S nx ι0 s0 w0 listed ι' M a' w'→(∀ i,i < ops.size→LA listed i=true) →
    ∃ g' l' s',Rel gs N ι' g' l' s' a' w'∧Step ι0 s0.m w0 ι' s'.m w'∧Inc ι0 ι' s0.nx s'.nx∧K g' l' s':=by
 obtain⟨hlen,hspec⟩:=Cs ops.toList 0 os hc
 simp only [Array.length_toList]at hlen
 have hop:∀ (i:Nat) o,ops[i]?=some o→∃ ao,os[i]?=some ao∧Aa P gs true o=some ao.op∧C9 gs N o.dst=some ao.dst∧EH gs ops o.guard=some ao.guard∧C6 gs (A1 ops o) ao=true:=by
  intro i o ho
  obtain⟨ao,h1,h2,h3,h4,h5,_⟩:=hspec i o (by simpa using ho)
  exact⟨ao,h1,h2,h3,h4,h5⟩
 have hkind:∀ (i:Nat) o ao,ops[i]?=some o→os[i]?=some ao→∃ kd,kinds.getD i .Cj=kd∧ao.op.Ah=kd.Ah∧(ao.op.Ah=true→∃ f as,ao.op=.call true f as)∧(ao.op.Ah=false→ao.op=kd):=by
  intro i o ao ho hao
  obtain⟨ao',h1,h2,_⟩:=hop i o ho
  rw [hao]at h1
  cases h1
  obtain⟨kd,k1,k2⟩:=Ea ops.toList kinds hk i o (by simpa using ho)
  obtain⟨f1,f2,f3⟩:=C8 h2 k2
  exact⟨kd,by simp [k1],f1,f2,f3⟩
 obtain⟨rec,E,S,nx,ac,e1,e2,e3,e4,e5,g',l',s',e6,e7,e8,e9⟩:=extract (gs:=gs) (A1:=fun i=>(ops[i]?).elim [] (A1 ops)) os 0 [] g l s (fun i ao hao=>by
  have hi:i < ops.size:=by rw [← hlen];exact(List.getElem?_eq_some_iff.1 hao).1
  have ho:ops[i]?=some ops[i]:=by simp [hi]
  obtain⟨ao',h1,h2,_,_,h5⟩:=hop i _ ho
  rw [hao]at h1
  cases h1
  obtain⟨_,_,_,hc2,_⟩:=hkind i _ ao ho hao
  refine⟨?_,hc2⟩
  rw [Nat.zero_add,ho]
  exact h5) h
 simp only [Nat.zero_add]at e5
 simp only [Bool.and_eq_true]at hchk
 obtain⟨hslots,hedges⟩:=hchk
 have D:CV P gs N ops os rec E S nx ac:=by
  refine⟨hlen,hop,fun i o h=>(e5 i o h).1,?_,?_,?_,?_⟩
  ·intro i j x y hij hx hy hcl
   have hj:j < ops.size:=(Array.getElem?_eq_some_iff.1 hy).1
   have h1:=List.all_eq_true.1 hslots j (by simpa using hj)
   have h2:=List.all_eq_true.1 h1 i (by simpa using hij)
   rw [hx,hy]at h2
   simp only [hcl,Bool.not_true,Bool.false_or,List.contains_iff_mem]at h2
   exact h2
  ·intro i j x y hij hx hy hl hw n1 n2
   have hj:j < ops.size:=by rw [← hlen];exact(List.getElem?_eq_some_iff.1 hy).1
   have hoi:ops[i]?=some (ops[i]'(by omega)):=by simp
   have hoj:ops[j]?=some ops[j]:=by simp [hj]
   obtain⟨ki,q1,q2,_,q3⟩:=hkind i _ x hoi hx
   obtain⟨kj,r1,r2,_,r3⟩:=hkind j _ y hoj hy
   obtain⟨y',s1,_,_,_,_,s6⟩:=hspec j ops[j] (by rw [Array.getElem?_toList];exact hoj)
   rw [hy]at s1
   cases s1
   simp only [Nat.zero_add]at s6
   by_cases hb:((AN ops.toList []).getD j []).contains i=true
   ·exact .inl (by simpa using hb)
   ·have s7:=s6 i hij (by simpa using hb)
    rw [q1,r1,← q3 n1,← r3 n2]at s7
    refine .inr (s7 hl ?_ n2 n1)
    rcases hw with hw | ⟨w1,w2⟩
    ·simp [hw]
    ·rcases w2 with w2 | w2 <;> simp [w1,w2]
  ·intro i o ho e he hb
   have hi:i < ops.size:=(Array.getElem?_eq_some_iff.1 ho).1
   have h1:=List.all_eq_true.1 hedges i (by simpa using hi)
   rw [ho]at h1
   simp only [Bool.and_eq_true]at h1
   have h2:=List.all_eq_true.1 h1.1 e he
   simpa [hb] using h2
  ·intro q ob hq
   rw [e2]at hq
   rw [e3]
   exact hrel.bnd.lt q ob hq
 have hs0:s0.nx≤nx 0:=by rw [e3];exact hn.1
 have hnd:∀ i,i < ops.size→(rec i).done=false:=fun i hi=>(e5 i (os[i]'(by rw [hlen];exact hi)) (by simp [hlen,hi])).2
 refine⟨rec,E,S,nx,ac,max s.nx (nx ops.size),D,hnd,hs0,?_,?_⟩
 rotate_left
 ·intro listed ι' M a' w' hdi hall
  have hpre:∀ j,j < ops.size→LA listed j=pre ops.size j:=fun j hj=>by rw [hall j hj];simp [pre,hj]
  have hE:∀ t,EL (Bv os) rec (E 0) ops.size (LA listed) t=E ops.size t:=fun t=>by
   rw [D.Tq ops.size (Nat.le_refl _) t]
   unfold EL
   rw [DS fun j hj _=>hpre j hj]
  have hS:SL rec (S 0) ops.size (LA listed)=s'.m:=by
   rw [e7,hlen]
   funext q
   rw [D.U9 ops.size (Nat.le_refl _) q]
   unfold SL
   rw [DS fun j hj _=>hpre j hj]
  rw [hlen]at e6 e8
  have hnM:=hdi.nM
  refine⟨g',l',s'.bump M,⟨by rw [St.bump,← hS];exact hdi.wf,⟨fun q ob hq=>?_,hdi.ιM⟩,hdi.size,hdi.defers,fun t ht=>?_,fun t ht=>?_⟩,by rw [St.bump,← hS];exact hdi.step,⟨?_,hdi.inc⟩,e9 M (by rw [e8];exact hnM)⟩
  ·simp only [St.bump]at hq ⊢
   rw [e7,hlen]at hq
   have:=D.MG ops.size (Nat.le_refl _) q ob hq
   omega
  ·have:=hdi.De t
   rw [hE,← e6,hS]at this
   simp only [merge,ht,if_true]at this
   exact this
  ·have:=hdi.De t
   rw [hE,← e6,hS]at this
   simp only [merge,ht,Bool.false_eq_true,if_false]at this
   exact this
  ·have:=D.Df (i:=0) (j:=ops.size) (Nat.zero_le _) (Nat.le_refl _)
   simp only [St.bump]
   omega
 ·have hLA:LA (Array.replicate ops.size false)=pre 0:=by
   funext j
   simp only [LA,pre]
   by_cases hj:j < ops.size <;> simp [hj]
  have hE0:∀ t,EL (Bv os) rec (E 0) ops.size (pre 0) t=E 0 t:=fun t=>(D.Tq 0 (Nat.zero_le _) t).symm
  have hS0:SL rec (S 0) ops.size (pre 0)=s.m:=by
   rw [← e2]
   funext q
   exact(D.U9 0 (Nat.zero_le _) q).symm
  refine⟨by simp,?_,?_,fun q b hq=>?_,Nat.le_max_right _ _,fun i hi _ hnew=>?_,hrel.size,hrel.defers,fun t=>?_,?_,fun q b hq hlt=>hn.2 q b hq hlt⟩
  ·rw [hLA]
   intro i o ho hL
   simp [pre]at hL
  ·rw [hLA,hS0];exact hrel.wf.drew
  ·have:=hrel.bnd.ilt q b hq
   omega
  ·cases hι:ι (nx i)with
   | none=>rfl
   | some b =>
    exfalso
    have h1:=hrel.bnd.ilt _ b hι
    have h2:=D.Df (i:=0) (j:=i) (Nat.zero_le _) (by omega)
    rw [e3]at h2
    omega
  ·rw [hLA,hE0,hS0,e1]
   refine Rep.step (CY ι s.m w) ?_
   simp only [merge]
   split
   ·rename_i ht;exact hrel.Ek t ht
   ·rename_i ht;exact hrel.loc t (by simpa using ht)
  ·rw [hLA,hS0]
   exact hst.trans (CY ι s.m w)
theorem Tt [Glob] {ops:Array Oper} {os:List AR} {kinds:List AOp} {ι0:Nat→Option Nat} {s0:St} {w0:World} {K:Env→Env→St→Prop} {Q:Exit→Act→World→Prop} 
  (hchk:(Cp ops (AN ops.toList []) && Cq ops (AN ops.toList []))=true) (hk:B6 P gs ops.toList=some kinds) (hc:A0 P gs N ops (AN ops.toList []) kinds 0 ops.toList=some os)
  (hQ:∀ ι' g' l' s' a' w',Rel gs N ι' g' l' s' a' w'→Step ι0 s0.m w0 ι' s'.m w'→Inc ι0 ι' s0.nx s'.nx→K g' l' s'→Q .normal a' w')
  (h:BM P 0 [] os K g l s) (hrel:Rel gs N ι g l s a w) (hst:Step ι0 s0.m w0 ι s.m w) (hn:Inc ι0 ι s0.nx s.nx):CB ro P .any ops Q ops.size (Array.replicate ops.size false) a { w with drawn:=w.drawn+1 }:=by
 obtain⟨rec,E,S,nx,ac,M,D,hnd,hs0,hdi,hend⟩:=Kl hchk hk hc h hrel hst hn
 refine(VD D hnd hs0 (fun listed ι' M a' w' k1 k2=>?_) ops.size _ ι M a _ (Nat.le_trans (List.length_filter_le _ _) (by simp)) hdi)
 obtain⟨g',l',s',h1,h2,h3,h4⟩:=hend listed ι' M a' w' k1 k2
 exact hQ ι' g' l' s' a' w' h1 h2 h3 h4
theorem Qc [Glob] {ops:Array Oper} {os:List AR} {kinds:List AOp} {id:Nat} {ι0:Nat→Option Nat} {s0:St} {w0:World} {K:Env→Env→St→Prop} {Q:Exit→Act→World→Prop} (d:List Deferred) (htame:J8 ops=true) (hdraws:P.follows .mixedOrders=true)
  (hchk:(Cp ops (AN ops.toList []) && Cq ops (AN ops.toList []))=true) (hk:B6 P gs ops.toList=some kinds) (hc:A0 P gs N ops (AN ops.toList []) kinds 0 ops.toList=some os)
  (hQ:∀ ι' g' l' s' a' w',Rel gs N ι' g' l' s' a' w'→Step ι0 s0.m w0 ι' s'.m w'→Inc ι0 ι' s0.nx s'.nx→K g' l' s'→Q .normal (Bj d a') w')
  (h:BM P 0 [] os K g l s) (hrel:Rel gs N ι g l s a w) (hst:Step ι0 s0.m w0 ι s.m w) (hn:Inc ι0 ι s0.nx s.nx):(Code.region id ops true).wpIn (inR ro) 0 P Q (Bj d a) w :=
 DP htame hdraws (Tt (Q:=fun e a w=>Q e (Bj d a) w) hchk hk hc hQ h hrel hst hn)
end Go.AL
namespace Go.AL
variable {ro:Option Nat} {P:Program} {gs:List Nat} {N:Nat} {ι ι':Nat→Option Nat} {g l:Env} {s s':St} {a:Act} {w w':World}
structure Suf (ops:Array Oper) (k:Nat):Prop where
 le:k≤ops.size
 back:∀ (j:Nat) o,ops[j]?=some o→∀ e∈o.after.toList,Region.binds .any e=true→e.on < j
 all:∀ j,k≤j→j < ops.size→∀ i,i < j→i∈(AN ops.toList []).getD j []
 guard:∀ (j:Nat) o,ops[j]?=some o→j < k→∀ i want,o.guard=some (i,want)→i < k
theorem Hk {ops:Array Oper} {k:Nat} (h:Gb ops k=true):Suf ops k:=by
 simp only [Gb,Bool.and_eq_true,decide_eq_true_eq,List.all_eq_true,List.mem_range]at h
 obtain⟨h1,h2⟩:=h
 have get:∀ (j:Nat) o,ops[j]?=some o→_:=fun j o ho=>h2 j (Array.getElem?_eq_some_iff.1 ho).1
 refine⟨h1,fun j o ho e he hb=>?_,fun j hkj hj i hij=>?_,fun j o ho hjk i want hg=>?_⟩
 ·have:=get j o ho
  rw [ho]at this
  simp only [List.all_eq_true]at this
  have:=this.1.1 e he
  simpa [hb] using this
 ·have:=(h2 j hj).1.2
  simp only [Bool.or_eq_true,decide_eq_true_eq,List.all_eq_true,List.mem_range,List.contains_iff_mem]at this
  rcases this with h | h
  ·omega
  ·exact h i hij
 ·have:=get j o ho
  rw [ho]at this
  have:=this.2
  simp only [hg,Bool.or_eq_true,decide_eq_true_eq]at this
  omega
theorem BD {ops:Array Oper} {k i:Nat} (h:i < k):(AI ops k)[i]?=ops[i]?:=by
 simp [AI,List.getElem?_take_of_lt h]
theorem D9 {ops:Array Oper} {k:Nat} (h:k≤ops.size):(AI ops k).size=k:=by simp [AI];omega
theorem Ol [Glob] {ops:Array Oper} {k i:Nat} (hs:Suf ops k) (hi:i < k) {Q:Exit→Act→World→Prop} {K:Act→World→Prop} (h:Ba ro P (AI ops k) Q i K a w):Ba ro P ops Q i K a w:=by
 unfold Ba at h ⊢
 rw [BD hi]at h
 cases ho:ops[i]? with
 | none=>simpa only [ho] using h
 | some o =>
  simp only [ho]at h ⊢
  have:Region.wanted o (yielded (AI ops k) a.tmps)=Region.wanted o (yielded ops a.tmps):=by
   unfold Region.wanted
   cases hg:o.guard with
   | none=>rfl
   | some jw =>
    obtain⟨j,want⟩:=jw
    have:=hs.guard i o ho hi j want hg
    simp only [yielded,BD this]
  rw [this]at h
  exact h
def Cm (n m:Nat):Array Bool:=((List.replicate m true)++List.replicate (n - m) false).toArray
theorem Dn {n m:Nat}:LA (Cm n m)=fun j=>decide (j < m):=by
 funext j
 simp only [LA,Cm,Array.getD_eq_getD_getElem?,List.getElem?_toArray]
 by_cases h:j < m
 ·rw [List.getElem?_append_left (by simpa using h)];simp [h]
 ·rw [List.getElem?_append_right (by simp;omega)]
  by_cases h2:j - m < n - m <;> simp [h,List.getElem?_replicate,h2]
theorem EA {n m:Nat} (h:m≤n):(Cm n m).size=n:=by simp [Cm];omega
theorem Eo {n m j:Nat}:(Cm n m)[j]?=if j < m then some true else if j < n then some false else none:=by
 simp only [Cm,List.getElem?_toArray]
 by_cases h:j < m
 ·rw [List.getElem?_append_left (by simpa using h)];simp [h]
 ·rw [List.getElem?_append_right (by simp;omega),if_neg h]
  simp only [List.length_replicate,List.getElem?_replicate]
  by_cases h2:j < n
  ·rw [if_pos h2,if_pos (by omega)]
  ·rw [if_neg h2,if_neg (by omega)]
theorem Qd [Glob] {n m:Nat} (h:m < n):(Cm n m).setIfInBounds m true=Cm n (m+1):=by
 apply Array.ext_getElem?
 intro j
 have hs:=EA (n:=n) (m:=m) (by omega)
 by_cases e:m=j
 ·subst e
  rw [Eo,if_pos (by omega)]
  simp [hs,h]
 ·rw [Array.getElem?_setIfInBounds_ne e,Eo,Eo]
  by_cases h1:j < m
  ·rw [if_pos h1,if_pos (by omega)]
  ·rw [if_neg h1,if_neg (by omega:¬ j < m+1)]
theorem mem_ready {ops:Array Oper} {listed:Array Bool} {i:Nat} {o:Oper} (hsz:listed.size=ops.size) (ho:ops[i]?=some o) (hL:LA listed i=false)
  (hd:∀ e∈o.after.toList,Region.binds .any e=true→LA listed e.on=true):i∈Region.ready .any ops listed:=by
 have hi:=(Array.getElem?_eq_some_iff.1 ho).1
 simp only [Region.ready,List.mem_filter,List.mem_range,Bool.and_eq_true,Bool.not_eq_true']
 refine⟨hi,?_,?_⟩
 ·have hlt':i < listed.size:=by rw [hsz];exact hi
  have e1:listed.getD i true=listed[i]:=by simp [hlt']
  have e2:listed.getD i false=listed[i]:=by simp [hlt']
  simp only [LA]at hL
  rw [e1,← e2];exact hL
 ·rw [ho]
  simp only [Option.map_some,Option.getD_some,Array.all_eq_true',Bool.or_eq_true,Bool.not_eq_true']
  intro e he
  cases hb:Region.binds .any e with
  | false=>exact .inl rfl
  | true=>exact .inr (hd e (by simpa using he) hb)
theorem JJ [Glob] {ops:Array Oper} {k:Nat} (hs:Suf ops k) {Q:Exit→Act→World→Prop}:∀ (fuel m:Nat) (a:Act) (w:World),k≤m→m≤ops.size→ops.size - m≤fuel→C0 ro P ops Q (List.range' m (ops.size - m)) a w→CB ro P .any ops Q fuel (Cm ops.size m) a w:=by
 have hready:∀ m,k≤m→m≤ops.size→∀ i∈Region.ready .any ops (Cm ops.size m),i=m:=by
  intro m hkm hm i hi
  obtain⟨o,ho,hL,hd⟩:=Bx (EA hm) hi
  have hin:∀ i,LA (Cm ops.size m) i=true→i < ops.size:=fun i h=>by rw [Dn]at h;simp at h;omega
  have hcl:En ops (LA (Cm ops.size m)):=by
   intro j o' ho' hj e he hb
   rw [Dn]at hj ⊢
   simp at hj ⊢
   have:=hs.back j o' ho' e he hb
   omega
  have hb:=Ar hcl hin i o ho hd
  have hil:=(Array.getElem?_eq_some_iff.1 ho).1
  rw [Dn]at hL hb
  simp at hL hb
  rcases Nat.lt_or_ge m i with h | h
  ·have:=hb m (hs.all i (by omega) hil m h)
   omega
  ·omega
 intro fuel
 induction fuel with
 | zero =>
  intro m a w hkm hm hf h
  have e:m=ops.size:=by omega
  subst e
  refine⟨?_,by simpa [C0] using h⟩
  cases hr:Region.ready .any ops (Cm ops.size ops.size)with
  | nil=>rfl
  | cons i r =>
   obtain⟨o,ho,hL,hd⟩:=Bx (EA hm) (by rw [hr];simp:i∈_)
   rw [Dn]at hL
   have:=(Array.getElem?_eq_some_iff.1 ho).1
   simp at hL
   omega
 | succ fuel ih =>
  intro m a w hkm hm hf h
  rcases Nat.lt_or_ge m ops.size with hlt | hge
  ·have ho:ops[m]?=some ops[m]:=by simp [hlt]
   refine⟨fun hr=>?_,fun i hi=>?_⟩
   ·have:=mem_ready (listed:=Cm ops.size m) (EA hm) ho (by rw [Dn];simp) (fun e he hb=>by
     rw [Dn];simpa using hs.back m _ ho e he hb)
    rw [hr]at this
    cases this
   ·have:=hready m hkm hm i hi
    subst this
    rw [show ops.size - i=(ops.size - (i+1))+1 by omega,List.range'_succ,FC]at h
    rw [Qd hlt]
    exact Dj (fun a w h=>ih (i+1) a w (by omega) (by omega) (by omega) h) h
  ·have e:m=ops.size:=by omega
   subst e
   refine⟨fun _=>by simpa [C0] using h,fun i hi=>?_⟩
   obtain⟨o,ho,hL,hd⟩:=Bx (EA hm) hi
   rw [Dn]at hL
   have:=(Array.getElem?_eq_some_iff.1 ho).1
   simp at hL
   omega
def Dp (n:Nat) (l:Array Bool):Array Bool:=l++Array.replicate (n - l.size) false
theorem DT {n:Nat} {l:Array Bool}:LA (Dp n l)=LA l:=by
 funext j
 simp only [LA,Dp,Array.getD_eq_getD_getElem?]
 by_cases h:j < l.size
 ·simp [Array.getElem?_append_left,h]
 ·rw [Array.getElem?_append_right (by omega)]
  by_cases h2:j - l.size < n - l.size <;> simp [h,Array.getElem?_replicate,h2]
theorem Om {n:Nat} {l:Array Bool} (h:l.size≤n):(Dp n l).size=n:=by simp [Dp];omega
theorem R9 {n i:Nat} {l:Array Bool} (h:i < l.size):(Dp n l).setIfInBounds i true=Dp n (l.setIfInBounds i true):=by
 apply Array.ext_getElem?
 intro j
 have h1:i < (Dp n l).size:=by simp [Dp];omega
 by_cases e:j=i
 ·subst e;simp [Dp,h,Array.getElem?_append_left]
 ·have e':i≠j:=fun h=>e h.symm
  rw [Array.getElem?_setIfInBounds_ne e']
  simp only [Dp,Array.size_setIfInBounds]
  by_cases hj:j < l.size
  ·rw [Array.getElem?_append_left hj,Array.getElem?_append_left (by simpa using hj),Array.getElem?_setIfInBounds_ne e']
  ·rw [Array.getElem?_append_right (by omega),Array.getElem?_append_right (by simp;omega)];simp
theorem On [Glob] {n:Nat} {l:Array Bool} (h:∀ i,i < l.size→LA l i=true):Dp n l=Cm n l.size:=by
 apply Array.ext_getElem?
 intro j
 rw [Eo]
 simp only [Dp]
 by_cases hj:j < l.size
 ·rw [Array.getElem?_append_left hj,if_pos hj]
  have:=h j hj
  simp only [LA,Array.getD_eq_getD_getElem?,Array.getElem?_eq_getElem hj,Option.getD_some]at this
  rw [Array.getElem?_eq_getElem hj,this]
 ·rw [Array.getElem?_append_right (by omega),if_neg hj,Array.getElem?_replicate]
  by_cases h2:j < n
  ·rw [if_pos h2,if_pos (by omega)]
  ·rw [if_neg h2,if_neg (by omega)]
theorem Oo [Glob] {ops:Array Oper} {k:Nat} (hs:Suf ops k) {os:List AR} {rec:Nat→Rec} {E:Nat→Nat→AV} {S:Nat→AX} {nx:Nat→Nat} {ac:Nat→List (Nat × Nat)} {ι0:Nat→Option Nat} {s0:St} {w0:World} {Q:Exit→Act→World→Prop}
  (D:CV P gs N (AI ops k) os rec E S nx ac) (hs0:s0.nx≤nx 0)
  (hQ:∀ listed ι M a w,DI gs N (AI ops k) os rec E S nx ι0 s0 w0 listed ι M a w→(∀ i,i < (AI ops k).size→LA listed i=true)→C0 ro P ops Q (List.range' k (ops.size - k)) a w) :
  ∀ (fuel:Nat) (listed:Array Bool) (ι:Nat→Option Nat) (M:Nat) (a:Act) (w:World),((List.range k).filter fun i=>!LA listed i).length+(ops.size - k)≤fuel→(∀ i,i < k→(rec i).done=true→LA listed i=true) →
   DI gs N (AI ops k) os rec E S nx ι0 s0 w0 listed ι M a w→CB ro P .any ops Q fuel (Dp ops.size listed) a w:=by
 have hpsz:=D9 hs.le
 intro fuel
 induction fuel with
 | zero =>
  intro listed ι M a w hf hdn h
  have hsz:listed.size=k:=by rw [h.sz,hpsz]
  have hall:∀ i,i < listed.size→LA listed i=true:=by
   intro i hi
   cases hL:LA listed i with
   | true=>rfl
   | false =>
    exfalso
    have:i∈(List.range k).filter fun i=>!LA listed i:=by rw [hsz]at hi;simp [List.mem_filter,hi,hL]
    have:=List.length_pos_of_mem this
    omega
  rw [On hall,hsz]
  exact JJ hs 0 k a w (Nat.le_refl _) hs.le (by omega) (hQ listed ι M a w h (by rw [hpsz,← hsz];exact hall))
 | succ fuel ih =>
  intro listed ι M a w hf hdn h
  have hsz:listed.size=k:=by rw [h.sz,hpsz]
  by_cases hall:∀ i,i < listed.size→LA listed i=true
  ·rw [On hall,hsz]
   exact JJ hs (fuel+1) k a w (Nat.le_refl _) hs.le (by omega) (hQ listed ι M a w h (by rw [hpsz,← hsz];exact hall))
  ·have hin:=Oj h.sz
   have hcl:En ops (LA (Dp ops.size listed)):=by
    rw [DT]
    intro j o ho hj e he hb
    have hjk:=hin j hj
    rw [hpsz]at hjk
    exact h.closed j o (by rw [BD hjk];exact ho) hj e he hb
   have hpad:(Dp ops.size listed).size=ops.size:=Om (by rw [hsz];exact hs.le)
   have hless:∃ i,i∈Region.ready .any (AI ops k) listed:=by
    cases hr:Region.ready .any (AI ops k) listed with
    | nil=>exact(hall fun i hi=>GD D h.sz hr i (by rw [← h.sz];exact hi)).elim
    | cons i r=>exact⟨i,by simp⟩
   refine⟨fun hr=>?_,fun i hi=>?_⟩
   ·exfalso
    obtain⟨i,hi⟩:=hless
    obtain⟨o,ho,hL,hd⟩:=Bx h.sz hi
    have hik:=(Array.getElem?_eq_some_iff.1 ho).1
    rw [hpsz]at hik
    rw [BD hik]at ho
    have:=mem_ready (listed:=Dp ops.size listed) hpad ho (by rw [DT];exact hL) (by rw [DT];exact hd)
    rw [hr]at this
    cases this
   ·obtain⟨o,ho,hL,hd⟩:=Bx hpad hi
    have hio:=(Array.getElem?_eq_some_iff.1 ho).1
    rw [DT]at hL hd
    by_cases hik:i < k
    ·rw [R9 (by rw [hsz];exact hik)]
     refine Ol hs hik (HB D h hs0 (by rw [BD hik];exact ho) hL (by cases hx:(rec i).done with | false=>rfl | true=>have:=hdn i hik hx;rw [hL]at this;cases this) hd fun ι' M' a' w' h'=>ih _ ι' M' a' w' ?_ (fun j hj hx=>by rw [GC (by rw [hsz];exact hik)];simp [Bn,hdn j hj hx]) h')
     rw [GC (by rw [hsz];exact hik)]
     have hlt:((List.range k).filter fun j=>!Bn i (LA listed) j).length < ((List.range k).filter fun j=>!LA listed j).length:=by
      have hsub:((List.range k).filter fun j=>!Bn i (LA listed) j)=(((List.range k).filter fun j=>!LA listed j).filter fun j=>j != i):=by
       rw [List.filter_filter]
       congr 1
       funext j
       simp only [Bn,Bool.not_or]
       cases LA listed j <;> simp [bne]
      rw [hsub]
      have hmem:i∈(List.range k).filter fun j=>!LA listed j:=by simp [List.mem_filter,hik,hL]
      exact List.length_filter_lt_length_iff_exists.2 ⟨i,hmem,by simp⟩
     omega
    ·exfalso
     apply hall
     intro j hj
     rw [hsz]at hj
     have hin':∀ i,LA (Dp ops.size listed) i=true→i < ops.size:=fun i h'=>by rw [DT]at h';have:=hin i h';rw [hpsz]at this;have:=hs.le;omega
     have:=Ar hcl hin' i o ho (by rw [DT];exact hd) j (hs.all i (by omega) hio j (by omega))
     rwa [DT]at this
theorem VE [Glob] {ops:Array Oper} {k:Nat} {os suf:List AR} {kinds:List AOp} {ι0:Nat→Option Nat} {s0:St} {w0:World} {K:Env→Env→St→Prop} {Q:Exit→Act→World→Prop} 
  (hs:Gb ops k=true) (hchk:(Cp (AI ops k) (AN (AI ops k).toList []) && Cq (AI ops k) (AN (AI ops k).toList []))=true) (hk:B6 P gs (AI ops k).toList=some kinds)
  (hc:A0 P gs N (AI ops k) (AN (AI ops k).toList []) kinds 0 (AI ops k).toList=some os) (hsuf:BC P gs N ops (ops.toList.drop k)=some suf)
  (hQ:∀ ι' g' l' s' a' w',Rel gs N ι' g' l' s' a' w'→Step ι0 s0.m w0 ι' s'.m w'→Inc ι0 ι' s0.nx s'.nx→K g' l' s'→Q .normal a' w')
  (h:BM P 0 [] os (Cr P suf K) g l s) (hrel:Rel gs N ι g l s a w) (hst:Step ι0 s0.m w0 ι s.m w) (hn:Inc ι0 ι s0.nx s.nx):CB ro P .any ops Q ops.size (Array.replicate ops.size false) a { w with drawn:=w.drawn+1 }:=by
 have hS:=Hk hs
 obtain⟨rec,E,S,nx,ac,M,D,hnd,hs0,hdi,hend⟩:=Kl hchk hk hc h hrel hst hn
 have hpsz:=D9 hS.le
 have key:=Oo hS D hs0 (Q:=Q) (fun listed ι' M a' w' k1 k2=>by
  obtain⟨g',l',s',h1,h2,h3,h4⟩:=hend listed ι' M a' w' k1 k2
  have:=IJ (ro:=ro) hQ (ops.toList.drop k) k suf rfl hsuf ι' g' l' s' a' w' h4 h1 h2 h3
  simpa using this) ops.size _ ι M a _ (by
   have:=List.length_filter_le (fun i=>!LA (Array.replicate (AI ops k).size false) i) (List.range k)
   have:=hS.le
   simp only [List.length_range]at *
   omega) (fun i hi hx=>by rw [hnd i (by rw [hpsz];exact hi)]at hx;cases hx) hdi
 have e:Dp ops.size (Array.replicate (AI ops k).size false)=Array.replicate ops.size false:=by
  have:=hS.le
  apply Array.ext_getElem?
  intro j
  simp only [Dp,hpsz,Array.size_replicate]
  by_cases hj:j < k
  ·rw [Array.getElem?_append_left (by simpa using hj)]
   have:j < ops.size:=by omega
   simp [Array.getElem?_replicate,hj,this]
  ·rw [Array.getElem?_append_right (by simp;omega)]
   simp only [Array.getElem?_replicate,Array.size_replicate]
   by_cases h2:j < ops.size
   ·rw [if_pos (by omega),if_pos h2]
   ·rw [if_neg (by omega),if_neg h2]
 rw [e]at key
 exact key
theorem Tu [Glob] {ops:Array Oper} {k:Nat} {os suf:List AR} {kinds:List AOp} {id:Nat} {ι0:Nat→Option Nat} {s0:St} {w0:World} {K:Env→Env→St→Prop} {Q:Exit→Act→World→Prop} (d:List Deferred) (htame:J8 ops=true) (hdraws:P.follows .mixedOrders=true)
  (hs:Gb ops k=true) (hchk:(Cp (AI ops k) (AN (AI ops k).toList []) && Cq (AI ops k) (AN (AI ops k).toList []))=true) (hk:B6 P gs (AI ops k).toList=some kinds)
  (hc:A0 P gs N (AI ops k) (AN (AI ops k).toList []) kinds 0 (AI ops k).toList=some os) (hsuf:BC P gs N ops (ops.toList.drop k)=some suf)
  (hQ:∀ ι' g' l' s' a' w',Rel gs N ι' g' l' s' a' w'→Step ι0 s0.m w0 ι' s'.m w'→Inc ι0 ι' s0.nx s'.nx→K g' l' s'→Q .normal (Bj d a') w')
  (h:BM P 0 [] os (Cr P suf K) g l s) (hrel:Rel gs N ι g l s a w) (hst:Step ι0 s0.m w0 ι s.m w) (hn:Inc ι0 ι s0.nx s.nx):(Code.region id ops true).wpIn (inR ro) 0 P Q (Bj d a) w :=
 DP htame hdraws (VE (Q:=fun e a w=>Q e (Bj d a) w) hs hchk hk hc hsuf hQ h hrel hst hn)
end Go.AL
