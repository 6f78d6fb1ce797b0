/- Needs as values: none, everything, one variable; with, outside, both. -/
import Derived.Test.YtlledcnjfgcipaaGreatDoorC4
import Derived.Test.YtlledcnjfgcipaaGreatDoorF23
set_option linter.unusedVariables false
set_option linter.unusedSimpArgs false
namespace Go.AL.Dm
open Go Go.Proofs
theorem N3 {w:World} {b off c:Nat} {v:Value} {ces:Array MapEntry} (h:w.cell? ⟨b,off,none⟩=some v) (hm:w.heap[b]?=some (.map ces c)):False:=by
 simp [World.cell?,hm]at h
theorem Im {l:List AV} (hl:∀ x∈l,∀ (ι ι':Nat→Option Nat) (F F':Nat→Nat→Prop) w v,Rep ι F w v x→(∀ b off,F' b off→∃ l:List Int,w.heap[b]?=some (.map (CG l) l.length))→Rep ι' F' w v x)
  (ι ι':Nat→Option Nat) (F F':Nat→Nat→Prop) (w:World) (v:Value) (h:Rep ι F w v (.Ai l)) (hF:∀ b off,F' b off→∃ l:List Int,w.heap[b]?=some (.map (CG l) l.length)):Rep ι' F' w v (.Ai l):=by
 cases h with
 | @Ai a _ cs ha hc hr =>
  refine .Ai cs ha (fun j hj=>?_) fun j x hx=>hl x (List.mem_of_getElem? hx) _ _ _ _ _ _ (hr j x hx) hF
  obtain⟨h1,h2,h3⟩:=hc j hj
  refine⟨h1,fun hf=>?_,h3⟩
  obtain⟨l,hl⟩:=hF _ _ hf
  exact N3 h1 hl
theorem LP {es:List (Value × Value)} {p:Value × Value} (hp:p∈es) (hne:∀ k,¬ (p.1=.int .i64 k∧p.2=.bool true)) (ι ι':Nat→Option Nat) (F F':Nat→Nat→Prop) (w:World) (v:Value) (h:Rep ι F w v (.Dc es))
  (hF:∀ b off,F' b off→∃ l:List Int,w.heap[b]?=some (.map (CG l) l.length)):Rep ι' F' w v (.Dc es):=by
 cases h with
 | @Dc b clock ces _ h1 hf hin hout hnd =>
  refine .Dc h1 (fun off hf'=>?_) hin hout hnd
  obtain⟨l,hl⟩:=hF _ _ hf'
  rw [h1]at hl
  injection hl with hl
  injection hl with e1 e2
  obtain⟨j,e,he,k1,k2⟩:=hout p hp
  rw [e1]at he
  have hj:j < l.length:=by have:=(Array.getElem?_eq_some_iff.1 he).1;simpa [CG] using this
  simp [CG,hj]at he
  subst he
  exact hne _ ⟨k1.symm,k2.symm⟩
theorem Ra:WY:=by
 intro g x hg
 have hplain:∀ {x:AV},Plain x→∀ (ι ι':Nat→Option Nat) (F F':Nat→Nat→Prop) w v,Rep ι F w v x→(∀ b off,F' b off→∃ l:List Int,w.heap[b]?=some (.map (CG l) l.length))→Rep ι' F' w v x :=
  fun h ι ι' F F' w v hr _=>h _ _ _ _ _ _ hr
 match g,hg with
 | 0,hg =>
  cases hg
  refine Im fun x hx=>?_
  simp only [List.mem_singleton]at hx
  subst hx
  exact LP (p:=JX.head (by simp [JX])) (List.head_mem _) (by intro k h;simp [JX]at h)
 | 1,hg =>
  cases hg
  refine Im fun x hx=>?_
  simp only [List.mem_singleton]at hx
  subst hx
  exact LP (p:=Hx.head (by simp [Hx])) (List.head_mem _) (by intro k h;simp [Hx]at h)
 | 2,hg =>
  cases hg
  refine Im fun x hx=>?_
  simp only [List.mem_singleton]at hx
  subst hx
  exact LP (p:=Hy.head (by simp [Hy])) (List.head_mem _) (by intro k h;simp [Hy]at h)
 | 3,hg =>
  cases hg
  refine Im fun x hx=>hplain ?_
  have:∃ n,x=.int .i64 n:=by
   simp only [List.mem_cons,List.not_mem_nil,or_false]at hx
   rcases hx with rfl | rfl | rfl | rfl | rfl | rfl | rfl | rfl | rfl | rfl | rfl | rfl | rfl | rfl | rfl | rfl | rfl | rfl | rfl | rfl | rfl | rfl | rfl | rfl | rfl | rfl | rfl <;> exact⟨_,rfl⟩
  obtain⟨n,rfl⟩:=this
  exact Fo _ _
 | n+4,hg=>cases hg
def ndv:ND→AV
 | none=>.agg [.bool true,.Ad]
 | some l=>.agg [.bool false,.Bp (A6 l)]
@[simp] theorem ADG (es:List (AV × AV)):(AV.Bp es).isVal=true:=rfl
@[simp] theorem ADH (es:List (AV × AV)):(AV.Bp es).cells=[.Bp es]:=rfl
@[simp] theorem T1 (o:Nat):(AV.map o).isVal=true:=rfl
@[simp] theorem T2 (o:Nat):(AV.map o).cells=[.map o]:=rfl
@[simp] theorem M5:(AV.Ad).isVal=true:=rfl
@[simp] theorem M6:(AV.Ad).cells=[.Ad]:=rfl
theorem Sk {l lr:List Int} {o:Nat} {s':St} {K:AV→St→Prop} (ho:s'.m o=some (obS l)) (hnd:l.Nodup) (hp:l.Perm lr) (hK:K (ndv (some lr)) (s'.del o)):AHw (.bool false) K (.agg [.bool false,.map o]) s' :=
 ⟨o,A6 l,A6 lr,rfl,by rw [ho,JV],Hu hp,UO l,PU hnd,hK⟩
theorem p87:AF Tryz.prog 87 [] (ndv (some [])):=by
 refine AF.intro fun s=>AB.Sh (Co false) (AD mixed Tryz.func87 Tryz.call87 k87.2 rfl (AE _ _ _ _ ?_))
 simp -implicitDefEqProofs (disch:=first|omega|simp only[nx4]<;>omega|fail) [k87]
 refine Sk (l:=[]) (lr:=[]) (by simp -implicitDefEqProofs (disch:=first|omega|simp only[nx4]<;>omega|fail) [obS,BP]) (by simp) (List.Perm.refl _) ⟨AS _,smz⟩
theorem UQ:AF Tryz.prog 164 [] (ndv none):=by
 refine AF.intro fun s=>AD mixed Tryz.func164 Tryz.call164 k164.2 rfl (AE _ _ _ _ ?_)
 simp -implicitDefEqProofs (disch:=first|omega|simp only[nx4]<;>omega|fail) [k164,ndv]
theorem AJx (t:Pl):AF Tryz.prog 122 [t.av] (ndv (some [t.n])):=by
 refine AF.intro fun s=>AB.Sh (Co false) (AD mixed Tryz.func122 Tryz.call122 k122.2 rfl (AE _ _ _ _ ?_))
 simp -implicitDefEqProofs (disch:=first|omega|simp only[nx4]<;>omega|fail) [k122]
 simp -implicitDefEqProofs (disch:=first|omega|simp only[nx4]<;>omega|fail) [BL,Hn]
 refine Sk (l:=[t.n]) (lr:=[t.n]) (by simp -implicitDefEqProofs (disch:=first|omega|simp only[nx4]<;>omega|fail) [obS,BP]) (by simp) (List.Perm.refl _) ⟨AS _,smz⟩
theorem JY {l:List Int} {seen:List Nat} {j:Nat} (hsn:seen.Nodup) (hlt:∀ k∈seen,k < l.length) (hj:j < l.length) (hj':j ∉ seen):(seen++[j]).Nodup∧(∀ k∈seen++[j],k < l.length)∧seen.length+1≤l.length:=by
 have hsn':(seen++[j]).Nodup:=by
  rw [List.nodup_append]
  refine⟨hsn,by simp,fun a ha b hb=>?_⟩
  simp at hb;subst hb
  exact fun e=>hj' (e ▸ ha)
 have hlt':∀ k∈seen++[j],k < l.length:=by
  intro k hk
  rcases List.mem_append.1 hk with h | h
  ·exact hlt k h
  ·simp at h;subst h;exact hj
 have:=ED hsn' hlt'
 simp only [List.length_append,List.length_singleton]at this
 exact⟨hsn',hlt',this⟩
def Ci (l:List Int) (seen:List Nat):List Int:=seen.map fun j=>l.getD j 0
theorem LQ {l:List Int} {seen:List Nat} (hsn:seen.Nodup) (hlt:∀ k∈seen,k < l.length) (hall:∀ j,j < l.length→j∈seen) {k:Int}:k∈Ci l seen↔k∈l:=(JW l seen hsn hlt hall).mem_iff
theorem q87 (s:St):AB Tryz.prog 87 [] s fun r s'=>∃ o,r=.agg [.bool false,.map o]∧s.nx≤o∧o < s'.nx∧s'.m o=some (obS [])∧Kept s s':=by
 refine AD mixed Tryz.func87 Tryz.call87 k87.2 rfl (AE _ _ _ _ ?_)
 simp -implicitDefEqProofs (disch:=first|omega|simp only[nx4]<;>omega|fail) [k87]
 rfl
-- with: two walks
structure AH1 (s:St) (l1 l2:List Int) (o1 o2 on b5:Nat) (out:List Int) (s1:St):Prop where
 bx:s1.m b5=some (.box [.bool false,.map on])
 bo:s1.m on=some (obS out)
 m1:s1.m o1=some (obS l1)
 m2:s1.m o2=some (obS l2)
 rs:s1.m (s.nx+1+1)=some (.box [.bool false,.Ad])
 n1:s.nx+1+1 < on
 n2:on < b5
 n3:b5 < s1.nx
 nd:out.Nodup
def AH2 (s:St) (l1 l2:List Int) (o1 o2 on b5:Nat) (m:Nat) (g:Env) (s1:St):Prop :=
 ∃ (i:Nat) (out:List Int),i≤2∧m=2 - i∧(∀ k,k∈out↔(0 < i∧k∈l1)∨(1 < i∧k∈l2))∧g.get 21=.list 1 .full [.map o1,.map o2]∧g.get 22=.int .i64 2∧g.get 23=.int .i64 i∧g.get 4=.ptr (s.nx+1+1) 0∧g.get 5=.ptr b5 0∧AH1 s l1 l2 o1 o2 on b5 out s1
def AH3 (s:St) (l1 l2:List Int) (o1 o2 on b5 i:Nat) (out0 l:List Int) (oq it:Nat) (m:Nat) (g:Env) (s1:St):Prop :=
 ∃ (seen:List Nat) (out:List Int),m=l.length - seen.length∧seen.Nodup∧(∀ j∈seen,j < l.length)∧(∀ k,k∈out↔k∈out0∨k∈Ci l seen)∧g.get 21=.list 1 .full [.map o1,.map o2]∧g.get 22=.int .i64 2∧g.get 23=.int .i64 i∧g.get 4=.ptr (s.nx+1+1) 0∧g.get 5=.ptr b5 0 ∧
  g.get 28=.ptr it 0∧s1.m it=some (.iter (some oq) l.length seen l.length)∧s1.m oq=some (obS l)∧b5 < it∧it < s1.nx∧AH1 s l1 l2 o1 o2 on b5 out s1
theorem AJy (l1 l2:List Int) (o1 o2:Nat) (s:St) (h1:o1 < s.nx) (h2:o2 < s.nx) (hm1:s.m o1=some (obS l1)) (hm2:s.m o2=some (obS l2)) :
  AB Tryz.prog 165 [.agg [.bool false,.map o1],.agg [.bool false,.map o2]] s fun r s'=>∃ o' l',r=.agg [.bool false,.map o']∧s.nx≤o'∧s'.m o'=some (obS l')∧l'.Nodup∧(∀ k,k∈l'↔k∈l1∨k∈l2)∧s'.m o1=some (obS l1)∧s'.m o2=some (obS l2):=by
 refine AD mixed Tryz.func165 Tryz.call165 k165.2 rfl (AE _ _ _ _ ?_)
 simp -implicitDefEqProofs (disch:=first|omega|simp only[nx4]<;>omega|fail) [k165]
 refine AH (AB.mono (q87 _) fun r s2 hn2 h=>AW ?_)
 obtain⟨on,rfl,n1,n2,hon,hk2⟩:=h
 simp -implicitDefEqProofs (disch:=first|omega|simp only[nx4]<;>omega|fail)at n1 hn2
 have k0:=hk2 s.nx soz
 have k1:=hk2 (s.nx+1) smz
 have k2:=hk2 (s.nx+1+1) smz
 have k3:=hk2 o1 soz
 have k4:=hk2 o2 soz
 simp -implicitDefEqProofs (disch:=first|omega|simp only[nx4]<;>omega|fail)at k0 k1 k2 k3 k4
 simp -implicitDefEqProofs (disch:=first|omega|simp only[nx4]<;>omega|fail) [k0,k1,k2]
 refine AQ (AH2 s l1 l2 o1 o2 on s2.nx) 2 ⟨0,[],by omega,by omega,by simp,?_,?_,?_,?_,?_,?_,?_,?_,?_,?_,?_,?_,?_,?_⟩ ?_
 all_goals (try simp -implicitDefEqProofs (disch:=first|omega|simp only[nx4]<;>omega|fail) [k3,k4,hm1,hm2,hon,k2])
 all_goals (try omega)
 rintro m g s3 ⟨i,out,hi,rfl,hout,e21,e22,e23,e4,e5,J⟩
 by_cases hlt:i < 2
 ·have hlt':(i:Int) < 2:=by omega
  obtain⟨l,oq,hq,hO,hoq,hmem⟩:∃ l oq,(∀ h,[AV.map o1,AV.map o2][i]'h=.map oq)∧s3.m oq=some (obS l)∧oq < s.nx∧∀ k,(k∈out∨k∈l)↔(0 < i+1∧k∈l1)∨(1 < i+1∧k∈l2):=by
   match i,hlt with
   | 0,_=>exact⟨l1,o1,fun _=>rfl,J.m1,h1,fun k=>by rw [hout];simp⟩
   | 1,_=>exact⟨l2,o2,fun _=>rfl,J.m2,h2,fun k=>by rw [hout];simp⟩
  have hO':s3.m oq=some (.map (BP 0 l) l.length):=hO
  have J3:=J.n3
  have J2:=J.n2
  have J1:=J.n1
  simp -implicitDefEqProofs (disch:=first|omega|simp only[nx4]<;>omega|fail) [e21,e22,e23,hlt',hq,hO']
  refine AQ (AH3 s l1 l2 o1 o2 on s2.nx i out l oq s3.nx) l.length ⟨[],out,by simp,by simp,by simp,by simp [Ci],?_,?_,?_,?_,?_,?_,?_,?_,?_,?_,⟨?_,?_,?_,?_,?_,?_,?_,?_,J.nd⟩⟩ ?_
  all_goals (try simp -implicitDefEqProofs (disch:=first|omega|simp only[nx4]<;>omega|fail) [e21,e22,e23,e4,e5,hO,J.bx,J.bo,J.m1,J.m2,J.rs])
  all_goals (try omega)
  clear e21 e22 e23 e4 e5 J hO hO'
  rintro m g s4 ⟨seen,out2,rfl,hsn,hlts,hmo,e21,e22,e23,e4,e5,e28,hIT,hO,hb1,hb2,J⟩
  have hO':s4.m oq=some (.map (BP 0 l) l.length):=hO
  have hsle:seen.length≤l.length:=ED hsn hlts
  simp -implicitDefEqProofs (disch:=first|omega|simp only[nx4]<;>omega|fail) [e28,hIT,hO']
  refine Ij ?_ (fun hall=>?_) (fun e he hes=>?_)
  ·cases l with
   | nil=>exact .inr (.inl rfl)
   | cons a r=>exact .inr (.inr ⟨_,by rw [BP];exact List.mem_cons_self ..,by simp⟩)
  ·have hva:=fun k=>LQ (k:=k) hsn hlts (fun j hj=>by simpa using hall _ (Ik l 0 j hj) (by simpa using hj))
   have w3:=wrapS (i:=i) (by omega)
   simp -implicitDefEqProofs (disch:=first|omega|simp only[nx4]<;>omega|fail) [e23,w3]
   refine AK (2 - (i+1)) (by omega) ⟨i+1,out2,by omega,rfl,fun k=>?_,?_,?_,?_,?_,?_,⟨?_,?_,?_,?_,?_,?_,?_,?_,J.nd⟩⟩
   ·rw [hmo,hva];exact hmem k
   all_goals (try simp -implicitDefEqProofs (disch:=first|omega|simp only[nx4]<;>omega|fail) [e21,e22,e4,e5,J.bx,J.bo,J.m1,J.m2,J.rs])
   all_goals (try omega)
  ·obtain⟨j,hj,rfl⟩:=Fp l 0 e he
   have hj':j ∉ seen:=by simpa using hes
   have hf:=Dy l 0 j hj
   simp only [Nat.zero_add]at hf ⊢
   obtain⟨hsn',hlt2,hle'⟩:=JY hsn hlts hj hj'
   simp -implicitDefEqProofs (disch:=first|omega|simp only[nx4]<;>omega|fail) [e28,hO']
   refine Il (st:=j) (by simp) rfl hf ?_
   simp -implicitDefEqProofs (disch:=first|omega|simp only[nx4]<;>omega|fail) [e5,J.bx,J.bo]
   refine N4 _ _ _ _ _ ?_
   have hgd:l[j]=l.getD j 0:=by simp [hj]
   simp -implicitDefEqProofs (disch:=first|omega|simp only[nx4]<;>omega|fail)
   refine AK (l.length - (seen.length+1)) (by omega) ⟨seen++[j],HU out2 l[j],by simp,hsn',hlt2,fun k=>?_,?_,?_,?_,?_,?_,?_,?_,?_,?_,?_,⟨?_,?_,?_,?_,?_,?_,?_,?_,GQ J.nd _⟩⟩
   ·rw [Io,hmo,or_assoc,hgd]
    simp [Ci]
   all_goals (try simp -implicitDefEqProofs (disch:=first|omega|simp only[nx4]<;>omega|fail) [e21,e22,e23,e4,e5,e28,hO,J.bx,J.bo,J.m1,J.m2,J.rs])
   all_goals (try omega)
 ·have hlt':¬ (i:Int) < 2:=by omega
  have J3:=J.n3
  have J2:=J.n2
  have J1:=J.n1
  obtain rfl:i=2:=by omega
  simp -implicitDefEqProofs (disch:=first|omega|simp only[nx4]<;>omega|fail) [e21,e22,e23,hlt',e4,e5,J.bx,J.rs]
  exact⟨by omega,out,J.bo,J.nd,fun k=>by rw [hout];simp,J.m1,J.m2⟩
theorem Gy {a b:List Int} (ha:a.Nodup) (hb:b.Nodup) (h:∀ k,k∈a↔k∈b):a.Perm b:=(List.perm_ext_iff_of_nodup ha hb).2 h
theorem Gz {ι:Nat→Option Nat} {F:Nat→Nat→Prop} {w:World} {v:Value} {x:AV} (h:Rep ι F w v (.agg [.bool false,x])) :
  ∃ u,Rep ι F w u x∧∀ (ι':Nat→Option Nat) (F':Nat→Nat→Prop) y,Rep ι' F' w u y→Rep ι' F' w v (.agg [.bool false,y]):=by
 cases h with
 | @agg vs _ hl hc hr =>
  simp only [List.length_cons,List.length_nil]at hl
  have h1:1 < vs.size:=by omega
  refine⟨vs[1],hr 1 _ _ (by simp [h1]) rfl,fun ι' F' y hy=>.agg hl hc fun j u z hu hz=>?_⟩
  match j with
  | 0 =>
   simp at hz;subst hz
   exact Co false _ _ _ _ _ _ (hr 0 u _ hu rfl)
  | 1 =>
   simp at hz;subst hz
   simp [h1]at hu;subst hu
   exact hy
  | j+2=>simp at hz
theorem LR {ι:Nat→Option Nat} {F:Nat→Nat→Prop} {w:World} {vs:Array Value} {x y:AV} (h:Bs ι F w vs [x,y]) :
  ∃ u v,Rep ι F w u x∧Rep ι F w v y∧∀ (ι':Nat→Option Nat) (F':Nat→Nat→Prop) x' y',Rep ι' F' w u x'→Rep ι' F' w v y'→Bs ι' F' w vs [x',y']:=by
 have hl:=h.1
 simp only [List.length_cons,List.length_nil]at hl
 have h0:0 < vs.size:=by omega
 have h1:1 < vs.size:=by omega
 refine⟨vs[0],vs[1],h.2 0 _ _ (by simp [h0]) rfl,h.2 1 _ _ (by simp [h1]) rfl,fun ι' F' x' y' hx hy=>⟨hl,fun j v z hv hz=>?_⟩⟩
 match j with
 | 0 =>
  simp at hz;subst hz
  simp [h0]at hv;subst hv;exact hx
 | 1 =>
  simp at hz;subst hz
  simp [h1]at hv;subst hv;exact hy
 | j+2=>simp at hz
theorem ADI (x y:ND) (hx:x.ok) (hy:y.ok):AF Tryz.prog 165 [ndv x,ndv y] (ndv (BB x y)):=by
 have en:ndv none=.agg [.bool true,.Ad]:=rfl
 cases x with
 | none =>
  refine AF.intro fun s=>AD mixed Tryz.func165 Tryz.call165 k165.2 rfl (AE _ _ _ _ ?_)
  cases y
  all_goals
   simp -implicitDefEqProofs (disch:=first|omega|simp only[nx4]<;>omega|fail) [k165,ndv,BB]
   refine AA UQ fun mm2 hm2=>?_
   try simp only [nx4]at hm2
   simp -implicitDefEqProofs (disch:=first|omega|simp only[nx4]<;>omega|fail) [ndv]
 | some l1 =>
  cases y with
  | none =>
   refine AF.intro fun s=>AD mixed Tryz.func165 Tryz.call165 k165.2 rfl (AE _ _ _ _ ?_)
   simp -implicitDefEqProofs (disch:=first|omega|simp only[nx4]<;>omega|fail) [k165,ndv,BB]
   refine AA UQ fun mm3 hm3=>?_
   try simp only [nx4]at hm3
   simp -implicitDefEqProofs (disch:=first|omega|simp only[nx4]<;>omega|fail) [ndv]
  | some l2 =>
   refine ADB (l1:=l1) (l2:=l2) (A:=fun o1 o2=>[.agg [.bool false,.map o1],.agg [.bool false,.map o2]]) Ra Tryz.call165 rfl (Co false) ?_ ?_
   ·intro ι F w vs h
    obtain⟨u,v,hu,hv,hR⟩:=LR h
    obtain⟨u1,hu1,hU⟩:=Gz hu
    obtain⟨v1,hv1,hV⟩:=Gz hv
    exact⟨u1,v1,hu1,hv1,fun ι' F' o1 o2 h1 h2=>hR _ _ _ _ (hU _ _ _ h1) (hV _ _ _ h2)⟩
   ·intro o1 o2 l1' l2' s hp1 hp2 h1 h2 hm1 hm2
    refine AB.mono (AJy l1' l2' o1 o2 s h1 h2 hm1 hm2) fun r s' hn h=>?_
    obtain⟨o',l',rfl,k1,k2,k3,k4,k5,k6⟩:=h
    exact⟨o',l',rfl,k1,k2,Gy k3 (KO hx).nodup (fun k=>by rw [k4,Cf,hp1.mem_iff,hp2.mem_iff]),k3,k5,k6⟩
-- outside: one walk
structure AJz (s:St) (l1:List Int) (o1 on b5:Nat) (out:List Int) (s1:St):Prop where
 bx:s1.m b5=some (.box [.bool false,.map on])
 bo:s1.m on=some (obS out)
 m1:s1.m o1=some (obS l1)
 rs:s1.m (s.nx+1)=some (.box [.bool false,.Ad])
 n1:s.nx+1 < on
 n2:on < b5
 n3:b5 < s1.nx
 nd:out.Nodup
 kp:Kept s s1
def AJ0 (s:St) (l1:List Int) (n:Int) (o1 on b5 it:Nat) (m:Nat) (g:Env) (s1:St):Prop :=
 ∃ (seen:List Nat) (out:List Int),m=l1.length - seen.length∧seen.Nodup∧(∀ j∈seen,j < l1.length)∧(∀ k,k∈out↔k+n∈Ci l1 seen∧0≤k)∧g.get 1=.int .i64 n∧g.get 4=.ptr (s.nx+1) 0∧g.get 5=.ptr b5 0 ∧
  g.get 13=.ptr it 0∧s1.m it=some (.iter (some o1) l1.length seen l1.length)∧b5 < it∧it < s1.nx∧AJz s l1 o1 on b5 out s1
theorem AJ1 (l1:List Int) (n:Int) (o1:Nat) (s:St) (hn0:0≤n) (hr:∀ k∈l1,i64 k) (h1:o1 < s.nx) (hm1:s.m o1=some (obS l1)) :
  AB Tryz.prog 166 [.agg [.bool false,.map o1],.int .i64 n] s fun r s'=>∃ o' l',r=.agg [.bool false,.map o']∧s.nx≤o'∧s'.m o'=some (obS l')∧l'.Nodup∧(∀ k,k∈l'↔k+n∈l1∧0≤k)∧s'.m o1=some (obS l1)∧Kept s s':=by
 refine AD mixed Tryz.func166 Tryz.call166 k166.2 rfl (AE _ _ _ _ ?_)
 simp -implicitDefEqProofs (disch:=first|omega|simp only[nx4]<;>omega|fail) [k166]
 refine AH (AB.mono (q87 _) fun r s2 hn2 h=>AW ?_)
 obtain⟨on,rfl,n1,n2,hon,hk2⟩:=h
 simp -implicitDefEqProofs (disch:=first|omega|simp only[nx4]<;>omega|fail)at n1 hn2
 have k0:=hk2 s.nx soz
 have k1:=hk2 (s.nx+1) smz
 have k3:=hk2 o1 soz
 simp -implicitDefEqProofs (disch:=first|omega|simp only[nx4]<;>omega|fail)at k0 k1 k3
 have hkp:Kept s s2:=fun q hq=>(hk2 q soz).trans smz
 have hO':s2.m o1=some (.map (BP 0 l1) l1.length):=k3.trans hm1
 simp -implicitDefEqProofs (disch:=first|omega|simp only[nx4]<;>omega|fail) [k0,k1,hO']
 refine AQ (AJ0 s l1 n o1 on s2.nx (s2.nx+1)) l1.length ⟨[],[],by simp,by simp,by simp,by simp [Ci],?_,?_,?_,?_,?_,?_,?_,⟨?_,?_,?_,?_,?_,?_,?_,?_,?_⟩⟩ ?_
 all_goals (try simp -implicitDefEqProofs (disch:=first|omega|simp only[nx4]<;>omega|fail) [k1,k3,hm1,hon,hkp])
 all_goals (try omega)
 clear k0 k1 k3 hO' hk2 hon
 rintro m g s4 ⟨seen,out2,rfl,hsn,hlts,hmo,e1,e4,e5,e13,hIT,hb1,hb2,J⟩
 have hO':s4.m o1=some (.map (BP 0 l1) l1.length):=J.m1
 have J3:=J.n3
 have J2:=J.n2
 have J1:=J.n1
 have hsle:seen.length≤l1.length:=ED hsn hlts
 simp -implicitDefEqProofs (disch:=first|omega|simp only[nx4]<;>omega|fail) [e13,hIT,hO']
 refine Ij ?_ (fun hall=>?_) (fun e he hes=>?_)
 ·cases l1 with
  | nil=>exact .inr (.inl rfl)
  | cons a r=>exact .inr (.inr ⟨_,by rw [BP];exact List.mem_cons_self ..,by simp⟩)
 ·have hva:=fun k=>LQ (k:=k) hsn hlts (fun j hj=>by simpa using hall _ (Ik l1 0 j hj) (by simpa using hj))
  simp -implicitDefEqProofs (disch:=first|omega|simp only[nx4]<;>omega|fail) [e4,e5,J.bx,J.rs]
  exact⟨by omega,out2,J.bo,J.nd,fun k=>by rw [hmo,hva],J.m1,fun q hq=>by simp -implicitDefEqProofs (disch:=first|omega|simp only[nx4]<;>omega|fail) [J.kp q hq]⟩
 ·obtain⟨j,hj,rfl⟩:=Fp l1 0 e he
  have hj':j ∉ seen:=by simpa using hes
  have hf:=Dy l1 0 j hj
  simp only [Nat.zero_add]at hf ⊢
  obtain⟨hsn',hlt2,hle'⟩:=JY hsn hlts hj hj'
  have hgd:l1[j]=l1.getD j 0:=by simp [hj]
  have hrj:=hr _ (List.getElem_mem hj)
  unfold i64 at hrj
  simp -implicitDefEqProofs (disch:=first|omega|simp only[nx4]<;>omega|fail) [e13,hO']
  refine Il (st:=j) (by simp) rfl hf ?_
  simp -implicitDefEqProofs (disch:=first|omega|simp only[nx4]<;>omega|fail) [e1]
  refine⟨fun hle=>?_,fun hgt=>?_⟩
  ·have w1:IntKind.i64.wrap (l1[j] - n)=l1[j] - n:=wrap64 (by omega) (by omega)
   simp -implicitDefEqProofs (disch:=first|omega|simp only[nx4]<;>omega|fail) [e1,e5,J.bx,J.bo,w1]
   refine N4 _ _ _ _ _ ?_
   simp -implicitDefEqProofs (disch:=first|omega|simp only[nx4]<;>omega|fail)
   refine AK (l1.length - (seen.length+1)) (by omega) ⟨seen++[j],HU out2 (l1[j] - n),by simp,hsn',hlt2,fun k=>?_,?_,?_,?_,?_,?_,?_,?_,⟨?_,?_,?_,?_,?_,?_,?_,GQ J.nd _,?_⟩⟩
   ·rw [Io,hmo,hgd]
    simp only [Ci,List.map_append,List.mem_append,List.map_cons,List.map_nil,List.mem_singleton]
    rw [hgd]at hle
    constructor
    ·rintro(⟨h1,h2⟩ | h)
     ·exact⟨.inl h1,h2⟩
     ·exact⟨.inr (by omega),by omega⟩
    ·rintro⟨h1 | h1,h2⟩
     ·exact .inl ⟨h1,h2⟩
     ·exact .inr (by omega)
   all_goals (try simp -implicitDefEqProofs (disch:=first|omega|simp only[nx4]<;>omega|fail) [e1,e4,e5,e13,J.bx,J.bo,J.m1,J.rs,J.kp])
   all_goals (try omega)
  ·refine AK (l1.length - (seen.length+1)) (by omega) ⟨seen++[j],out2,by simp,hsn',hlt2,fun k=>?_,?_,?_,?_,?_,?_,?_,?_,⟨?_,?_,?_,?_,?_,?_,?_,J.nd,?_⟩⟩
   ·rw [hmo]
    simp only [Ci,List.map_append,List.mem_append,List.map_cons,List.map_nil,List.mem_singleton]
    rw [hgd]at hgt
    constructor
    ·rintro⟨h1,h2⟩
     exact⟨.inl h1,h2⟩
    ·rintro⟨h1 | h1,h2⟩
     ·exact⟨h1,h2⟩
     ·omega
   all_goals (try simp -implicitDefEqProofs (disch:=first|omega|simp only[nx4]<;>omega|fail) [e1,e4,e5,e13,J.bx,J.bo,J.m1,J.rs,J.kp])
   all_goals (try omega)
theorem ADJ (x:ND) (n:Int) (hn:0≤n) (hx:x.ok) (hr:∀ k,x.has k→i64 k):AF Tryz.prog 166 [ndv x,.int .i64 n] (ndv (B5 n x)):=by
 cases x with
 | none =>
  refine AF.intro fun s=>AD mixed Tryz.func166 Tryz.call166 k166.2 rfl (AE _ _ _ _ ?_)
  simp -implicitDefEqProofs (disch:=first|omega|simp only[nx4]<;>omega|fail) [k166,ndv,B5]
 | some l1 =>
  refine ADB (l1:=l1) (l2:=l1) (A:=fun o1 o2=>[.agg [.bool false,.map o1],.int .i64 n]) Ra Tryz.call166 rfl (Co false) ?_ ?_
  ·intro ι F w vs h
   obtain⟨u,v,hu,hv,hR⟩:=LR h
   obtain⟨u1,hu1,hU⟩:=Gz hu
   exact⟨u1,u1,hu1,hu1,fun ι' F' o1 o2 h1 h2=>hR _ _ _ _ (hU _ _ _ h1) (Fo _ _ _ _ _ _ _ _ hv)⟩
  ·intro o1 o2 l1' l2' s hp1 hp2 h1 h2 hm1 hm2
   refine AB.mono (AJ1 l1' n o1 s hn (fun k hk=>hr k (hp1.mem_iff.1 hk)) h1 hm1) fun r s' hn h=>?_
   obtain⟨o',l',rfl,k1,k2,k3,k4,k5,k6⟩:=h
   exact⟨o',l',rfl,k1,k2,Gy k3 (IX hx _).nodup (fun k=>by rw [k4,EC,hp1.mem_iff]),k3,k5,(k6 o2 h2).trans hm2⟩
theorem ADK (n:Int) (l:List Int) (s:St) (K:KS):lkR false [.bool false] false (BP 0 l) (BL (.int .i64 n) (BP 0 l) 0) s K=K (.bool (decide (n∈l))) s:=by
 have hks:E9 (fun k:Int=>AV.int .i64 k) (BP 0 l) l:=by
  rw [Gw]
  unfold E9
  simp only [A6]
  apply List.ext_getElem
  ·simp
  ·intro i h1 h2
   simp
 exact HF (f:=fun k:Int=>AV.int .i64 k) Nt n hks s K
structure AJ2 (s:St) (l1 l2:List Int) (o1 o2 on b5:Nat) (out:List Int) (s1:St):Prop where
 bx:s1.m b5=some (.box [.bool false,.map on])
 bo:s1.m on=some (obS out)
 m1:s1.m o1=some (obS l1)
 m2:s1.m o2=some (obS l2)
 b3:s1.m (s.nx+1)=some (.box [.bool false,.map o2])
 rs:s1.m (s.nx+1+1)=some (.box [.bool false,.Ad])
 n1:s.nx+1+1 < on
 n2:on < b5
 n3:b5 < s1.nx
 nd:out.Nodup
def AJ3 (s:St) (l1 l2:List Int) (o1 o2 on b5 it:Nat) (m:Nat) (g:Env) (s1:St):Prop :=
 ∃ (seen:List Nat) (out:List Int),m=l1.length - seen.length∧seen.Nodup∧(∀ j∈seen,j < l1.length)∧(∀ k,k∈out↔k∈Ci l1 seen∧k∈l2)∧g.get 3=.ptr (s.nx+1) 0∧g.get 4=.ptr (s.nx+1+1) 0∧g.get 5=.ptr b5 0 ∧
  g.get 18=.ptr it 0∧s1.m it=some (.iter (some o1) l1.length seen l1.length)∧b5 < it∧it < s1.nx∧AJ2 s l1 l2 o1 o2 on b5 out s1
theorem AJ4 (l1 l2:List Int) (o1 o2:Nat) (s:St) (h1:o1 < s.nx) (h2:o2 < s.nx) (hm1:s.m o1=some (obS l1)) (hm2:s.m o2=some (obS l2)) :
  AB Tryz.prog 167 [.agg [.bool false,.map o1],.agg [.bool false,.map o2]] s fun r s'=>∃ o' l',r=.agg [.bool false,.map o']∧s.nx≤o'∧s'.m o'=some (obS l')∧l'.Nodup∧(∀ k,k∈l'↔k∈l1∧k∈l2)∧s'.m o1=some (obS l1)∧s'.m o2=some (obS l2):=by
 refine AD mixed Tryz.func167 Tryz.call167 k167.2 rfl (AE _ _ _ _ ?_)
 simp -implicitDefEqProofs (disch:=first|omega|simp only[nx4]<;>omega|fail) [k167]
 refine AH (AB.mono (q87 _) fun r s2 hn2 h=>AW ?_)
 obtain⟨on,rfl,n1,n2,hon,hk2⟩:=h
 simp -implicitDefEqProofs (disch:=first|omega|simp only[nx4]<;>omega|fail)at n1 hn2
 have k0:=hk2 s.nx soz
 have k1:=hk2 (s.nx+1) smz
 have k2:=hk2 (s.nx+1+1) smz
 have k3:=hk2 o1 soz
 have k4:=hk2 o2 soz
 simp -implicitDefEqProofs (disch:=first|omega|simp only[nx4]<;>omega|fail)at k0 k1 k2 k3 k4
 have hO':s2.m o1=some (.map (BP 0 l1) l1.length):=k3.trans hm1
 simp -implicitDefEqProofs (disch:=first|omega|simp only[nx4]<;>omega|fail) [k0,k1,hO']
 refine AQ (AJ3 s l1 l2 o1 o2 on s2.nx (s2.nx+1)) l1.length ⟨[],[],by simp,by simp,by simp,by simp [Ci],?_,?_,?_,?_,?_,?_,?_,⟨?_,?_,?_,?_,?_,?_,?_,?_,?_,?_⟩⟩ ?_
 all_goals (try simp -implicitDefEqProofs (disch:=first|omega|simp only[nx4]<;>omega|fail) [k1,k2,k3,k4,hm1,hm2,hon])
 all_goals (try omega)
 clear k0 k1 k2 k3 k4 hO' hk2 hon
 rintro m g s4 ⟨seen,out2,rfl,hsn,hlts,hmo,e3,e4,e5,e18,hIT,hb1,hb2,J⟩
 have hO':s4.m o1=some (.map (BP 0 l1) l1.length):=J.m1
 have hO2:s4.m o2=some (.map (BP 0 l2) l2.length):=J.m2
 have J3:=J.n3
 have J2:=J.n2
 have J1:=J.n1
 have hsle:seen.length≤l1.length:=ED hsn hlts
 simp -implicitDefEqProofs (disch:=first|omega|simp only[nx4]<;>omega|fail) [e18,hIT,hO']
 refine Ij ?_ (fun hall=>?_) (fun e he hes=>?_)
 ·cases l1 with
  | nil=>exact .inr (.inl rfl)
  | cons a r=>exact .inr (.inr ⟨_,by rw [BP];exact List.mem_cons_self ..,by simp⟩)
 ·have hva:=fun k=>LQ (k:=k) hsn hlts (fun j hj=>by simpa using hall _ (Ik l1 0 j hj) (by simpa using hj))
  simp -implicitDefEqProofs (disch:=first|omega|simp only[nx4]<;>omega|fail) [e4,e5,J.bx,J.rs]
  exact⟨by omega,out2,J.bo,J.nd,fun k=>by rw [hmo,hva],J.m1,J.m2⟩
 ·obtain⟨j,hj,rfl⟩:=Fp l1 0 e he
  have hj':j ∉ seen:=by simpa using hes
  have hf:=Dy l1 0 j hj
  simp only [Nat.zero_add]at hf ⊢
  obtain⟨hsn',hlt2,hle'⟩:=JY hsn hlts hj hj'
  have hgd:l1[j]=l1.getD j 0:=by simp [hj]
  have hlk:=fun s K=>ADK l1[j] l2 s K
  simp -implicitDefEqProofs (disch:=first|omega|simp only[nx4]<;>omega|fail) [e18,hO']
  refine Il (st:=j) (by simp) rfl hf ?_
  simp -implicitDefEqProofs (disch:=first|omega|simp only[nx4]<;>omega|fail) [e3,J.b3,hO2,hlk]
  refine⟨fun hle=>?_,fun hgt=>?_⟩
  ·simp -implicitDefEqProofs (disch:=first|omega|simp only[nx4]<;>omega|fail) [e5,J.bx,J.bo]
   refine N4 _ _ _ _ _ ?_
   simp -implicitDefEqProofs (disch:=first|omega|simp only[nx4]<;>omega|fail)
   refine AK (l1.length - (seen.length+1)) (by omega) ⟨seen++[j],HU out2 l1[j],by simp,hsn',hlt2,fun k=>?_,?_,?_,?_,?_,?_,?_,?_,⟨?_,?_,?_,?_,?_,?_,?_,?_,?_,GQ J.nd _⟩⟩
   ·rw [Io,hmo]
    rw [hgd]at hle ⊢
    simp only [Ci,List.map_append,List.mem_append,List.map_cons,List.map_nil,List.mem_singleton]
    constructor
    ·rintro(⟨h1,h2⟩ | rfl)
     ·exact⟨.inl h1,h2⟩
     ·exact⟨.inr rfl,hle⟩
    ·rintro⟨h1 | h1,h2⟩
     ·exact .inl ⟨h1,h2⟩
     ·exact .inr h1
   all_goals (try simp -implicitDefEqProofs (disch:=first|omega|simp only[nx4]<;>omega|fail) [e3,e4,e5,e18,J.bx,J.bo,J.m1,J.m2,J.b3,J.rs])
   all_goals (try omega)
  ·refine AK (l1.length - (seen.length+1)) (by omega) ⟨seen++[j],out2,by simp,hsn',hlt2,fun k=>?_,?_,?_,?_,?_,?_,?_,?_,⟨?_,?_,?_,?_,?_,?_,?_,?_,?_,J.nd⟩⟩
   ·rw [hmo]
    rw [hgd]at hgt
    simp only [Ci,List.map_append,List.mem_append,List.map_cons,List.map_nil,List.mem_singleton]
    constructor
    ·rintro⟨h1,h2⟩
     exact⟨.inl h1,h2⟩
    ·rintro⟨h1 | h1,h2⟩
     ·exact⟨h1,h2⟩
     ·subst h1;exact absurd h2 hgt
   all_goals (try simp -implicitDefEqProofs (disch:=first|omega|simp only[nx4]<;>omega|fail) [e3,e4,e5,e18,J.bx,J.bo,J.m1,J.m2,J.b3,J.rs])
   all_goals (try omega)
theorem AJ5 (x y:ND) (hx:x.ok) (hy:y.ok):AF Tryz.prog 167 [ndv x,ndv y] (ndv (BU x y)):=by
 cases x with
 | none =>
  refine AF.intro fun s=>AD mixed Tryz.func167 Tryz.call167 k167.2 rfl (AE _ _ _ _ ?_)
  cases y
  all_goals simp -implicitDefEqProofs (disch:=first|omega|simp only[nx4]<;>omega|fail) [k167,ndv,BU]
 | some l1 =>
  cases y with
  | none =>
   refine AF.intro fun s=>AD mixed Tryz.func167 Tryz.call167 k167.2 rfl (AE _ _ _ _ ?_)
   simp -implicitDefEqProofs (disch:=first|omega|simp only[nx4]<;>omega|fail) [k167,ndv,BU]
  | some l2 =>
   refine ADB (l1:=l1) (l2:=l2) (A:=fun o1 o2=>[.agg [.bool false,.map o1],.agg [.bool false,.map o2]]) Ra Tryz.call167 rfl (Co false) ?_ ?_
   ·intro ι F w vs h
    obtain⟨u,v,hu,hv,hR⟩:=LR h
    obtain⟨u1,hu1,hU⟩:=Gz hu
    obtain⟨v1,hv1,hV⟩:=Gz hv
    exact⟨u1,v1,hu1,hv1,fun ι' F' o1 o2 h1 h2=>hR _ _ _ _ (hU _ _ _ h1) (hV _ _ _ h2)⟩
   ·intro o1 o2 l1' l2' s hp1 hp2 h1 h2 hm1 hm2
    refine AB.mono (AJ4 l1' l2' o1 o2 s h1 h2 hm1 hm2) fun r s' hn h=>?_
    obtain⟨o',l',rfl,k1,k2,k3,k4,k5,k6⟩:=h
    exact⟨o',l',rfl,k1,k2,Gy k3 (ML hx).nodup (fun k=>by rw [k4,He,hp1.mem_iff,hp2.mem_iff];simp),k3,k5,k6⟩
theorem AJ6 (s:ByteArray) (h:∃ k,arI s=some k):AF Tryz.prog 168 [.str s] (.bool (decide (9 < Ab s))):=by
 refine AF.intro fun st=>AD mixed Tryz.func168 Tryz.call168 AJc rfl (AE _ _ _ _ ?_)
 have h1:=LH s
 have h2:=Wd s
 obtain⟨k,hk⟩:=h
 have h0:0≤Ab s:=by
  unfold arI at hk
  split at hk
  ·cases hk
  ·omega
 rw [hk]at h1
 have hg1:EM=.Ai [.Dc Hx]:=rfl
 have hg2:Ns=.Ai [.Dc Hy]:=rfl
 by_cases hp:UR s=true
 ·have hd:¬ 9 < Ab s:=by simp only [UR,decide_eq_true_eq,Bool.and_eq_true]at hp;omega
  rw [if_pos hp]at h2
  simp -implicitDefEqProofs (disch:=first|omega|simp only[nx4]<;>omega|fail) [a168,WI,RL,RM,RN,hg1,hg2,h1,h2,hd,A2]
 ·have hd:9 < Ab s:=by simp only [UR,decide_eq_true_eq,Bool.and_eq_true]at hp;omega
  rw [if_neg hp]at h2
  simp -implicitDefEqProofs (disch:=first|omega|simp only[nx4]<;>omega|fail) [a168,WI,RL,RM,RN,hg1,hg2,h1,h2,hd,A2]
end Go.AL.Dm
namespace Go.AL.Dm
theorem LS (K:ByteArray→Kn) (l:List Pl):(l.map fun x=>(x,AM K x,Bm K x)).map (·.2.1)=l.map (AM K):=by simp
section
variable {K:ByteArray→Kn} {t:Pl}
theorem G0 (h:t.op=1):AM K t=some [t.n]:=by rw [Cv,comb.eq_def,if_pos h]
theorem JZ (h:t.op=2):AM K t=if (K t.s).w=0∧(K t.s).BV=true then none else some []:=by rw [Cv,comb.eq_def,if_neg (by omega),if_pos h]
theorem HJ (h:t.op=3∨t.op=4∨t.op=5):AM K t=some []:=by
 rw [Cv,comb.eq_def,if_neg (by omega),if_neg (by omega),if_neg (by omega),if_neg (by omega),if_neg (by omega),if_neg (by omega)]
theorem Ip (h:t.op=6) {f:Pl} {l:List Pl} (ha:t.args=f::l):AM K t=(if f.op=5∧f.n≤(l.length:Int)then Aw (Bm K f) f.n 0 (l.map (AM K)) (B5 f.n (Bm K f))else if f.op≠2 then AM K f else if (K f.s).w=0 then AM K f
  else if (l.length:Int) < (K f.s).w then some []else if (K f.s).BV=true then none else Av (K f.s).st (l.map (AM K)) (some [])):=by
 rw [Cv,comb.eq_def,if_neg (by omega),if_neg (by omega),if_pos h,ha,List.map_cons]
 simp only [LS,List.length_map]
theorem LU (h:t.op=7) {vs:List Pl} {b:Pl} (ha:t.args=vs++[b]):AM K t=DE (vs.map (AM K)) (AM K b):=by
 rw [Cv,comb.eq_def,if_neg (by omega),if_neg (by omega),if_neg (by omega),if_pos h,ha]
 simp
 rfl
theorem Iq (h:t.op=8) {x:Pl} (ha:t.args=[x]):AM K t=BB (AM K x) ((t.alts.map fun a=>B5 (bnd a.1) (AM K a.2)).foldl BU none):=by
 rw [Cv,comb.eq_def,if_neg (by omega),if_neg (by omega),if_neg (by omega),if_neg (by omega),if_pos h,ha]
 simp
 rfl
theorem Hz (h:t.op=9) (hs:t.s=BZ):AM K t=none:=by
 rw [Cv,comb.eq_def,if_neg (by omega),if_neg (by omega),if_neg (by omega),if_neg (by omega),if_neg (by omega),if_pos h,if_pos hs]
theorem LV (h:t.op=9) (hs:t.s≠BZ) (hp:¬ Ab t.s < 9):AM K t=some []:=by
 rw [Cv,comb.eq_def,if_neg (by omega),if_neg (by omega),if_neg (by omega),if_neg (by omega),if_neg (by omega),if_pos h,if_neg hs,if_neg hp]
theorem Ja (h:t.op=9) (hs:t.s≠BZ) (hp:Ab t.s < 9) {x y:Pl} (ha:t.args=[x,y]):AM K t=BB (AM K x) (AM K y):=by
 rw [Cv,comb.eq_def,if_neg (by omega),if_neg (by omega),if_neg (by omega),if_neg (by omega),if_neg (by omega),if_pos h,if_neg hs,if_pos hp,ha]
 simp
end
theorem MP:Ab BZ=9:=by kernel_rfl
theorem LW:∀ (l:List ByteArray) (a b:ByteArray) (i:Int),0≤i→0≤Fq l a i→Fq l a i=Fq l b i→a=b
 | [],a,b,i,_,h,_=>by simp [Fq]at h
 | x::r,a,b,i,hi,h,e=>by
  simp only [Fq]at h e
  have hle:=fun t=>N5 r t (i+1) (by omega)
  have hlb:∀ (l:List ByteArray) (t:ByteArray) (i:Int),Fq l t i=-1∨i≤Fq l t i:=by
   intro l
   induction l with
   | nil=>intro t i;simp [Fq]
   | cons y l ih =>
    intro t i
    simp only [Fq]
    split
    ·exact .inr (by omega)
    ·rcases ih t (i+1)with h | h
     ·exact .inl h
     ·exact .inr (by omega)
  split at h
  ·rename_i e1
   rw [if_pos e1]at e
   split at e
   ·rename_i e2;rw [← e1,← e2]
   ·rcases hlb r b (i+1)with h2 | h2 <;> omega
  ·rename_i e1
   rw [if_neg e1]at e
   split at e
   ·rcases hlb r a (i+1)with h2 | h2 <;> omega
   ·exact LW r a b (i+1) (by omega) h e
theorem Jb {s:ByteArray}:s=BZ↔Ab s=9:=by
 constructor
 ·rintro rfl;exact MP
 ·intro h
  refine LW EE s BZ 0 (by omega) ?_ ?_
  ·change 0≤Ab s;omega
  ·change Ab s=Ab BZ;rw [h,MP]
theorem H0 {s:ByteArray} {k:Int} (h:arI s=some k) (hp:Ab s < 9):k=2:=by
 unfold arI at h
 split at h
 ·cases h
 ·rename_i h0
  obtain⟨n,hn⟩:∃ n:Nat,Ab s=n:=⟨(Ab s).toNat,by omega⟩
  rw [hn]at h hp
  have:n < 9:=by omega
  simp only [Int.toNat_natCast]at h
  match n,this with
  | 0,_ | 1,_ | 2,_ | 3,_ | 4,_ | 5,_ | 6,_ | 7,_ | 8,_=>simpa [ars] using h.symm
def NB (x:ND):Prop:=∀ k,x.has k→0≤k∧k≤9223372036854775807
theorem Jc:NB (some []):=fun k h=>by simp [ND.has]at h
theorem GR:NB none:=fun k h=>by simp [ND.has]at h
theorem HK {a b:ND} (ha:NB a) (hb:NB b):NB (BB a b):=by
 cases a <;> cases b <;> try exact GR
 intro k hk
 simp only [BB,ND.has,Cf]at hk
 exact hk.elim (ha k) (hb k)
theorem We {a:ND} {n:Int} (hn:0≤n) (ha:NB a):NB (B5 n a):=by
 cases a with
 | none=>exact GR
 | some l =>
  intro k hk
  simp only [B5,ND.has,EC]at hk
  have:=ha (k+n) hk.1
  omega
theorem Yx {a b:ND} (ha:NB a) (hb:NB b):NB (BU a b):=by
 cases a with
 | none=>exact hb
 | some l =>
  cases b with
  | none=>exact ha
  | some m =>
   intro k hk
   simp only [BU,ND.has,He,List.mem_filter]at hk
   exact ha k hk.1
theorem Pf:∀ (bs:List Bool) (xs:List ND) (acc:ND),(∀ x∈xs,NB x)→NB acc→NB (Av bs xs acc)
 | [],xs,acc,_,h=>by cases xs <;> exact h
 | b::bs,[],acc,_,h=>h
 | b::bs,x::xs,acc,hx,h=>by
  rw [Av]
  refine Pf bs xs _ (fun y hy=>hx y (by simp [hy])) ?_
  split
  ·exact HK h (hx x (by simp))
  ·exact h
theorem Wf (fb:ND) (n:Int):∀ (xs:List ND) (i:Int) (acc:ND),(∀ x∈xs,NB x)→NB acc→NB (Aw fb n i xs acc)
 | [],i,acc,_,h=>h
 | x::xs,i,acc,hx,h=>by
  rw [Aw]
  split
  ·refine Wf fb n xs _ _ (fun y hy=>hx y (by simp [hy])) ?_
   split
   ·exact HK h (hx x (by simp))
   ·exact h
  ·exact h
theorem Sl:∀ (l:List ND) (acc:ND),(∀ x∈l,NB x)→NB acc→NB (l.foldl BU acc)
 | [],acc,_,h=>h
 | x::l,acc,hx,h=>Sl l _ (fun y hy=>hx y (by simp [hy])) (Yx h (hx x (by simp)))
theorem ADL {vs:List ND} {b:ND} (hv:∀ x∈vs,NB x) (hb:NB b):NB (DE vs b):=by
 by_cases h:JP vs.length (valOf vs) b
 ·rw [DJ.2 h];exact GR
 ·obtain⟨l,e,_,hm⟩:=DK h
  rw [e]
  intro k hk
  obtain⟨h1,h2⟩:=(hm k).1 hk
  have h3:=K9 h1
  rcases List.mem_append.1 h3 with h3 | h3
  ·cases b with
   | none=>simp at h3
   | some lb=>have:=hb _ h3;omega
  ·obtain⟨x,hx,hk2⟩:=List.mem_flatMap.1 h3
   cases x with
   | none=>simp at hk2
   | some lx=>have:=hv _ hx _ hk2;omega
theorem HL {α:Type} {l:List α} (h:l.length=2):∃ x y,l=[x,y]:=by
 match l,h with
 | [x,y],_=>exact⟨x,y,rfl⟩
theorem Dz {α:Type} {l:List α} (h:l≠[]):∃ vs b,l=vs++[b]:=⟨l.dropLast,l.getLast h,(List.dropLast_concat_getLast h).symm⟩
theorem Ir (K:ByteArray→Kn) (t:Pl):wf t=true→rng t→NB (AM K t)∧NB (Bm K t):=by
 induction t using Pl.ind with
 | h t ih1 ih2 =>
  intro hw hr
  obtain⟨hnd,hwa,hwb⟩:=A5 hw
  have hr':=(Cc t).1 hr
  have h1:∀ x∈t.args,NB (AM K x)∧NB (Bm K x):=fun x hx=>ih1 x hx (hwa x hx) (hr'.2.2.1 x hx)
  have h2:∀ a∈t.alts,NB (AM K a.2):=fun a ha=>(ih2 a ha (hwb a ha) (hr'.2.2.2 a ha).2.2).1
  refine⟨?_,?_⟩
  ·have ho:=hnd.op
   by_cases o1:t.op=1
   ·rw [G0 o1]
    intro k hk
    simp only [ND.has,List.mem_singleton]at hk
    subst hk
    exact⟨(hnd.var o1).1,hr'.2.1.2⟩
   by_cases o2:t.op=2
   ·rw [JZ o2];split
    ·exact GR
    ·exact Jc
   by_cases o3:t.op=3∨t.op=4∨t.op=5
   ·rw [HJ o3];exact Jc
   by_cases o6:t.op=6
   ·obtain⟨f,l,hfl⟩:∃ f l,t.args=f::l:=by
     cases h:t.args with
     | nil=>have:=hnd.app o6;rw [h]at this;simp at this
     | cons f l=>exact⟨f,l,rfl⟩
    have hf:=h1 f (by rw [hfl];simp)
    have hl:∀ x∈l.map (AM K),NB x:=by
     intro x hx
     obtain⟨y,hy,rfl⟩:=List.mem_map.1 hx
     exact(h1 y (by rw [hfl];simp [hy])).1
    rw [Ip o6 hfl]
    split
    ·rename_i hc
     have hwf:=A5 (hwa f (by rw [hfl];simp))
     exact Wf _ _ _ _ _ hl (We (by have:=hwf.1.lam hc.1;omega) hf.2)
    split
    ·exact hf.1
    split
    ·exact hf.1
    split
    ·exact Jc
    split
    ·exact GR
    ·exact Pf _ _ _ hl Jc
   by_cases o7:t.op=7
   ·obtain⟨vs,b,hvb⟩:=Dz (l:=t.args) (by intro h;have:=hnd.lt o7;rw [h]at this;simp at this)
    rw [LU o7 hvb]
    refine ADL (fun x hx=>?_) (h1 b (by rw [hvb];simp)).1
    obtain⟨y,hy,rfl⟩:=List.mem_map.1 hx
    exact(h1 y (by rw [hvb];simp [hy])).1
   by_cases o8:t.op=8
   ·obtain⟨x,hx⟩:=List.length_eq_one_iff.1 (hnd.cas o8).1
    rw [Iq o8 hx]
    refine HK (h1 x (by rw [hx];simp)).1 (Sl _ _ (fun y hy=>?_) GR)
    obtain⟨a,ha,rfl⟩:=List.mem_map.1 hy
    exact We (by have:=hnd.bnd ha;omega) (h2 a ha)
   ·have o9:t.op=9:=by omega
    by_cases hs:t.s=BZ
    ·rw [Hz o9 hs];exact GR
    by_cases hp:Ab t.s < 9
    ·obtain⟨k,hk,hl⟩:=hnd.prm o9
     have:=H0 hk hp
     obtain⟨x,y,hxy⟩:=HL (show t.args.length=2 by omega)
     rw [Ja o9 hs hp hxy]
     exact HK (h1 x (by rw [hxy];simp)).1 (h1 y (by rw [hxy];simp)).1
    ·rw [LV o9 hs hp];exact Jc
  ·rw [Ey]
   cases h:t.args with
   | nil=>exact Jc
   | cons x l=>exact(h1 x (by rw [h];simp)).1
end Go.AL.Dm
namespace Go.AL.Dm
open Go Go.Proofs
def ndm:ND→AV
 | none=>.Ad
 | some l=>.Bp (A6 l)
theorem A3 (x:ND):ndv x=.agg [.bool x.isNone,ndm x]:=by cases x <;> rfl
@[simp] theorem AFc (x:ND):(ndm x).isVal=true:=by cases x <;> rfl
@[simp] theorem AFd (x:ND):(ndm x).cells=[ndm x]:=by cases x <;> rfl
theorem MQ (k:Int):∀ l:List Int,DV (.int .i64 k) (A6 l)=some (if k∈l then some (.bool true)else none)
 | []=>rfl
 | a::l=>by
  have ih:=MQ k l
  simp only [A6,List.map_cons,DV,keq,if_true]at ih ⊢
  rw [ih]
  by_cases h:k=a
  ·subst h;simp
  ·simp [h]
theorem Rb (x:ND) (k:Int) (s:St) (K:KS):go (lkV false false [.bool false] false (ndm x) (.int .i64 k) s K)=go (K (.bool (decide (x.has k))) s):=by
 cases x with
 | none =>
  have h:decide (ND.has none k)=false:=decide_eq_false (by simp [ND.has])
  rw [h,ndm]
  simp [A2]
 | some l =>
  rw [ndm]
  simp only [Jw,MQ,Pg]
  have e:(ND.has (some l) k)=(k∈l):=rfl
  by_cases h:k∈l <;> simp [h,A2,e,ok,Bf]
def kr (k:Kn):List AV:=[.bool (k.st.getD 0 false),.bool (k.st.getD 1 false),.bool (k.st.getD 2 false),.bool (k.st.getD 3 false),.bool (k.st.getD 4 false),.bool (k.st.getD 5 false),.bool (k.st.getD 6 false),.bool (k.st.getD 7 false),.bool k.BV]
@[simp] theorem AJ7 (k:Kn):(kr k).length=9:=rfl
theorem Yy {k:Kn} {i:Nat} (h:i < 8):(kr k).drop i=.bool (k.st.getD i false)::(kr k).drop (i+1):=by
 match i,h with
 | 0,_ | 1,_ | 2,_ | 3,_ | 4,_ | 5,_ | 6,_ | 7,_=>rfl
@[simp] theorem ALK (k:Kn):(kr k).drop 8=[.bool k.BV]:=rfl
def kAV (k:Kn):AV:=.agg (.int .i64 k.w::kr k)
def Kn.zero:Kn:=⟨0,[],false⟩
def AJ (D:List (ByteArray × Kn)) (s:ByteArray):Kn:=((D.find? fun p=>decide (p.1=s)).map (·.2)).getD Kn.zero
def kes (D:List (ByteArray × Kn)):List (AV × AV):=D.map fun p=>(.str p.1,kAV p.2)
theorem MR (s:ByteArray):∀ D:List (ByteArray × Kn),DV (.str s) (kes D)=some ((D.find? fun p=>decide (p.1=s)).map fun p=>kAV p.2)
 | []=>rfl
 | p::D=>by
  have ih:=MR s D
  simp only [kes,List.map_cons,DV,keq]at ih ⊢
  rw [ih]
  by_cases h:s=p.1
  ·subst h;simp
  ·have h':¬ p.1=s:=fun e=>h e.symm
   simp [h,h']
def kz:List AV:=[.int .i64 0,.bool false,.bool false,.bool false,.bool false,.bool false,.bool false,.bool false,.bool false,.bool false]
theorem Wg (D:List (ByteArray × Kn)) (n:ByteArray) (s:St) (K:KS):go (lkV true false kz true (.Bp (kes D)) (.str n) s K)=go (K (kAV (AJ D n)) s):=by
 simp only [Jw,MR]
 have e:A2 false kz true ((D.find? fun p=>decide (p.1=n)).map fun p=>kAV p.2)=kAV (AJ D n):=by
  unfold AJ
  cases D.find? fun p=>decide (p.1=n)with
  | none=>rfl
  | some p=>rfl
 have e2:lkC false kz true (some ((D.find? fun p=>decide (p.1=n)).map fun p=>kAV p.2)) s K=K (kAV (AJ D n)) s:=by rw [← e];rfl
 rw [e2]
 simp [ok,Bf]
def ana (D:List (ByteArray × Kn)):AV:=.Ai [.Bp (kes D)]
@[simp] theorem AFe (D:List (ByteArray × Kn)):(ana D).isVal=true:=rfl
@[simp] theorem AFf (D:List (ByteArray × Kn)):(ana D).cells=[ana D]:=rfl
structure Ph (D:List (ByteArray × Kn)):Prop where
 w:∀ n,0≤(AJ D n).w∧(AJ D n).w≤8
 st:∀ n,((AJ D n).st.length:Int)=(AJ D n).w
theorem p88 (D:List (ByteArray × Kn)):AF Tryz.prog 88 [ana D] (.Bp [(.int .i64 1,.fn 122 [] []),(.int .i64 2,.fn 123 [ana D] []),(.int .i64 3,.fn 121 [] []),(.int .i64 4,.fn 121 [] []),(.int .i64 5,.fn 121 [] []),
  (.int .i64 6,.fn 124 [ana D] []),(.int .i64 7,.fn 125 [] [.Ai [ana D]]),(.int .i64 8,.fn 127 [ana D] []),(.int .i64 9,.fn 128 [ana D] [])]):=by
 refine AF.intro fun s=>AB.ADA (AD mixed Tryz.func88 Tryz.call88 k88.2 rfl (AE _ _ _ _ ?_))
 simp -implicitDefEqProofs (disch:=first|omega|simp only[nx4]<;>omega|fail) [k88,BL,Hn,keq]
 refine⟨_,[(.int .i64 1,.fn 122 [] []),(.int .i64 2,.fn 123 [ana D] []),(.int .i64 3,.fn 121 [] []),(.int .i64 4,.fn 121 [] []),(.int .i64 5,.fn 121 [] []),
  (.int .i64 6,.fn 124 [ana D] []),(.int .i64 7,.fn 125 [] [.Ai [ana D]]),(.int .i64 8,.fn 127 [ana D] []),(.int .i64 9,.fn 128 [ana D] [])],_,rfl,by simp -implicitDefEqProofs (disch:=first|omega|simp only[nx4]<;>omega|fail) [DM],List.Perm.refl _,?_,by simp,AS _,?_⟩
 ·intro p hp
  simp only [List.mem_cons,List.not_mem_nil,or_false]at hp
  rcases hp with rfl | rfl | rfl | rfl | rfl | rfl | rfl | rfl | rfl <;> trivial
 ·exact smz
def C49 (D:List (ByteArray × Kn)) (t:Pl):Prop:=wf t=true→small t→rng t→AF Tryz.prog 49 [ana D,t.av] (ndv (AM (AJ D) t))
theorem AJ8 (D:List (ByteArray × Kn)) (t:Pl):AF Tryz.prog 123 [ana D,t.av] (ndv (if (AJ D t.s).w=0∧(AJ D t.s).BV=true then none else some [])):=by
 refine AF.intro fun s=>AD mixed Tryz.func123 Tryz.call123 k123.2 rfl (AE _ _ _ _ ?_)
 have hk:=fun s K=>Wg D t.s s K
 generalize AJ D t.s=k at hk ⊢
 have hkz:kz=[.int .i64 0,.bool false,.bool false,.bool false,.bool false,.bool false,.bool false,.bool false,.bool false,.bool false]:=rfl
 rw [hkz]at hk
 have hka:kAV k=.agg (.int .i64 k.w::kr k):=rfl
 simp -implicitDefEqProofs (disch:=first|omega|simp only[nx4]<;>omega|fail) [k123,ana,hk,hka]
 intro m hm
 by_cases h1:k.w=0
 ·cases h2:k.BV
  ·simp -implicitDefEqProofs (disch:=first|omega|simp only[nx4]<;>omega|fail) [h1,h2]
   refine AA p87 fun mm1 hm1=>?_
   try simp only [nx4]at hm1
   simp -implicitDefEqProofs (disch:=first|omega|simp only[nx4]<;>omega|fail) [ndv]
  ·simp -implicitDefEqProofs (disch:=first|omega|simp only[nx4]<;>omega|fail) [h1,h2]
   refine AA UQ fun mm2 hm2=>?_
   try simp only [nx4]at hm2
   simp -implicitDefEqProofs (disch:=first|omega|simp only[nx4]<;>omega|fail) [ndv]
 ·simp -implicitDefEqProofs (disch:=first|omega|simp only[nx4]<;>omega|fail) [h1]
  refine AA p87 fun mm3 hm3=>?_
  try simp only [nx4]at hm3
  simp -implicitDefEqProofs (disch:=first|omega|simp only[nx4]<;>omega|fail) [ndv]
theorem Wh (x y:ND) (hx:x.ok) (hy:y.ok):AF Tryz.prog 165 [.agg [.bool x.isNone,ndm x],.agg [.bool y.isNone,ndm y]] (ndv (BB x y)):=by
 rw [← A3,← A3];exact ADI x y hx hy
theorem AJ9 (D:List (ByteArray × Kn)) (t:Pl) (hw:wf t=true) (hs:small t) (hr:rng t) (o9:t.op=9) (ih:∀ x∈t.args,C49 D x):AF Tryz.prog 128 [ana D,t.av] (ndv (AM (AJ D) t)):=by
 refine AF.intro fun s=>AD mixed Tryz.func128 Tryz.call128 k128.2 rfl (AE _ _ _ _ ?_)
 obtain⟨hnd,hwa,hwb⟩:=A5 hw
 obtain⟨k,hk,hlen⟩:=hnd.prm o9
 have h168:=AJ6 t.s ⟨k,hk⟩
 have hr':=(Cc t).1 hr
 have hth:BZ=⟨#[116,104,114,111,119]⟩:=rfl
 by_cases ht:t.s=BZ
 ·rw [Hz o9 ht]
  rw [hth]at ht
  simp -implicitDefEqProofs (disch:=first|omega|simp only[nx4]<;>omega|fail) [k128,ht]
  refine AA UQ fun mm4 hm4=>?_
  try simp only [nx4]at hm4
  simp -implicitDefEqProofs (disch:=first|omega|simp only[nx4]<;>omega|fail) [ndv]
 have ht':¬ t.s=⟨#[116,104,114,111,119]⟩:=ht
 by_cases hp:Ab t.s < 9
 ·have h2:=H0 hk hp
  obtain⟨x,y,hxy⟩:=HL (show t.args.length=2 by omega)
  rw [Ja o9 ht hp hxy]
  have hd:¬ 9 < Ab t.s:=by omega
  rw [decide_eq_false hd]at h168
  have hx:x∈t.args:=by rw [hxy];simp
  have hy:y∈t.args:=by rw [hxy];simp
  have ihx:=ih x hx (hwa x hx) (BS hs hx) (hr'.2.2.1 x hx)
  have ihy:=ih y hy (hwa y hy) (BS hs hy) (hr'.2.2.1 y hy)
  have hxo:=DX (AJ D) x
  have hyo:=DX (AJ D) y
  generalize AM (AJ D) x=nx at ihx hxo ⊢
  generalize AM (AJ D) y=ny at ihy hyo ⊢
  have h165:=ADI nx ny hxo hyo
  simp -implicitDefEqProofs (disch:=first|omega|simp only[nx4]<;>omega|fail) [k128,ht']
  have gl:t.args.length=2:=by rw [hxy];rfl
  have g0:t.args[0]'(by omega)=x:=by simp [hxy]
  have g1:t.args[1]'(by omega)=y:=by simp [hxy]
  refine AA h168 fun mm5 hm5=>?_
  try simp only [nx4]at hm5
  simp -implicitDefEqProofs (disch:=first|omega|simp only[nx4]<;>omega|fail) [g0,g1,gl]
  refine AO ihx ?_
  simp -implicitDefEqProofs (disch:=first|omega|simp only[nx4]<;>omega|fail) [g1,gl]
  refine AO ihy ?_
  simp -implicitDefEqProofs (disch:=first|omega|simp only[nx4]<;>omega|fail) []
  refine AO h165 ?_
  simp -implicitDefEqProofs (disch:=first|omega|simp only[nx4]<;>omega|fail) [A3]
 ·have hp9:Ab t.s≠9:=fun h=>ht (Jb.2 h)
  have hd:9 < Ab t.s:=by omega
  rw [decide_eq_true hd]at h168
  rw [LV o9 ht hp]
  simp -implicitDefEqProofs (disch:=first|omega|simp only[nx4]<;>omega|fail) [k128,ht']
  refine AA h168 fun mm6 hm6=>?_
  try simp only [nx4]at hm6
  simp -implicitDefEqProofs (disch:=first|omega|simp only[nx4]<;>omega|fail) []
  refine AA p87 fun mm7 hm7=>?_
  try simp only [nx4]at hm7
  simp -implicitDefEqProofs (disch:=first|omega|simp only[nx4]<;>omega|fail) [ndv]
end Go.AL.Dm
namespace Go.AL.Dm
open Go Go.Proofs
noncomputable def fA (K:ByteArray→Kn) (a:Hd × Pl):ND:=B5 (bnd a.1) (AM K a.2)
def AKA (D:List (ByteArray × Kn)) (t:Pl) (nx fin:ND) (b5 b6:Nat) (s:St) (m:Nat) (g:Env) (s1:St):Prop :=
 ∃ (i:Nat) (acc:ND),i≤t.alts.length∧m=t.alts.length - i∧((t.alts.drop i).map (fA (AJ D))).foldl BU acc=fin∧acc.ok∧g.get 0=ana D∧g.get 4=.ptr (s.nx+1) 0∧g.get 5=.ptr b5 0∧g.get 6=.ptr b6 0 ∧
  g.get 20=.list 8 .none (t.alts.map Pl.BK)∧g.get 21=.int .i64 t.alts.length∧g.get 22=.int .i64 i∧s1.m (s.nx+1)=some (.box [.bool false,.Ad])∧s1.m b5=some (.box [.bool false,ndm nx])∧s1.m b6=some (.box [.bool acc.isNone,ndm acc])∧Kept s s1∧b6 < s1.nx
theorem AKB (D:List (ByteArray × Kn)) (t:Pl) (hw:wf t=true) (hs:small t) (hr:rng t) (o8:t.op=8) (ih:∀ x∈t.args,C49 D x) (ih2:∀ a∈t.alts,C49 D a.2):AF Tryz.prog 127 [ana D,t.av] (ndv (AM (AJ D) t)):=by
 refine AF.intro fun s=>AD mixed Tryz.func127 Tryz.call127 k127.2 rfl (AE _ _ _ _ ?_)
 obtain⟨hnd,hwa,hwb⟩:=A5 hw
 have hr':=(Cc t).1 hr
 obtain⟨hl1,_,hal⟩:=hnd.cas o8
 obtain⟨x,hx⟩:=List.length_eq_one_iff.1 hl1
 rw [Iq o8 hx]
 have hxm:x∈t.args:=by rw [hx];simp
 have ihx:=ih x hxm (hwa x hxm) (BS hs hxm) (hr'.2.2.1 x hxm)
 have hxo:=DX (AJ D) x
 have gl:t.args.length=1:=by rw [hx];rfl
 have g0:t.args[0]'(by omega)=x:=by simp [hx]
 generalize AM (AJ D) x=nx at ihx hxo ⊢
 simp -implicitDefEqProofs (disch:=first|omega|simp only[nx4]<;>omega|fail) [k127,gl,g0]
 refine AA ihx fun mm1 hm1=>?_
 try simp only [nx4]at hm1
 simp -implicitDefEqProofs (disch:=first|omega|simp only[nx4]<;>omega|fail) [A3]
 cases hn:nx with
 | none =>
  simp -implicitDefEqProofs (disch:=first|omega|simp only[nx4]<;>omega|fail) [BB]
 | some lx =>
 rw [← hn]
 have hns:nx.isNone=false:=by rw [hn];rfl
 simp -implicitDefEqProofs (disch:=first|omega|simp only[nx4]<;>omega|fail) [hn]
 rw [← hn]
 refine AA UQ fun mm2 hm2=>?_
 try simp only [nx4]at hm2
 simp -implicitDefEqProofs (disch:=first|omega|simp only[nx4]<;>omega|fail) [ndv]
 have hfd:(t.alts.map fun a=>B5 (bnd a.1) (AM (AJ D) a.2)).foldl BU none=(t.alts.map (fA (AJ D))).foldl BU none:=rfl
 rw [hfd]
 generalize hfin:(t.alts.map (fA (AJ D))).foldl BU none=fin
 have hfok:fin.ok:=by
  rw [← hfin]
  refine Gv _ _ (fun y hy=>?_) trivial
  obtain⟨a,ha,rfl⟩:=List.mem_map.1 hy
  exact IY (DX _ _) _
 refine AQ (AKA D t nx fin mm1 mm2 s) t.alts.length ⟨0,none,by omega,by omega,hfin,trivial,?_,?_,?_,?_,?_,?_,?_,?_,?_,?_,?_,?_⟩ ?_
 iterate 12 (simp -implicitDefEqProofs (disch:=first|omega|simp only[nx4]<;>omega|fail) [ndm])
 rintro m g s1 ⟨i,acc,hi,rfl,hf,hao,e0,e4,e5,e6,e20,e21,e22,j1,j2,j3,hk,hn⟩
 by_cases hlt:i < t.alts.length
 ·have hlt':(i:Int) < t.alts.length:=by omega
  have w3:=wrapS (i:=i) (by omega)
  rw [List.drop_eq_getElem_cons hlt,List.map_cons,List.foldl_cons]at hf
  have hb:=hnd.bnd (List.getElem_mem hlt)
  have h142:=AC6 t.alts[i] (fun h2=>by have:=hnd.hd _ (List.getElem_mem hlt) h2;omega)
  have iha:=ih2 _ (List.getElem_mem hlt) (hwb _ (List.getElem_mem hlt)) (Eg hs (List.getElem_mem hlt)) (hr'.2.2.2 _ (List.getElem_mem hlt)).2.2
  have hno:=DX (AJ D) t.alts[i].2
  have hnb:=(Ir (AJ D) t.alts[i].2 (hwb _ (List.getElem_mem hlt)) (hr'.2.2.2 _ (List.getElem_mem hlt)).2.2).1
  have hfa:fA (AJ D) t.alts[i]=B5 (bnd t.alts[i].1) (AM (AJ D) t.alts[i].2):=rfl
  rw [hfa]at hf
  generalize hxx:t.alts[i]=a at hf hb h142 iha hno hnb
  generalize AM (AJ D) a.2=na at hf iha hno hnb
  have h166:=ADJ na (bnd a.1) (by omega) hno (fun k hk=>by have:=hnb k hk;unfold i64;omega)
  have hoo:=IY hno (bnd a.1)
  generalize B5 (bnd a.1) na=no at hf h166 hoo
  have h167:=AJ5 acc no hao hoo
  rw [A3,A3]at h167
  rw [A3]at h166
  simp -implicitDefEqProofs (disch:=first|omega|simp only[nx4]<;>omega|fail) [e0,e6,e20,e21,e22,hlt',hxx,j3]
  refine AO iha ?_
  simp -implicitDefEqProofs (disch:=first|omega|simp only[nx4]<;>omega|fail) [A3]
  refine AO h142 ?_
  simp -implicitDefEqProofs (disch:=first|omega|simp only[nx4]<;>omega|fail) []
  refine AO h166 ?_
  simp -implicitDefEqProofs (disch:=first|omega|simp only[nx4]<;>omega|fail) [A3]
  refine AO h167 ?_
  simp -implicitDefEqProofs (disch:=first|omega|simp only[nx4]<;>omega|fail) [A3,e6,j3]
  intro m hm
  simp -implicitDefEqProofs (disch:=first|omega|simp only[nx4]<;>omega|fail) [e22,w3]
  refine AK (t.alts.length - (i+1)) (by omega) ⟨i+1,BU acc no,by omega,rfl,hf,PK hao hoo,?_,?_,?_,?_,?_,?_,rfl,?_,?_,?_,?_,?_⟩
  all_goals (try simp -implicitDefEqProofs (disch:=first|omega|simp only[nx4]<;>omega|fail) [e0,e4,e5,e6,e20,e21,j1,j2,hk])
  all_goals (try omega)
 ·have hlt':¬ (i:Int) < t.alts.length:=by omega
  obtain rfl:i=t.alts.length:=by omega
  rw [List.drop_length,List.map_nil,List.foldl_nil]at hf
  subst hf
  have h165:=Wh nx acc hxo hao
  rw [hns]at h165
  simp -implicitDefEqProofs (disch:=first|omega|simp only[nx4]<;>omega|fail) [e0,e4,e5,e6,e20,e21,e22,hlt',j1,j2,j3]
  refine AA h165 fun mm3 hm3=>?_
  try simp only [nx4]at hm3
  simp -implicitDefEqProofs (disch:=first|omega|simp only[nx4]<;>omega|fail) [A3,e4,j1,hk]
end Go.AL.Dm
namespace Go.AL.Dm
open Go Go.Proofs
def Gf (l:List Bool):List AV:=l.map AV.bool
@[simp] theorem AFg (l:List Bool):(Gf l).length=l.length:=by simp [Gf]
theorem Rc {l:List Bool} {i:Nat} (h:i < l.length):(Gf l).drop i=.bool l[i]::(Gf l).drop (i+1):=by
 rw [List.drop_eq_getElem_cons (by simpa using h)];simp [Gf]
theorem US {l:List Bool} {i:Nat} (h:i < l.length) (x:Bool):(Gf l).take i++.bool x::(Gf l).drop (i+1)=Gf (l.set i x):=by
 rw [List.set_eq_take_append_cons_drop,if_pos h];simp [Gf]
structure KI (vs:List ND) (body:ND) (out:ND) (seen:List Bool):Prop where
 ok:out.ok
 len:seen.length=vs.length
 all:out=none→JP vs.length (valOf vs) body
 reach:∀ S,out=some S→∀ k∈S,Reach vs.length (valOf vs) body k
 bod:∀ S,out=some S→∃ l,body=some l∧∀ k∈l,k∈S
 sn:∀ S,out=some S→∀ (i:Nat) (hi:i < seen.length),seen[i]=true→∃ l,vs[i]?=some (some l)∧∀ k∈l,k∈S
theorem Wi {vs:List ND} {i:Nat} (hi:i < vs.length):valOf vs ((vs.length:Int) - 1 - i)=vs[i]:=by
 unfold valOf
 rw [if_pos (by omega)]
 have:vs.length - 1 - ((vs.length:Int) - 1 - i).toNat=i:=by omega
 rw [this];simp [hi]
theorem KI.start {vs:List ND} {body:ND} (hb:body.ok):KI vs body body (List.replicate vs.length false):=by
 refine⟨hb,by simp,fun h=>.inl h,fun S h k hk=>.body h hk,fun S h=>⟨S,h,fun _ h=>h⟩,fun S h i hi hs=>?_⟩
 simp at hs
theorem KI.step {vs:List ND} {body:ND} {S:List Int} {seen:List Bool} (h:KI vs body (some S) seen) (hv:∀ x∈vs,x.ok) {i:Nat} (hi:i < vs.length) (hk:((vs.length:Int) - 1 - i)∈S) :
  KI vs body (BB (some S) vs[i]) (seen.set i true):=by
 have hr:=h.reach S rfl _ hk
 have hva:=Wi hi
 refine⟨Ex h.ok (hv _ (List.getElem_mem hi)),by simp [h.len],fun hn=>?_,fun S' hS' k hk'=>?_,fun S' hS'=>?_,fun S' hS' j hj hs=>?_⟩
 ·cases hvi:vs[i]with
  | none=>exact .inr ⟨_,hr,by omega,by omega,by rw [hva,hvi]⟩
  | some l=>rw [hvi]at hn;simp [BB]at hn
 ·cases hvi:vs[i]with
  | none=>rw [hvi]at hS';simp [BB]at hS'
  | some l =>
   rw [hvi]at hS'
   simp only [BB,Option.some.injEq]at hS'
   subst hS'
   rcases Cf.1 hk' with hk' | hk'
   ·exact h.reach S rfl k hk'
   ·exact .val hr (by omega) (by omega) (by rw [hva,hvi]) hk'
 ·cases hvi:vs[i]with
  | none=>rw [hvi]at hS';simp [BB]at hS'
  | some l =>
   rw [hvi]at hS'
   simp only [BB,Option.some.injEq]at hS'
   subst hS'
   obtain⟨lb,hb,hsub⟩:=h.bod S rfl
   exact⟨lb,hb,fun k hk=>Cf.2 (.inl (hsub k hk))⟩
 ·cases hvi:vs[i]with
  | none=>rw [hvi]at hS';simp [BB]at hS'
  | some l =>
   rw [hvi]at hS'
   simp only [BB,Option.some.injEq]at hS'
   subst hS'
   by_cases e:i=j
   ·subst e
    exact⟨l,by simp [hi,hvi],fun k hk=>Cf.2 (.inr hk)⟩
   ·have hj':j < seen.length:=by simpa using hj
    rw [List.getElem_set_ne e]at hs
    obtain⟨l',h1,h2⟩:=h.sn S rfl j hj' hs
    exact⟨l',h1,fun k hk=>Cf.2 (.inl (h2 k hk))⟩
theorem KI.done {vs:List ND} {body:ND} {out:ND} {seen:List Bool} (h:KI vs body out seen) (hc:∀ S,out=some S→∀ (i:Nat) (hi:i < seen.length),((vs.length:Int) - 1 - i)∈S→seen[i]=true):DE vs body=B5 vs.length out:=by
 cases ho:out with
 | none=>rw [DJ.2 (h.all ho)];rfl
 | some S =>
  have hok:=h.ok
  rw [ho]at hok
  refine Yo hok (h.reach S ho) (h.bod S ho) fun u hu h0 hn=>?_
  have hl:=h.len
  have hi:vs.length - 1 - u.toNat < seen.length:=by omega
  have hu':((vs.length:Int) - 1 - (vs.length - 1 - u.toNat:Nat))=u:=by omega
  obtain⟨l,h1,h2⟩:=h.sn S ho _ hi (hc S ho _ hi (by rw [hu'];exact hu))
  refine⟨l,?_,h2⟩
  unfold valOf
  rw [if_pos h0,h1];rfl
def Jd (seen:List Bool):Nat:=seen.countP (fun b=>!b)
theorem LX:∀ {seen:List Bool} {i:Nat} (hi:i < seen.length),seen[i]=false→Jd (seen.set i true) < Jd seen
 | b::r,0,_,h=>by simp at h;subst h;simp [Jd]
 | b::r,i+1,hi,h=>by
  have:=LX (seen:=r) (i:=i) (by simpa using hi) (by simpa using h)
  simp only [Jd,List.set_cons_succ,List.countP_cons]at this ⊢
  omega
def AH4 (D:List (ByteArray × Kn)) (vs:List Pl) (body:ND) (b8 o9:Nat) (s:St) (m:Nat) (g:Env) (s1:St):Prop :=
 ∃ (out:ND) (seen:List Bool),m=Jd seen∧KI (vs.map (AM (AJ D))) body out seen∧NB out∧g.get 0=ana D∧g.get 1=.list 5 .none (vs.map Pl.av)∧g.get 6=.ptr (s.nx+1) 0∧g.get 7=.int .i64 vs.length∧g.get 8=.ptr b8 0∧g.get 9=.Ag 1 o9 0 vs.length ∧
  s1.m (s.nx+1)=some (.box [.bool false,.Ad])∧s1.m b8=some (.box [.bool out.isNone,ndm out])∧s1.m o9=some (.box (Gf seen))∧Kept s s1∧b8 < s1.nx∧o9 < s1.nx
def AH5 (D:List (ByteArray × Kn)) (vs:List Pl) (S:List Int) (seen:List Bool) (b8 o9:Nat) (s:St) (m:Nat) (g:Env) (s1:St):Prop :=
 ∃ (i:Nat),i≤vs.length∧m=vs.length - i∧(∀ (j:Nat) (hj:j < seen.length),j < i→((vs.length:Int) - 1 - j)∈S→seen[j]=true)∧g.get 0=ana D∧g.get 1=.list 5 .none (vs.map Pl.av)∧g.get 6=.ptr (s.nx+1) 0∧g.get 7=.int .i64 vs.length∧g.get 8=.ptr b8 0∧g.get 9=.Ag 1 o9 0 vs.length ∧
  g.get 23=.list 5 .none (vs.map Pl.av)∧g.get 24=.int .i64 vs.length∧g.get 25=.int .i64 i∧s1.m (s.nx+1)=some (.box [.bool false,.Ad])∧s1.m b8=some (.box [.bool false,ndm (some S)])∧s1.m o9=some (.box (Gf seen))∧Kept s s1∧b8 < s1.nx∧o9 < s1.nx
theorem AKC (D:List (ByteArray × Kn)) (vs:List Pl) (b:Pl) (hn:vs.length≤12) (hb:AF Tryz.prog 49 [ana D,b.av] (ndv (AM (AJ D) b))) (hv:∀ x∈vs,AF Tryz.prog 49 [ana D,x.av] (ndv (AM (AJ D) x))) (hnb:NB (AM (AJ D) b)) (hnv:∀ x∈vs,NB (AM (AJ D) x)) :
  AF Tryz.prog 126 [ana D,.list 5 .none (vs.map Pl.av),b.av] (ndv (DE (vs.map (AM (AJ D))) (AM (AJ D) b))):=by
 refine AF.intro fun s=>AD mixed Tryz.func126 Tryz.call126 AJb rfl (AE _ _ _ _ ?_)
 have hbo:=DX (AJ D) b
 have hvo:∀ x∈vs.map (AM (AJ D)),ND.ok x:=by
  intro x hx
  obtain⟨y,hy,rfl⟩:=List.mem_map.1 hx
  exact DX _ _
 generalize AM (AJ D) b=nb at hb hnb hbo ⊢
 simp -implicitDefEqProofs (disch:=first|omega|simp only[nx4]<;>omega|fail) [AHq,ABK,V9,WA,WB]
 refine AA hb fun mm1 hm1=>?_
 try simp only [nx4]at hm1
 simp -implicitDefEqProofs (disch:=first|omega|simp only[nx4]<;>omega|fail) [A3,WC]
 have hlm:(vs.map (AM (AJ D))).length=vs.length:=by simp
 have hst:KI (vs.map (AM (AJ D))) nb nb (List.replicate vs.length false):=by have:=KI.start (vs:=vs.map (AM (AJ D))) hbo;rwa [hlm]at this
 refine AQ (AH4 D vs nb mm1 (mm1+1) s) (Jd (List.replicate vs.length false)) ?h0 ?_
 case h0 =>
  refine⟨nb,List.replicate vs.length false,rfl,hst,hnb,?_,?_,?_,?_,?_,?_,?_,?_,?_,?_,?_,?_⟩
  all_goals (try simp -implicitDefEqProofs (disch:=first|omega|simp only[nx4]<;>omega|fail) [Gf])
  all_goals (try omega)
 clear hst
 rintro m g s1 ⟨out,seen,rfl,L,hno,e0,e1,e6,e7,e8,e9,j6,j8,j9,hk,h8,h9⟩
 have hsl:=L.len
 rw [hlm]at hsl
 have hfin:DE (vs.map (AM (AJ D))) nb=B5 vs.length out→∀ g s1,g.get 6=.ptr (s.nx+1) 0→g.get 7=.int .i64 vs.length→g.get 8=.ptr mm1 0→s1.m (s.nx+1)=some (.box [.bool false,.Ad])→s1.m mm1=some (.box [.bool out.isNone,ndm out])→Kept s s1 →
   go (awp Tryz.prog (.seq (.reg false Nr) .ret) (Dd [.cell (true,6) 2 true] fun r' s'=>wk r' (.agg [.bool (DE (vs.map (AM (AJ D))) nb).isNone,ndm (DE (vs.map (AM (AJ D))) nb)])∧Kept s s') g s1):=by
  intro he g s1 e6 e7 e8 j6 j8 hk
  have h166:=ADJ out vs.length (by omega) L.ok (fun k hk=>by have:=hno k hk;unfold i64;omega)
  rw [he]
  rw [A3]at h166
  simp -implicitDefEqProofs (disch:=first|omega|simp only[nx4]<;>omega|fail) [Nr,e6,e7,e8,j6,j8]
  refine AA h166 fun mm2 hm2=>?_
  try simp only [nx4]at hm2
  simp -implicitDefEqProofs (disch:=first|omega|simp only[nx4]<;>omega|fail) [A3,e6,j6,hk]
 cases out with
 | none =>
  simp -implicitDefEqProofs (disch:=first|omega|simp only[nx4]<;>omega|fail) [Nq,RJ,e8,j8]
  exact hfin (by rw [← hlm];exact L.done (fun S h=>by cases h)) _ _ (by simp -implicitDefEqProofs (disch:=first|omega|simp only[nx4]<;>omega|fail) [e6]) (by simp -implicitDefEqProofs (disch:=first|omega|simp only[nx4]<;>omega|fail) [e7]) (by simp -implicitDefEqProofs (disch:=first|omega|simp only[nx4]<;>omega|fail) [e8]) j6 j8 hk
 | some S =>
  simp -implicitDefEqProofs (disch:=first|omega|simp only[nx4]<;>omega|fail) [Nq,RJ,WD,e1,e8,j8]
  refine AQ (AH5 D vs S seen mm1 (mm1+1) s) vs.length ?h0 ?_
  case h0 =>
   refine⟨0,by omega,by omega,by simp,?_,?_,?_,?_,?_,?_,?_,?_,?_,j6,j8,j9,hk,h8,h9⟩
   all_goals (try simp -implicitDefEqProofs (disch:=first|omega|simp only[nx4]<;>omega|fail) [e0,e1,e6,e7,e8,e9])
  clear e0 e1 e6 e7 e8 e9 j6 j8 j9 hk h8 h9
  rintro m g s1 ⟨i,hi,rfl,hseen,e0,e1,e6,e7,e8,e9,e23,e24,e25,j6,j8,j9,hk,h8,h9⟩
  by_cases hlt:i < vs.length
  ·have hlt':(i:Int) < vs.length:=by omega
   have hlt2:i < seen.length:=by omega
   have w1:IntKind.i64.wrap ((vs.length:Int) - 1)=(vs.length:Int) - 1:=wrap64 (by omega) (by omega)
   have w2:IntKind.i64.wrap ((vs.length:Int) - 1 - i)=(vs.length:Int) - 1 - i:=wrap64 (by omega) (by omega)
   have w3:=wrapS (i:=i) (by omega)
   have hlk:=fun s K=>Rb (some S) ((vs.length:Int) - 1 - i) s K
   have hhas:(ND.has (some S) ((vs.length:Int) - 1 - i))=((vs.length:Int) - 1 - i∈S):=rfl
   have hdr:=Rc hlt2
   have hvi:(vs.map (AM (AJ D)))[i]'(by omega)=AM (AJ D) vs[i]:=by simp
   have hvx:=hv _ (List.getElem_mem hlt)
   have hvb:=hnv _ (List.getElem_mem hlt)
   have hvok:=DX (AJ D) vs[i]
   generalize hxx:vs[i]=x at hvi hvx hvb hvok
   generalize AM (AJ D) x=nx at hvi hvx hvb hvok
   simp -implicitDefEqProofs (disch:=first|omega|simp only[nx4]<;>omega|fail) [Np,RK,WE,WG,WH,e0,e1,e7,e8,e9,e23,e24,e25,hlt',hxx,w1,w2,j8,hlk,hhas]
   refine⟨fun hin=>?_,fun hnin=>?_⟩
   ·simp -implicitDefEqProofs (disch:=first|omega|simp only[nx4]<;>omega|fail) [j9,hdr]
    cases hsi:seen[i]with
    | true =>
     simp -implicitDefEqProofs (disch:=first|omega|simp only[nx4]<;>omega|fail) [No,e25,w3]
     refine AK (vs.length - (i+1)) (by omega) ⟨i+1,by omega,rfl,fun j hj hji hjS=>?_,?_,?_,?_,?_,?_,?_,?_,?_,?_,?_,?_,?_,?_,?_,?_⟩
     ·by_cases e:j=i
      ·subst e;exact hsi
      ·exact hseen j hj (by omega) hjS
     all_goals (try simp -implicitDefEqProofs (disch:=first|omega|simp only[nx4]<;>omega|fail) [e0,e1,e6,e7,e8,e9,e23,e24,j6,j8,j9,hk])
     all_goals (try omega)
    | false =>
     have L2:=L.step hvo (i:=i) (by omega) (by rw [hlm];exact hin)
     rw [hvi]at L2
     have hnb2:NB (BB (some S) nx):=HK hno hvb
     have h165:=ADI (some S) nx L.ok hvok
     rw [A3,A3,Option.isNone_some]at h165
     have hun:=LX hlt2 hsi
     simp -implicitDefEqProofs (disch:=first|omega|simp only[nx4]<;>omega|fail) [SS,e9,j9]
     simp -implicitDefEqProofs (disch:=first|omega|simp only[nx4]<;>omega|fail) [SU,e0,e8,j8]
     refine AO hvx ?_
     simp -implicitDefEqProofs (disch:=first|omega|simp only[nx4]<;>omega|fail) [A3]
     refine AO h165 ?_
     simp -implicitDefEqProofs (disch:=first|omega|simp only[nx4]<;>omega|fail) [A3,e8,j8]
     intro m hm
     refine AK _ hun ⟨BB (some S) nx,seen.set i true,rfl,L2,hnb2,?_,?_,?_,?_,?_,?_,?_,?_,?_,?_,?_,?_⟩
     all_goals (try simp -implicitDefEqProofs (disch:=first|omega|simp only[nx4]<;>omega|fail) [e0,e1,e6,e7,e8,e9,j6,hk,US hlt2])
     all_goals (try omega)
   ·simp -implicitDefEqProofs (disch:=first|omega|simp only[nx4]<;>omega|fail) [No,e25,w3]
    refine AK (vs.length - (i+1)) (by omega) ⟨i+1,by omega,rfl,fun j hj hji hjS=>?_,?_,?_,?_,?_,?_,?_,?_,?_,?_,?_,?_,?_,?_,?_,?_⟩
    ·by_cases e:j=i
     ·subst e;exact absurd hjS hnin
     ·exact hseen j hj (by omega) hjS
    all_goals (try simp -implicitDefEqProofs (disch:=first|omega|simp only[nx4]<;>omega|fail) [e0,e1,e6,e7,e8,e9,e23,e24,j6,j8,j9,hk])
    all_goals (try omega)
  ·have hlt':¬ (i:Int) < vs.length:=by omega
   obtain rfl:i=vs.length:=by omega
   simp -implicitDefEqProofs (disch:=first|omega|simp only[nx4]<;>omega|fail) [Np,RK,e23,e24,e25,hlt']
   refine hfin (by rw [← hlm];exact L.done fun S' hS' j hj hin=>by cases hS';rw [hlm]at hin;exact hseen j hj (by omega) hin) _ _ (by simp -implicitDefEqProofs (disch:=first|omega|simp only[nx4]<;>omega|fail) [e6]) (by simp -implicitDefEqProofs (disch:=first|omega|simp only[nx4]<;>omega|fail) [e7]) (by simp -implicitDefEqProofs (disch:=first|omega|simp only[nx4]<;>omega|fail) [e8]) j6 j8 hk
end Go.AL.Dm
