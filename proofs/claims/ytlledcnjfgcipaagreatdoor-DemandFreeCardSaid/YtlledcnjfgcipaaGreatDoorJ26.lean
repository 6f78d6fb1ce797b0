/- The evaluator: code by its form. -/
import Derived.Test.YtlledcnjfgcipaaGreatDoorJ17
import Derived.Test.YtlledcnjfgcipaaGreatDoorF23
import Derived.Test.YtlledcnjfgcipaaGreatDoorJ2
import Derived.Test.YtlledcnjfgcipaaGreatDoorJ34
set_option linter.unusedVariables false
set_option linter.unusedSimpArgs false
set_option maxHeartbeats 4000000
namespace Go.AL.Dm
open Go Go.Proofs
def MA (p:List Gl) (d:Int) (ev:Evf) (e:Pl):Prop:=∀ (xo oc:Nat) (σ:Sg) (s:St) (env:List Nat) (_:Sto p (E6 p) xo oc σ d s) (_:OKs p σ) (_:okE p e env σ.cells.length) (_:σ.cells.length+13≤400+13 * σ.steps),
  AB Tryz.prog 113 [.ptr xo 0,e.av,.list 1 .none (nl env)] s fun r s'=>r=(BR p ev e env σ).1.av∧GX p (E6 p) xo oc (BR p ev e env σ).2 d s s'
variable {p:List Gl} {d:Int} {ev:Evf} {e:Pl}
theorem n1 (hok:EU p ev) (hev:EvC p d ev) (o1:e.op=1):MA p d ev e:=by
 intro xo oc σ s env h hσ he hb
 refine AB.bnd Tryz.call113 fun hbd=>?_
 have hx:=hbd _ _ h.1
 have ho:=hbd _ _ h.2.1
 have hbd6:=he.bd
 have hdw:=BA e
 obtain⟨h0,h1⟩:=he.var o1
 have hg:=Xn (env:=env) (i:=(env.length:Int) - 1 - e.n) (by omega) (by omega)
 have w1:IntKind.i64.wrap ((env.length:Int) - 1)=env.length - 1:=w64 _ (by omega) (by omega)
 have w2:IntKind.i64.wrap ((env.length:Int) - 1 - e.n)=env.length - 1 - e.n:=w64 _ (by omega) (by omega)
 have e1:BR p ev e env σ=CT ev (CK env e.n) σ:=by rw [BR,if_pos o1]
 rw [e1]
 refine AB.res (AD mixed Tryz.func113 Tryz.call113 Gi.2 rfl (AE _ _ _ _ ?_))
 have w3:∀ h,env[((env.length:Int) - 1 - e.n).toNat]'h=CK env e.n:=fun h=>by simp [CK,h]
 simp -implicitDefEqProofs (disch:=first|omega|simp only[nx4]<;>omega|fail) [Gi,o1,hg,w1,w2,w3]
 refine AH (Bh (AIo hok hev (h.mv smz smz) hσ (c:=CK env e.n) (he.lt _ (Mj h0 h1))) fun r s' hn hbd' h'=>AW ?_)
 obtain⟨rfl,oc2,hS2,k2,k3⟩:=h'
 have q1:=k3 (s.nx+1) soz (by omega) (by omega)
 simp -implicitDefEqProofs (disch:=first|omega|simp only[nx4]<;>omega|fail)at hn k2 q1
 simp -implicitDefEqProofs (disch:=first|omega|simp only[nx4]<;>omega|fail) [q1,Ot.agg]
 exact⟨_,AS _,rfl,oc2,hS2.mv smz smz,by omega,fun q a b c=>by
  have e0:=k3 q soz (by omega) (by omega)
  simp -implicitDefEqProofs (disch:=first|omega|simp only[nx4]<;>omega|fail)at e0
  simp -implicitDefEqProofs (disch:=first|omega|simp only[nx4]<;>omega|fail) [e0]⟩
theorem n2 (hok:EU p ev) (hev:EvC p d ev) (o2:e.op=2) (hpl:p.length≤1000):MA p d ev e:=by
 intro xo oc σ s env h hσ he hb
 refine AB.bnd Tryz.call113 fun hbd=>?_
 have hx:=hbd _ _ h.1
 have ho:=hbd _ _ h.2.1
 obtain⟨h1,h2,h3⟩:=id h
 have h23:=p23 p e.s (by omega)
 have e1:BR p ev e env σ=CT ev (Bc p e.s).toNat σ:=by rw [BR,if_neg (by omega),if_pos o2]
 rw [e1]
 obtain⟨j,hj,hjl,hjn⟩:=HO (he.gi e (I0 e) o2)
 rw [hj]at h23 ⊢
 have hg:(nl (E6 p))[j]?=some (.int .i64 (j:Nat)):=by simp [nl,E6,hjl]
 have hgl:(E6 p).length=p.length:=by simp [E6]
 have hjl':(j:Int) < p.length:=by omega
 have hpc:=hσ.pl
 refine AB.res (AD mixed Tryz.func113 Tryz.call113 Gi.2 rfl (AE _ _ _ _ ?_))
 simp -implicitDefEqProofs (disch:=first|omega|simp only[nx4]<;>omega|fail) [Gi,o2,h1]
 refine AO h23 ?_
 simp -implicitDefEqProofs (disch:=first|omega|simp only[nx4]<;>omega|fail) [hg,hgl,hjl']
 intro m7 hm7
 refine AH (Bh (AIo hok hev (h.mv smz smz) hσ (c:=j) (by omega)) fun r s' hn hbd' h'=>AW ?_)
 obtain⟨rfl,oc2,hS2,k2,k3⟩:=h'
 have q1:=k3 (s.nx+1) soz (by omega) (by omega)
 simp -implicitDefEqProofs (disch:=first|omega|simp only[nx4]<;>omega|fail)at hn k2 q1
 simp -implicitDefEqProofs (disch:=first|omega|simp only[nx4]<;>omega|fail) [q1,Ot.agg]
 exact⟨_,AS _,rfl,oc2,hS2.mv smz smz,by omega,fun q a b c=>by
  have e0:=k3 q soz (by omega) (by omega)
  simp -implicitDefEqProofs (disch:=first|omega|simp only[nx4]<;>omega|fail)at e0
  simp -implicitDefEqProofs (disch:=first|omega|simp only[nx4]<;>omega|fail) [e0]⟩
theorem n3 (o3:e.op=3):MA p d ev e:=by
 intro xo oc σ s env h hσ he hb
 refine AB.bnd Tryz.call113 fun hbd=>?_
 have hx:=hbd _ _ h.1
 have ho:=hbd _ _ h.2.1
 have e1:BR p ev e env σ=(.int e.n,σ):=by rw [BR,if_neg (by omega),if_neg (by omega),if_pos o3]
 rw [e1]
 refine AB.res (AD mixed Tryz.func113 Tryz.call113 Gi.2 rfl (AE _ _ _ _ ?_))
 simp -implicitDefEqProofs (disch:=first|omega|simp only[nx4]<;>omega|fail) [Gi,o3]
 refine⟨_,?_,rfl,.refl h hx ho smz⟩
 simp [Ot.av,Ot.cs,ocs,z0,eS,Pl.op,Pl.n,Pl.s,Pl.args,Pl.alts]
theorem n5 (o5:e.op=5):MA p d ev e:=by
 intro xo oc σ s env h hσ he hb
 refine AB.bnd Tryz.call113 fun hbd=>?_
 have hx:=hbd _ _ h.1
 have ho:=hbd _ _ h.2.1
 have e1:BR p ev e env σ=(.fn e env [],σ):=by rw [BR,if_neg (by omega),if_neg (by omega),if_neg (by omega),if_neg (by omega),if_pos o5]
 rw [e1]
 refine AB.res (AD mixed Tryz.func113 Tryz.call113 Gi.2 rfl (AE _ _ _ _ ?_))
 simp -implicitDefEqProofs (disch:=first|omega|simp only[nx4]<;>omega|fail) [Gi,o5]
 refine⟨_,?_,rfl,.refl h hx ho smz⟩
 simp [Ot.av,Ot.cs,ocs,eS,o5]
theorem n4 (o4:e.op=4):MA p d ev e:=by
 intro xo oc σ s env h hσ he hb
 refine AB.bnd Tryz.call113 fun hbd=>?_
 have hx:=hbd _ _ h.1
 have ho:=hbd _ _ h.2.1
 have hbd6:=he.bd
 have hdw:=BA e
 have hbn:=hσ.bn
 have hst:=hσ.st
 have hlen:=(A5 he.wf).1.len
 have hi:inn e=0:=by simp [inn,o4]
 have e1:BR p ev e env σ=(.con e.s (Be env e.args σ).1,(Be env e.args σ).2):=by rw [BR,if_neg (by omega),if_neg (by omega),if_neg (by omega),if_pos o4]
 rw [e1]
 refine AB.res (AD mixed Tryz.func113 Tryz.call113 Gi.2 rfl (AE _ _ _ _ ?_))
 simp -implicitDefEqProofs (disch:=first|omega|simp only[nx4]<;>omega|fail) [Gi,o4]
 intro m7 hm7
 refine AH (Bh (AE6 (h.mv smz smz) env e.args (by omega) (fun c hc=>(he.E7 (by omega) hi hc (Nat.le_refl _)).var) (by omega)) fun r s' hn hbd' h'=>AW ?_)
 obtain⟨rfl,oc2,hS2,k2,k3⟩:=h'
 have q1:=k3 s.nx soz (by omega) (by omega)
 have q2:=k3 (s.nx+1) soz (by omega) (by omega)
 simp -implicitDefEqProofs (disch:=first|omega|simp only[nx4]<;>omega|fail)at q1 q2
 simp -implicitDefEqProofs (disch:=first|omega|simp only[nx4]<;>omega|fail)at hn k2
 simp -implicitDefEqProofs (disch:=first|omega|simp only[nx4]<;>omega|fail) [q1,q2]
 intro m8 hm8
 refine⟨_,?_,rfl,oc2,hS2.mv smz smz,by omega,fun q a b c=>by
  have e1:=k3 q soz b c
  simp -implicitDefEqProofs (disch:=first|omega|simp only[nx4]<;>omega|fail)at e1
  simp -implicitDefEqProofs (disch:=first|omega|simp only[nx4]<;>omega|fail) [e1]⟩
 simp [Ot.av,Ot.cs,ocs,z0,eS,Pl.op,Pl.n,Pl.s,Pl.args,Pl.alts]
end Go.AL.Dm
set_option maxHeartbeats 4000000
namespace Go.AL.Dm
open Go Go.Proofs
variable {p:List Gl} {d:Int} {ev:Evf} {e:Pl}
theorem n9 (hok:EU p ev) (hev:EvC p d ev) (o9:e.op=9):MA p d ev e:=by
 intro xo oc σ s env h hσ he hb
 refine AB.bnd Tryz.call113 fun hbd=>?_
 have hx:=hbd _ _ h.1
 have ho:=hbd _ _ h.2.1
 have e1:BR p ev e env σ=FI ev e env σ:=by rw [BR];simp [o9]
 rw [e1]
 refine AB.res (AD mixed Tryz.func113 Tryz.call113 Gi.2 rfl (AE _ _ _ _ ?_))
 have hfo:AV.agg [.int .i64 9,.int .i64 e.n,.str e.s,.list 5 .none (e.args.map Pl.av),.list 8 .none (e.alts.map Pl.BK)]=e.av:=by rw [← o9];exact Pl.Iu e
 simp -implicitDefEqProofs (disch:=first|omega|simp only[nx4]<;>omega|fail) [Gi,o9,hfo]
 refine AH (Bh (AKh hok hev (h.mv smz smz) hσ he o9 hb) fun r s' hn hbd' h'=>AW ?_)
 obtain⟨rfl,oc2,hS2,k2,k3⟩:=h'
 have q1:=k3 (s.nx+1) soz (by omega) (by omega)
 simp -implicitDefEqProofs (disch:=first|omega|simp only[nx4]<;>omega|fail)at hn k2 q1
 simp -implicitDefEqProofs (disch:=first|omega|simp only[nx4]<;>omega|fail) [q1,Ot.agg]
 exact⟨_,AS _,rfl,oc2,hS2.mv smz smz,by omega,fun q a b c=>by
  have e0:=k3 q soz (by omega) (by omega)
  simp -implicitDefEqProofs (disch:=first|omega|simp only[nx4]<;>omega|fail)at e0
  simp -implicitDefEqProofs (disch:=first|omega|simp only[nx4]<;>omega|fail) [e0]⟩
theorem n8 (hok:EU p ev) (hev:EvC p d ev) (o8:e.op=8):MA p d ev e:=by
 intro xo oc σ s env h hσ he hb
 refine AB.bnd Tryz.call113 fun hbd=>?_
 have hx:=hbd _ _ h.1
 have ho:=hbd _ _ h.2.1
 have hnd:=(A5 he.wf).1
 have hl:=hnd.cas o8
 have hi:inn e=0:=by simp [inn,o8]
 obtain⟨x,hxy⟩:=GY (show e.args.length=1 by omega)
 have e1:BR p ev e env σ=if (ev x env σ).1.val=false∨(ev x env σ).2.err≠0 then ev x env σ else Cg ev (ev x env σ).1 env e.alts (ev x env σ).2:=by
  rw [BR];simp [o8,hxy]
 have hxo:okE p x env σ.cells.length:=he.E7 (by omega) hi (by rw [hxy];simp) (Nat.le_refl _)
 have hr:=hok x env σ hσ hxo
 have w1:([x.av][0]?).getD AV.any=x.av:=rfl
 rw [e1]
 refine AB.res (AD mixed Tryz.func113 Tryz.call113 Gi.2 rfl (AE _ _ _ _ ?_))
 simp -implicitDefEqProofs (disch:=first|omega|simp only[nx4]<;>omega|fail) [Gi,o8,hxy,w1]
 refine AH (Bh (hev xo oc σ _ x env (h.mv smz smz) hσ hxo) fun r s' hn hbd' h'=>AW ?_)
 obtain⟨rfl,oc2,hS2,k2,k3⟩:=h'
 have hx2:=hbd' _ _ hS2.1
 have ho2:=hbd' _ _ hS2.2.1
 generalize ev x env σ=r at *
 obtain⟨o,τ⟩:=r
 have q1:=k3 s.nx soz (by omega) (by omega)
 have q2:=k3 (s.nx+1) soz (by omega) (by omega)
 simp -implicitDefEqProofs (disch:=first|omega|simp only[nx4]<;>omega|fail)at q1 q2
 simp -implicitDefEqProofs (disch:=first|omega|simp only[nx4]<;>omega|fail)at hn k2
 simp -implicitDefEqProofs (disch:=first|omega|simp only[nx4]<;>omega|fail) [q1,q2]
 have h152:=Xa o
 have j1:=hS2.1
 by_cases hv:o.val=false
 ·rw [if_pos (.inl hv)]
  rw [hv]at h152
  refine AA h152 fun mm1 hm1=>?_
  try simp only [nx4]at hm1
  simp -implicitDefEqProofs (disch:=first|omega|simp only[nx4]<;>omega|fail) [q1,q2,Ot.agg]
  exact⟨_,AS _,rfl,oc2,hS2.mv smz smz,by omega,fun q a b c=>by
   have e0:=k3 q soz (by omega) (by omega)
   simp -implicitDefEqProofs (disch:=first|omega|simp only[nx4]<;>omega|fail)at e0
   simp -implicitDefEqProofs (disch:=first|omega|simp only[nx4]<;>omega|fail) [e0]⟩
 have hv':o.val=true:=by simpa using hv
 rw [hv']at h152
 by_cases her:τ.err=0
 ·rw [if_neg (by simp [hv',her])]
  refine AA h152 fun mm2 hm2=>?_
  try simp only [nx4]at hm2
  simp -implicitDefEqProofs (disch:=first|omega|simp only[nx4]<;>omega|fail) [q1,q2,Ot.agg,j1,her]
  have hinc:τ.cells.length+13 * σ.steps≤σ.cells.length+13 * τ.steps+0:=hr.inc
  have hb1:τ.cells.length+1≤400+13 * τ.steps:=by omega
  refine AH (Bh (AKj hok hev (hS2.mv smz smz) hr.ok (he.mono hr.len) o8 hr.out hb1 (by omega)) fun r s3 hn3 hbd3 h3'=>AW ?_)
  obtain⟨rfl,oc3,hS3,k5,k6⟩:=h3'
  simp -implicitDefEqProofs (disch:=first|omega|simp only[nx4]<;>omega|fail)at hn3 k5
  have q4:=k6 (s.nx+1) soz (by omega) (by omega)
  simp -implicitDefEqProofs (disch:=first|omega|simp only[nx4]<;>omega|fail) [q2]at q4
  simp -implicitDefEqProofs (disch:=first|omega|simp only[nx4]<;>omega|fail) [q4,Ot.agg]
  exact⟨_,AS _,rfl,oc3,hS3.mv smz smz,by omega,fun q a b c=>by
   have e0:=k3 q soz (by omega) (by omega)
   have e1:=k6 q soz (by omega) (by omega)
   simp -implicitDefEqProofs (disch:=first|omega|simp only[nx4]<;>omega|fail)at e0 e1
   simp -implicitDefEqProofs (disch:=first|omega|simp only[nx4]<;>omega|fail) [e0,e1]⟩
 ·rw [if_pos (.inr her)]
  refine AA h152 fun mm3 hm3=>?_
  try simp only [nx4]at hm3
  simp -implicitDefEqProofs (disch:=first|omega|simp only[nx4]<;>omega|fail) [q1,q2,Ot.agg,j1,her]
  exact⟨_,AS _,rfl,oc2,hS2.mv smz smz,by omega,fun q a b c=>by
   have e0:=k3 q soz (by omega) (by omega)
   simp -implicitDefEqProofs (disch:=first|omega|simp only[nx4]<;>omega|fail)at e0
   simp -implicitDefEqProofs (disch:=first|omega|simp only[nx4]<;>omega|fail) [e0]⟩
theorem n6 (hok:EU p ev) (hev:EvC p d ev) (o6:e.op=6):MA p d ev e:=by
 intro xo oc σ s env h hσ he hb
 refine AB.bnd Tryz.call113 fun hbd=>?_
 have hx:=hbd _ _ h.1
 have ho:=hbd _ _ h.2.1
 have hnd:=(A5 he.wf).1
 have hl:=hnd.app o6
 have hlen:=hnd.len
 have hbd6:=he.bd
 have hdw:=BA e
 have hi:inn e=0:=by simp [inn,o6]
 obtain⟨x,rs,hxy⟩:∃ x rs,e.args=x::rs:=by
  cases hc:e.args with
  | nil=>rw [hc]at hl;simp at hl
  | cons x r=>exact⟨x,r,rfl⟩
 have hxo:okE p x env σ.cells.length:=he.E7 (by omega) hi (by rw [hxy];simp) (Nat.le_refl _)
 have hr:=hok x env σ hσ hxo
 have w1:((x.av::List.map Pl.av rs)[0]?).getD AV.any=x.av:=rfl
 have e1:(∀ c en l,(ev x env σ).1≠.fn c en l)→BR p ev e env σ=BQ ev 1 (ev x env σ).1 [] (ev x env σ).2:=fun hne=>by
  cases hh:(ev x env σ).1 with
  | fn c en l=>exact absurd hh (hne c en l)
  | _=>rw [BR];simp [o6,hxy,hh]
 have e2:(∃ c en l,(ev x env σ).1=.fn c en l)→BR p ev e env σ=BQ ev (rs.length+2) (ev x env σ).1 (Be env rs (ev x env σ).2).1 (Be env rs (ev x env σ).2).2:=fun⟨c,en,l,hne⟩=>by
  rw [BR];simp [o6,hxy,hne]
 have hallb:=fun(τ:Sg) hσ' hm hb'=>GZ (p:=p) (env:=env) (l:=rs) (σ:=τ) hσ' (fun y hy=>he.E7 (by omega) hi (by rw [hxy];simp [hy]) hm) hb'
 refine AB.res (AD mixed Tryz.func113 Tryz.call113 Gi.2 rfl (AE _ _ _ _ ?_))
 simp -implicitDefEqProofs (disch:=first|omega|simp only[nx4]<;>omega|fail) [Gi,o6,hxy,w1]
 refine AH (Bh (hev xo oc σ _ x env (h.mv smz smz) hσ hxo) fun r s' hn hbd' h'=>AW ?_)
 obtain⟨rfl,oc2,hS2,k2,k3⟩:=h'
 have hx2:=hbd' _ _ hS2.1
 have ho2:=hbd' _ _ hS2.2.1
 have hinc:=hr.inc
 generalize ev x env σ=r at *
 obtain⟨o,τ⟩:=r
 have q1:=k3 s.nx soz (by omega) (by omega)
 have q2:=k3 (s.nx+1) soz (by omega) (by omega)
 simp -implicitDefEqProofs (disch:=first|omega|simp only[nx4]<;>omega|fail)at q1 q2
 simp -implicitDefEqProofs (disch:=first|omega|simp only[nx4]<;>omega|fail)at hn k2
 simp -implicitDefEqProofs (disch:=first|omega|simp only[nx4]<;>omega|fail) [q1,q2]
 by_cases hfn:∃ c en l,o=.fn c en l
 ·rw [e2 hfn]
  clear e1 e2
  obtain⟨c,en,l,rfl⟩:=hfn
  have hk1:∀ S K,GW (Ot.fn c en l).cs S K=K (.int .i64 3) S:=fun _ _=>rfl
  simp -implicitDefEqProofs (disch:=first|omega|simp only[nx4]<;>omega|fail) [q1,q2,hk1]
  intro m7 hm7
  have hinc':τ.cells.length+13 * σ.steps≤σ.cells.length+13 * τ.steps+0:=hinc
  have hst:=hr.ok.st
  have hbn:=hr.ok.bn
  simp only at hst hbn
  have hrl:rs.length≤12:=by rw [hxy]at hlen;simpa using hlen
  obtain⟨a1,a2,a3,a4,a5,a6,a7⟩:=hallb τ hr.ok hr.len (by omega)
  refine AH (Bh (AE6 (σ:=τ) (hS2.mv smz smz) env rs (by omega) (fun c hc=>(he.E7 (by omega) hi (by rw [hxy];simp [hc]) (Nat.le_refl _)).var) (by omega)) fun r s3 hn3 hbd3 h3'=>AW ?_)
  obtain⟨rfl,oc3,hS3,k5,k6⟩:=h3'
  have hx3:=hbd3 _ _ hS3.1
  have ho3:=hbd3 _ _ hS3.2.1
  simp -implicitDefEqProofs (disch:=first|omega|simp only[nx4]<;>omega|fail)at hn3 k5
  have q3:=k6 (s.nx+1) soz (by omega) (by omega)
  have q4:=k6 s'.nx soz (by omega) (by omega)
  simp -implicitDefEqProofs (disch:=first|omega|simp only[nx4]<;>omega|fail) [q2]at q3
  simp -implicitDefEqProofs (disch:=first|omega|simp only[nx4]<;>omega|fail)at q4
  simp -implicitDefEqProofs (disch:=first|omega|simp only[nx4]<;>omega|fail) [q3,q4]
  intro m9 hm9
  rw [Ot.agg]
  refine AH (Bh (AE4 hok hev (rs.length+2) (xo:=xo) (oc:=oc3) (f:=.fn c en l) (hS3.mv smz smz) a1 (hr.out.mono a4) a2 (by omega) (by omega)) fun r s4 hn4 hbd4 h4'=>AW ?_)
  obtain⟨rfl,oc4,hS4,k7,k8⟩:=h4'
  simp -implicitDefEqProofs (disch:=first|omega|simp only[nx4]<;>omega|fail)at hn4 k7
  have q5:=k8 (s.nx+1) soz (by omega) (by omega)
  simp -implicitDefEqProofs (disch:=first|omega|simp only[nx4]<;>omega|fail) [q3]at q5
  simp -implicitDefEqProofs (disch:=first|omega|simp only[nx4]<;>omega|fail) [q5,Ot.agg]
  exact⟨_,AS _,rfl,oc4,hS4.mv smz smz,by omega,fun q a b c=>by
   have e0:=k3 q soz (by omega) (by omega)
   have e1:=k6 q soz (by omega) (by omega)
   have e2:=k8 q soz (by omega) (by omega)
   simp -implicitDefEqProofs (disch:=first|omega|simp only[nx4]<;>omega|fail)at e0 e1 e2
   simp -implicitDefEqProofs (disch:=first|omega|simp only[nx4]<;>omega|fail) [e0,e1,e2]⟩
 ·rw [e1 fun c en l hc=>hfn ⟨c,en,l,hc⟩]
  clear e1 e2
  obtain⟨k,hk,hk1⟩:∃ k:Int,k≠3∧∀ S K,GW o.cs S K=K (.int .i64 k) S:=by
   cases o with
   | fn c en l=>exact absurd ⟨_,_,_,rfl⟩ hfn
   | _=>refine⟨_,?_,fun _ _=>rfl⟩;decide
  simp -implicitDefEqProofs (disch:=first|omega|simp only[nx4]<;>omega|fail) [q1,q2,hk1,hk]
  refine AH (Bh (AB.OG (args':=[.ptr xo 0,o.av,.list 1 .none (nl [])]) (AE4 hok hev 1 (xo:=xo) (oc:=oc2) (σ:=τ) (f:=o) (l:=[]) (hS2.mv smz smz) hr.ok hr.out (by simp) (by simp) (by simp)) (by simp [Ot.av])) fun r s3 hn3 hbd3 h3'=>AW ?_)
  obtain⟨rfl,oc3,hS3,k5,k6⟩:=h3'
  simp -implicitDefEqProofs (disch:=first|omega|simp only[nx4]<;>omega|fail)at hn3 k5
  have q4:=k6 (s.nx+1) soz (by omega) (by omega)
  simp -implicitDefEqProofs (disch:=first|omega|simp only[nx4]<;>omega|fail) [q2]at q4
  simp -implicitDefEqProofs (disch:=first|omega|simp only[nx4]<;>omega|fail) [q4,Ot.agg]
  exact⟨_,AS _,rfl,oc3,hS3.mv smz smz,by omega,fun q a b c=>by
   have e0:=k3 q soz (by omega) (by omega)
   have e1:=k6 q soz (by omega) (by omega)
   simp -implicitDefEqProofs (disch:=first|omega|simp only[nx4]<;>omega|fail)at e0 e1
   simp -implicitDefEqProofs (disch:=first|omega|simp only[nx4]<;>omega|fail) [e0,e1]⟩
end Go.AL.Dm
set_option maxHeartbeats 4000000
namespace Go.AL.Dm
open Go Go.Proofs
def mor (f i:Nat):List Nat:=(List.range i).map (f+·)
theorem Xo (f i:Nat):mor f (i+1)=mor f i++[f+i]:=by simp [mor,List.range_succ]
theorem TV (f i:Nat):(mor f i).length=i:=by simp [mor]
def KJ (σ:Sg) (inner:List Nat) (l:List Pl):Sg:={ σ with cells:=σ.cells++l.map fun x=>.hold x inner }
theorem Ul (σ:Sg) (inner:List Nat) (l:List Pl) (x:Pl):KJ σ inner (l++[x])=(KJ σ inner l).add (.hold x inner):=by simp [KJ,Sg.add]
theorem QH (σ:Sg) (inner:List Nat) (l:List Pl):(KJ σ inner l).cells.length=σ.cells.length+l.length:=by simp [KJ]
def I7a (xo:Nat) (f n:Nat) (env:List Nat) (s S0:St) (m:Nat) (g:Env) (s1:St):Prop :=
 ∃ (i:Nat) (v:AV),i≤n∧m=n - i∧g.get 0=.ptr xo 0∧g.get 2=.list 1 .none (nl env)∧g.get 4=.ptr s.nx 0∧g.get 6=.ptr (s.nx+1) 0∧g.get 8=.int .i64 n∧g.get 9=.int .i64 f∧g.get 10=v∧Gj s1 1 (s.nx+2) v (nl (mor f i))∧g.get 11=.int .i64 i ∧
  (∀ q,q < s.nx+2→s1.m q=S0.m q)∧s.nx+2≤s1.nx
def I7b (p:List Gl) (xo oc:Nat) (σ:Sg) (d:Int) (n:Nat) (inner:List Nat) (args:List Pl) (s S0:St) (m:Nat) (g:Env) (s1:St):Prop :=
 ∃ (i oc1:Nat),i≤n∧m=n - i∧g.get 0=.ptr xo 0∧g.get 4=.ptr s.nx 0∧g.get 6=.ptr (s.nx+1) 0∧g.get 8=.int .i64 n∧g.get 12=.list 1 .none (nl inner)∧g.get 13=.int .i64 i ∧
  Sto p (E6 p) xo oc1 (KJ σ inner (args.take i)) d s1∧(oc1=oc∨s.nx+2≤oc1)∧oc1 < s1.nx ∧
  (∀ q,q < s.nx+2→q≠xo→q≠oc→s1.m q=S0.m q)∧s.nx+2≤s1.nx
variable {p:List Gl} {d:Int} {ev:Evf} {e:Pl}
theorem n7 (hok:EU p ev) (hev:EvC p d ev) (o7:e.op=7):MA p d ev e:=by
 intro xo oc σ s env h hσ he hb
 refine AB.bnd Tryz.call113 fun hbd=>?_
 have hx:=hbd _ _ h.1
 have ho:=hbd _ _ h.2.1
 obtain⟨h1,h2,h3⟩:=id h
 have hnd:=(A5 he.wf).1
 have hl:=hnd.lt o7
 have hlen:=hnd.len
 have hbd6:=he.bd
 have hdw:=BA e
 have hst:=hσ.st
 have hbn:=hσ.bn
 have hf:=Fx σ.cells
 obtain⟨n,hn⟩:∃ n,e.args.length=n+1:=⟨e.args.length - 1,by omega⟩
 have hi:inn e=n:=by simp [inn,o7];omega
 generalize hfs:σ.cells.length=f at *
 have e1:BR p ev e env σ=ev (e.args[n]'(by omega)) (env++mor f n) (KJ σ (env++mor f n) (e.args.take n)):=by
  rw [BR];simp [o7,hn,mor,hfs,KJ]
 have hme:∀ c∈mor f n,c < f+n:=fun c hc=>by
  obtain⟨j,hj,rfl⟩:=List.mem_map.1 hc
  have:=List.mem_range.1 hj
  omega
 have hml:((mor f n).length:Int)=inn e:=by rw [TV,hi]
 have hσ1:=hσ.app (xs:=(e.args.take n).map fun x=>Ce.hold x (env++mor f n)) (fun x hx=>by
   obtain⟨y,hy,rfl⟩:=List.mem_map.1 hx
   refine(he.arg (m':=f+n) (by omega) (List.mem_of_mem_take hy) hml (by omega) hme).mono ?_
   simp;omega) (by simp;omega)
 have hxo:=(he.arg (m':=f+n) (x:=e.args[n]'(by omega)) (by omega) (by simp) hml (by omega) hme)
 rw [e1]
 refine AB.res (AD mixed Tryz.func113 Tryz.call113 Gi.2 rfl (AE _ _ _ _ ?_))
 have w1:IntKind.i64.wrap (n:Int)=n:=w64 _ (by omega) (by omega)
 simp -implicitDefEqProofs (disch:=first|omega|simp only[nx4]<;>omega|fail) [Gi,o7,hn,h1,w1]
 generalize hS0:St.new _ _=S0
 have s0:S0.nx=s.nx+2:=by rw [← hS0];simp -implicitDefEqProofs (disch:=first|omega|simp only[nx4]<;>omega|fail)
 have b1:S0.m s.nx=some (.box [.int .i64 7,.int .i64 e.n,.str e.s,.list 5 .none (e.args.map Pl.av),.list 8 .none (e.alts.map Pl.BK)]):=by rw [← hS0];simp -implicitDefEqProofs (disch:=first|omega|simp only[nx4]<;>omega|fail)
 obtain⟨bs,b2,b2l⟩:∃ bs,S0.m (s.nx+1)=some (.box bs)∧bs.length=10:=⟨_,by rw [← hS0];simp -implicitDefEqProofs (disch:=first|omega|simp only[nx4]<;>omega|fail);rfl,rfl⟩
 have hk0:∀ q,q < s.nx→S0.m q=s.m q:=fun q hq=>by rw [← hS0];simp -implicitDefEqProofs (disch:=first|omega|simp only[nx4]<;>omega|fail)
 clear hS0
 refine AQ (I7a xo f n env s S0) n ⟨0,.list 0 .full [],by omega,by omega,?_,?_,?_,?_,?_,?_,?_,.inl ⟨rfl,rfl⟩,?_,fun q _=>rfl,by omega⟩ ?_
 iterate 8 (try simp -implicitDefEqProofs (disch:=first|omega|simp only[nx4]<;>omega|fail))
 rintro m g s1 ⟨i,v,hin,rfl,g0,g2,g4,g6,g8,g9,g10,ht,g11,hk,hnx⟩
 by_cases hlt:i < n
 ·have hlt':(i:Int) < n:=by omega
  have w2:IntKind.i64.wrap ((f:Int)+i)=(f+i:Nat):=by rw [w64 _ (by omega) (by omega)];omega
  have w3:IntKind.i64.wrap ((i:Int)+1)=(i+1:Nat):=by rw [w64 _ (by omega) (by omega)];omega
  simp -implicitDefEqProofs (disch:=first|omega|simp only[nx4]<;>omega|fail) [g0,g2,g4,g6,g8,g9,g10,g11,hlt',hlt,w2]
  refine IA ht ?_ ?_ (by omega) fun v' s2 ht' hn2 hk2=>?_
  ·simp [mor];omega
  ·simp [mor];omega
  have e9:nl (mor f i)++[.int .i64 ((f:Int)+(i:Int))]=nl (mor f (i+1)):=by rw [Xo,Ry];simp [nl]
  rw [e9]at ht'
  simp -implicitDefEqProofs (disch:=first|omega|simp only[nx4]<;>omega|fail) [g0,g2,g4,g6,g8,g9,g10,g11,w3]
  refine AK (n - (i+1)) (by omega) ⟨i+1,v',by omega,rfl,?_,?_,?_,?_,?_,?_,?_,ht',?_,?_,by omega⟩
  iterate 9 (try simp -implicitDefEqProofs (disch:=first|omega|simp only[nx4]<;>omega|fail) [g0,g2,g4,g6,g8,g9,g10,g11])
  exact fun q hq=>by rw [hk2 q (by omega) (.inl hq),hk q hq]
 ·obtain rfl:i=n:=by omega
  simp -implicitDefEqProofs (disch:=first|omega|simp only[nx4]<;>omega|fail) [g0,g2,g4,g6,g8,g9,g10,g11]
  have h151:AF Tryz.prog 151 [AV.list 1 Tok.none (nl env),v] (.list 1 .none (nl (env++mor f i))):=(Xb env (mor f i) (by rw [TV];omega)).OG ⟨AS _,ht.wk (Bd _),trivial⟩
  refine AA h151 fun mm1 hm1=>?_
  try simp only [nx4]at hm1
  simp -implicitDefEqProofs (disch:=first|omega|simp only[nx4]<;>omega|fail) [g0,g2,g4,g6,g8,g9,g10,g11]
  refine AQ (I7b p xo oc σ d i (env++mor f i) e.args s S0) i ⟨0,oc,by omega,by omega,?_,?_,?_,?_,?_,?_,?_,.inl rfl,?_,?_,?_⟩ ?_
  iterate 6 (try simp -implicitDefEqProofs (disch:=first|omega|simp only[nx4]<;>omega|fail) [g0,g2,g4,g6,g8,g9,g10,g11])
  ·rw [show KJ σ (env++mor f i) (e.args.take 0)=σ by simp [KJ]]
   exact h.mv (by simp -implicitDefEqProofs (disch:=first|omega|simp only[nx4]<;>omega|fail) [hk xo (by omega),hk0 xo hx]) (by simp -implicitDefEqProofs (disch:=first|omega|simp only[nx4]<;>omega|fail) [hk oc (by omega),hk0 oc ho])
  ·simp -implicitDefEqProofs (disch:=first|omega|simp only[nx4]<;>omega|fail);omega
  ·exact fun q a b c=>by simp -implicitDefEqProofs (disch:=first|omega|simp only[nx4]<;>omega|fail) [hk q a]
  ·simp -implicitDefEqProofs (disch:=first|omega|simp only[nx4]<;>omega|fail);omega
  clear h151 ht hk g0 g2 g4 g6 g8 g9 g10 g11
  rintro m g s1 ⟨j,oc1,hjn,rfl,g0,g4,g6,g8,g12,g13,hS,hoc,hon,hk,hnx⟩
  have c1:=hk s.nx (by omega) (by omega) (by omega)
  have c2:=hk (s.nx+1) (by omega) (by omega) (by omega)
  rw [b1]at c1
  rw [b2]at c2
  by_cases hlt:j < i
  ·have hlt':(j:Int) < i:=by omega
   have hget:(e.args.map Pl.av)[j]?=some (e.args[j]'(by omega)).av:=by rw [List.getElem?_map,List.getElem?_eq_getElem (by omega)];rfl
   have w3:IntKind.i64.wrap ((j:Int)+1)=(j+1:Nat):=by rw [w64 _ (by omega) (by omega)];omega
   have htk:e.args.take (j+1)=e.args.take j++[e.args[j]'(by omega)]:=List.take_succ_eq_append_getElem (by omega)
   have hlj:(KJ σ (env++mor f i) (e.args.take j)).cells.length=f+j:=by rw [QH,hfs,List.length_take];omega
   simp -implicitDefEqProofs (disch:=first|omega|simp only[nx4]<;>omega|fail) [g0,g4,g6,g8,g12,g13,hlt',hlt,c1,hget,hn]
   refine AH (Bh (AI7 hS (by rw [hlj];omega) (e.args[j]'(by omega)) (env++mor f i)) fun r s2 hn2 hbd2 h2'=>AW ?_)
   obtain⟨rfl,oc2,hS2,k2,k3⟩:=h2'
   have hx2:=hbd2 _ _ hS2.1
   have ho2:=hbd2 _ _ hS2.2.1
   simp -implicitDefEqProofs (disch:=first|omega|simp only[nx4]<;>omega|fail) [g0,g4,g6,g8,g12,g13,w3]
   refine AK (i - (j+1)) (by omega) ⟨j+1,oc2,by omega,rfl,?_,?_,?_,?_,?_,?_,?_,?_,ho2,?_,by omega⟩
   iterate 6 (try simp -implicitDefEqProofs (disch:=first|omega|simp only[nx4]<;>omega|fail) [g0,g4,g6,g8,g12,g13])
   ·rw [htk,Ul];exact hS2
   ·omega
   ·exact fun q a b c=>by rw [k3 q (by omega) b (by omega),hk q a b c]
  ·obtain rfl:j=i:=by omega
   have hget:(e.args.map Pl.av)[j]?=some (e.args[j]'(by omega)).av:=by rw [List.getElem?_map,List.getElem?_eq_getElem (by omega)];rfl
   have hlj:(KJ σ (env++mor f j) (e.args.take j)).cells.length=f+j:=by rw [QH,hfs,List.length_take];omega
   have hj2:(j:Int) < j+1:=by omega
   simp -implicitDefEqProofs (disch:=first|omega|simp only[nx4]<;>omega|fail) [g0,g4,g6,g8,g12,g13,c1,hget,hn,hj2]
   refine AH (Bh (hev xo oc1 _ _ _ _ hS hσ1 (by rw [hlj];exact hxo)) fun r s2 hn2 hbd2 h2'=>AW ?_)
   obtain⟨rfl,oc2,hS2,k2,k3⟩:=h2'
   have c3:=k3 (s.nx+1) (by omega) (by omega) (by omega)
   rw [c2]at c3
   have hbz:List.drop 10 bs=[]:=List.drop_eq_nil_of_le (by omega)
   simp -implicitDefEqProofs (disch:=first|omega|simp only[nx4]<;>omega|fail) [g6,c3,b2l,hbz,Ot.agg]
   exact⟨_,AS _,rfl,oc2,hS2.mv smz smz,by omega,fun q a b c=>by
    have e1:=k3 q (by omega) b (by omega)
    have e2:=hk q (by omega) b c
    simp -implicitDefEqProofs (disch:=first|omega|simp only[nx4]<;>omega|fail) [e1,e2,hk0 q a]⟩
end Go.AL.Dm
set_option maxHeartbeats 4000000
namespace Go.AL.Dm
open Go Go.Proofs
theorem AKq {p:List Gl} {d:Int} {ev:Evf} (hpl:p.length≤1000) (hok:EU p ev) (hev:EvC p d ev) {e:Pl} (hw:wf e=true):MA p d ev e:=by
 have hop:=(A5 hw).1.op
 rcases (show e.op=1∨e.op=2∨e.op=3∨e.op=4∨e.op=5∨e.op=6∨e.op=7∨e.op=8∨e.op=9 by omega)with h | h | h | h | h | h | h | h | h
 ·exact n1 hok hev h
 ·exact n2 hok hev h hpl
 ·exact n3 h
 ·exact n4 h
 ·exact n5 h
 ·exact n6 hok hev h
 ·exact n7 hok hev h
 ·exact n8 hok hev h
 ·exact n9 hok hev h
theorem TW {p:List Gl} (hpl:p.length≤1000) (n:Nat) (hn0:n≤2000) (ih:∀ k,n=k+1→EvC p (2000 - k) (evalW p k)):EvC p (2000 - n) (evalW p n):=by
  intro xo oc σ s e env h hσ he
  refine AB.bnd Tryz.call79 fun hbd=>?_
  have hx:=hbd _ _ h.1
  have ho:=hbd _ _ h.2.1
  obtain⟨h1,h2,h3⟩:=id h
  have h112:=AAN
  have hst:=hσ.st
  have hbn:=hσ.bn
  refine AB.res (AD mixed Tryz.func79 Tryz.call79 k79.2 rfl (AE _ _ _ _ ?_))
  by_cases he0:σ.err≠0
  ·have e1:evalW p n e env σ=(.Bi,σ):=by rw [evalW.eq_def];dsimp only;rw [if_pos he0]
   rw [e1]
   simp -implicitDefEqProofs (disch:=first|omega|simp only[nx4]<;>omega|fail) [k79,h1,he0]
   refine AA h112 fun mm1 hm1=>?_
   try simp only [nx4]at hm1
   simp -implicitDefEqProofs (disch:=first|omega|simp only[nx4]<;>omega|fail)
   exact⟨_,AS _,rfl,.refl h hx ho smz⟩
  have he1:σ.err=0:=by simpa using he0
  by_cases hs:σ.steps=20000
  ·have e1:evalW p n e env σ=(.Bi,{ σ with err:=7 }):=by rw [evalW.eq_def];dsimp only;rw [if_neg he0,if_pos hs]
   rw [e1]
   simp -implicitDefEqProofs (disch:=first|omega|simp only[nx4]<;>omega|fail) [k79,h1,he1,hs]
   refine AA h112 fun mm2 hm2=>?_
   try simp only [nx4]at hm2
   simp -implicitDefEqProofs (disch:=first|omega|simp only[nx4]<;>omega|fail) [h1,h3]
   refine⟨_,AS _,rfl,oc,⟨smz,by simp -implicitDefEqProofs (disch:=first|omega|simp only[nx4]<;>omega|fail) [h2],h3⟩,.inl rfl,fun q a b c=>by simp -implicitDefEqProofs (disch:=first|omega|simp only[nx4]<;>omega|fail)⟩
  have hs':¬ (σ.steps:Int)=20000:=by omega
  have w1:IntKind.i64.wrap ((σ.steps:Int)+1)=(σ.steps+1:Nat):=by rw [w64 _ (by omega) (by omega)];omega
  by_cases hn:n=0
  ·have e1:evalW p n e env σ=(.Bi,{ σ with steps:=σ.steps+1,err:=5 }):=by subst hn;rw [evalW.eq_def];dsimp only;rw [if_neg he0,if_neg hs]
   rw [e1]
   have hd:(2000 - (n:Int))=2000:=by omega
   rw [hd]at h1
   simp -implicitDefEqProofs (disch:=first|omega|simp only[nx4]<;>omega|fail) [k79,h1,h3,he1,hs',w1]
   refine AA h112 fun mm3 hm3=>?_
   try simp only [nx4]at hm3
   simp -implicitDefEqProofs (disch:=first|omega|simp only[nx4]<;>omega|fail) [h1,h3]
   refine⟨_,AS _,rfl,oc,⟨by simp -implicitDefEqProofs (disch:=first|omega|simp only[nx4]<;>omega|fail) [hd],by simp -implicitDefEqProofs (disch:=first|omega|simp only[nx4]<;>omega|fail) [h2],h3⟩,.inl rfl,fun q a b c=>by simp -implicitDefEqProofs (disch:=first|omega|simp only[nx4]<;>omega|fail)⟩
  ·obtain⟨k,rfl⟩:∃ k,n=k+1:=⟨n - 1,by omega⟩
   have e1:evalW p (k+1) e env σ=BR p (evalW p k) e env { σ with steps:=σ.steps+1 }:=by rw [evalW.eq_def];dsimp only;rw [if_neg he0,if_neg hs]
   rw [e1]
   have ih:=ih k rfl
   have hok:=I4 (p:=p) k
   have hd:¬ (2000 - ((k+1:Nat):Int))=2000:=by omega
   have hd2:IntKind.i64.wrap (2000 - ((k+1:Nat):Int)+1)=2000 - (k:Int):=by rw [w64 _ (by omega) (by omega)];omega
   have hd3:IntKind.i64.wrap (2000 - (k:Int) - 1)=2000 - ((k+1:Nat):Int):=by rw [w64 _ (by omega) (by omega)];omega
   generalize (2000 - ((k+1:Nat):Int))=d1 at *
   generalize (2000 - (k:Int))=d2 at *
   generalize hev:evalW p k=ev at *
   have hσ1:OKs p { σ with steps:=σ.steps+1 }:=⟨hσ.ce,hσ.pl,by show σ.cells.length≤400+13 * (σ.steps+1);omega,by show σ.steps+1≤20000;omega⟩
   have z1:({ σ with steps:=σ.steps+1 }:Sg).cells=σ.cells:=rfl
   have z2:({ σ with steps:=σ.steps+1 }:Sg).steps=σ.steps+1:=rfl
   have z3:({ σ with steps:=σ.steps+1 }:Sg).err=0:=he1
   clear e1
   generalize ({ σ with steps:=σ.steps+1 }:Sg)=ρ at *
   simp -implicitDefEqProofs (disch:=first|omega|simp only[nx4]<;>omega|fail) [k79,h1,h3,he1,hs',w1,hd,hd2]
   refine AH (Bh (AKq hpl hok ih he.wf xo oc ρ _ env ⟨by simp -implicitDefEqProofs (disch:=first|omega|simp only[nx4]<;>omega|fail) [z1,z2,z3],by simp -implicitDefEqProofs (disch:=first|omega|simp only[nx4]<;>omega|fail) [h2,z1],h3⟩ hσ1 (by rw [z1];exact he) (by rw [z1,z2];omega)) fun r s' hn hbd' h'=>AW ?_)
   obtain⟨rfl,oc2,hS2,k2,k3⟩:=h'
   have hx2:=hbd' _ _ hS2.1
   have ho2:=hbd' _ _ hS2.2.1
   generalize BR p ev e env ρ=r at *
   obtain⟨o,τ⟩:=r
   obtain⟨j1,j2,j3⟩:=hS2
   simp only at j1 j2
   simp -implicitDefEqProofs (disch:=first|omega|simp only[nx4]<;>omega|fail)at hn k2
   have q2:=k3 (s.nx+1) soz (by omega) (by omega)
   simp -implicitDefEqProofs (disch:=first|omega|simp only[nx4]<;>omega|fail)at q2
   simp -implicitDefEqProofs (disch:=first|omega|simp only[nx4]<;>omega|fail) [j1,j2,j3,q2,hd3]
   refine⟨_,AS _,rfl,oc2,⟨smz,by simp -implicitDefEqProofs (disch:=first|omega|simp only[nx4]<;>omega|fail) [j2],j3⟩,by omega,fun q a b c=>by
    have e1:=k3 q soz b c
    simp -implicitDefEqProofs (disch:=first|omega|simp only[nx4]<;>omega|fail)at e1
    simp -implicitDefEqProofs (disch:=first|omega|simp only[nx4]<;>omega|fail) [e1]⟩
theorem p79 {p:List Gl} (hpl:p.length≤1000):∀ (n:Nat),n≤2000→EvC p (2000 - n) (evalW p n):=by
 intro n
 induction n with
 | zero=>exact fun hn=>TW hpl 0 hn fun k hk=>by omega
 | succ n ih =>
  intro hn
  have ih1:=ih (by omega)
  refine TW hpl (n+1) hn fun k hk=>?_
  have hkn:n=k:=by omega
  subst hkn
  exact ih1
end Go.AL.Dm
set_option maxRecDepth 100000
namespace Go.AL.Dm
open Go Go.Proofs
-- damask/damasklaw18.DemandSound
def k3:CF [0,1,2,3,8,9,10,11,12,13,14,28,43,66,79,96,115,118,129,150] Tryz.f3:=by
 refine⟨?_,?_⟩;rotate_left;cbv;rfl
-- damask/damasklaw18.valued
def k16:CF [0,1,3,4,5,7] Tryz.f16:=by
 refine⟨?_,?_⟩;rotate_left;cbv;rfl
-- damask/damaskref17.Call
-- damask/damasklaw18.without
def k18:CF [0,2,3,6,7,12,18] Tryz.f18:=by
 refine⟨?_,?_⟩;rotate_left;cbv;rfl
-- damask/damaskref17.Full
def k39:CF [0,1,2,4,6,7,8,9,10,23] Tryz.f39:=by
 refine⟨?_,?_⟩;rotate_left;cbv;rfl
-- damask/damaskref15.Free
def k62:CF [0,1,2,3,4,5,6,9,17,33] Tryz.f62:=by
 refine⟨?_,?_⟩;rotate_left;cbv;rfl
end Go.AL.Dm
set_option maxHeartbeats 4000000
namespace Go.AL.Dm
open Go Go.Proofs
def Jl (p:List Gl) (gv cv:AV) (xo:Nat) (s:St):Prop:=s.m xo=some (.box [.list 6 .none (p.map Gl.av),cv,gv,.int .i64 0,.int .i64 0,.int .i64 0])
theorem Xp {p:List Gl} {gv:AV} {xo oc:Nat} {l:List Ce} {s:St} (h1:Jl p gv (.Ag 17 oc 0 l.length) xo s) (h2:s.m oc=some (.box (flat (l.map Ce.av)))) (h3:xo≠oc) (hb:l.length≤1000000) (c:Pl) :
  AB Tryz.prog 110 [.ptr xo 0,c.av,.list 1 .none (nl [])] s fun r s'=>r=.int .i64 l.length∧∃ oc',Jl p gv (.Ag 17 oc' 0 (l.length+1)) xo s'∧s'.m oc'=some (.box (flat ((l++[Ce.hold c []]).map Ce.av)))∧xo≠oc'∧s.nx≤oc'∧∀ q,q < s.nx→q≠xo→q≠oc→s'.m q=s.m q:=by
 refine AB.bnd Tryz.call110 fun hbd=>?_
 have hx:=hbd _ _ h1
 have ho:=hbd _ _ h2
 unfold Jl at h1 ⊢
 have hf:=Fx l
 refine AB.res (AB.ADC (AB.mono (K:=fun r s'=>wk r (.int .i64 l.length)∧∃ oc' bs,s'.m oc'=some (.box bs)∧s'.m xo=some (.box [.list 6 .none (p.map Gl.av),.Ag 17 oc' 0 (l.length+1),gv,.int .i64 0,.int .i64 0,.int .i64 0])∧wkL bs (flat ((l++[Ce.hold c []]).map Ce.av))∧xo≠oc'∧s.nx≤oc'∧∀ q,q < s.nx→q≠xo→q≠oc→s'.m q=s.m q)
  (AD mixed Tryz.func110 Tryz.call110 AAU.2 rfl (AE _ _ _ _ ?_)) fun r s' hn ⟨hr,oc',bs,h1,h2,h3,h4,h5,h6⟩=>?_))
 ·simp -implicitDefEqProofs (disch:=first|omega|simp only[nx4]<;>omega|fail) [AAU,BE,h1,h2,h3,hf]
  intro m hm
  have w1:IntKind.i64.wrap (l.length:Int)=l.length:=w64 _ (by omega) (by omega)
  refine⟨w1,s.nx+1,?bs,?h1,rfl,?h2,by omega,by omega,fun q a b e=>?h3⟩
  case h1 =>
   rw [St.Bq _ _ _ _ (by omega)]
   exact St.Ks _ _
  case h2 =>
   simp only [List.map_append,List.map_cons,List.map_nil,CH,CD,Kx]
   refine I1 ?_ _
   simp [Ce.av,Ce.cs,ccs,ocs,z0,eS,Pl.op,Pl.n,Pl.s,Pl.args,Pl.alts]
  case h3=>rw [St.Bq _ _ _ _ b,St.B0 _ _ _ (by show q≠s.nx+1;omega),St.Kt _ _ _ e,St.B0 _ _ _ (by omega)]
 ·refine⟨fun q=>if q=oc' then some (.box (flat ((l++[Ce.hold c []]).map Ce.av)))else s'.m q,fun o ob ho=>?_,.int .i64 l.length,hr,rfl,oc',?_,by simp,h4,h5,fun q h7 h8 h9=>?_⟩
  ·by_cases e:o=oc'
   ·subst e
    simp only [if_true]at ho
    cases ho
    exact .inr ⟨bs,_,h1,rfl,h3⟩
   ·simp only [if_neg e]at ho
    exact .inl ho
  ·simp only [if_neg h4];exact h2
  ·have:q≠oc':=by omega
   simp only [if_neg this]
   exact h6 q h7 h8 h9
theorem AFI {p:List Gl} {gv:AV} {xo:Nat} {s:St} (h1:Jl p gv (.list 0 .full []) xo s) (c:Pl) :
  AB Tryz.prog 110 [.ptr xo 0,c.av,.list 1 .none (nl [])] s fun r s'=>r=.int .i64 0∧∃ oc',Jl p gv (.Ag 17 oc' 0 1) xo s'∧s'.m oc'=some (.box (flat ([Ce.hold c []].map Ce.av)))∧xo≠oc'∧s.nx≤oc'∧∀ q,q < s.nx→q≠xo→s'.m q=s.m q:=by
 refine AB.bnd Tryz.call110 fun hbd=>?_
 have hx:=hbd _ _ h1
 have hnn:s.m s.nx=none:=by
  cases hc:s.m s.nx with
  | none=>rfl
  | some ob=>have:=hbd _ _ hc;omega
 refine AB.pre (s1:=(s.set xo (.box [.list 6 .none (p.map Gl.av),.Ag 17 s.nx 0 0,gv,.int .i64 0,.int .i64 0,.int .i64 0])).new (.box [])) (by simp) (fun o ob ho=>?_) (fun o ob ho=>?_)
  (AB.mono (Xp (p:=p) (gv:=gv) (xo:=xo) (oc:=s.nx) (l:=[]) ?_ ?_ (by omega) (by simp) c) fun r s' hn ⟨hr,oc',k1,k2,k3,k4,k5⟩=>⟨hr,oc',k1,k2,k3,?_,fun q a b=>?_⟩)
 ·by_cases e:o=s.nx
  ·subst e
   exact .inr (.inr ⟨hnn,Nat.le_refl _,by simp⟩)
  ·rw [St.B0 _ _ _ (by simpa using e)]at ho
   by_cases e2:o=xo
   ·subst e2
    rw [St.EK]at ho
    cases ho
    refine .inr (.inl ⟨_,_,h1,rfl,⟨.inl (AS _),.inr ⟨rfl,_,_,rfl⟩,.inl (AS _),.inl (AS _),.inl (AS _),.inl (AS _),trivial⟩⟩)
   ·rw [St.Bq _ _ _ _ e2]at ho
    exact .inl ho
 ·by_cases e:o=s.nx
  ·subst e;rw [hnn]at ho;cases ho
  ·rw [St.B0 _ _ _ (by simpa using e)]
   by_cases e2:o=xo
   ·subst e2;exact⟨_,St.EK _ _ _⟩
   ·exact⟨ob,by rw [St.Bq _ _ _ _ e2];exact ho⟩
 ·unfold Jl
  rw [St.B0 _ _ _ (by simp;omega)]
  exact St.EK _ _ _
 ·exact St.Ks _ _
 ·simp at k4;omega
 ·rw [k5 q (by simp;omega) b (by omega),St.B0 _ _ _ (by simp;omega),St.Bq _ _ _ _ b]
end Go.AL.Dm
set_option maxHeartbeats 4000000
namespace Go.AL.Dm
open Go Go.Proofs
def cel (p:List Gl) (i:Nat):List Ce:=(p.take i).map fun g=>.hold g.body []
def I77 (p:List Gl) (s:St) (m:Nat) (g:Env) (s1:St):Prop :=
 ∃ (i:Nat) (gv cv:AV),i≤p.length∧m=p.length - i∧g.get 0=.list 6 .none (p.map Gl.av)∧g.get 3=.ptr s.nx 0∧g.get 4=.int .i64 i∧Jl p gv cv s.nx s1∧Gj s1 1 (s.nx+1) gv (nl (List.range i)) ∧
  ((i=0∧cv=.list 0 .full [])∨∃ oc,cv=.Ag 17 oc 0 i∧s1.m oc=some (.box (flat ((cel p i).map Ce.av)))∧s.nx < oc∧oc < s1.nx)∧(∀ q,q < s.nx→s1.m q=s.m q)∧s.nx+1≤s1.nx
theorem AFJ {p:List Gl} {gv cv:AV} {xo b:Nat} {i:Nat} {s:St} (h1:Jl p gv cv xo s) (hc:(i=0∧cv=.list 0 .full [])∨∃ oc,cv=.Ag 17 oc 0 i∧s.m oc=some (.box (flat ((cel p i).map Ce.av)))∧xo < oc∧oc < s.nx) (hb:i < p.length) (hpl:p.length≤1000) :
  AB Tryz.prog 110 [.ptr xo 0,(p[i].body).av,.list 1 .none (nl [])] s fun r s'=>r=.int .i64 i∧∃ oc',Jl p gv (.Ag 17 oc' 0 (i+1)) xo s'∧s'.m oc'=some (.box (flat ((cel p (i+1)).map Ce.av)))∧xo≠oc'∧s.nx≤oc'∧∀ q,q < s.nx→q≠xo→(∃ n,s.m q=some (.spare n))∨q < xo→s'.m q=s.m q:=by
 have he:cel p (i+1)=cel p i++[Ce.hold p[i].body []]:=by rw [cel,List.take_succ_eq_append_getElem hb,List.map_append];rfl
 have hlen:(cel p i).length=i:=by simp [cel];omega
 rw [he]
 rcases hc with ⟨rfl,rfl⟩ | ⟨oc,rfl,h2,h3,h4⟩
 ·refine AB.mono (AFI h1 _) fun r s' hn ⟨hr,oc',k1,k2,k3,k4,k5⟩=>⟨hr,oc',k1,?_,k3,k4,fun q a b _=>k5 q a b⟩
  simpa [cel] using k2
 ·have hv:=Xp (l:=cel p i) (oc:=oc) (by rw [hlen];exact h1) h2 (by omega) (by omega) p[i].body
  rw [hlen]at hv
  refine AB.mono hv fun r s' hn ⟨hr,oc',k1,k2,k3,k4,k5⟩=>⟨hr,oc',k1,k2,k3,k4,fun q a b c=>k5 q a b ?_⟩
  rcases c with ⟨n,c⟩ | c
  ·rintro rfl;rw [h2]at c;cases c
  ·omega
theorem AKr {p:List Gl} (hp0:0 < p.length) (hpl:p.length≤1000) (s:St):AB Tryz.prog 77 [.list 6 .none (p.map Gl.av)] s fun r s'=>r=.ptr s.nx 0∧∃ oc gv,Jl p gv (.Ag 17 oc 0 p.length) s.nx s'∧s'.m oc=some (.box (flat ((cel p p.length).map Ce.av)))∧wk gv (.list 1 .none (nl (E6 p)))∧s.nx < oc∧∀ q,q < s.nx→s'.m q=s.m q:=by
 refine AD mixed Tryz.func77 Tryz.call77 k77.2 rfl (AE _ _ _ _ ?_)
 simp -implicitDefEqProofs (disch:=first|omega|simp only[nx4]<;>omega|fail) [k77]
 refine AQ (I77 p s) p.length ⟨0,.list 0 .full [],.list 0 .full [],by omega,by omega,?_,?_,?_,?_,.inl ⟨rfl,rfl⟩,.inl ⟨rfl,rfl⟩,?_,?_⟩ ?_
 iterate 3 (try simp -implicitDefEqProofs (disch:=first|omega|simp only[nx4]<;>omega|fail))
 ·unfold Jl;simp -implicitDefEqProofs (disch:=first|omega|simp only[nx4]<;>omega|fail)
 ·exact fun q a=>by simp -implicitDefEqProofs (disch:=first|omega|simp only[nx4]<;>omega|fail)
 ·exact smz
 rintro m g s1 ⟨i,gv,cv,hi,rfl,g0,g3,g4,hS,ht,hc,hk,hnx⟩
 by_cases hlt:i < p.length
 ·have hlt':(i:Int) < p.length:=by omega
  have hget:(p.map Gl.av)[i]?=some p[i].av:=by simp [hlt]
  have w3:IntKind.i64.wrap ((i:Int)+1)=(i+1:Nat):=by rw [w64 _ (by omega) (by omega)];omega
  have hc':(i=0∧cv=.list 0 .full [])∨∃ oc,cv=.Ag 17 oc 0 i∧s1.m oc=some (.box (flat ((cel p i).map Ce.av)))∧s.nx < oc∧oc < s1.nx:=hc
  simp -implicitDefEqProofs (disch:=first|omega|simp only[nx4]<;>omega|fail) [g0,g3,g4,hlt',hlt,hget]
  refine AH (Bh (AB.OG (args':=[.ptr s.nx 0,(p[i].body).av,.list 1 .none (nl [])]) (AFJ (b:=0) hS hc hlt hpl) (by simp)) fun r s2 hn2 hbd2 h2'=>AW ?_)
  obtain⟨rfl,oc2,hS2,k2,k3,k4,k5⟩:=h2'
  have ht2:Gj s2 1 (s.nx+1) gv (nl (List.range i)):=ht.move hn2 fun q a b c=>k5 q b (by omega) (.inl c)
  have ho2:=hbd2 _ _ k2
  have hb2:=hS2
  unfold Jl at hb2
  simp -implicitDefEqProofs (disch:=first|omega|simp only[nx4]<;>omega|fail) [g0,g3,g4,hb2]
  refine IA ht2 ?_ ?_ (by omega) fun v' s3 ht' hn3 hk3=>?_
  ·simp;omega
  ·simp;omega
  have e9:nl (List.range i)++[AV.int .i64 ((i:Nat):Int)]=nl (List.range (i+1)):=by rw [List.range_succ,Ry];rfl
  rw [e9]at ht'
  have hb3:=hk3 s.nx (by omega) (.inl (by omega))
  rw [hb2]at hb3
  have ho3:=hk3 oc2 ho2 (.inr fun n hc=>by rw [k2]at hc;cases hc)
  rw [k2]at ho3
  obtain⟨gvv,gvc⟩:=ht'.val
  simp -implicitDefEqProofs (disch:=first|omega|simp only[nx4]<;>omega|fail) [g0,g3,g4,hb3,gvv,gvc,w3]
  refine AK (p.length - (i+1)) (by omega) ⟨i+1,v',_,by omega,rfl,?_,?_,?_,?_,ht'.move smz fun q a b c=>?_,.inr ⟨oc2,rfl,?_,?_,?_⟩,fun q a=>?_,?_⟩
  ·simp -implicitDefEqProofs (disch:=first|omega|simp only[nx4]<;>omega|fail) [g0]
  ·simp -implicitDefEqProofs (disch:=first|omega|simp only[nx4]<;>omega|fail) [g3]
  ·exact smz
  ·unfold Jl;simp -implicitDefEqProofs (disch:=first|omega|simp only[nx4]<;>omega|fail)
  ·exact smz
  ·simp -implicitDefEqProofs (disch:=first|omega|simp only[nx4]<;>omega|fail) [ho3]
  ·omega
  ·simp -implicitDefEqProofs (disch:=first|omega|simp only[nx4]<;>omega|fail);omega
  ·simp -implicitDefEqProofs (disch:=first|omega|simp only[nx4]<;>omega|fail) [hk3 q (by omega) (.inl (by omega)),k5 q (by omega) (by omega) (.inr a),hk q a]
  ·simp -implicitDefEqProofs (disch:=first|omega|simp only[nx4]<;>omega|fail);omega
 ·obtain rfl:i=p.length:=by omega
  simp -implicitDefEqProofs (disch:=first|omega|simp only[nx4]<;>omega|fail) [g0,g3,g4]
  rcases hc with ⟨h0,_⟩ | ⟨oc,rfl,h2,h3,h4⟩
  ·omega
  ·exact⟨oc,gv,hS,h2,ht.wk (Bd _),h3,hk⟩
theorem AAV (p:List Gl):cel p p.length=(start p).cells:=by simp [cel,start]
theorem p77 {p:List Gl} (hp0:0 < p.length) (hpl:p.length≤1000) (s:St):AB Tryz.prog 77 [.list 6 .none (p.map Gl.av)] s fun r s'=>∃ oc,r=.ptr s.nx 0∧Sto p (E6 p) s.nx oc (start p) 0 s'∧s.nx < oc∧∀ q,q < s.nx→s'.m q=s.m q:=by
 refine AB.ADC (AB.mono (AKr hp0 hpl s) fun r s' hn ⟨hr,oc,gv,h1,h2,h3,h4,h5⟩=>?_)
 have hl:(start p).cells.length=p.length:=by simp [start]
 refine⟨fun q=>if q=s.nx then some (.box [.list 6 .none (p.map Gl.av),.Ag 17 oc 0 (start p).cells.length,.list 1 .none (nl (E6 p)),.int .i64 0,.int .i64 0,.int .i64 0])else s'.m q,fun o ob ho=>?_,oc,hr,⟨by show (if s.nx=s.nx then _ else _)=_;rw [if_pos rfl];rfl,?_,by omega⟩,h4,fun q a=>?_⟩
 ·by_cases e:o=s.nx
  ·subst e
   simp only [if_true]at ho
   cases ho
   refine .inr ⟨_,_,h1,rfl,⟨AS _,by rw [hl];exact AS _,h3,AS _,AS _,AS _,trivial⟩⟩
  ·simp only [if_neg e]at ho
   exact .inl ho
 ·have:oc≠s.nx:=by omega
  simp only [if_neg this]
  rw [h2,AAV]
 ·have:q≠s.nx:=by omega
  simp only [if_neg this]
  exact h5 q a
end Go.AL.Dm
set_option maxHeartbeats 4000000
namespace Go.AL.Dm
open Go Go.Proofs
def OS (k n:Int):AV:=.agg [.int .i64 k,.int .i64 n,.str ⟨⟨[]⟩⟩,.list 0 .full []]
def shE (σ:Sg):Int:=if σ.err=0∧σ.steps=20000 then 7 else σ.err
def shS (σ:Sg):Sg:={ σ with steps:=σ.steps+1,err:=shE σ }
def Ot.kd:Ot→Int
 | .thr _=>5
 | .Bi=>7
 | .int _=>6
 | .con _ _=>6
 | .act _ _=>6
 | .fn _ _ _=>6
def Ot.nn:Ot→Int
 | .thr n=>n
 | .Bi=>0
 | .int _=>0
 | .con _ _=>0
 | .act _ _=>0
 | .fn _ _ _=>0
def shK (o:Ot) (σ:Sg):Int:=if shE σ≠0 then 0 else o.kd
def shN (o:Ot) (σ:Sg):Int:=if shE σ≠0 then 0 else o.nn
theorem AAW (o:Ot):∃ k n t l c env,o.cs=ocs k n t l c env∧((k=5∧o=.thr n)∨(k=7∧o=.Bi)∨(k≠5∧k≠7∧o.val=true)):=by
 cases o with
 | thr n=>exact⟨_,_,_,_,_,_,rfl,.inl ⟨rfl,rfl⟩⟩
 | Bi=>exact⟨_,_,_,_,_,_,rfl,.inr (.inl ⟨rfl,rfl⟩)⟩
 | _=>exact⟨_,_,_,_,_,_,rfl,.inr (.inr ⟨by decide,by decide,rfl⟩)⟩
theorem AAX {o:Ot} (h:o.val=true) (σ:Sg) (he:shE σ=0):shK o σ=6∧shN o σ=0:=by
 rw [shK,shN,if_neg (by simp [he]),if_neg (by simp [he])]
 cases o <;> first | exact⟨rfl,rfl⟩ | simp [Ot.val]at h
theorem p78 {p:List Gl} {gl:List Nat} {xo oc:Nat} {σ:Sg} {d:Int} {s:St} (h:Sto p gl xo oc σ d s) (hst:σ.steps≤20000) (o:Ot) :
  AB Tryz.prog 78 [.ptr xo 0,o.av,.int .i64 0] s fun r s'=>r=OS (shK o σ) (shN o σ)∧GX p gl xo oc (shS σ) d s s':=by
 refine AB.bnd Tryz.call78 fun hbd=>?_
 have hx:=hbd _ _ h.1
 have ho:=hbd _ _ h.2.1
 obtain⟨h1,h2,h3⟩:=id h
 have w1:IntKind.i64.wrap ((σ.steps:Int)+1)=(σ.steps+1:Nat):=by rw [w64 _ (by omega) (by omega)];omega
 refine AD mixed Tryz.func78 Tryz.call78 k78.2 rfl (AE _ _ _ _ ?_)
 by_cases he:shE σ=0
 ·have he0:σ.err=0∧σ.steps≠20000:=by
   unfold shE at he
   split at he
   ·omega
   ·rename_i hn;exact⟨he,fun k=>hn ⟨he,k⟩⟩
  have hs':¬ (σ.steps:Int)=20000:=by omega
  have hSS:(shS σ).cells=σ.cells∧(shS σ).steps=σ.steps+1∧(shS σ).err=0:=⟨rfl,rfl,he⟩
  obtain⟨z1,z2,z3⟩:=hSS
  generalize shS σ=σ2 at *
  obtain⟨k,n,t,l,c,env,hcs,hk⟩:=AAW o
  rcases hk with ⟨rfl,rfl⟩ | ⟨rfl,rfl⟩ | ⟨hk1,hk2,hv⟩
  ·have e1:shK (.thr n) σ=5∧shN (.thr n) σ=n:=by rw [shK,shN,if_neg (by simp [he]),if_neg (by simp [he])];exact⟨rfl,rfl⟩
   rw [e1.1,e1.2]
   simp -implicitDefEqProofs (disch:=first|omega|simp only[nx4]<;>omega|fail) [k78,h1,h3,hcs,ocs,he0.1,hs',w1]
   exact⟨rfl,oc,⟨by simp -implicitDefEqProofs (disch:=first|omega|simp only[nx4]<;>omega|fail) [z1,z2,z3],by simp -implicitDefEqProofs (disch:=first|omega|simp only[nx4]<;>omega|fail) [h2,z1],h3⟩,.inl rfl,fun q a b c=>by simp -implicitDefEqProofs (disch:=first|omega|simp only[nx4]<;>omega|fail)⟩
  ·have e1:shK .Bi σ=7∧shN .Bi σ=0:=by rw [shK,shN,if_neg (by simp [he]),if_neg (by simp [he])];exact⟨rfl,rfl⟩
   rw [e1.1,e1.2]
   simp -implicitDefEqProofs (disch:=first|omega|simp only[nx4]<;>omega|fail) [k78,h1,h3,hcs,ocs,he0.1,hs',w1]
   exact⟨rfl,oc,⟨by simp -implicitDefEqProofs (disch:=first|omega|simp only[nx4]<;>omega|fail) [z1,z2,z3],by simp -implicitDefEqProofs (disch:=first|omega|simp only[nx4]<;>omega|fail) [h2,z1],h3⟩,.inl rfl,fun q a b c=>by simp -implicitDefEqProofs (disch:=first|omega|simp only[nx4]<;>omega|fail)⟩
  ·have e1:=AAX hv σ he
   rw [e1.1,e1.2]
   simp -implicitDefEqProofs (disch:=first|omega|simp only[nx4]<;>omega|fail) [k78,h1,h3,hcs,ocs,he0.1,hs',w1,hk1,hk2]
   exact⟨rfl,oc,⟨by simp -implicitDefEqProofs (disch:=first|omega|simp only[nx4]<;>omega|fail) [z1,z2,z3],by simp -implicitDefEqProofs (disch:=first|omega|simp only[nx4]<;>omega|fail) [h2,z1],h3⟩,.inl rfl,fun q a b c=>by simp -implicitDefEqProofs (disch:=first|omega|simp only[nx4]<;>omega|fail)⟩
 ·have e1:shK o σ=0∧shN o σ=0:=by rw [shK,shN,if_pos he,if_pos he];exact⟨rfl,rfl⟩
  rw [e1.1,e1.2]
  have hSS:(shS σ).cells=σ.cells∧(shS σ).steps=σ.steps+1∧(shS σ).err=shE σ:=⟨rfl,rfl,rfl⟩
  obtain⟨z1,z2,z3⟩:=hSS
  generalize shS σ=σ2 at *
  unfold shE at he z3
  by_cases hc:σ.err=0∧σ.steps=20000
  ·rw [if_pos hc]at z3
   have w2:IntKind.i64.wrap 20001=20001:=by decide
   simp -implicitDefEqProofs (disch:=first|omega|simp only[nx4]<;>omega|fail) [k78,h1,h3,hc.1,hc.2]
   exact⟨rfl,oc,⟨by simp -implicitDefEqProofs (disch:=first|omega|simp only[nx4]<;>omega|fail) [z1,z2,z3,hc.2,w2],by simp -implicitDefEqProofs (disch:=first|omega|simp only[nx4]<;>omega|fail) [h2,z1],h3⟩,.inl rfl,fun q a b c=>by simp -implicitDefEqProofs (disch:=first|omega|simp only[nx4]<;>omega|fail)⟩
  ·rw [if_neg hc]at z3 he
   simp -implicitDefEqProofs (disch:=first|omega|simp only[nx4]<;>omega|fail) [k78,h1,h3,he,w1]
   exact⟨rfl,oc,⟨by simp -implicitDefEqProofs (disch:=first|omega|simp only[nx4]<;>omega|fail) [z1,z2,z3],by simp -implicitDefEqProofs (disch:=first|omega|simp only[nx4]<;>omega|fail) [h2,z1],h3⟩,.inl rfl,fun q a b c=>by simp -implicitDefEqProofs (disch:=first|omega|simp only[nx4]<;>omega|fail)⟩
def Mk (p:List Gl) (e:Pl):AV:=if shE (run p e).2=0 then .tup [OS (shK (run p e).1 (run p e).2) (shN (run p e).1 (run p e).2),.int .i64 ((run p e).2.steps+1:Nat),.int .i64 0]else .tup [OS 0 0,.int .i64 0,.int .i64 (shE (run p e).2)]
theorem p39 {p:List Gl} (hp0:0 < p.length) (hpl:p.length≤1000) (hst:OKs p (start p)) {e:Pl} (he:okE p e [] p.length):AF Tryz.prog 39 [.list 6 .none (p.map Gl.av),e.av,.int .i64 0] (Mk p e):=by
 refine AF.intro fun s=>AD mixed Tryz.func39 Tryz.call39 k39.2 rfl (AE _ _ _ _ ?_)
 have hev:=p79 hpl 2000 (by omega)
 rw [show (2000 - ((2000:Nat):Int))=0 by omega]at hev
 have hok:=I4 (p:=p) 2000
 have hr:=hok e [] (start p) hst (by simpa [start] using he)
 generalize hrn:evalW p 2000=ev at *
 have hrun:run p e=ev e [] (start p):=by rw [run,hrn]
 simp -implicitDefEqProofs (disch:=first|omega|simp only[nx4]<;>omega|fail) [k39]
 refine AH (Bh (p77 hp0 hpl _) fun r s1 hn1 hbd1 h1'=>AW ?_)
 obtain⟨oc,rfl,hS,hoc,hk⟩:=h1'
 simp -implicitDefEqProofs (disch:=first|omega|simp only[nx4]<;>omega|fail)at hn1 hoc hk hS
 have b1:s1.m s.nx=some (.box [.int .i64 e.op,.int .i64 e.n,.str e.s,.list 5 .none (e.args.map Pl.av),.list 8 .none (e.alts.map Pl.BK)]):=by
  rw [hk s.nx (by omega)];simp -implicitDefEqProofs (disch:=first|omega|simp only[nx4]<;>omega|fail)
 have b2:s1.m (s.nx+1)=some (.box [.int .i64 0,.int .i64 0,.str ⟨⟨[]⟩⟩,.list 0 .full []]):=by
  rw [hk (s.nx+1) (by omega)];simp -implicitDefEqProofs (disch:=first|omega|simp only[nx4]<;>omega|fail)
 have hx1:=hbd1 _ _ hS.1
 simp -implicitDefEqProofs (disch:=first|omega|simp only[nx4]<;>omega|fail) [b1]
 refine AH (Bh (AB.OG (args':=[.ptr (s.nx+1+1) 0,e.av,.list 1 .none (nl [])]) (hev _ _ (start p) _ e [] hS hst (by simpa [start] using he)) (by simp)) fun r s2 hn2 hbd2 h2'=>AW ?_)
 obtain⟨rfl,oc2,hS2,k2,k3⟩:=h2'
 have c1:=k3 s.nx (by omega) (by omega) (by omega)
 have c2:=k3 (s.nx+1) (by omega) (by omega) (by omega)
 rw [b1]at c1
 rw [b2]at c2
 have hst2:=hr.ok.st
 rw [Mk,hrun]
 generalize ev e [] (start p)=r at *
 obtain⟨o,τ⟩:=r
 simp -implicitDefEqProofs (disch:=first|omega|simp only[nx4]<;>omega|fail) [c1]
 refine AH (Bh (p78 hS2 hst2 o) fun r s3 hn3 hbd3 h3'=>AW ?_)
 obtain⟨rfl,oc3,⟨j1,j2,j3⟩,k5,k6⟩:=h3'
 have d1:=k6 s.nx (by omega) (by omega) (by omega)
 have d2:=k6 (s.nx+1) (by omega) (by omega) (by omega)
 rw [c1]at d1
 rw [c2]at d2
 have z2:(shS τ).steps=τ.steps+1:=rfl
 have z3:(shS τ).err=shE τ:=rfl
 rw [z2,z3]at j1
 have hq:∀ q,q < s.nx→s3.m q=s.m q:=fun q a=>by
  rw [k6 q (by omega) (by omega) (by omega),k3 q (by omega) (by omega) (by omega),hk q (by omega)];simp -implicitDefEqProofs (disch:=first|omega|simp only[nx4]<;>omega|fail)
 by_cases hz:shE τ=0
 ·rw [if_pos hz]
  rw [hz]at j1
  simp -implicitDefEqProofs (disch:=first|omega|simp only[nx4]<;>omega|fail) [j1,d2,OS]
  exact fun m hm=>hq
 ·rw [if_neg hz]
  simp -implicitDefEqProofs (disch:=first|omega|simp only[nx4]<;>omega|fail) [j1,d2,hz,OS]
  exact fun m hm=>hq
end Go.AL.Dm
namespace Go.AL.Dm
open Go Go.Proofs
inductive Rch (p:List Gl) (ns:List ByteArray):ByteArray→Prop
 | base {n:ByteArray}:n∈ns→Rch p ns n
 | step {g:Gl} {x:List UInt8}:g∈p→Rch p ns g.name→x∈gls g.body→Rch p ns (ba x)
theorem p12 (a:Int) (n:Nat) (h0:0 < n) (h1:n≤100000):∃ j:Nat,j < n∧AF Tryz.prog 12 [.int .i64 a,.int .i64 n] (.int .i64 j):=by
 have hw:IntKind.u64.wrap (n:Int)=n:=by
  unfold IntKind.wrap
  simp [IntKind.bits,IntKind.signed]
  omega
 refine⟨(IntKind.i64.wrap (IntKind.u64.wrap a % n)).toNat,?_,AF.intro fun s=>AD mixed Tryz.func12 Tryz.call12 k12.2 rfl (AE _ _ _ _ ?_)⟩
 all_goals
  have hu:0≤IntKind.u64.wrap a:=by unfold IntKind.wrap;simp [IntKind.bits,IntKind.signed];omega
  have hm0:0≤IntKind.u64.wrap a % n:=Int.emod_nonneg _ (by omega)
  have hm1:IntKind.u64.wrap a % n < n:=Int.emod_lt_of_pos _ (by omega)
  have hm2:IntKind.i64.wrap (IntKind.u64.wrap a % n)=IntKind.u64.wrap a % n:=wrap64 (by omega) (by omega)
  rw [hm2]
 ·omega
 ·simp -implicitDefEqProofs (maxSteps:=999999) (disch:=first|omega|simp only[nx4]<;>omega|fail) [k12,hw]
  rw [Int.tmod_eq_emod_of_nonneg hu,hm2]
  omega
structure RI (p:List Gl) (ns Q S:List ByteArray) (i:Nat):Prop where
 rch:∀ x∈Q,Rch p ns x
 nd:S.Nodup
 sub:∀ x∈S,x∈Q
 clo:∀ x∈S,∃ g∈p,g.name=x∧∀ y∈gls g.body,ba y∈Q
 don:∀ (j:Nat) x,j < i→Q[j]?=some x→x∈S
 all:∀ x∈ns,x∈Q
theorem RI.fin {p:List Gl} {ns Q S:List ByteArray} {i:Nat} (h:RI p ns Q S i) (hnd:(nms p).Nodup) (hi:Q.length≤i) (x:ByteArray):x∈S↔Rch p ns x:=by
 have hQ:∀ x,x∈Q→x∈S:=fun x hx=>by
  obtain⟨j,hj,rfl⟩:=List.mem_iff_getElem.1 hx
  exact h.don j _ (by omega) (by simp [hj])
 refine⟨fun hx=>h.rch x (h.sub x hx),fun hx=>?_⟩
 induction hx with
 | base hn=>exact hQ _ (h.all _ hn)
 | @step g y hg _ hy ih =>
  obtain⟨g',h1,h2,h3⟩:=h.clo _ ih
  have:g'=g:=by
   obtain⟨a,ha,rfl⟩:=List.mem_iff_getElem.1 h1
   obtain⟨b,hb,rfl⟩:=List.mem_iff_getElem.1 hg
   have e1:(nms p)[a]?=some p[a].name:=by simp [nms,ha]
   have e2:(nms p)[b]?=some p[a].name:=by rw [h2];simp [nms,hb]
   have:a=b:=Fm hnd e1 e2
   subst this;rfl
  subst this
  exact hQ _ (h3 y hy)
end Go.AL.Dm
set_option maxHeartbeats 4000000
namespace Go.AL.Dm
open Go Go.Proofs
theorem p18 (a:Int):∃ j:Nat,j < 4∧AF Tryz.prog 18 [.int .i64 a] (wo j).av:=by
 obtain⟨j,hj,h12⟩:=p12 a 4 (by omega) (by omega)
 refine⟨j,hj,AF.intro fun s=>AD mixed Tryz.func18 Tryz.call18 k18.2 rfl (AE _ _ _ _ ?_)⟩
 have h12':AF Tryz.prog 12 [.int .i64 a,.int .i64 4] (.int .i64 j):=h12
 rcases (show j=0∨j=1∨j=2∨j=3 by omega)with rfl | rfl | rfl | rfl
 ·simp -implicitDefEqProofs (disch:=first|omega|simp only[nx4]<;>omega|fail) [k18,BE]
  refine AA h12' fun mm1 hm1=>?_
  try simp only [nx4]at hm1
  simp -implicitDefEqProofs (disch:=first|omega|simp only[nx4]<;>omega|fail)
  simp [wo,spL,spA,spD,i41,Pl.It,eS,BZ]
 ·simp -implicitDefEqProofs (disch:=first|omega|simp only[nx4]<;>omega|fail) [k18,BE]
  refine AA h12' fun mm2 hm2=>?_
  try simp only [nx4]at hm2
  simp -implicitDefEqProofs (disch:=first|omega|simp only[nx4]<;>omega|fail)
  simp [wo,spL,spA,spD,i41,Pl.It,eS,BZ]
 ·simp -implicitDefEqProofs (disch:=first|omega|simp only[nx4]<;>omega|fail) [k18,BE]
  refine AA h12' fun mm3 hm3=>?_
  try simp only [nx4]at hm3
  simp -implicitDefEqProofs (disch:=first|omega|simp only[nx4]<;>omega|fail)
  simp [wo,spL,spA,spD,i41,Pl.It,eS,BZ]
 ·simp -implicitDefEqProofs (disch:=first|omega|simp only[nx4]<;>omega|fail) [k18,BE]
  refine AA h12' fun mm4 hm4=>?_
  try simp only [nx4]at hm4
  simp -implicitDefEqProofs (disch:=first|omega|simp only[nx4]<;>omega|fail)
  simp [wo,spL,spA,spD,i41,Pl.It,eS,BZ]
end Go.AL.Dm
set_option maxRecDepth 100000
namespace Go.AL.Dm
open Go Go.Proofs
-- damask/damasklaw18.DemandSound
-- damask/damaskref15.Closed
def k15:CF [0,1,3,4] Tryz.f15:=by
 refine⟨?_,?_⟩;rotate_left;cbv;rfl
end Go.AL.Dm
set_option maxRecDepth 100000
namespace Go.AL.Dm
open Go Go.Proofs
def k44:CF [0,2,3,5,7,8,9,10] Tryz.f44:=by
 refine⟨?_,?_⟩;rotate_left;cbv;rfl
def k48:CF [0,1,3] Tryz.f48:=by
 refine⟨?_,?_⟩;rotate_left;cbv;rfl
def k26:CF [0,1,3,4,5,6,7,8,10,11,12,28,39,41,12000001] Tryz.f26:=by
 refine⟨?_,?_⟩;rotate_left;cbv;rfl
def k5:CF [0,1,3,4,5,6,7,8,10,11,15,21,42,82,86,98] Tryz.f5:=by
 refine⟨?_,?_⟩;rotate_left;cbv;rfl
def ddn:List ByteArray→List Gl→List ByteArray
 | L,[]=>L
 | L,g::r=>ddn (if g.name∈L then L else L++[g.name]) r
theorem TX {x:ByteArray}:∀ {p:List Gl} {L:List ByteArray},x∈ddn L p↔x∈L∨x∈nms p
 | [],L=>by simp [ddn,nms]
 | g::r,L=>by
  have:=TX (x:=x) (p:=r) (L:=if g.name∈L then L else L++[g.name])
  rw [ddn,this,show x∈nms (g::r)↔x=g.name∨x∈nms r by rw [nms,List.map_cons,List.mem_cons];rfl]
  split
  ·rename_i h
   constructor
   ·rintro(h1 | h1)
    ·exact .inl h1
    ·exact .inr (.inr h1)
   ·rintro(h1 | rfl | h1)
    ·exact .inl h1
    ·exact .inl h
    ·exact .inr h1
  ·rw [List.mem_append,List.mem_singleton,or_assoc]
def I44 (p:List Gl) (s:St) (m:Nat) (g:Env) (s1:St):Prop :=
 ∃ (i:Nat) (L:List ByteArray) (es:List (Nat × AV × AV)) (clock:Nat),i≤p.length∧m=p.length - i∧ddn L (p.drop i)=ddn [] p∧E9 .str es L∧g.get 3=.map s.nx∧g.get 7=.list 6 .none (p.map Gl.av)∧g.get 8=.int .i64 p.length∧g.get 9=.int .i64 i ∧
  s1.m s.nx=some (.map es clock)∧Kept s s1∧s.nx < s1.nx
theorem p44 (p:List Gl) (s:St) (hp:p.length≤100000):AB Tryz.prog 44 [.list 6 .none (p.map Gl.av)] s fun r s'=>∃ o es clock,r=.map o∧s.nx≤o∧o < s'.nx∧s'.m o=some (.map es clock)∧E9 .str es (ddn [] p)∧Kept s s':=by
 refine AD mixed Tryz.func44 Tryz.call44 k44.2 rfl (AE _ _ _ _ ?_)
 simp -implicitDefEqProofs (maxSteps:=999999) (disch:=first|omega|simp only[nx4]<;>omega|fail) [k44]
 refine AQ (I44 p s) p.length ⟨0,[],[],0,by omega,by omega,rfl,Pe _,?_,?_,?_,?_,?_,?_,?_⟩ ?_
 all_goals (try simp -implicitDefEqProofs (maxSteps:=999999) (disch:=first|omega|simp only[nx4]<;>omega|fail))
 rintro m g S ⟨i,L,es,clock,hi,rfl,hL,hks,e3,e7,e8,e9,j0,hk,hn⟩
 by_cases hlt:i < p.length
 ·have hlt':(i:Int) < p.length:=by omega
  have w3:=wrapS (i:=i) (by omega)
  rw [List.drop_eq_getElem_cons hlt,ddn]at hL
  generalize hx:p[i]=x at hL
  obtain⟨es',clock',k1,u1⟩:=KR GN x.name hks clock
  simp -implicitDefEqProofs (maxSteps:=999999) (disch:=first|omega|simp only[nx4]<;>omega|fail) [e3,e7,e8,e9,hlt',hlt,hx,j0,u1,w3]
  refine AK (p.length - (i+1)) (by omega) ⟨i+1,_,es',clock',by omega,rfl,hL,k1,?_,?_,?_,?_,?_,?_,?_⟩
  all_goals (try simp -implicitDefEqProofs (maxSteps:=999999) (disch:=first|omega|simp only[nx4]<;>omega|fail) [e3,e7,e8,hk])
  all_goals (try omega)
 ·have hlt':¬ (i:Int) < p.length:=by omega
  obtain rfl:i=p.length:=by omega
  rw [List.drop_length,ddn]at hL
  subst hL
  simp -implicitDefEqProofs (maxSteps:=999999) (disch:=first|omega|simp only[nx4]<;>omega|fail) [e3,e8,e9,hlt']
  exact⟨hn,es,⟨clock,j0⟩,hks,hk⟩
theorem p48 (x:List UInt8) (b o:Nat) (es:List (Nat × AV × AV)) (clock:Nat) (l:List ByteArray) (hk:E9 .str es l) (s:St) (hb:s.m b=some (.box [.map o])) (ho:s.m o=some (.map es clock)) :
  AB Tryz.prog 48 [.str (ba x),.ptr b 0] s fun r s'=>r=.bool (!decide (ba x∈l))∧Kept s s':=by
 refine AD mixed Tryz.func48 Tryz.call48 k48.2 rfl (AE _ _ _ _ ?_)
 have hl:=HF GN (ba x) hk
 simp -implicitDefEqProofs (maxSteps:=999999) (disch:=first|omega|simp only[nx4]<;>omega|fail) [k48,hb,ho,hl]
theorem AKs (p:List Gl) (hp:EW p) (s:St):AB Tryz.prog 40 [.list 6 .none (p.map Gl.av)] s fun r s'=>r=.tup [ana (tbD p (fin p).1),.int .i64 (fin p).2]∧Kept s s':=by
 refine AB.Nz (AB.mono (p40 p hp s) fun r s' hn h=>?_)
 obtain⟨oa,og,rfl,h1,h2,h3,h4,h5,h6,hk⟩:=h
 have hne:oa≠og:=by
  intro e
  rw [e,h6]at h5
  cases h5
 refine⟨_,CO (CO s'.m og) oa,fun q ob hq=>Ap _ _ q ob (Ap _ _ q ob hq),fun ι w v hwf hv=>?_,rfl,fun q hq=>?_⟩
 ·cases hv with
  | tup hl hr =>
   refine .tup hl fun j u y hu hy=>?_
   match j with
   | 0 =>
    simp at hy;subst hy
    obtain⟨b,hb,rfl⟩:=EZ (hr 0 u _ hu rfl)
    obtain⟨vs,e,k1,k2,k3,k4⟩:=hwf.rep oa _ b h5 hb
    have hv0:0 < vs.size:=k2
    have hr0:=k3 0 vs[0] (.map og) (by simp [hv0]) rfl
    obtain⟨mb,hmb,hm⟩:=DW hr0
    have hfz:=KU (kes':=kes (tbD p (fin p).1)) hwf (by rw [h6];simp [FA,kes]) hmb (List.Perm.refl _) (fun q hq=>by obtain⟨d,_,rfl⟩:=List.mem_map.1 hq;trivial) (by
     have:(kes (tbD p (fin p).1)).map (·.1)=(nms p).map AV.str:=by simp [kes,tbD,nms]
     rw [this]
     exact List.Pairwise.map _ (fun a b h e=>h (by injection e)) hp.nd)
    have hst:=BG (CO s'.m og) (CO (CO s'.m og) oa) (Ap _ _) ι w
    refine .Ai (fun _=>vs[0]) rfl (fun j hj=>?_) (fun j x hx=>?_)
    ·have:j=0:=by simpa using hj
     subst this
     refine⟨by simp [World.cell?,k1,hv0],?_,k4 0 _ (by simp) (by simp [hv0])⟩
     rintro⟨q,ob,q1,q2,q3⟩
     have hq:q≠oa:=by
      intro e;simp [CO,e]at q1
     have hq2:=Ap _ _ q ob (Ap _ _ q ob q1)
     exact hq (hwf.inj q oa ob _ b hq2 h5 q2 hb)
    ·match j with
     | 0=>simp at hx;subst hx;rw [hm];exact hfz.step hst
     | j+1=>simp at hx
   | 1 =>
    simp at hy;subst hy
    exact Fo _ _ _ _ _ _ _ _ (hr 1 u _ hu rfl)
   | j+2=>simp at hy
 ·have q1:q≠oa:=by omega
  have q2:q≠og:=by omega
  show CO (CO s'.m og) oa q=_
  simp only [CO,q1,q2,if_false]
  exact hk q hq
end Go.AL.Dm
namespace Go.AL.Dm
open Go Go.Proofs
theorem AAY {f:FuncId} {args:List AV} {s:St} {K:AV→St→Prop} {x y:AV} (hx:Plain x) (hy:Plain y) (h:AB Tryz.prog f args s fun r s'=>∃ sz o len xs,r=.tup [.Ag sz o 0 len,x,y]∧s'.m o=some (.box (flat xs))∧(∀ x∈xs,x.cells.length=sz)∧xs.length=len ∧
  K (.tup [.list sz .none xs,x,y]) (s'.del o)):AB Tryz.prog f args s K:=by
 refine AB.Nz (AB.mono h fun r s' hn hh=>?_)
 obtain⟨sz,o,len,xs,rfl,ho,hsz,hlen,hk⟩:=hh
 refine⟨_,(s'.del o).m,Ap s'.m o,fun ι w v hwf hv=>?_,hk⟩
 cases hv with
 | tup hl hr =>
  refine .tup hl fun j u z hu hz=>?_
  match j with
  | 0=>simp at hz;subst hz;exact(hr 0 u _ hu rfl).freeze hwf ho hsz hlen
  | 1=>simp at hz;subst hz;exact hx _ _ _ _ _ _ (hr 1 u _ hu rfl)
  | 2=>simp at hz;subst hz;exact hy _ _ _ _ _ _ (hr 2 u _ hu rfl)
  | j+3=>simp at hz
def okX (p:List Gl) (t:Pl):Bool:=isP p && (wf t && (gls t).all fun x=>decide (ba x∈nms p))
noncomputable def J7 (p:List Gl) (t:Pl):ND:=AM (AJ (tbD p (fin p).1)) t
def J26 (s:St) (bx:Nat) (k:Nat) (g:Env) (s1:St):Prop :=
 g.get 39=.ptr (bx+1+1) 0∧g.get 11=.Ag 1 (bx+1) 0 0∧g.get 10=.ptr bx 0∧s1.m (bx+1+1)=some (.iter none 0 [] 0)∧s1.m (bx+1)=some (.box [])∧s1.m bx=some (.box [.bool true,.Ad])∧Kept s s1∧bx+1+1 < s1.nx∧s.nx≤bx
def I26 (l:List Int) (s:St) (k it:Nat) (g:Env) (s1:St):Prop :=
 ∃ (seen:List Nat) (acc:List Int) (oa:Nat),k=l.length - seen.length∧seen.length=acc.length∧seen.Nodup∧(∀ j∈seen,j < l.length)∧acc=seen.map (fun j=>l.getD j 0) ∧
  g.get 39=.ptr it 0∧g.get 11=.Ag 1 oa 0 acc.length∧s1.m oa=some (.box (Af acc))∧s.nx≤oa∧oa < s1.nx∧oa≠it∧s1.m it=some (.CU (A6 l) seen)∧Kept s s1∧it < s1.nx∧s.nx≤it∧(∃ bx,g.get 10=.ptr bx 0∧s1.m bx=some (.box [.bool false,.Bp (A6 l)])∧bx≠oa∧bx≠it∧bx < s1.nx)
theorem AKt (p:List Gl) (t:Pl) (hp:Few p) (hs:small t) (hr:rng t) (hyes:okX p t=true):AF Tryz.prog 26 [.list 6 .none (p.map Gl.av),t.av] (.tup [.list 1 .none (Af ((J7 p t).getD [])),.bool (J7 p t).isNone,.int .i64 0]):=by
 refine AF.intro fun s=>AAY (x:=.bool (J7 p t).isNone) (y:=.int .i64 0) (Co _) (Fo _ _) (AD mixed Tryz.func26 Tryz.call26 k26.2 rfl (AE _ _ _ _ ?_))
 have h36:=p36 p hp
 have h45:=p45 t hs
 simp only [okX,Bool.and_eq_true]at hyes
 obtain⟨hi,hw,hall⟩:=hyes
 rw [hi]at h36
 rw [hw]at h45
 have hgl:(gls t).length≤4000:=by have:=GL t;have:=NQ t;have:=hs.1;omega
 have hgp:=MT hp hi
 obtain⟨n0,hway,_⟩:=N7 hgp
 have h49:=p49 (tbD p (fin p).1) hway.Wr.D t hw hs hr
 have hok:=DX (AJ (tbD p (fin p).1)) t
 have hln:=(QB (AJ (tbD p (fin p).1)) t hw).1
 rw [show AM (AJ (tbD p (fin p).1)) t=J7 p t from rfl]at h49 hok hln
 generalize J7 p t=x at h49 hok hln ⊢
 simp -implicitDefEqProofs (maxSteps:=999999) (disch:=first|omega|simp only[nx4]<;>omega|fail) [k26]
 refine AH (AB.mono (p44 p _ (by have:=hp.1;omega)) fun r s' hn' h=>AW ?_)
 obtain⟨o,es,clock,rfl,h1,h2,h3,hks,hk⟩:=h
 have k0:=hk s.nx (by simp -implicitDefEqProofs (maxSteps:=999999) (disch:=first|omega|simp only[nx4]<;>omega|fail))
 simp -implicitDefEqProofs (maxSteps:=999999) (disch:=first|omega|simp only[nx4]<;>omega|fail)at k0 h1 hn'
 have hk2:Kept s s':=fun q hq=>(hk q (by simp -implicitDefEqProofs (maxSteps:=999999) (disch:=first|omega|simp only[nx4]<;>omega|fail) <;> omega)).trans (by simp -implicitDefEqProofs (maxSteps:=999999) (disch:=first|omega|simp only[nx4]<;>omega|fail))
 simp -implicitDefEqProofs (maxSteps:=999999) (disch:=first|omega|simp only[nx4]<;>omega|fail)
 refine AA h36 fun mm7 hm7=>?_
 try simp only [nx4]at hm7
 simp -implicitDefEqProofs (maxSteps:=999999) (disch:=first|omega|simp only[nx4]<;>omega|fail) [k0]
 refine AA h45 fun mm8 hm8=>?_
 try simp only [nx4]at hm8
 simp -implicitDefEqProofs (maxSteps:=999999) (disch:=first|omega|simp only[nx4]<;>omega|fail) [k0]
 refine AA (p47 t hw hs) fun mm9 hm9=>?_
 try simp only [nx4]at hm9
 simp -implicitDefEqProofs (maxSteps:=999999) (disch:=first|omega|simp only[nx4]<;>omega|fail) []
 refine AH (AB.mono (p46 (gls t) (fun x=>!decide (ba x∈ddn [] p)) 48 _ _ (by omega) fun x _ s1 k1 k2=>p48 x s'.nx o es clock _ hks s1 ?_ ?_) fun r s2 hn2 h=>AW ?_)
 ·rw [k1 _ (by simp -implicitDefEqProofs (maxSteps:=999999) (disch:=first|omega|simp only[nx4]<;>omega|fail) <;> omega)]
  simp -implicitDefEqProofs (maxSteps:=999999) (disch:=first|omega|simp only[nx4]<;>omega|fail)
 ·rw [k1 _ (by simp -implicitDefEqProofs (maxSteps:=999999) (disch:=first|omega|simp only[nx4]<;>omega|fail) <;> omega)]
  have:o≠s'.nx:=by omega
  simp -implicitDefEqProofs (maxSteps:=999999) (disch:=first|omega|simp only[nx4]<;>omega|fail) [h3,this]
 obtain⟨rfl,hk'⟩:=h
 have e1:((gls t).any fun x=>!decide (ba x∈ddn [] p))=false:=by
  rw [List.any_eq_false]
  intro x hx
  have:=List.all_eq_true.1 hall x hx
  simpa [TX] using this
 have hk3:Kept s s2:=fun q hq=>by
  rw [hk' q (by simp -implicitDefEqProofs (maxSteps:=999999) (disch:=first|omega|simp only[nx4]<;>omega|fail) <;> omega)]
  have:q≠s'.nx:=by omega
  simp -implicitDefEqProofs (maxSteps:=999999) (disch:=first|omega|simp only[nx4]<;>omega|fail) [this,hk2 q hq]
 have kx:s2.m s.nx=some (.box t.av.cells):=by
  rw [hk' _ (by simp -implicitDefEqProofs (maxSteps:=999999) (disch:=first|omega|simp only[nx4]<;>omega|fail) <;> omega)]
  have:s.nx≠s'.nx:=by omega
  simp -implicitDefEqProofs (maxSteps:=999999) (disch:=first|omega|simp only[nx4]<;>omega|fail) [this,k0]
 simp -implicitDefEqProofs (maxSteps:=999999) (disch:=first|omega|simp only[nx4]<;>omega|fail)at hn2
 simp -implicitDefEqProofs (maxSteps:=999999) (disch:=first|omega|simp only[nx4]<;>omega|fail) [e1]
 refine AH (AB.mono (AKs p hgp _) fun r s3 hn3 h=>AW ?_)
 obtain⟨rfl,hk4⟩:=h
 have ky:s3.m s.nx=some (.box t.av.cells):=by rw [hk4 _ (by omega),kx]
 have hk5:Kept s s3:=fun q hq=>(hk4 q (by omega)).trans (hk3 q hq)
 rw [Pl.Am]at ky
 simp -implicitDefEqProofs (maxSteps:=999999) (disch:=first|omega|simp only[nx4]<;>omega|fail) [ky]
 refine AA h49 fun mm10 hm10=>?_
 try simp only [nx4]at hm10
 simp -implicitDefEqProofs (maxSteps:=999999) (disch:=first|omega|simp only[nx4]<;>omega|fail)
 cases x with
 | none =>
  have en:ndv none=.agg [.bool true,.Ad]:=rfl
  simp -implicitDefEqProofs (maxSteps:=999999) (disch:=first|omega|simp only[nx4]<;>omega|fail) [en]
  have hkb:s.nx≤mm10:=by omega
  refine AQ (J26 s mm10) 1 ⟨?_,?_,?_,?_,?_,?_,?_,?_,?_⟩ ?_
  all_goals (try simp -implicitDefEqProofs (maxSteps:=999999) (disch:=first|omega|simp only[nx4]<;>omega|fail) [hk5])
  all_goals (try omega)
  rintro m g S ⟨e39,e11,e10,j2,j1,j0,hkS,hn,hb⟩
  simp -implicitDefEqProofs (maxSteps:=999999) (disch:=first|omega|simp only[nx4]<;>omega|fail) [e39,j2,e11]
  refine AH (p50 [] (mm10+1) _ _ (by simp) (by simp -implicitDefEqProofs (maxSteps:=999999) (disch:=first|omega|simp only[nx4]<;>omega|fail) [j1,Af]) (AW ?_))
  simp -implicitDefEqProofs (maxSteps:=999999) (disch:=first|omega|simp only[nx4]<;>omega|fail) [e11,e10,j0]
  intro m1 hm1
  exact⟨1,mm10+1,0,⟨rfl,rfl,rfl⟩,[],by simp -implicitDefEqProofs (maxSteps:=999999) (disch:=first|omega|simp only[nx4]<;>omega|fail) [Af,BX],by simp,rfl,⟨.inl rfl,by simp [Af,wkL]⟩,by simp -implicitDefEqProofs (maxSteps:=999999) (disch:=first|omega|simp only[nx4]<;>omega|fail) [hkS]⟩
 | some l =>
  have en:ndv (some l)=.agg [.bool false,.Bp (A6 l)]:=rfl
  have hnd:l.Nodup:=Asc.nodup hok
  have hll:l.length≤4000:=by have:=hs.1;simp only [CX,Option.getD_some]at hln;omega
  have hkl:(A6 l).length=l.length:=by simp [A6]
  have hkg:∀ j,(h:j < l.length)→(A6 l)[j]?=some (.int .i64 l[j],.bool true):=fun j h=>by simp [A6,h]
  simp -implicitDefEqProofs (maxSteps:=999999) (disch:=first|omega|simp only[nx4]<;>omega|fail) [en]
  have hkb:s.nx≤mm10:=by omega
  refine AQ (fun k g s1=>I26 l s k (mm10+1+1) g s1) l.length ⟨[],[],mm10+1,by simp,rfl,by simp,by simp,rfl,?_,?_,?_,?_,?_,?_,?_,?_,?_,?_,mm10,?_,?_,?_,?_,?_⟩ ?_
  all_goals (try simp -implicitDefEqProofs (maxSteps:=999999) (disch:=first|omega|simp only[nx4]<;>omega|fail) [hk5,Af])
  all_goals (try omega)
  rintro n g S ⟨seen,acc,oa,hn,hsl,hsn,hlt,hacc,e39,e11,jO,hoa1,hoa2,hoa3,jI,hkS,hit,hit2,bx,e10,jB,hb1,hb2,hb3⟩
  have hsle:seen.length≤l.length:=ED hsn hlt
  simp -implicitDefEqProofs (maxSteps:=999999) (disch:=first|omega|simp only[nx4]<;>omega|fail) [e39,jI]
  refine XC (fun hall=>?_) (fun j p hj hjs=>?_)
  ·have hp:acc.Perm l:=by
    rw [hacc]
    exact JW l seen hsn hlt fun j hj=>hall j (by rw [hkl];exact hj)
   have hal:acc.length=l.length:=hp.length_eq
   simp -implicitDefEqProofs (maxSteps:=999999) (disch:=first|omega|simp only[nx4]<;>omega|fail) [e11]
   refine AH (p50 acc oa _ _ (by omega) (by simp -implicitDefEqProofs (maxSteps:=999999) (disch:=first|omega|simp only[nx4]<;>omega|fail) [jO]) (AW ?_))
   simp -implicitDefEqProofs (maxSteps:=999999) (disch:=first|omega|simp only[nx4]<;>omega|fail) [e11,e10,jB,hb1]
   intro m1 hm1
   have hso:BX acc=l:=by
    rw [LL hp]
    exact NT (UL hnd) hok fun k=>MK
   refine⟨1,oa,acc.length,⟨rfl,rfl,rfl⟩,Af l,?_,?_,by simp [Af,hal],⟨.inl rfl,Bd _⟩,?_⟩
   ·rw [hso];simp -implicitDefEqProofs (maxSteps:=999999) (disch:=first|omega|simp only[nx4]<;>omega|fail) [Si]
   ·intro x hx
    simp only [Af,List.mem_map]at hx
    obtain⟨y,_,rfl⟩:=hx
    rfl
   ·simp -implicitDefEqProofs (maxSteps:=999999) (disch:=first|omega|simp only[nx4]<;>omega|fail) [hkS]
  ·have hjl:j < l.length:=by rw [← hkl];exact(List.getElem?_eq_some_iff.1 hj).1
   have hpe:=hkg j hjl
   rw [hj]at hpe
   cases hpe
   simp -implicitDefEqProofs (maxSteps:=999999) (disch:=first|omega|simp only[nx4]<;>omega|fail) [e39]
   refine XD (j:=j) (by simp) hj ?_
   simp -implicitDefEqProofs (maxSteps:=999999) (disch:=first|omega|simp only[nx4]<;>omega|fail) [e11,jO]
   have hsn':(seen++[j]).Nodup:=by
    rw [List.nodup_append]
    refine⟨hsn,by simp,fun a ha b hb=>?_⟩
    simp at hb;subst hb
    exact fun e=>hjs (e ▸ ha)
   have hlt':∀ k∈seen++[j],k < l.length:=by
    intro k hk
    rcases List.mem_append.1 hk with h | h
    ·exact hlt k h
    ·simp at h;subst h;exact hjl
   have hle':=ED hsn' hlt'
   simp only [List.length_append,List.length_singleton]at hle'
   have hgd:l[j]=l.getD j 0:=by simp [hjl]
   refine AK (l.length - (seen.length+1)) (by omega) ⟨seen++[j],acc++[l[j]],S.nx,by simp,by simp [hsl],hsn',hlt',by rw [List.map_append,← hacc,hgd];rfl,?_,?_,?_,?_,?_,?_,?_,?_,?_,?_,bx,?_,?_,?_,?_,?_⟩
   all_goals (try simp -implicitDefEqProofs (maxSteps:=999999) (disch:=first|omega|simp only[nx4]<;>omega|fail) [e39,e10,jB,Af,hkS,hb1,hb2])
   all_goals (try omega)
end Go.AL.Dm
namespace Go.AL.Dm
open Go Go.Proofs
end Go.AL.Dm
namespace Go.AL.Dm
open Go Go.Proofs
theorem Xq {p:List Gl} {t:Pl} (h:Pq p t=true):small t:=by
 simp only [Pq,Bool.and_eq_true,decide_eq_true_eq]at h
 obtain⟨h4,h5⟩:=KT t 3000 100 (by omega) (by omega) h.2
 exact⟨by omega,by omega⟩
theorem AFK (p:List Gl) (t:Pl):okX p t=(isP p && (wf t && dfd p t)):=by
 have:dfd p t=(gls t).all fun x=>decide (ba x∈nms p):=by
  unfold dfd
  exact List.all_congr rfl fun x=>by rw [decide_eq_decide];exact Fj
 rw [okX,this]
end Go.AL.Dm
namespace Go.AL.Dm
open Go Go.Proofs
theorem ACc {p:List Gl} (h:isP p=true):∀ g∈p,fv g.body 0=[]:=by
 intro g hg
 simp only [isP,Bool.and_eq_true,decide_eq_true_eq,List.all_eq_true]at h
 have hc:=h.2.2 g hg
 simp only [clo,Bool.and_eq_true,decide_eq_true_eq]at hc
 exact hc.1
theorem p15 (p:List Gl) (t:Pl) (hp:p.length≤100000) (hs:small t):AF Tryz.prog 15 [.list 6 .none (p.map Gl.av),t.av] (.bool (wf t && decide (fv t 0=[]) && dfd p t)):=by
 refine AF.intro fun s=>AD mixed Tryz.func15 Tryz.call15 k15.2 rfl (AE _ _ _ _ ?_)
 have h31:=p31 t hs
 cases hw:(wf t && decide (fv t 0=[]))with
 | false =>
  rw [hw]at h31
  simp -implicitDefEqProofs (disch:=first|omega|simp only[nx4]<;>omega|fail) [k15]
  refine AA h31 fun mm1 hm1=>?_
  try simp only [nx4]at hm1
  simp -implicitDefEqProofs (disch:=first|omega|simp only[nx4]<;>omega|fail)
 | true =>
  rw [hw]at h31
  have h28:=p28 p t hp (by simp only [Bool.and_eq_true]at hw;exact hw.1) hs
  simp -implicitDefEqProofs (disch:=first|omega|simp only[nx4]<;>omega|fail) [k15]
  refine AA h31 fun mm2 hm2=>?_
  try simp only [nx4]at hm2
  simp -implicitDefEqProofs (disch:=first|omega|simp only[nx4]<;>omega|fail)
  refine AA h28 fun mm3 hm3=>?_
  try simp only [nx4]at hm3
  simp -implicitDefEqProofs (disch:=first|omega|simp only[nx4]<;>omega|fail)
theorem AFL {p:List Gl} {t:Pl} (hr:rng t) (h5:wt t 500 100≤500) (h:(wf t && decide (fv t 0=[]) && dfd p t)=true):okA p t:=by
 simp only [Bool.and_eq_true,decide_eq_true_eq]at h
 obtain⟨h6,h7⟩:=KT t 500 100 (by omega) (by omega) h5
 refine⟨h.1.1,hr,fun e he ho=>?_,?_,by omega⟩
 ·have hm:e.s.data.toList∈gls t:=HI.2 ⟨e,he,ho,rfl⟩
  have:=h.2
  unfold dfd at this
  have:=List.all_eq_true.1 this _ hm
  rw [Lm rfl]at this
  exact Fj.1 (by simpa using this)
 ·have:=Lo t 0 0 (by omega) (by rw [h.1.2];simp)
  simpa using this
end Go.AL.Dm
