/- The evaluator: applying. -/
import Derived.Test.YtlledcnjfgcipaaGreatDoorJ10d
import Derived.Test.YtlledcnjfgcipaaGreatDoorJ4s
set_option linter.unusedVariables false
set_option linter.unusedSimpArgs false
set_option maxHeartbeats 4000000
namespace Go.AL.Dm
open Go Go.Proofs
theorem nl_take (l:List Nat) (n:Nat):(nl l).take n=nl (l.take n):=by simp [nl]
theorem nl_drop (l:List Nat) (n:Nat):(nl l).drop n=nl (l.drop n):=by simp [nl]
theorem p150 {p:List Gl} {d:Int} {ev:Evf} (hok:Evok p ev) (hev:EvC p d ev):∀ (m:Nat) {xo oc:Nat} {σ:Sg} {s:St} {f:Ot} {l:List Nat} (_:Sto p (gls0 p) xo oc σ d s) (_:OKs p σ) (_:okO p f σ.cells.length) (_:∀ c∈l,c < σ.cells.length) (_:l.length < m) (_:l.length≤1000),
  ACalls Tryz.prog 150 [.ptr xo 0,f.av,.list 1 .none (nl l)] s fun r s' => r=(applyW ev m f l σ).1.av∧StoK p (gls0 p) xo oc (applyW ev m f l σ).2 d s s'
 | 0,xo,oc,σ,s,f,l,h,hσ,hf,hl,hm,hln => by omega
 | m+1,xo,oc,σ,s,f,l,h,hσ,hf,hl,hm,hln => by
  refine ACalls.bnd Tryz.call150 fun hbd => ?_
  have hx:=hbd _ _ h.1
  have ho:=hbd _ _ h.2.1
  obtain ⟨h1,h2,h3⟩:=id h
  have h152:=p152 f
  have h112:=p112
  refine ACalls.res (fun_sound mixed Tryz.func150 Tryz.call150 k150.2 rfl (awpFun_go _ _ _ _ ?_))
  by_cases hend:f.val=false∨σ.err≠0
  ·have e1:applyW ev (m+1) f l σ=(f,σ):=apply_err ev (m+1) f l σ hend.symm
   rw [e1]
   by_cases hv:f.val=false
   ·rw [hv] at h152
    simp -implicitDefEqProofs (disch:=first|omega|simp only[nx4]<;>omega|fail) [k150,h1]
    refine go_pure h152 fun mm1 hm1 => ?_
    try simp only [nx4] at hm1
    simp -implicitDefEqProofs (disch:=first|omega|simp only[nx4]<;>omega|fail) [Ot.agg]
    exact ⟨_,wk_refl _,rfl,.refl h hx ho (by simp -implicitDefEqProofs (disch:=first|omega|simp only[nx4]<;>omega|fail))⟩
   ·have hv':f.val=true:=by simpa using hv
    have he:σ.err≠0:=hend.resolve_left hv
    rw [hv'] at h152
    simp -implicitDefEqProofs (disch:=first|omega|simp only[nx4]<;>omega|fail) [k150,h1]
    refine go_pure h152 fun mm2 hm2 => ?_
    try simp only [nx4] at hm2
    simp -implicitDefEqProofs (disch:=first|omega|simp only[nx4]<;>omega|fail) [Ot.agg,h1,he]
    exact ⟨_,wk_refl _,rfl,.refl h hx ho (by simp -implicitDefEqProofs (disch:=first|omega|simp only[nx4]<;>omega|fail))⟩
  ·simp only [not_or,Bool.not_eq_false,ne_eq,Decidable.not_not] at hend
   obtain ⟨hv,he⟩:=hend
   rw [hv] at h152
   by_cases hfn:∃ c env l0,f=.fn c env l0
   ·obtain ⟨c,env,l0,rfl⟩:=hfn
    obtain ⟨o5,hc,hl0,hln0⟩:=id hf
    have hnd:=(wf_nd hc.wf).1.lam o5
    have hcn:i64 c.n:=by unfold i64;omega
    have hall:∀ x∈l0++l,x < σ.cells.length:=fun x hx => (List.mem_append.1 hx).elim (hl0 x) (hl x)
    have h151:=p151 l0 l (by omega)
    have e0:=applyW_fn ev m c env l0 l σ
    rw [if_neg (by simp [he])] at e0
    have hL1:(l0++l).length=l0.length+l.length:=List.length_append
    generalize hR:applyW ev (m+1) (.fn c env l0) l σ=R at e0 ⊢
    clear hR
    generalize hL:l0++l=L at e0 h151 hall hL1
    obtain ⟨b,hb⟩:=len_one hnd.2.2
    have hel:=hc.bd
    have hdw:=dw_pos c
    by_cases hlt:(L.length:Int) < c.n
    ·rw [if_pos hlt] at e0
     subst e0
     simp -implicitDefEqProofs (disch:=first|omega|simp only[nx4]<;>omega|fail) [k150,h1]
     refine go_pure h152 fun mm3 hm3 => ?_
     try simp only [nx4] at hm3
     simp -implicitDefEqProofs (disch:=first|omega|simp only[nx4]<;>omega|fail) [h1,he,Ot.cs,ocs]
     refine go_pure h151 fun mm4 hm4 => ?_
     try simp only [nx4] at hm4
     simp -implicitDefEqProofs (disch:=first|omega|simp only[nx4]<;>omega|fail) [hlt]
     exact ⟨_,wk_refl _,rfl,.refl h hx ho (by simp -implicitDefEqProofs (disch:=first|omega|simp only[nx4]<;>omega|fail))⟩
    ·rw [if_neg hlt,hb,List.headD_cons] at e0
     have hcl:((L.take c.n.toNat).length:Int)=inn c:=by rw [List.length_take];simp [inn,o5];omega
     have hbody:=hc.arg (more:=L.take c.n.toNat) (m':=σ.cells.length) (by omega) (x:=b) (by rw [hb];simp) hcl (Nat.le_refl _) fun x hx => hall x (List.mem_of_mem_take hx)
     have h151b:=p151 env (L.take c.n.toNat) (by rw [List.length_take];omega)
     have hr:=hok b (env++L.take c.n.toNat) σ hσ hbody
     have hge:c.n≤(L.length:Int):=by omega
     have w1:([b.av][0]?).getD AV.any=b.av:=rfl
     simp -implicitDefEqProofs (disch:=first|omega|simp only[nx4]<;>omega|fail) [k150,h1]
     refine go_pure h152 fun mm5 hm5 => ?_
     try simp only [nx4] at hm5
     simp -implicitDefEqProofs (disch:=first|omega|simp only[nx4]<;>omega|fail) [h1,he,Ot.cs,ocs]
     refine go_pure h151 fun mm6 hm6 => ?_
     try simp only [nx4] at hm6
     simp -implicitDefEqProofs (disch:=first|omega|simp only[nx4]<;>omega|fail) [hlt,hge,hb,nl_take,w1]
     refine pcV_intro h151b ?_
     simp -implicitDefEqProofs (disch:=first|omega|simp only[nx4]<;>omega|fail)
     intro m5 hm5
     refine go_calls (monoB (hev xo oc σ _ b _ (h.mv (by simp -implicitDefEqProofs (disch:=first|omega|simp only[nx4]<;>omega|fail)) (by simp -implicitDefEqProofs (disch:=first|omega|simp only[nx4]<;>omega|fail))) hσ hbody) fun r s' hn hbd' h' => go_of ?_)
     obtain ⟨rfl,oc2,hS2,k2,k3⟩:=h'
     have hx2:=hbd' _ _ hS2.1
     have ho2:=hbd' _ _ hS2.2.1
     generalize ev b (env++L.take c.n.toNat) σ=r at *
     obtain ⟨o,τ⟩:=r
     have q1:=k3 s.nx (by simp -implicitDefEqProofs (disch:=first|omega|simp only[nx4]<;>omega|fail);omega) (by omega) (by omega)
     have q2:=k3 (s.nx+1) (by simp -implicitDefEqProofs (disch:=first|omega|simp only[nx4]<;>omega|fail);omega) (by omega) (by omega)
     have q3:=k3 mm6 (by simp -implicitDefEqProofs (disch:=first|omega|simp only[nx4]<;>omega|fail);omega) (by omega) (by omega)
     simp -implicitDefEqProofs (disch:=first|omega|simp only[nx4]<;>omega|fail) at q1 q2 q3
     simp -implicitDefEqProofs (disch:=first|omega|simp only[nx4]<;>omega|fail) at hn k2
     simp -implicitDefEqProofs (disch:=first|omega|simp only[nx4]<;>omega|fail) [q1,q2,q3]
     refine ⟨fun hq => ?_,fun hq m7 hm7 => ?_⟩
     ·rw [if_pos hq] at e0
      subst e0
      exact ⟨_,wk_refl _,rfl,oc2,hS2.mv (by simp -implicitDefEqProofs (disch:=first|omega|simp only[nx4]<;>omega|fail)) (by simp -implicitDefEqProofs (disch:=first|omega|simp only[nx4]<;>omega|fail)),by omega,fun q a b c => by
       have e1:=k3 q (by simp -implicitDefEqProofs (disch:=first|omega|simp only[nx4]<;>omega|fail);omega) b c
       simp -implicitDefEqProofs (disch:=first|omega|simp only[nx4]<;>omega|fail) at e1
       simp -implicitDefEqProofs (disch:=first|omega|simp only[nx4]<;>omega|fail) [e1]⟩
     ·rw [if_neg hq] at e0
      subst e0
      rw [nl_drop]
      have hdl:(L.drop c.n.toNat).length=L.length - c.n.toNat:=List.length_drop
      refine go_calls (monoB (p150 hok hev m (xo:=xo) (oc:=oc2) (σ:=τ) (f:=o) (l:=L.drop c.n.toNat) (hS2.mv (by simp -implicitDefEqProofs (disch:=first|omega|simp only[nx4]<;>omega|fail)) (by simp -implicitDefEqProofs (disch:=first|omega|simp only[nx4]<;>omega|fail))) hr.ok hr.out (fun x hx => Nat.lt_of_lt_of_le (hall x (List.mem_of_mem_drop hx)) hr.len) (by omega) (by omega)) fun r s3 hn3 hbd3 h3' => go_of ?_)
      obtain ⟨rfl,oc3,hS3,k5,k6⟩:=h3'
      simp -implicitDefEqProofs (disch:=first|omega|simp only[nx4]<;>omega|fail) at hn3 k5
      have q4:=k6 (s.nx+1) (by simp -implicitDefEqProofs (disch:=first|omega|simp only[nx4]<;>omega|fail);omega) (by omega) (by omega)
      simp -implicitDefEqProofs (disch:=first|omega|simp only[nx4]<;>omega|fail) at q4
      simp -implicitDefEqProofs (disch:=first|omega|simp only[nx4]<;>omega|fail) [q4,q2]
      exact ⟨_,wk_refl _,rfl,oc3,hS3.mv (by simp -implicitDefEqProofs (disch:=first|omega|simp only[nx4]<;>omega|fail)) (by simp -implicitDefEqProofs (disch:=first|omega|simp only[nx4]<;>omega|fail)),by omega,fun q a b c => by
       have e1:=k3 q (by simp -implicitDefEqProofs (disch:=first|omega|simp only[nx4]<;>omega|fail);omega) b c
       have e2:=k6 q (by simp -implicitDefEqProofs (disch:=first|omega|simp only[nx4]<;>omega|fail);omega) b (by omega)
       simp -implicitDefEqProofs (disch:=first|omega|simp only[nx4]<;>omega|fail) at e1 e2
       simp -implicitDefEqProofs (disch:=first|omega|simp only[nx4]<;>omega|fail) [e1,e2]⟩
   ·have e1:applyW ev (m+1) f l σ=(.wrong,σ):=by
     cases f with
     | fn c env l => exact absurd ⟨_,_,_,rfl⟩ hfn
     | _ => rw [applyW.eq_def];simp_all [Ot.val]
    rw [e1]
    have hk:∃ k n t l c env,f.cs=ocs k n t l c env∧k≠3:=by
     cases f with
     | fn c env l => exact absurd ⟨_,_,_,rfl⟩ hfn
     | _ => refine ⟨_,_,_,_,_,_,rfl,?_⟩;decide
    obtain ⟨k,n,t,l',c,env,hcs,hk⟩:=hk
    simp -implicitDefEqProofs (disch:=first|omega|simp only[nx4]<;>omega|fail) [k150,h1]
    refine go_pure h152 fun mm7 hm7 => ?_
    try simp only [nx4] at hm7
    simp -implicitDefEqProofs (disch:=first|omega|simp only[nx4]<;>omega|fail) [Ot.agg,h1,he,hcs,ocs,hk]
    refine go_pure h112 fun mm8 hm8 => ?_
    try simp only [nx4] at hm8
    simp -implicitDefEqProofs (disch:=first|omega|simp only[nx4]<;>omega|fail) [Ot.agg]
    exact ⟨_,wk_refl _,rfl,.refl h hx ho (by simp -implicitDefEqProofs (disch:=first|omega|simp only[nx4]<;>omega|fail))⟩
end Go.AL.Dm
set_option maxHeartbeats 4000000
namespace Go.AL.Dm
open Go Go.Proofs
theorem int_cs (n:Int):(Ot.int n).cs=ocs 1 n eS [] z0 []:=rfl
def thrW (r:Ot × Sg):Ot × Sg:=match r.1 with
 | .int n => (.thr n,r.2)
 | o => (if o.val then .wrong else o,r.2)
def numW (k:Int) (o o2:Ot) (τ:Sg):Ot × Sg:=match o,o2 with
 | .int a,.int b => (numb k a b,τ)
 | _,_ => (.wrong,τ)
def binW (k:Int) (r:Ot × Sg) (g:Sg→Ot × Sg):Ot × Sg :=
 if r.1.val=false∨r.2.err≠0 then r
 else if k=8∨(g r.2).1.val=false∨(g r.2).2.err≠0 then g r.2
 else numW k r.1 (g r.2).1 (g r.2).2
theorem not_int {o:Ot} (h:∀ n,o≠.int n):∃ k:Int,k≠1∧∀ S K,oneK o.cs S K=K (.int .i64 k) S:=by
 cases o with
 | int n => exact absurd rfl (h n)
 | _ => refine ⟨_,?_,fun _ _ => rfl⟩;decide
theorem numW_not {k:Int} {o o2:Ot} {τ:Sg} (h:(∀ n,o≠.int n)∨∀ n,o2≠.int n):numW k o o2 τ=(.wrong,τ):=by
 cases o <;> cases o2 <;> first | rfl | simp at h
theorem p154 {p:List Gl} {d:Int} {ev:Evf} (hok:Evok p ev) (hev:EvC p d ev) {xo oc:Nat} {σ:Sg} {s:St} {e:Pl} {env:List Nat} (h:Sto p (gls0 p) xo oc σ d s) (hσ:OKs p σ) (he:okE p e env σ.cells.length) (o9:e.op=9) (hb:σ.cells.length+13≤400+13 * σ.steps) :
  ACalls Tryz.prog 154 [.ptr xo 0,e.av,.list 1 .none (nl env)] s fun r s' => r=(primW ev e env σ).1.av∧StoK p (gls0 p) xo oc (primW ev e env σ).2 d s s':=by
 refine ACalls.bnd Tryz.call154 fun hbd => ?_
 have hx:=hbd _ _ h.1
 have ho:=hbd _ _ h.2.1
 obtain ⟨h1,h2,h3⟩:=id h
 have hnd:=(wf_nd he.wf).1
 obtain ⟨k,hk,hkl⟩:=hnd.prm o9
 have hi:inn e=0:=by simp [inn,o9]
 have o1:e.op≠1:=by omega
 have h56:=p56 e.s
 have h56t:=p56 throwS
 rw [throw_prim] at h56t
 have h112:=p112
 refine ACalls.res (fun_sound mixed Tryz.func154 Tryz.call154 k154.2 rfl (awpFun_go _ _ _ _ ?_))
 by_cases h9:primI e.s=9
 ·have hs:e.s=⟨#[116,104,114,111,119]⟩:=throw_iff.2 h9
  obtain ⟨x,r,hxr⟩:∃ x r,e.args=x::r:=by
   cases hc:e.args with
   | nil =>
    rw [hc] at hkl
    have:=hk
    rw [arI,h9] at this
    simp [ars] at this
    simp at hkl
    omega
   | cons x r => exact ⟨x,r,rfl⟩
  have hxo:okE p x env σ.cells.length:=he.arg0 o1 hi (by rw [hxr];simp) (Nat.le_refl _)
  have hr:=hok x env σ hσ hxo
  have e1:primW ev e env σ=thrW (ev x env σ):=by
   rw [primW];simp only [h9,if_true,hxr,List.headD_cons]
   generalize ev x env σ=r
   obtain ⟨o,τ⟩:=r
   cases o <;> rfl
  have w1:((x.av::List.map Pl.av r)[0]?).getD AV.any=x.av:=rfl
  rw [e1]
  simp -implicitDefEqProofs (disch:=first|omega|simp only[nx4]<;>omega|fail) [k154]
  refine go_pure h56 fun mm1 hm1 => ?_
  try simp only [nx4] at hm1
  simp -implicitDefEqProofs (disch:=first|omega|simp only[nx4]<;>omega|fail) [hs,hxr,w1]
  refine go_calls (monoB (hev xo oc σ _ x env (h.mv (by simp -implicitDefEqProofs (disch:=first|omega|simp only[nx4]<;>omega|fail)) (by simp -implicitDefEqProofs (disch:=first|omega|simp only[nx4]<;>omega|fail))) hσ hxo) fun r s' hn hbd' h' => go_of ?_)
  obtain ⟨rfl,oc2,hS2,k2,k3⟩:=h'
  have hx2:=hbd' _ _ hS2.1
  have ho2:=hbd' _ _ hS2.2.1
  generalize ev x env σ=r at *
  obtain ⟨o,τ⟩:=r
  have q1:=k3 s.nx (by simp -implicitDefEqProofs (disch:=first|omega|simp only[nx4]<;>omega|fail);omega) (by omega) (by omega)
  have q2:=k3 (s.nx+1) (by simp -implicitDefEqProofs (disch:=first|omega|simp only[nx4]<;>omega|fail);omega) (by omega) (by omega)
  simp -implicitDefEqProofs (disch:=first|omega|simp only[nx4]<;>omega|fail) at q1 q2
  simp -implicitDefEqProofs (disch:=first|omega|simp only[nx4]<;>omega|fail) at hn k2
  by_cases hint:∃ n,o=.int n
  ·obtain ⟨n,rfl⟩:=hint
   simp -implicitDefEqProofs (disch:=first|omega|simp only[nx4]<;>omega|fail) [q1,q2,Ot.cs,ocs]
   refine go_pure (p148 n) fun mm2 hm2 => ?_
   try simp only [nx4] at hm2
   simp -implicitDefEqProofs (disch:=first|omega|simp only[nx4]<;>omega|fail) [q1,q2,Ot.agg]
   exact ⟨_,wk_refl _,rfl,oc2,hS2.mv (by simp -implicitDefEqProofs (disch:=first|omega|simp only[nx4]<;>omega|fail)) (by simp -implicitDefEqProofs (disch:=first|omega|simp only[nx4]<;>omega|fail)),by omega,fun q a b c => by
    have e0:=k3 q (by simp -implicitDefEqProofs (disch:=first|omega|simp only[nx4]<;>omega|fail);omega) (by omega) (by omega)
    simp -implicitDefEqProofs (disch:=first|omega|simp only[nx4]<;>omega|fail) at e0
    simp -implicitDefEqProofs (disch:=first|omega|simp only[nx4]<;>omega|fail) [e0]⟩
  ·obtain ⟨k,n,t,l',c,en,hcs,hk⟩:∃ k n t l c env,o.cs=ocs k n t l c env∧k≠1:=by
    cases o with
    | int n => exact absurd ⟨_,rfl⟩ hint
    | _ => refine ⟨_,_,_,_,_,_,rfl,?_⟩;decide
   have hk1:∀ S K,oneK o.cs S K=K (.int .i64 k) S:=fun _ _ => by rw [hcs];rfl
   have e2:thrW (o,τ)=(if o.val then .wrong else o,τ):=by
    cases o with
    | int n => exact absurd ⟨_,rfl⟩ hint
    | _ => rfl
   rw [e2]
   simp -implicitDefEqProofs (disch:=first|omega|simp only[nx4]<;>omega|fail) [q1,q2,hk1,hk]
   refine go_pure (p152 o) fun mm3 hm3 => ?_
   try simp only [nx4] at hm3
   simp -implicitDefEqProofs (disch:=first|omega|simp only[nx4]<;>omega|fail) [q1,q2,Ot.agg]
   refine ⟨fun hv => ?_,fun hv => ?_⟩
   ·rw [if_pos hv]
    refine go_pure h112 fun mm4 hm4 => ?_
    try simp only [nx4] at hm4
    simp -implicitDefEqProofs (disch:=first|omega|simp only[nx4]<;>omega|fail) [q1,q2,Ot.agg]
    exact ⟨_,wk_refl _,rfl,oc2,hS2.mv (by simp -implicitDefEqProofs (disch:=first|omega|simp only[nx4]<;>omega|fail)) (by simp -implicitDefEqProofs (disch:=first|omega|simp only[nx4]<;>omega|fail)),by omega,fun q a b c => by
     have e0:=k3 q (by simp -implicitDefEqProofs (disch:=first|omega|simp only[nx4]<;>omega|fail);omega) (by omega) (by omega)
     simp -implicitDefEqProofs (disch:=first|omega|simp only[nx4]<;>omega|fail) at e0
     simp -implicitDefEqProofs (disch:=first|omega|simp only[nx4]<;>omega|fail) [e0]⟩
   ·rw [if_neg (by simp [hv])]
    exact ⟨_,wk_refl _,rfl,oc2,hS2.mv (by simp -implicitDefEqProofs (disch:=first|omega|simp only[nx4]<;>omega|fail)) (by simp -implicitDefEqProofs (disch:=first|omega|simp only[nx4]<;>omega|fail)),by omega,fun q a b c => by
     have e0:=k3 q (by simp -implicitDefEqProofs (disch:=first|omega|simp only[nx4]<;>omega|fail);omega) (by omega) (by omega)
     simp -implicitDefEqProofs (disch:=first|omega|simp only[nx4]<;>omega|fail) at e0
     simp -implicitDefEqProofs (disch:=first|omega|simp only[nx4]<;>omega|fail) [e0]⟩
 have hns:¬ e.s=⟨#[116,104,114,111,119]⟩:=fun e2 => h9 (throw_iff.1 e2)
 have hbd6:=he.bd
 have hdw:=dw_pos e
 by_cases h99:9 < primI e.s
 ·have e1:primW ev e env σ=(.act e.s (alls env e.args σ).1,(alls env e.args σ).2):=by
   rw [primW];simp only [h9,h99,if_true,if_false]
  rw [e1]
  have hbn:=hσ.bn
  have hst:=hσ.st
  have hlen:=hnd.len
  simp -implicitDefEqProofs (disch:=first|omega|simp only[nx4]<;>omega|fail) [k154]
  refine go_pure h56 fun mm5 hm5 => ?_
  try simp only [nx4] at hm5
  simp -implicitDefEqProofs (disch:=first|omega|simp only[nx4]<;>omega|fail) [hns]
  refine go_pure h56t fun mm6 hm6 => ?_
  try simp only [nx4] at hm6
  simp -implicitDefEqProofs (disch:=first|omega|simp only[nx4]<;>omega|fail) [h99]
  intro m7 hm7
  refine go_calls (monoB (p149 (h.mv (by simp -implicitDefEqProofs (disch:=first|omega|simp only[nx4]<;>omega|fail)) (by simp -implicitDefEqProofs (disch:=first|omega|simp only[nx4]<;>omega|fail))) env e.args (by omega) (fun c hc => (he.arg0 o1 hi hc (Nat.le_refl _)).var) (by omega)) fun r s' hn hbd' h' => go_of ?_)
  obtain ⟨rfl,oc2,hS2,k2,k3⟩:=h'
  have hx2:=hbd' _ _ hS2.1
  have ho2:=hbd' _ _ hS2.2.1
  have q1:=k3 s.nx (by simp -implicitDefEqProofs (disch:=first|omega|simp only[nx4]<;>omega|fail);omega) (by omega) (by omega)
  have q2:=k3 (s.nx+1) (by simp -implicitDefEqProofs (disch:=first|omega|simp only[nx4]<;>omega|fail);omega) (by omega) (by omega)
  simp -implicitDefEqProofs (disch:=first|omega|simp only[nx4]<;>omega|fail) at q1 q2
  simp -implicitDefEqProofs (disch:=first|omega|simp only[nx4]<;>omega|fail) at hn k2
  simp -implicitDefEqProofs (disch:=first|omega|simp only[nx4]<;>omega|fail) [q1,q2]
  intro m8 hm8
  refine ⟨_,?_,rfl,oc2,hS2.mv (by simp -implicitDefEqProofs (disch:=first|omega|simp only[nx4]<;>omega|fail)) (by simp -implicitDefEqProofs (disch:=first|omega|simp only[nx4]<;>omega|fail)),by omega,fun q a b c => by
   have e1:=k3 q (by simp -implicitDefEqProofs (disch:=first|omega|simp only[nx4]<;>omega|fail);omega) b c
   simp -implicitDefEqProofs (disch:=first|omega|simp only[nx4]<;>omega|fail) at e1
   simp -implicitDefEqProofs (disch:=first|omega|simp only[nx4]<;>omega|fail) [e1]⟩
  simp [Ot.av,Ot.cs,ocs,z0,eS,Pl.op,Pl.n,Pl.s,Pl.args,Pl.alts]
 ·have hp9:primI e.s < 9:=by omega
  have h2:=ar_two hk hp9
  have h0:0≤primI e.s:=by
   have hk':=hk
   rw [arI] at hk'
   split at hk'
   ·cases hk'
   ·omega
  obtain ⟨x,y,hxy⟩:=len_two (show e.args.length=2 by omega)
  have e1:primW ev e env σ=binW (primI e.s) (ev x env σ) (ev y env):=by
   rw [primW];simp only [h9,h99,if_false,hxy,List.headD_cons]
   rfl
  rw [e1]
  have hxo:okE p x env σ.cells.length:=he.arg0 o1 hi (by rw [hxy];simp) (Nat.le_refl _)
  have hr:=hok x env σ hσ hxo
  have w1:([x.av,y.av][0]?).getD AV.any=x.av:=rfl
  have w2:([y.av][0]?).getD AV.any=y.av:=rfl
  simp -implicitDefEqProofs (disch:=first|omega|simp only[nx4]<;>omega|fail) [k154]
  refine go_pure h56 fun mm7 hm7 => ?_
  try simp only [nx4] at hm7
  simp -implicitDefEqProofs (disch:=first|omega|simp only[nx4]<;>omega|fail) [hns]
  refine go_pure h56t fun mm8 hm8 => ?_
  try simp only [nx4] at hm8
  simp -implicitDefEqProofs (disch:=first|omega|simp only[nx4]<;>omega|fail) [h99,hxy,w1]
  refine go_calls (monoB (hev xo oc σ _ x env (h.mv (by simp -implicitDefEqProofs (disch:=first|omega|simp only[nx4]<;>omega|fail)) (by simp -implicitDefEqProofs (disch:=first|omega|simp only[nx4]<;>omega|fail))) hσ hxo) fun r s' hn hbd' h' => go_of ?_)
  obtain ⟨rfl,oc2,hS2,k2,k3⟩:=h'
  have hx2:=hbd' _ _ hS2.1
  have ho2:=hbd' _ _ hS2.2.1
  generalize ev x env σ=r at *
  obtain ⟨o,τ⟩:=r
  have q1:=k3 s.nx (by simp -implicitDefEqProofs (disch:=first|omega|simp only[nx4]<;>omega|fail);omega) (by omega) (by omega)
  have q2:=k3 (s.nx+1) (by simp -implicitDefEqProofs (disch:=first|omega|simp only[nx4]<;>omega|fail);omega) (by omega) (by omega)
  simp -implicitDefEqProofs (disch:=first|omega|simp only[nx4]<;>omega|fail) at q1 q2
  simp -implicitDefEqProofs (disch:=first|omega|simp only[nx4]<;>omega|fail) at hn k2
  simp -implicitDefEqProofs (disch:=first|omega|simp only[nx4]<;>omega|fail) [q1,q2]
  have h152:=p152 o
  have j1:=hS2.1
  by_cases hv:o.val=false
  ·rw [binW,if_pos (.inl hv)]
   rw [hv] at h152
   refine go_pure h152 fun mm9 hm9 => ?_
   try simp only [nx4] at hm9
   simp -implicitDefEqProofs (disch:=first|omega|simp only[nx4]<;>omega|fail) [q1,q2,Ot.agg]
   exact ⟨_,wk_refl _,rfl,oc2,hS2.mv (by simp -implicitDefEqProofs (disch:=first|omega|simp only[nx4]<;>omega|fail)) (by simp -implicitDefEqProofs (disch:=first|omega|simp only[nx4]<;>omega|fail)),by omega,fun q a b c => by
    have e0:=k3 q (by simp -implicitDefEqProofs (disch:=first|omega|simp only[nx4]<;>omega|fail);omega) (by omega) (by omega)
    simp -implicitDefEqProofs (disch:=first|omega|simp only[nx4]<;>omega|fail) at e0
    simp -implicitDefEqProofs (disch:=first|omega|simp only[nx4]<;>omega|fail) [e0]⟩
  have hv':o.val=true:=by simpa using hv
  rw [hv'] at h152
  by_cases her:τ.err=0
  ·have hyo:okE p y env τ.cells.length:=he.arg0 o1 hi (by rw [hxy];simp) hr.len
   have hq:=hok y env τ hr.ok hyo
   have e2:binW (primI e.s) (o,τ) (ev y env)=if primI e.s=8∨(ev y env τ).1.val=false∨(ev y env τ).2.err≠0 then ev y env τ else numW (primI e.s) o (ev y env τ).1 (ev y env τ).2:=by
    rw [binW,if_neg (by simp [hv,her])]
   rw [e2]
   refine go_pure h152 fun mm10 hm10 => ?_
   try simp only [nx4] at hm10
   simp -implicitDefEqProofs (disch:=first|omega|simp only[nx4]<;>omega|fail) [q1,q2,Ot.agg,j1,her,hxy,w2]
   refine go_calls (monoB (hev xo oc2 τ _ y env (hS2.mv (by simp -implicitDefEqProofs (disch:=first|omega|simp only[nx4]<;>omega|fail)) (by simp -implicitDefEqProofs (disch:=first|omega|simp only[nx4]<;>omega|fail))) hr.ok hyo) fun r s3 hn3 hbd3 h3' => go_of ?_)
   obtain ⟨rfl,oc3,hS3,k5,k6⟩:=h3'
   have hx3:=hbd3 _ _ hS3.1
   have ho3:=hbd3 _ _ hS3.2.1
   generalize ev y env τ=r2 at *
   obtain ⟨o2,τ2⟩:=r2
   simp -implicitDefEqProofs (disch:=first|omega|simp only[nx4]<;>omega|fail) at hn3 k5
   have q3:=k6 s.nx (by simp -implicitDefEqProofs (disch:=first|omega|simp only[nx4]<;>omega|fail);omega) (by omega) (by omega)
   have q4:=k6 (s.nx+1) (by simp -implicitDefEqProofs (disch:=first|omega|simp only[nx4]<;>omega|fail);omega) (by omega) (by omega)
   have q5:=k6 s'.nx (by simp -implicitDefEqProofs (disch:=first|omega|simp only[nx4]<;>omega|fail);omega) (by omega) (by omega)
   simp -implicitDefEqProofs (disch:=first|omega|simp only[nx4]<;>omega|fail) at q3 q4 q5
   have h152b:=p152 o2
   have j2:=hS3.1
   by_cases h8:primI e.s=8
   ·have hs8:e.s=⟨⟨[115,101,113]⟩⟩:=primI_inj (b:=pS 8) (by omega) (by rw [h8];rfl)
    rw [if_pos (.inl h8)]
    simp -implicitDefEqProofs (disch:=first|omega|simp only[nx4]<;>omega|fail) [q1,q2,q3,q4,q5,hs8]
    exact ⟨_,wk_refl _,rfl,oc3,hS3.mv (by simp -implicitDefEqProofs (disch:=first|omega|simp only[nx4]<;>omega|fail)) (by simp -implicitDefEqProofs (disch:=first|omega|simp only[nx4]<;>omega|fail)),by omega,fun q a b c => by
     have e0:=k3 q (by simp -implicitDefEqProofs (disch:=first|omega|simp only[nx4]<;>omega|fail);omega) (by omega) (by omega)
     have e1:=k6 q (by simp -implicitDefEqProofs (disch:=first|omega|simp only[nx4]<;>omega|fail);omega) (by omega) (by omega)
     simp -implicitDefEqProofs (disch:=first|omega|simp only[nx4]<;>omega|fail) at e0 e1
     simp -implicitDefEqProofs (disch:=first|omega|simp only[nx4]<;>omega|fail) [e0,e1]⟩
   have hs8:¬ e.s=⟨⟨[115,101,113]⟩⟩:=fun e4 => h8 (by rw [e4];rfl)
   simp -implicitDefEqProofs (disch:=first|omega|simp only[nx4]<;>omega|fail) [q1,q2,q3,q4,q5,hs8]
   by_cases hv2:o2.val=false
   ·rw [if_pos (.inr (.inl hv2))]
    rw [hv2] at h152b
    refine go_pure h152b fun mm11 hm11 => ?_
    try simp only [nx4] at hm11
    simp -implicitDefEqProofs (disch:=first|omega|simp only[nx4]<;>omega|fail) [q1,q2,q3,q4,q5,Ot.agg]
    exact ⟨_,wk_refl _,rfl,oc3,hS3.mv (by simp -implicitDefEqProofs (disch:=first|omega|simp only[nx4]<;>omega|fail)) (by simp -implicitDefEqProofs (disch:=first|omega|simp only[nx4]<;>omega|fail)),by omega,fun q a b c => by
     have e0:=k3 q (by simp -implicitDefEqProofs (disch:=first|omega|simp only[nx4]<;>omega|fail);omega) (by omega) (by omega)
     have e1:=k6 q (by simp -implicitDefEqProofs (disch:=first|omega|simp only[nx4]<;>omega|fail);omega) (by omega) (by omega)
     simp -implicitDefEqProofs (disch:=first|omega|simp only[nx4]<;>omega|fail) at e0 e1
     simp -implicitDefEqProofs (disch:=first|omega|simp only[nx4]<;>omega|fail) [e0,e1]⟩
   have hv2':o2.val=true:=by simpa using hv2
   rw [hv2'] at h152b
   by_cases her2:τ2.err=0
   ·rw [if_neg (by simp [h8,hv2,her2])]
    refine go_pure h152b fun mm12 hm12 => ?_
    try simp only [nx4] at hm12
    simp -implicitDefEqProofs (disch:=first|omega|simp only[nx4]<;>omega|fail) [q1,q2,q3,q4,q5,Ot.agg,j2,her2]
    by_cases ha:∀ n,o≠.int n
    ·obtain ⟨k,hk,hk1⟩:=not_int ha
     rw [numW_not (.inl ha)]
     simp -implicitDefEqProofs (disch:=first|omega|simp only[nx4]<;>omega|fail) [hk1,hk]
     refine go_pure h112 fun mm13 hm13 => ?_
     try simp only [nx4] at hm13
     simp -implicitDefEqProofs (disch:=first|omega|simp only[nx4]<;>omega|fail) [q1,q2,q3,q4,q5,Ot.agg]
     exact ⟨_,wk_refl _,rfl,oc3,hS3.mv (by simp -implicitDefEqProofs (disch:=first|omega|simp only[nx4]<;>omega|fail)) (by simp -implicitDefEqProofs (disch:=first|omega|simp only[nx4]<;>omega|fail)),by omega,fun q a b c => by
      have e0:=k3 q (by simp -implicitDefEqProofs (disch:=first|omega|simp only[nx4]<;>omega|fail);omega) (by omega) (by omega)
      have e1:=k6 q (by simp -implicitDefEqProofs (disch:=first|omega|simp only[nx4]<;>omega|fail);omega) (by omega) (by omega)
      simp -implicitDefEqProofs (disch:=first|omega|simp only[nx4]<;>omega|fail) at e0 e1
      simp -implicitDefEqProofs (disch:=first|omega|simp only[nx4]<;>omega|fail) [e0,e1]⟩
    ·obtain ⟨x1,rfl⟩:∃ n,o=.int n:=by simpa using ha
     by_cases hb:∀ n,o2≠.int n
     ·obtain ⟨k,hk,hk1⟩:=not_int hb
      rw [numW_not (.inr hb)]
      simp -implicitDefEqProofs (disch:=first|omega|simp only[nx4]<;>omega|fail) [q3,q4,q5,hk1,hk,int_cs,ocs]
      refine go_pure h112 fun mm14 hm14 => ?_
      try simp only [nx4] at hm14
      simp -implicitDefEqProofs (disch:=first|omega|simp only[nx4]<;>omega|fail) [q1,q2,q3,q4,q5,Ot.agg]
      exact ⟨_,wk_refl _,rfl,oc3,hS3.mv (by simp -implicitDefEqProofs (disch:=first|omega|simp only[nx4]<;>omega|fail)) (by simp -implicitDefEqProofs (disch:=first|omega|simp only[nx4]<;>omega|fail)),by omega,fun q a b c => by
       have e0:=k3 q (by simp -implicitDefEqProofs (disch:=first|omega|simp only[nx4]<;>omega|fail);omega) (by omega) (by omega)
       have e1:=k6 q (by simp -implicitDefEqProofs (disch:=first|omega|simp only[nx4]<;>omega|fail);omega) (by omega) (by omega)
       simp -implicitDefEqProofs (disch:=first|omega|simp only[nx4]<;>omega|fail) at e0 e1
       simp -implicitDefEqProofs (disch:=first|omega|simp only[nx4]<;>omega|fail) [e0,e1]⟩
     ·obtain ⟨x2,rfl⟩:∃ n,o2=.int n:=by simpa using hb
      have h180:=p180 (s:=e.s) h0 (by omega) (a:=x1) (b:=x2) hr.out hq.out
      simp -implicitDefEqProofs (disch:=first|omega|simp only[nx4]<;>omega|fail) [q1,q2,q3,q4,q5,int_cs,ocs]
      refine go_pure h180 fun mm15 hm15 => ?_
      try simp only [nx4] at hm15
      simp -implicitDefEqProofs (disch:=first|omega|simp only[nx4]<;>omega|fail) [q1,q2,q3,q4,q5,Ot.agg]
      exact ⟨_,wk_refl _,rfl,oc3,hS3.mv (by simp -implicitDefEqProofs (disch:=first|omega|simp only[nx4]<;>omega|fail)) (by simp -implicitDefEqProofs (disch:=first|omega|simp only[nx4]<;>omega|fail)),by omega,fun q a b c => by
       have e0:=k3 q (by simp -implicitDefEqProofs (disch:=first|omega|simp only[nx4]<;>omega|fail);omega) (by omega) (by omega)
       have e1:=k6 q (by simp -implicitDefEqProofs (disch:=first|omega|simp only[nx4]<;>omega|fail);omega) (by omega) (by omega)
       simp -implicitDefEqProofs (disch:=first|omega|simp only[nx4]<;>omega|fail) at e0 e1
       simp -implicitDefEqProofs (disch:=first|omega|simp only[nx4]<;>omega|fail) [e0,e1]⟩
   ·rw [if_pos (.inr (.inr her2))]
    refine go_pure h152b fun mm16 hm16 => ?_
    try simp only [nx4] at hm16
    simp -implicitDefEqProofs (disch:=first|omega|simp only[nx4]<;>omega|fail) [q1,q2,q3,q4,q5,Ot.agg,j2,her2]
    exact ⟨_,wk_refl _,rfl,oc3,hS3.mv (by simp -implicitDefEqProofs (disch:=first|omega|simp only[nx4]<;>omega|fail)) (by simp -implicitDefEqProofs (disch:=first|omega|simp only[nx4]<;>omega|fail)),by omega,fun q a b c => by
     have e0:=k3 q (by simp -implicitDefEqProofs (disch:=first|omega|simp only[nx4]<;>omega|fail);omega) (by omega) (by omega)
     have e1:=k6 q (by simp -implicitDefEqProofs (disch:=first|omega|simp only[nx4]<;>omega|fail);omega) (by omega) (by omega)
     simp -implicitDefEqProofs (disch:=first|omega|simp only[nx4]<;>omega|fail) at e0 e1
     simp -implicitDefEqProofs (disch:=first|omega|simp only[nx4]<;>omega|fail) [e0,e1]⟩
  ·rw [binW,if_pos (.inr her)]
   refine go_pure h152 fun mm17 hm17 => ?_
   try simp only [nx4] at hm17
   simp -implicitDefEqProofs (disch:=first|omega|simp only[nx4]<;>omega|fail) [q1,q2,Ot.agg,j1,her]
   exact ⟨_,wk_refl _,rfl,oc2,hS2.mv (by simp -implicitDefEqProofs (disch:=first|omega|simp only[nx4]<;>omega|fail)) (by simp -implicitDefEqProofs (disch:=first|omega|simp only[nx4]<;>omega|fail)),by omega,fun q a b c => by
    have e0:=k3 q (by simp -implicitDefEqProofs (disch:=first|omega|simp only[nx4]<;>omega|fail);omega) (by omega) (by omega)
    simp -implicitDefEqProofs (disch:=first|omega|simp only[nx4]<;>omega|fail) at e0
    simp -implicitDefEqProofs (disch:=first|omega|simp only[nx4]<;>omega|fail) [e0]⟩
end Go.AL.Dm
set_option maxHeartbeats 4000000
namespace Go.AL.Dm
open Go Go.Proofs
theorem fits_sh (o:Ot) (h:Hd):∃ k n t L c en,o.cs=ocs k n t L c en∧L=fieldsW o∧(fitsW o h=true↔h.op=1∨h.op=3∧k=1∧n=h.n∨h.op=2∧k=2∧t=h.s∧(L.length:Int)=h.n):=by
 cases o <;> refine ⟨_,_,_,_,_,_,rfl,rfl,?_⟩ <;> by_cases h1:h.op=1 <;> simp [fitsW,h1]
theorem alt_okE {p:List Gl} {e:Pl} {env:List Nat} {m:Nat} {hd:Hd} {b:Pl} {o:Ot} (he:okE p e env m) (o8:e.op=8) (hm:(hd,b)∈e.alts) (ho:okO p o m) (hfit:fitsW o hd=true) :
  okE p b (env++(m::(if hd.op=2 then fieldsW o else []))) (m+1):=by
 have hml:((m::(if hd.op=2 then fieldsW o else [])).length:Int)=bnd hd:=by
  unfold bnd
  by_cases h2:hd.op=2
  ·rw [if_pos h2,if_pos h2]
   obtain ⟨k,n,t,L,c,en,hcs,hL,hf⟩:=fits_sh o hd
   rcases hf.1 hfit with f | ⟨f,_⟩ | ⟨_,_,_,f⟩
   ·omega
   ·omega
   ·rw [← hL,List.length_cons];omega
  ·rw [if_neg h2,if_neg h2];rfl
 exact he.alt (a:=(hd,b)) (more:=m::(if hd.op=2 then fieldsW o else [])) (m':=m+1) (by omega) hm hml (by omega) fun c hc => by
  rcases List.mem_cons.1 hc with rfl | hc
  ·omega
  ·split at hc
   ·have:=fields_ok ho c hc;omega
   ·simp at hc
def I153 (p:List Gl) (ev:Evf) (xo oc:Nat) (σ:Sg) (o:Ot) (env:List Nat) (l:List (Hd × Pl)) (s:St) (m:Nat) (g:Env) (s1:St):Prop :=
 ∃ (i:Nat),i≤l.length∧m=l.length - i∧chooseW ev o env l σ=chooseW ev o env (l.drop i) σ∧g.get 0=.ptr xo 0∧g.get 2=.list 8 .none (l.map Pl.altv)∧g.get 3=.list 1 .none (nl env)∧g.get 5=.ptr s.nx 0∧g.get 8=.ptr (s.nx+1) 0 ∧
  g.get 9=.int .i64 i∧s1.m s.nx=some (.box o.cs)∧(∃ bs,s1.m (s.nx+1)=some (.box bs)∧bs.length=10)∧(∀ q,q < s.nx→s1.m q=s.m q)∧s.nx+2≤s1.nx
theorem p153 {p:List Gl} {d:Int} {ev:Evf} (hok:Evok p ev) (hev:EvC p d ev) {xo oc:Nat} {σ:Sg} {s:St} {o:Ot} {e:Pl} {env:List Nat} (h:Sto p (gls0 p) xo oc σ d s) (hσ:OKs p σ) (he:okE p e env σ.cells.length) (o8:e.op=8) (hoo:okO p o σ.cells.length) (hb:σ.cells.length+1≤400+13 * σ.steps) (hln:e.alts.length≤1000) :
  ACalls Tryz.prog 153 [.ptr xo 0,o.av,.list 8 .none (e.alts.map Pl.altv),.list 1 .none (nl env)] s fun r s' => r=(chooseW ev o env e.alts σ).1.av∧StoK p (gls0 p) xo oc (chooseW ev o env e.alts σ).2 d s s':=by
 refine ACalls.bnd Tryz.call153 fun hbd => ?_
 have hx:=hbd _ _ h.1
 have ho:=hbd _ _ h.2.1
 obtain ⟨h1,h2,h3⟩:=id h
 have h112:=p112
 have hst:=hσ.st
 have hbn:=hσ.bn
 have hbd6:=he.bd
 have hdw:=dw_pos e
 refine ACalls.res (fun_sound mixed Tryz.func153 Tryz.call153 k153.2 rfl (awpFun_go _ _ _ _ ?_))
 have hnd:=(wf_nd he.wf).1
 have hhd:=fun a (ha:a∈e.alts) => hnd.hd a ha
 have hae:=fun hd b (ha:(hd,b)∈e.alts) hf => alt_okE (hd:=hd) (b:=b) he o8 ha hoo hf
 clear hnd
 generalize e.alts=l at *
 simp -implicitDefEqProofs (disch:=first|omega|simp only[nx4]<;>omega|fail) [k153]
 refine go_loop (I153 p ev xo oc σ o env l s) l.length ⟨0,by omega,by omega,by simp,?_,?_,?_,?_,?_,?_,?_,?_,?_,?_⟩ ?_
 iterate 6 (simp -implicitDefEqProofs (disch:=first|omega|simp only[nx4]<;>omega|fail))
 ·simp -implicitDefEqProofs (disch:=first|omega|simp only[nx4]<;>omega|fail)
 ·exact ⟨_,by simp -implicitDefEqProofs (disch:=first|omega|simp only[nx4]<;>omega|fail);rfl,rfl⟩
 ·exact fun q a => by simp -implicitDefEqProofs (disch:=first|omega|simp only[nx4]<;>omega|fail)
 ·simp -implicitDefEqProofs (disch:=first|omega|simp only[nx4]<;>omega|fail)
 rintro m g S ⟨i,hi,rfl,hw,e0,e2,e3,e5,e8,e9,b1,⟨bs,b2,b2l⟩,hk,hnx⟩
 by_cases hlt:i < l.length
 ·have hlt':(i:Int) < l.length:=by omega
  have hget:(l.map Pl.altv)[i]?=some (Pl.altv l[i]):=by simp [hlt]
  have hmem:l[i]∈l:=List.getElem_mem hlt
  have hdr:l.drop i=l[i]::l.drop (i+1):=List.drop_eq_getElem_cons hlt
  generalize l[i]=a at *
  obtain ⟨hd,b⟩:=a
  obtain ⟨k,n,t,L,c,en,hcs,hL,hfit⟩:=fits_sh o hd
  rw [hdr,chooseW] at hw
  by_cases hf:fitsW o hd=true
  ·rw [if_pos hf] at hw
   have he1:=hae _ _ hmem hf
   have hnhd:=hhd _ hmem
   have henv:env.length≤6000:=by omega
   have hσ1:OKs p (σ.add (.done o)):=hσ.app (xs:=[.done o]) (fun x hx => by simp at hx;subst hx;exact hoo.mono (by simp)) (by simpa using hb)
   have hl1:(σ.add (.done o)).cells.length=σ.cells.length+1:=by simp [Sg.add]
   have h151:PureC Tryz.prog 151 [AV.list 1 Tok.none (nl env),AV.list 1 Tok.full [AV.int IntKind.i64 (σ.cells.length:Nat)]] (.list 1 .none (nl (env++[σ.cells.length]))):=(p151 env [σ.cells.length] (by simp;omega)).argw (by simp [nl])
   rcases hfit.1 hf with f1 | ⟨f1,rfl,rfl⟩ | ⟨f1,rfl,rfl,f4⟩
   ·rw [f1,if_neg (by decide)] at hw he1
    have hav:AV.agg (ocs k n t L c en)=o.av:=by rw [Ot.av,hcs]
    simp only [ocs] at hav
    simp -implicitDefEqProofs (disch:=first|omega|simp only[nx4]<;>omega|fail) [e0,e2,e3,e5,e8,e9,hlt',hlt,hget,b1,Pl.altv,hcs,ocs,f1]
    rw [hav]
    refine go_calls (monoB (p179 (h.mv (by simp -implicitDefEqProofs (disch:=first|omega|simp only[nx4]<;>omega|fail) [hk]) (by simp -implicitDefEqProofs (disch:=first|omega|simp only[nx4]<;>omega|fail) [hk])) (by omega) o) fun r s' hn hbd' h' => go_of ?_)
    obtain ⟨rfl,oc2,hS2,k2,k3⟩:=h'
    have hx2:=hbd' _ _ hS2.1
    have ho2:=hbd' _ _ hS2.2.1
    simp -implicitDefEqProofs (disch:=first|omega|simp only[nx4]<;>omega|fail) at hn k2
    have q1:=k3 s.nx (by simp -implicitDefEqProofs (disch:=first|omega|simp only[nx4]<;>omega|fail);omega) (by omega) (by omega)
    have q2:=k3 (s.nx+1) (by simp -implicitDefEqProofs (disch:=first|omega|simp only[nx4]<;>omega|fail);omega) (by omega) (by omega)
    have q3:=k3 S.nx (by simp -implicitDefEqProofs (disch:=first|omega|simp only[nx4]<;>omega|fail)) (by omega) (by omega)
    simp -implicitDefEqProofs (disch:=first|omega|simp only[nx4]<;>omega|fail) [b1,hcs,ocs] at q1
    simp -implicitDefEqProofs (disch:=first|omega|simp only[nx4]<;>omega|fail) [b2] at q2
    simp -implicitDefEqProofs (disch:=first|omega|simp only[nx4]<;>omega|fail) at q3
    simp -implicitDefEqProofs (disch:=first|omega|simp only[nx4]<;>omega|fail) [e0,e2,e3,e5,e8,e9,q1,q2,q3,b2l,f1]
    refine pcV_intro h151 ?_
    simp -implicitDefEqProofs (disch:=first|omega|simp only[nx4]<;>omega|fail) [q3]
    intro m6 hm6
    refine go_calls (monoB (hev xo oc2 _ _ b _ (hS2.mv (by simp -implicitDefEqProofs (disch:=first|omega|simp only[nx4]<;>omega|fail)) (by simp -implicitDefEqProofs (disch:=first|omega|simp only[nx4]<;>omega|fail))) hσ1 (by rw [hl1];exact he1)) fun r s3 hn3 hbd3 h3' => go_of ?_)
    obtain ⟨rfl,oc3,hS3,k5,k6⟩:=h3'
    rw [hw]
    generalize ev b _ (σ.add (.done o))=r at *
    obtain ⟨o2,τ2⟩:=r
    simp -implicitDefEqProofs (disch:=first|omega|simp only[nx4]<;>omega|fail) at hn3 k5
    have q4:=k6 (s.nx+1) (by simp -implicitDefEqProofs (disch:=first|omega|simp only[nx4]<;>omega|fail);omega) (by omega) (by omega)
    simp -implicitDefEqProofs (disch:=first|omega|simp only[nx4]<;>omega|fail) [q2] at q4
    have hbz:List.drop 10 bs=[]:=List.drop_eq_nil_of_le (by omega)
    simp -implicitDefEqProofs (disch:=first|omega|simp only[nx4]<;>omega|fail) [e8,q4,b2l,hbz]
    refine ⟨_,wk_refl _,rfl,oc3,hS3.mv (by simp -implicitDefEqProofs (disch:=first|omega|simp only[nx4]<;>omega|fail)) (by simp -implicitDefEqProofs (disch:=first|omega|simp only[nx4]<;>omega|fail)),by omega,fun q a b c => by
     have e1:=k3 q (by simp -implicitDefEqProofs (disch:=first|omega|simp only[nx4]<;>omega|fail);omega) b c
     have e2:=k6 q (by simp -implicitDefEqProofs (disch:=first|omega|simp only[nx4]<;>omega|fail);omega) b (by omega)
     simp -implicitDefEqProofs (disch:=first|omega|simp only[nx4]<;>omega|fail) at e1 e2
     simp -implicitDefEqProofs (disch:=first|omega|simp only[nx4]<;>omega|fail) [e1,e2,hk q a]⟩
   ·rw [f1,if_neg (by decide)] at hw he1
    have hav:AV.agg (ocs 1 hd.n t L c en)=o.av:=by rw [Ot.av,hcs]
    simp only [ocs] at hav
    simp -implicitDefEqProofs (disch:=first|omega|simp only[nx4]<;>omega|fail) [e0,e2,e3,e5,e8,e9,hlt',hlt,hget,b1,Pl.altv,hcs,ocs,f1]
    rw [hav]
    refine go_calls (monoB (p179 (h.mv (by simp -implicitDefEqProofs (disch:=first|omega|simp only[nx4]<;>omega|fail) [hk]) (by simp -implicitDefEqProofs (disch:=first|omega|simp only[nx4]<;>omega|fail) [hk])) (by omega) o) fun r s' hn hbd' h' => go_of ?_)
    obtain ⟨rfl,oc2,hS2,k2,k3⟩:=h'
    have hx2:=hbd' _ _ hS2.1
    have ho2:=hbd' _ _ hS2.2.1
    simp -implicitDefEqProofs (disch:=first|omega|simp only[nx4]<;>omega|fail) at hn k2
    have q1:=k3 s.nx (by simp -implicitDefEqProofs (disch:=first|omega|simp only[nx4]<;>omega|fail);omega) (by omega) (by omega)
    have q2:=k3 (s.nx+1) (by simp -implicitDefEqProofs (disch:=first|omega|simp only[nx4]<;>omega|fail);omega) (by omega) (by omega)
    have q3:=k3 S.nx (by simp -implicitDefEqProofs (disch:=first|omega|simp only[nx4]<;>omega|fail)) (by omega) (by omega)
    simp -implicitDefEqProofs (disch:=first|omega|simp only[nx4]<;>omega|fail) [b1,hcs,ocs] at q1
    simp -implicitDefEqProofs (disch:=first|omega|simp only[nx4]<;>omega|fail) [b2] at q2
    simp -implicitDefEqProofs (disch:=first|omega|simp only[nx4]<;>omega|fail) at q3
    simp -implicitDefEqProofs (disch:=first|omega|simp only[nx4]<;>omega|fail) [e0,e2,e3,e5,e8,e9,q1,q2,q3,b2l,f1]
    refine pcV_intro h151 ?_
    simp -implicitDefEqProofs (disch:=first|omega|simp only[nx4]<;>omega|fail) [q3]
    intro m6 hm6
    refine go_calls (monoB (hev xo oc2 _ _ b _ (hS2.mv (by simp -implicitDefEqProofs (disch:=first|omega|simp only[nx4]<;>omega|fail)) (by simp -implicitDefEqProofs (disch:=first|omega|simp only[nx4]<;>omega|fail))) hσ1 (by rw [hl1];exact he1)) fun r s3 hn3 hbd3 h3' => go_of ?_)
    obtain ⟨rfl,oc3,hS3,k5,k6⟩:=h3'
    rw [hw]
    generalize ev b _ (σ.add (.done o))=r at *
    obtain ⟨o2,τ2⟩:=r
    simp -implicitDefEqProofs (disch:=first|omega|simp only[nx4]<;>omega|fail) at hn3 k5
    have q4:=k6 (s.nx+1) (by simp -implicitDefEqProofs (disch:=first|omega|simp only[nx4]<;>omega|fail);omega) (by omega) (by omega)
    simp -implicitDefEqProofs (disch:=first|omega|simp only[nx4]<;>omega|fail) [q2] at q4
    have hbz:List.drop 10 bs=[]:=List.drop_eq_nil_of_le (by omega)
    simp -implicitDefEqProofs (disch:=first|omega|simp only[nx4]<;>omega|fail) [e8,q4,b2l,hbz]
    refine ⟨_,wk_refl _,rfl,oc3,hS3.mv (by simp -implicitDefEqProofs (disch:=first|omega|simp only[nx4]<;>omega|fail)) (by simp -implicitDefEqProofs (disch:=first|omega|simp only[nx4]<;>omega|fail)),by omega,fun q a b c => by
     have e1:=k3 q (by simp -implicitDefEqProofs (disch:=first|omega|simp only[nx4]<;>omega|fail);omega) b c
     have e2:=k6 q (by simp -implicitDefEqProofs (disch:=first|omega|simp only[nx4]<;>omega|fail);omega) b (by omega)
     simp -implicitDefEqProofs (disch:=first|omega|simp only[nx4]<;>omega|fail) at e1 e2
     simp -implicitDefEqProofs (disch:=first|omega|simp only[nx4]<;>omega|fail) [e1,e2,hk q a]⟩
   ·rw [f1,if_pos rfl,← hL] at hw he1
    have hav:AV.agg (ocs 2 n hd.s L c en)=o.av:=by rw [Ot.av,hcs]
    simp only [ocs] at hav
    simp -implicitDefEqProofs (disch:=first|omega|simp only[nx4]<;>omega|fail) [e0,e2,e3,e5,e8,e9,hlt',hlt,hget,b1,Pl.altv,hcs,ocs,f1,f4]
    rw [hav]
    refine go_calls (monoB (p179 (h.mv (by simp -implicitDefEqProofs (disch:=first|omega|simp only[nx4]<;>omega|fail) [hk]) (by simp -implicitDefEqProofs (disch:=first|omega|simp only[nx4]<;>omega|fail) [hk])) (by omega) o) fun r s' hn hbd' h' => go_of ?_)
    obtain ⟨rfl,oc2,hS2,k2,k3⟩:=h'
    have hx2:=hbd' _ _ hS2.1
    have ho2:=hbd' _ _ hS2.2.1
    simp -implicitDefEqProofs (disch:=first|omega|simp only[nx4]<;>omega|fail) at hn k2
    have q1:=k3 s.nx (by simp -implicitDefEqProofs (disch:=first|omega|simp only[nx4]<;>omega|fail);omega) (by omega) (by omega)
    have q2:=k3 (s.nx+1) (by simp -implicitDefEqProofs (disch:=first|omega|simp only[nx4]<;>omega|fail);omega) (by omega) (by omega)
    have q3:=k3 S.nx (by simp -implicitDefEqProofs (disch:=first|omega|simp only[nx4]<;>omega|fail)) (by omega) (by omega)
    simp -implicitDefEqProofs (disch:=first|omega|simp only[nx4]<;>omega|fail) [b1,hcs,ocs] at q1
    simp -implicitDefEqProofs (disch:=first|omega|simp only[nx4]<;>omega|fail) [b2] at q2
    simp -implicitDefEqProofs (disch:=first|omega|simp only[nx4]<;>omega|fail) at q3
    have hL13:L.length≤13:=by have:=hnhd f1;simp only at this;omega
    have h151c:PureC Tryz.prog 151 [AV.list 1 Tok.none (nl env),AV.list 1 (Tok.own s'.nx) (AV.int IntKind.i64 (σ.cells.length:Nat)::nl L)] (.list 1 .none (nl (env++σ.cells.length::L))):=(p151 env (σ.cells.length::L) (by simp;omega)).argw (by simp [nl])
    simp -implicitDefEqProofs (disch:=first|omega|simp only[nx4]<;>omega|fail) [e0,e2,e3,e5,e8,e9,q1,q2,q3,b2l,f1,f4]
    refine pcV_intro h151c ?_
    simp -implicitDefEqProofs (disch:=first|omega|simp only[nx4]<;>omega|fail) [q3]
    intro m6 hm6
    refine go_calls (monoB (hev xo oc2 _ _ b _ (hS2.mv (by simp -implicitDefEqProofs (disch:=first|omega|simp only[nx4]<;>omega|fail)) (by simp -implicitDefEqProofs (disch:=first|omega|simp only[nx4]<;>omega|fail))) hσ1 (by rw [hl1];exact he1)) fun r s3 hn3 hbd3 h3' => go_of ?_)
    obtain ⟨rfl,oc3,hS3,k5,k6⟩:=h3'
    rw [hw]
    generalize ev b _ (σ.add (.done o))=r at *
    obtain ⟨o2,τ2⟩:=r
    simp -implicitDefEqProofs (disch:=first|omega|simp only[nx4]<;>omega|fail) at hn3 k5
    have q4:=k6 (s.nx+1) (by simp -implicitDefEqProofs (disch:=first|omega|simp only[nx4]<;>omega|fail);omega) (by omega) (by omega)
    simp -implicitDefEqProofs (disch:=first|omega|simp only[nx4]<;>omega|fail) [q2] at q4
    have hbz:List.drop 10 bs=[]:=List.drop_eq_nil_of_le (by omega)
    simp -implicitDefEqProofs (disch:=first|omega|simp only[nx4]<;>omega|fail) [e8,q4,b2l,hbz]
    refine ⟨_,wk_refl _,rfl,oc3,hS3.mv (by simp -implicitDefEqProofs (disch:=first|omega|simp only[nx4]<;>omega|fail)) (by simp -implicitDefEqProofs (disch:=first|omega|simp only[nx4]<;>omega|fail)),by omega,fun q a b c => by
     have e1:=k3 q (by simp -implicitDefEqProofs (disch:=first|omega|simp only[nx4]<;>omega|fail);omega) b c
     have e2:=k6 q (by simp -implicitDefEqProofs (disch:=first|omega|simp only[nx4]<;>omega|fail);omega) b (by omega)
     simp -implicitDefEqProofs (disch:=first|omega|simp only[nx4]<;>omega|fail) at e1 e2
     simp -implicitDefEqProofs (disch:=first|omega|simp only[nx4]<;>omega|fail) [e1,e2,hk q a]⟩
  ·rw [if_neg hf] at hw
   have hnf:(hd.op≠1∧hd.op≠3∧hd.op≠2)∨(hd.op=3∧k≠1)∨(hd.op=3∧k=1∧n≠hd.n)∨(hd.op=2∧k≠2)∨(hd.op=2∧k=2∧t≠hd.s)∨(hd.op=2∧k=2∧t=hd.s∧(L.length:Int)≠hd.n):=by
    rw [hfit] at hf
    by_cases g3:hd.op=3
    ·by_cases g1:k=1
     ·exact .inr (.inr (.inl ⟨g3,g1,fun g2 => hf (.inr (.inl ⟨g3,g1,g2⟩))⟩))
     ·exact .inr (.inl ⟨g3,g1⟩)
    by_cases g2:hd.op=2
    ·by_cases g4:k=2
     ·by_cases g5:t=hd.s
      ·exact .inr (.inr (.inr (.inr (.inr ⟨g2,g4,g5,fun g6 => hf (.inr (.inr ⟨g2,g4,g5,g6⟩))⟩))))
      ·exact .inr (.inr (.inr (.inr (.inl ⟨g2,g4,g5⟩))))
     ·exact .inr (.inr (.inr (.inl ⟨g2,g4⟩)))
    exact .inl ⟨fun g1 => hf (.inl g1),g3,g2⟩
   have w1:IntKind.i64.wrap ((i:Int)+1)=(i+1:Nat):=w64 _ (by omega) (by omega)
   have fin:∀ (Q:AExit→Env→St→Prop) (g':Env) (A B:AObj),g'.get 0=.ptr xo 0→g'.get 2=.list 8 .none (l.map Pl.altv)→g'.get 3=.list 1 .none (nl env)→g'.get 5=.ptr s.nx 0→g'.get 8=.ptr (s.nx+1) 0→g'.get 9=.int .i64 (IntKind.i64.wrap ((i:Int)+1)) →
     go (loopQ (l.length - i) (I153 p ev xo oc σ o env l s) Q .normal g' ((S.new A).set S.nx B)):=fun Q g' A B a0 a2 a3 a5 a8 a9 => by
    refine go_next (l.length - (i+1)) (by omega) ⟨i+1,by omega,rfl,hw,a0,a2,a3,a5,a8,by rw [a9,w1],by simp -implicitDefEqProofs (disch:=first|omega|simp only[nx4]<;>omega|fail) [b1],⟨bs,by simp -implicitDefEqProofs (disch:=first|omega|simp only[nx4]<;>omega|fail) [b2],b2l⟩,fun q a => by simp -implicitDefEqProofs (disch:=first|omega|simp only[nx4]<;>omega|fail) [hk q a],by simp -implicitDefEqProofs (disch:=first|omega|simp only[nx4]<;>omega|fail);omega⟩
   rcases hnf with ⟨f1,f2,f3⟩ | ⟨f1,f2⟩ | ⟨f1,f2,f3⟩ | ⟨f1,f2⟩ | ⟨f1,f2,f3⟩ | ⟨f1,f2,f3,f4⟩
   ·simp -implicitDefEqProofs (disch:=first|omega|simp only[nx4]<;>omega|fail) [e0,e2,e3,e5,e8,e9,hlt',hlt,hget,b1,Pl.altv,hcs,ocs,f1,f2,f3]
    exact fin _ _ _ _ (by simp -implicitDefEqProofs (disch:=first|omega|simp only[nx4]<;>omega|fail) [e0]) (by simp -implicitDefEqProofs (disch:=first|omega|simp only[nx4]<;>omega|fail) [e2]) (by simp -implicitDefEqProofs (disch:=first|omega|simp only[nx4]<;>omega|fail) [e3]) (by simp -implicitDefEqProofs (disch:=first|omega|simp only[nx4]<;>omega|fail) [e5]) (by simp -implicitDefEqProofs (disch:=first|omega|simp only[nx4]<;>omega|fail) [e8]) (by simp -implicitDefEqProofs (disch:=first|omega|simp only[nx4]<;>omega|fail))
   ·simp -implicitDefEqProofs (disch:=first|omega|simp only[nx4]<;>omega|fail) [e0,e2,e3,e5,e8,e9,hlt',hlt,hget,b1,Pl.altv,hcs,ocs,f1,f2]
    exact fin _ _ _ _ (by simp -implicitDefEqProofs (disch:=first|omega|simp only[nx4]<;>omega|fail) [e0]) (by simp -implicitDefEqProofs (disch:=first|omega|simp only[nx4]<;>omega|fail) [e2]) (by simp -implicitDefEqProofs (disch:=first|omega|simp only[nx4]<;>omega|fail) [e3]) (by simp -implicitDefEqProofs (disch:=first|omega|simp only[nx4]<;>omega|fail) [e5]) (by simp -implicitDefEqProofs (disch:=first|omega|simp only[nx4]<;>omega|fail) [e8]) (by simp -implicitDefEqProofs (disch:=first|omega|simp only[nx4]<;>omega|fail))
   ·simp -implicitDefEqProofs (disch:=first|omega|simp only[nx4]<;>omega|fail) [e0,e2,e3,e5,e8,e9,hlt',hlt,hget,b1,Pl.altv,hcs,ocs,f1,f2,f3]
    exact fin _ _ _ _ (by simp -implicitDefEqProofs (disch:=first|omega|simp only[nx4]<;>omega|fail) [e0]) (by simp -implicitDefEqProofs (disch:=first|omega|simp only[nx4]<;>omega|fail) [e2]) (by simp -implicitDefEqProofs (disch:=first|omega|simp only[nx4]<;>omega|fail) [e3]) (by simp -implicitDefEqProofs (disch:=first|omega|simp only[nx4]<;>omega|fail) [e5]) (by simp -implicitDefEqProofs (disch:=first|omega|simp only[nx4]<;>omega|fail) [e8]) (by simp -implicitDefEqProofs (disch:=first|omega|simp only[nx4]<;>omega|fail))
   ·simp -implicitDefEqProofs (disch:=first|omega|simp only[nx4]<;>omega|fail) [e0,e2,e3,e5,e8,e9,hlt',hlt,hget,b1,Pl.altv,hcs,ocs,f1,f2]
    exact fin _ _ _ _ (by simp -implicitDefEqProofs (disch:=first|omega|simp only[nx4]<;>omega|fail) [e0]) (by simp -implicitDefEqProofs (disch:=first|omega|simp only[nx4]<;>omega|fail) [e2]) (by simp -implicitDefEqProofs (disch:=first|omega|simp only[nx4]<;>omega|fail) [e3]) (by simp -implicitDefEqProofs (disch:=first|omega|simp only[nx4]<;>omega|fail) [e5]) (by simp -implicitDefEqProofs (disch:=first|omega|simp only[nx4]<;>omega|fail) [e8]) (by simp -implicitDefEqProofs (disch:=first|omega|simp only[nx4]<;>omega|fail))
   ·simp -implicitDefEqProofs (disch:=first|omega|simp only[nx4]<;>omega|fail) [e0,e2,e3,e5,e8,e9,hlt',hlt,hget,b1,Pl.altv,hcs,ocs,f1,f2,f3]
    exact fin _ _ _ _ (by simp -implicitDefEqProofs (disch:=first|omega|simp only[nx4]<;>omega|fail) [e0]) (by simp -implicitDefEqProofs (disch:=first|omega|simp only[nx4]<;>omega|fail) [e2]) (by simp -implicitDefEqProofs (disch:=first|omega|simp only[nx4]<;>omega|fail) [e3]) (by simp -implicitDefEqProofs (disch:=first|omega|simp only[nx4]<;>omega|fail) [e5]) (by simp -implicitDefEqProofs (disch:=first|omega|simp only[nx4]<;>omega|fail) [e8]) (by simp -implicitDefEqProofs (disch:=first|omega|simp only[nx4]<;>omega|fail))
   ·simp -implicitDefEqProofs (disch:=first|omega|simp only[nx4]<;>omega|fail) [e0,e2,e3,e5,e8,e9,hlt',hlt,hget,b1,Pl.altv,hcs,ocs,f1,f2,f3,f4]
    exact fin _ _ _ _ (by simp -implicitDefEqProofs (disch:=first|omega|simp only[nx4]<;>omega|fail) [e0]) (by simp -implicitDefEqProofs (disch:=first|omega|simp only[nx4]<;>omega|fail) [e2]) (by simp -implicitDefEqProofs (disch:=first|omega|simp only[nx4]<;>omega|fail) [e3]) (by simp -implicitDefEqProofs (disch:=first|omega|simp only[nx4]<;>omega|fail) [e5]) (by simp -implicitDefEqProofs (disch:=first|omega|simp only[nx4]<;>omega|fail) [e8]) (by simp -implicitDefEqProofs (disch:=first|omega|simp only[nx4]<;>omega|fail))
 ·have hge:l.length≤i:=by omega
  have hge':¬ (i:Int) < l.length:=by omega
  have e1:l.drop i=[]:=List.drop_eq_nil_of_le hge
  rw [e1,chooseW] at hw
  rw [hw]
  simp -implicitDefEqProofs (disch:=first|omega|simp only[nx4]<;>omega|fail) [e0,e2,e3,e5,e8,e9,hge']
  refine go_pure h112 fun mm1 hm1 => ?_
  try simp only [nx4] at hm1
  simp -implicitDefEqProofs (disch:=first|omega|simp only[nx4]<;>omega|fail) [b2,b2l,e8]
  refine ⟨_,wk_refl _,rfl,oc,h.mv (by simp -implicitDefEqProofs (disch:=first|omega|simp only[nx4]<;>omega|fail) [hk]) (by simp -implicitDefEqProofs (disch:=first|omega|simp only[nx4]<;>omega|fail) [hk]),.inl rfl,fun q a b c => by simp -implicitDefEqProofs (disch:=first|omega|simp only[nx4]<;>omega|fail) [hk]⟩
end Go.AL.Dm
set_option maxHeartbeats 4000000
namespace Go.AL.Dm
open Go Go.Proofs
def C113 (p:List Gl) (d:Int) (ev:Evf) (e:Pl):Prop:=∀ (xo oc:Nat) (σ:Sg) (s:St) (env:List Nat) (_:Sto p (gls0 p) xo oc σ d s) (_:OKs p σ) (_:okE p e env σ.cells.length) (_:σ.cells.length+13≤400+13 * σ.steps),
  ACalls Tryz.prog 113 [.ptr xo 0,e.av,.list 1 .none (nl env)] s fun r s' => r=(nodeW p ev e env σ).1.av∧StoK p (gls0 p) xo oc (nodeW p ev e env σ).2 d s s'
variable {p:List Gl} {d:Int} {ev:Evf} {e:Pl}
theorem n1 (hok:Evok p ev) (hev:EvC p d ev) (o1:e.op=1):C113 p d ev e:=by
 intro xo oc σ s env h hσ he hb
 refine ACalls.bnd Tryz.call113 fun hbd => ?_
 have hx:=hbd _ _ h.1
 have ho:=hbd _ _ h.2.1
 have hbd6:=he.bd
 have hdw:=dw_pos e
 obtain ⟨h0,h1⟩:=he.var o1
 have hg:=nl_get (env:=env) (i:=(env.length:Int) - 1 - e.n) (by omega) (by omega)
 have w1:IntKind.i64.wrap ((env.length:Int) - 1)=env.length - 1:=w64 _ (by omega) (by omega)
 have w2:IntKind.i64.wrap ((env.length:Int) - 1 - e.n)=env.length - 1 - e.n:=w64 _ (by omega) (by omega)
 have e1:nodeW p ev e env σ=forceW ev (envAt env e.n) σ:=by rw [nodeW,if_pos o1]
 rw [e1]
 refine ACalls.res (fun_sound mixed Tryz.func113 Tryz.call113 k113.2 rfl (awpFun_go _ _ _ _ ?_))
 have w3:∀ h,env[((env.length:Int) - 1 - e.n).toNat]'h=envAt env e.n:=fun h => by simp [envAt,h]
 simp -implicitDefEqProofs (disch:=first|omega|simp only[nx4]<;>omega|fail) [k113,o1,hg,w1,w2,w3]
 refine go_calls (monoB (p111 hok hev (h.mv (by simp -implicitDefEqProofs (disch:=first|omega|simp only[nx4]<;>omega|fail)) (by simp -implicitDefEqProofs (disch:=first|omega|simp only[nx4]<;>omega|fail))) hσ (c:=envAt env e.n) (he.lt _ (envAt_mem h0 h1))) fun r s' hn hbd' h' => go_of ?_)
 obtain ⟨rfl,oc2,hS2,k2,k3⟩:=h'
 have q1:=k3 (s.nx+1) (by simp -implicitDefEqProofs (disch:=first|omega|simp only[nx4]<;>omega|fail) <;> omega) (by omega) (by omega)
 simp -implicitDefEqProofs (disch:=first|omega|simp only[nx4]<;>omega|fail) at hn k2 q1
 simp -implicitDefEqProofs (disch:=first|omega|simp only[nx4]<;>omega|fail) [q1,Ot.agg]
 exact ⟨_,wk_refl _,rfl,oc2,hS2.mv (by simp -implicitDefEqProofs (disch:=first|omega|simp only[nx4]<;>omega|fail)) (by simp -implicitDefEqProofs (disch:=first|omega|simp only[nx4]<;>omega|fail)),by omega,fun q a b c => by
  have e0:=k3 q (by simp -implicitDefEqProofs (disch:=first|omega|simp only[nx4]<;>omega|fail) <;> omega) (by omega) (by omega)
  simp -implicitDefEqProofs (disch:=first|omega|simp only[nx4]<;>omega|fail) at e0
  simp -implicitDefEqProofs (disch:=first|omega|simp only[nx4]<;>omega|fail) [e0]⟩
theorem n2 (hok:Evok p ev) (hev:EvC p d ev) (o2:e.op=2) (hpl:p.length≤1000):C113 p d ev e:=by
 intro xo oc σ s env h hσ he hb
 refine ACalls.bnd Tryz.call113 fun hbd => ?_
 have hx:=hbd _ _ h.1
 have ho:=hbd _ _ h.2.1
 obtain ⟨h1,h2,h3⟩:=id h
 have h23:=p23 p e.s (by omega)
 have e1:nodeW p ev e env σ=forceW ev (findI p e.s).toNat σ:=by rw [nodeW,if_neg (by omega),if_pos o2]
 rw [e1]
 obtain ⟨j,hj,hjl,hjn⟩:=find_name (he.gi e (pre_self e) o2)
 rw [hj] at h23 ⊢
 have hg:(nl (gls0 p))[j]?=some (.int .i64 (j:Nat)):=by simp [nl,gls0,hjl]
 have hgl:(gls0 p).length=p.length:=by simp [gls0]
 have hjl':(j:Int) < p.length:=by omega
 have hpc:=hσ.pl
 refine ACalls.res (fun_sound mixed Tryz.func113 Tryz.call113 k113.2 rfl (awpFun_go _ _ _ _ ?_))
 simp -implicitDefEqProofs (disch:=first|omega|simp only[nx4]<;>omega|fail) [k113,o2,h1]
 refine pcV_intro h23 ?_
 simp -implicitDefEqProofs (disch:=first|omega|simp only[nx4]<;>omega|fail) [hg,hgl,hjl']
 intro m7 hm7
 refine go_calls (monoB (p111 hok hev (h.mv (by simp -implicitDefEqProofs (disch:=first|omega|simp only[nx4]<;>omega|fail)) (by simp -implicitDefEqProofs (disch:=first|omega|simp only[nx4]<;>omega|fail))) hσ (c:=j) (by omega)) fun r s' hn hbd' h' => go_of ?_)
 obtain ⟨rfl,oc2,hS2,k2,k3⟩:=h'
 have q1:=k3 (s.nx+1) (by simp -implicitDefEqProofs (disch:=first|omega|simp only[nx4]<;>omega|fail) <;> omega) (by omega) (by omega)
 simp -implicitDefEqProofs (disch:=first|omega|simp only[nx4]<;>omega|fail) at hn k2 q1
 simp -implicitDefEqProofs (disch:=first|omega|simp only[nx4]<;>omega|fail) [q1,Ot.agg]
 exact ⟨_,wk_refl _,rfl,oc2,hS2.mv (by simp -implicitDefEqProofs (disch:=first|omega|simp only[nx4]<;>omega|fail)) (by simp -implicitDefEqProofs (disch:=first|omega|simp only[nx4]<;>omega|fail)),by omega,fun q a b c => by
  have e0:=k3 q (by simp -implicitDefEqProofs (disch:=first|omega|simp only[nx4]<;>omega|fail) <;> omega) (by omega) (by omega)
  simp -implicitDefEqProofs (disch:=first|omega|simp only[nx4]<;>omega|fail) at e0
  simp -implicitDefEqProofs (disch:=first|omega|simp only[nx4]<;>omega|fail) [e0]⟩
theorem n3 (o3:e.op=3):C113 p d ev e:=by
 intro xo oc σ s env h hσ he hb
 refine ACalls.bnd Tryz.call113 fun hbd => ?_
 have hx:=hbd _ _ h.1
 have ho:=hbd _ _ h.2.1
 have e1:nodeW p ev e env σ=(.int e.n,σ):=by rw [nodeW,if_neg (by omega),if_neg (by omega),if_pos o3]
 rw [e1]
 refine ACalls.res (fun_sound mixed Tryz.func113 Tryz.call113 k113.2 rfl (awpFun_go _ _ _ _ ?_))
 simp -implicitDefEqProofs (disch:=first|omega|simp only[nx4]<;>omega|fail) [k113,o3]
 refine ⟨_,?_,rfl,.refl h hx ho (by simp -implicitDefEqProofs (disch:=first|omega|simp only[nx4]<;>omega|fail))⟩
 simp [Ot.av,Ot.cs,ocs,z0,eS,Pl.op,Pl.n,Pl.s,Pl.args,Pl.alts]
theorem n5 (o5:e.op=5):C113 p d ev e:=by
 intro xo oc σ s env h hσ he hb
 refine ACalls.bnd Tryz.call113 fun hbd => ?_
 have hx:=hbd _ _ h.1
 have ho:=hbd _ _ h.2.1
 have e1:nodeW p ev e env σ=(.fn e env [],σ):=by rw [nodeW,if_neg (by omega),if_neg (by omega),if_neg (by omega),if_neg (by omega),if_pos o5]
 rw [e1]
 refine ACalls.res (fun_sound mixed Tryz.func113 Tryz.call113 k113.2 rfl (awpFun_go _ _ _ _ ?_))
 simp -implicitDefEqProofs (disch:=first|omega|simp only[nx4]<;>omega|fail) [k113,o5]
 refine ⟨_,?_,rfl,.refl h hx ho (by simp -implicitDefEqProofs (disch:=first|omega|simp only[nx4]<;>omega|fail))⟩
 simp [Ot.av,Ot.cs,ocs,eS,o5]
theorem n4 (o4:e.op=4):C113 p d ev e:=by
 intro xo oc σ s env h hσ he hb
 refine ACalls.bnd Tryz.call113 fun hbd => ?_
 have hx:=hbd _ _ h.1
 have ho:=hbd _ _ h.2.1
 have hbd6:=he.bd
 have hdw:=dw_pos e
 have hbn:=hσ.bn
 have hst:=hσ.st
 have hlen:=(wf_nd he.wf).1.len
 have hi:inn e=0:=by simp [inn,o4]
 have e1:nodeW p ev e env σ=(.con e.s (alls env e.args σ).1,(alls env e.args σ).2):=by rw [nodeW,if_neg (by omega),if_neg (by omega),if_neg (by omega),if_pos o4]
 rw [e1]
 refine ACalls.res (fun_sound mixed Tryz.func113 Tryz.call113 k113.2 rfl (awpFun_go _ _ _ _ ?_))
 simp -implicitDefEqProofs (disch:=first|omega|simp only[nx4]<;>omega|fail) [k113,o4]
 intro m7 hm7
 refine go_calls (monoB (p149 (h.mv (by simp -implicitDefEqProofs (disch:=first|omega|simp only[nx4]<;>omega|fail)) (by simp -implicitDefEqProofs (disch:=first|omega|simp only[nx4]<;>omega|fail))) env e.args (by omega) (fun c hc => (he.arg0 (by omega) hi hc (Nat.le_refl _)).var) (by omega)) fun r s' hn hbd' h' => go_of ?_)
 obtain ⟨rfl,oc2,hS2,k2,k3⟩:=h'
 have q1:=k3 s.nx (by simp -implicitDefEqProofs (disch:=first|omega|simp only[nx4]<;>omega|fail) <;> omega) (by omega) (by omega)
 have q2:=k3 (s.nx+1) (by simp -implicitDefEqProofs (disch:=first|omega|simp only[nx4]<;>omega|fail) <;> omega) (by omega) (by omega)
 simp -implicitDefEqProofs (disch:=first|omega|simp only[nx4]<;>omega|fail) at q1 q2
 simp -implicitDefEqProofs (disch:=first|omega|simp only[nx4]<;>omega|fail) at hn k2
 simp -implicitDefEqProofs (disch:=first|omega|simp only[nx4]<;>omega|fail) [q1,q2]
 intro m8 hm8
 refine ⟨_,?_,rfl,oc2,hS2.mv (by simp -implicitDefEqProofs (disch:=first|omega|simp only[nx4]<;>omega|fail)) (by simp -implicitDefEqProofs (disch:=first|omega|simp only[nx4]<;>omega|fail)),by omega,fun q a b c => by
  have e1:=k3 q (by simp -implicitDefEqProofs (disch:=first|omega|simp only[nx4]<;>omega|fail) <;> omega) b c
  simp -implicitDefEqProofs (disch:=first|omega|simp only[nx4]<;>omega|fail) at e1
  simp -implicitDefEqProofs (disch:=first|omega|simp only[nx4]<;>omega|fail) [e1]⟩
 simp [Ot.av,Ot.cs,ocs,z0,eS,Pl.op,Pl.n,Pl.s,Pl.args,Pl.alts]
end Go.AL.Dm
set_option maxHeartbeats 4000000
namespace Go.AL.Dm
open Go Go.Proofs
variable {p:List Gl} {d:Int} {ev:Evf} {e:Pl}
theorem n9 (hok:Evok p ev) (hev:EvC p d ev) (o9:e.op=9):C113 p d ev e:=by
 intro xo oc σ s env h hσ he hb
 refine ACalls.bnd Tryz.call113 fun hbd => ?_
 have hx:=hbd _ _ h.1
 have ho:=hbd _ _ h.2.1
 have e1:nodeW p ev e env σ=primW ev e env σ:=by rw [nodeW];simp [o9]
 rw [e1]
 refine ACalls.res (fun_sound mixed Tryz.func113 Tryz.call113 k113.2 rfl (awpFun_go _ _ _ _ ?_))
 have hfo:AV.agg [.int .i64 9,.int .i64 e.n,.str e.s,.list 5 .none (e.args.map Pl.av),.list 8 .none (e.alts.map Pl.altv)]=e.av:=by rw [← o9];exact Pl.av_fold e
 simp -implicitDefEqProofs (disch:=first|omega|simp only[nx4]<;>omega|fail) [k113,o9,hfo]
 refine go_calls (monoB (p154 hok hev (h.mv (by simp -implicitDefEqProofs (disch:=first|omega|simp only[nx4]<;>omega|fail)) (by simp -implicitDefEqProofs (disch:=first|omega|simp only[nx4]<;>omega|fail))) hσ he o9 hb) fun r s' hn hbd' h' => go_of ?_)
 obtain ⟨rfl,oc2,hS2,k2,k3⟩:=h'
 have q1:=k3 (s.nx+1) (by simp -implicitDefEqProofs (disch:=first|omega|simp only[nx4]<;>omega|fail) <;> omega) (by omega) (by omega)
 simp -implicitDefEqProofs (disch:=first|omega|simp only[nx4]<;>omega|fail) at hn k2 q1
 simp -implicitDefEqProofs (disch:=first|omega|simp only[nx4]<;>omega|fail) [q1,Ot.agg]
 exact ⟨_,wk_refl _,rfl,oc2,hS2.mv (by simp -implicitDefEqProofs (disch:=first|omega|simp only[nx4]<;>omega|fail)) (by simp -implicitDefEqProofs (disch:=first|omega|simp only[nx4]<;>omega|fail)),by omega,fun q a b c => by
  have e0:=k3 q (by simp -implicitDefEqProofs (disch:=first|omega|simp only[nx4]<;>omega|fail) <;> omega) (by omega) (by omega)
  simp -implicitDefEqProofs (disch:=first|omega|simp only[nx4]<;>omega|fail) at e0
  simp -implicitDefEqProofs (disch:=first|omega|simp only[nx4]<;>omega|fail) [e0]⟩
theorem n8 (hok:Evok p ev) (hev:EvC p d ev) (o8:e.op=8):C113 p d ev e:=by
 intro xo oc σ s env h hσ he hb
 refine ACalls.bnd Tryz.call113 fun hbd => ?_
 have hx:=hbd _ _ h.1
 have ho:=hbd _ _ h.2.1
 have hnd:=(wf_nd he.wf).1
 have hl:=hnd.cas o8
 have hi:inn e=0:=by simp [inn,o8]
 obtain ⟨x,hxy⟩:=len_one (show e.args.length=1 by omega)
 have e1:nodeW p ev e env σ=if (ev x env σ).1.val=false∨(ev x env σ).2.err≠0 then ev x env σ else chooseW ev (ev x env σ).1 env e.alts (ev x env σ).2:=by
  rw [nodeW];simp [o8,hxy]
 have hxo:okE p x env σ.cells.length:=he.arg0 (by omega) hi (by rw [hxy];simp) (Nat.le_refl _)
 have hr:=hok x env σ hσ hxo
 have w1:([x.av][0]?).getD AV.any=x.av:=rfl
 rw [e1]
 refine ACalls.res (fun_sound mixed Tryz.func113 Tryz.call113 k113.2 rfl (awpFun_go _ _ _ _ ?_))
 simp -implicitDefEqProofs (disch:=first|omega|simp only[nx4]<;>omega|fail) [k113,o8,hxy,w1]
 refine go_calls (monoB (hev xo oc σ _ x env (h.mv (by simp -implicitDefEqProofs (disch:=first|omega|simp only[nx4]<;>omega|fail)) (by simp -implicitDefEqProofs (disch:=first|omega|simp only[nx4]<;>omega|fail))) hσ hxo) fun r s' hn hbd' h' => go_of ?_)
 obtain ⟨rfl,oc2,hS2,k2,k3⟩:=h'
 have hx2:=hbd' _ _ hS2.1
 have ho2:=hbd' _ _ hS2.2.1
 generalize ev x env σ=r at *
 obtain ⟨o,τ⟩:=r
 have q1:=k3 s.nx (by simp -implicitDefEqProofs (disch:=first|omega|simp only[nx4]<;>omega|fail) <;> omega) (by omega) (by omega)
 have q2:=k3 (s.nx+1) (by simp -implicitDefEqProofs (disch:=first|omega|simp only[nx4]<;>omega|fail) <;> omega) (by omega) (by omega)
 simp -implicitDefEqProofs (disch:=first|omega|simp only[nx4]<;>omega|fail) at q1 q2
 simp -implicitDefEqProofs (disch:=first|omega|simp only[nx4]<;>omega|fail) at hn k2
 simp -implicitDefEqProofs (disch:=first|omega|simp only[nx4]<;>omega|fail) [q1,q2]
 have h152:=p152 o
 have j1:=hS2.1
 by_cases hv:o.val=false
 ·rw [if_pos (.inl hv)]
  rw [hv] at h152
  refine go_pure h152 fun mm1 hm1 => ?_
  try simp only [nx4] at hm1
  simp -implicitDefEqProofs (disch:=first|omega|simp only[nx4]<;>omega|fail) [q1,q2,Ot.agg]
  exact ⟨_,wk_refl _,rfl,oc2,hS2.mv (by simp -implicitDefEqProofs (disch:=first|omega|simp only[nx4]<;>omega|fail)) (by simp -implicitDefEqProofs (disch:=first|omega|simp only[nx4]<;>omega|fail)),by omega,fun q a b c => by
   have e0:=k3 q (by simp -implicitDefEqProofs (disch:=first|omega|simp only[nx4]<;>omega|fail) <;> omega) (by omega) (by omega)
   simp -implicitDefEqProofs (disch:=first|omega|simp only[nx4]<;>omega|fail) at e0
   simp -implicitDefEqProofs (disch:=first|omega|simp only[nx4]<;>omega|fail) [e0]⟩
 have hv':o.val=true:=by simpa using hv
 rw [hv'] at h152
 by_cases her:τ.err=0
 ·rw [if_neg (by simp [hv',her])]
  refine go_pure h152 fun mm2 hm2 => ?_
  try simp only [nx4] at hm2
  simp -implicitDefEqProofs (disch:=first|omega|simp only[nx4]<;>omega|fail) [q1,q2,Ot.agg,j1,her]
  have hinc:τ.cells.length+13 * σ.steps≤σ.cells.length+13 * τ.steps+0:=hr.inc
  have hb1:τ.cells.length+1≤400+13 * τ.steps:=by omega
  refine go_calls (monoB (p153 hok hev (hS2.mv (by simp -implicitDefEqProofs (disch:=first|omega|simp only[nx4]<;>omega|fail)) (by simp -implicitDefEqProofs (disch:=first|omega|simp only[nx4]<;>omega|fail))) hr.ok (he.mono hr.len) o8 hr.out hb1 (by omega)) fun r s3 hn3 hbd3 h3' => go_of ?_)
  obtain ⟨rfl,oc3,hS3,k5,k6⟩:=h3'
  simp -implicitDefEqProofs (disch:=first|omega|simp only[nx4]<;>omega|fail) at hn3 k5
  have q4:=k6 (s.nx+1) (by simp -implicitDefEqProofs (disch:=first|omega|simp only[nx4]<;>omega|fail) <;> omega) (by omega) (by omega)
  simp -implicitDefEqProofs (disch:=first|omega|simp only[nx4]<;>omega|fail) [q2] at q4
  simp -implicitDefEqProofs (disch:=first|omega|simp only[nx4]<;>omega|fail) [q4,Ot.agg]
  exact ⟨_,wk_refl _,rfl,oc3,hS3.mv (by simp -implicitDefEqProofs (disch:=first|omega|simp only[nx4]<;>omega|fail)) (by simp -implicitDefEqProofs (disch:=first|omega|simp only[nx4]<;>omega|fail)),by omega,fun q a b c => by
   have e0:=k3 q (by simp -implicitDefEqProofs (disch:=first|omega|simp only[nx4]<;>omega|fail) <;> omega) (by omega) (by omega)
   have e1:=k6 q (by simp -implicitDefEqProofs (disch:=first|omega|simp only[nx4]<;>omega|fail) <;> omega) (by omega) (by omega)
   simp -implicitDefEqProofs (disch:=first|omega|simp only[nx4]<;>omega|fail) at e0 e1
   simp -implicitDefEqProofs (disch:=first|omega|simp only[nx4]<;>omega|fail) [e0,e1]⟩
 ·rw [if_pos (.inr her)]
  refine go_pure h152 fun mm3 hm3 => ?_
  try simp only [nx4] at hm3
  simp -implicitDefEqProofs (disch:=first|omega|simp only[nx4]<;>omega|fail) [q1,q2,Ot.agg,j1,her]
  exact ⟨_,wk_refl _,rfl,oc2,hS2.mv (by simp -implicitDefEqProofs (disch:=first|omega|simp only[nx4]<;>omega|fail)) (by simp -implicitDefEqProofs (disch:=first|omega|simp only[nx4]<;>omega|fail)),by omega,fun q a b c => by
   have e0:=k3 q (by simp -implicitDefEqProofs (disch:=first|omega|simp only[nx4]<;>omega|fail) <;> omega) (by omega) (by omega)
   simp -implicitDefEqProofs (disch:=first|omega|simp only[nx4]<;>omega|fail) at e0
   simp -implicitDefEqProofs (disch:=first|omega|simp only[nx4]<;>omega|fail) [e0]⟩
theorem n6 (hok:Evok p ev) (hev:EvC p d ev) (o6:e.op=6):C113 p d ev e:=by
 intro xo oc σ s env h hσ he hb
 refine ACalls.bnd Tryz.call113 fun hbd => ?_
 have hx:=hbd _ _ h.1
 have ho:=hbd _ _ h.2.1
 have hnd:=(wf_nd he.wf).1
 have hl:=hnd.app o6
 have hlen:=hnd.len
 have hbd6:=he.bd
 have hdw:=dw_pos e
 have hi:inn e=0:=by simp [inn,o6]
 obtain ⟨x,rs,hxy⟩:∃ x rs,e.args=x::rs:=by
  cases hc:e.args with
  | nil => rw [hc] at hl;simp at hl
  | cons x r => exact ⟨x,r,rfl⟩
 have hxo:okE p x env σ.cells.length:=he.arg0 (by omega) hi (by rw [hxy];simp) (Nat.le_refl _)
 have hr:=hok x env σ hσ hxo
 have w1:((x.av::List.map Pl.av rs)[0]?).getD AV.any=x.av:=rfl
 have e1:(∀ c en l,(ev x env σ).1≠.fn c en l)→nodeW p ev e env σ=applyW ev 1 (ev x env σ).1 [] (ev x env σ).2:=fun hne => by
  cases hh:(ev x env σ).1 with
  | fn c en l => exact absurd hh (hne c en l)
  | _ => rw [nodeW];simp [o6,hxy,hh]
 have e2:(∃ c en l,(ev x env σ).1=.fn c en l)→nodeW p ev e env σ=applyW ev (rs.length+2) (ev x env σ).1 (alls env rs (ev x env σ).2).1 (alls env rs (ev x env σ).2).2:=fun ⟨c,en,l,hne⟩ => by
  rw [nodeW];simp [o6,hxy,hne]
 have hallb:=fun (τ:Sg) hσ' hm hb' => alls_ok (p:=p) (env:=env) (l:=rs) (σ:=τ) hσ' (fun y hy => he.arg0 (by omega) hi (by rw [hxy];simp [hy]) hm) hb'
 refine ACalls.res (fun_sound mixed Tryz.func113 Tryz.call113 k113.2 rfl (awpFun_go _ _ _ _ ?_))
 simp -implicitDefEqProofs (disch:=first|omega|simp only[nx4]<;>omega|fail) [k113,o6,hxy,w1]
 refine go_calls (monoB (hev xo oc σ _ x env (h.mv (by simp -implicitDefEqProofs (disch:=first|omega|simp only[nx4]<;>omega|fail)) (by simp -implicitDefEqProofs (disch:=first|omega|simp only[nx4]<;>omega|fail))) hσ hxo) fun r s' hn hbd' h' => go_of ?_)
 obtain ⟨rfl,oc2,hS2,k2,k3⟩:=h'
 have hx2:=hbd' _ _ hS2.1
 have ho2:=hbd' _ _ hS2.2.1
 have hinc:=hr.inc
 generalize ev x env σ=r at *
 obtain ⟨o,τ⟩:=r
 have q1:=k3 s.nx (by simp -implicitDefEqProofs (disch:=first|omega|simp only[nx4]<;>omega|fail) <;> omega) (by omega) (by omega)
 have q2:=k3 (s.nx+1) (by simp -implicitDefEqProofs (disch:=first|omega|simp only[nx4]<;>omega|fail) <;> omega) (by omega) (by omega)
 simp -implicitDefEqProofs (disch:=first|omega|simp only[nx4]<;>omega|fail) at q1 q2
 simp -implicitDefEqProofs (disch:=first|omega|simp only[nx4]<;>omega|fail) at hn k2
 simp -implicitDefEqProofs (disch:=first|omega|simp only[nx4]<;>omega|fail) [q1,q2]
 by_cases hfn:∃ c en l,o=.fn c en l
 ·rw [e2 hfn]
  clear e1 e2
  obtain ⟨c,en,l,rfl⟩:=hfn
  have hk1:∀ S K,oneK (Ot.fn c en l).cs S K=K (.int .i64 3) S:=fun _ _ => rfl
  simp -implicitDefEqProofs (disch:=first|omega|simp only[nx4]<;>omega|fail) [q1,q2,hk1]
  intro m7 hm7
  have hinc':τ.cells.length+13 * σ.steps≤σ.cells.length+13 * τ.steps+0:=hinc
  have hst:=hr.ok.st
  have hbn:=hr.ok.bn
  simp only at hst hbn
  have hrl:rs.length≤12:=by rw [hxy] at hlen;simpa using hlen
  obtain ⟨a1,a2,a3,a4,a5,a6,a7⟩:=hallb τ hr.ok hr.len (by omega)
  refine go_calls (monoB (p149 (σ:=τ) (hS2.mv (by simp -implicitDefEqProofs (disch:=first|omega|simp only[nx4]<;>omega|fail)) (by simp -implicitDefEqProofs (disch:=first|omega|simp only[nx4]<;>omega|fail))) env rs (by omega) (fun c hc => (he.arg0 (by omega) hi (by rw [hxy];simp [hc]) (Nat.le_refl _)).var) (by omega)) fun r s3 hn3 hbd3 h3' => go_of ?_)
  obtain ⟨rfl,oc3,hS3,k5,k6⟩:=h3'
  have hx3:=hbd3 _ _ hS3.1
  have ho3:=hbd3 _ _ hS3.2.1
  simp -implicitDefEqProofs (disch:=first|omega|simp only[nx4]<;>omega|fail) at hn3 k5
  have q3:=k6 (s.nx+1) (by simp -implicitDefEqProofs (disch:=first|omega|simp only[nx4]<;>omega|fail) <;> omega) (by omega) (by omega)
  have q4:=k6 s'.nx (by simp -implicitDefEqProofs (disch:=first|omega|simp only[nx4]<;>omega|fail) <;> omega) (by omega) (by omega)
  simp -implicitDefEqProofs (disch:=first|omega|simp only[nx4]<;>omega|fail) [q2] at q3
  simp -implicitDefEqProofs (disch:=first|omega|simp only[nx4]<;>omega|fail) at q4
  simp -implicitDefEqProofs (disch:=first|omega|simp only[nx4]<;>omega|fail) [q3,q4]
  intro m9 hm9
  rw [Ot.agg]
  refine go_calls (monoB (p150 hok hev (rs.length+2) (xo:=xo) (oc:=oc3) (f:=.fn c en l) (hS3.mv (by simp -implicitDefEqProofs (disch:=first|omega|simp only[nx4]<;>omega|fail)) (by simp -implicitDefEqProofs (disch:=first|omega|simp only[nx4]<;>omega|fail))) a1 (hr.out.mono a4) a2 (by omega) (by omega)) fun r s4 hn4 hbd4 h4' => go_of ?_)
  obtain ⟨rfl,oc4,hS4,k7,k8⟩:=h4'
  simp -implicitDefEqProofs (disch:=first|omega|simp only[nx4]<;>omega|fail) at hn4 k7
  have q5:=k8 (s.nx+1) (by simp -implicitDefEqProofs (disch:=first|omega|simp only[nx4]<;>omega|fail) <;> omega) (by omega) (by omega)
  simp -implicitDefEqProofs (disch:=first|omega|simp only[nx4]<;>omega|fail) [q3] at q5
  simp -implicitDefEqProofs (disch:=first|omega|simp only[nx4]<;>omega|fail) [q5,Ot.agg]
  exact ⟨_,wk_refl _,rfl,oc4,hS4.mv (by simp -implicitDefEqProofs (disch:=first|omega|simp only[nx4]<;>omega|fail)) (by simp -implicitDefEqProofs (disch:=first|omega|simp only[nx4]<;>omega|fail)),by omega,fun q a b c => by
   have e0:=k3 q (by simp -implicitDefEqProofs (disch:=first|omega|simp only[nx4]<;>omega|fail) <;> omega) (by omega) (by omega)
   have e1:=k6 q (by simp -implicitDefEqProofs (disch:=first|omega|simp only[nx4]<;>omega|fail) <;> omega) (by omega) (by omega)
   have e2:=k8 q (by simp -implicitDefEqProofs (disch:=first|omega|simp only[nx4]<;>omega|fail) <;> omega) (by omega) (by omega)
   simp -implicitDefEqProofs (disch:=first|omega|simp only[nx4]<;>omega|fail) at e0 e1 e2
   simp -implicitDefEqProofs (disch:=first|omega|simp only[nx4]<;>omega|fail) [e0,e1,e2]⟩
 ·rw [e1 fun c en l hc => hfn ⟨c,en,l,hc⟩]
  clear e1 e2
  obtain ⟨k,hk,hk1⟩:∃ k:Int,k≠3∧∀ S K,oneK o.cs S K=K (.int .i64 k) S:=by
   cases o with
   | fn c en l => exact absurd ⟨_,_,_,rfl⟩ hfn
   | _ => refine ⟨_,?_,fun _ _ => rfl⟩;decide
  simp -implicitDefEqProofs (disch:=first|omega|simp only[nx4]<;>omega|fail) [q1,q2,hk1,hk]
  refine go_calls (monoB (ACalls.argw (args':=[.ptr xo 0,o.av,.list 1 .none (nl [])]) (p150 hok hev 1 (xo:=xo) (oc:=oc2) (σ:=τ) (f:=o) (l:=[]) (hS2.mv (by simp -implicitDefEqProofs (disch:=first|omega|simp only[nx4]<;>omega|fail)) (by simp -implicitDefEqProofs (disch:=first|omega|simp only[nx4]<;>omega|fail))) hr.ok hr.out (by simp) (by simp) (by simp)) (by simp [Ot.av])) fun r s3 hn3 hbd3 h3' => go_of ?_)
  obtain ⟨rfl,oc3,hS3,k5,k6⟩:=h3'
  simp -implicitDefEqProofs (disch:=first|omega|simp only[nx4]<;>omega|fail) at hn3 k5
  have q4:=k6 (s.nx+1) (by simp -implicitDefEqProofs (disch:=first|omega|simp only[nx4]<;>omega|fail) <;> omega) (by omega) (by omega)
  simp -implicitDefEqProofs (disch:=first|omega|simp only[nx4]<;>omega|fail) [q2] at q4
  simp -implicitDefEqProofs (disch:=first|omega|simp only[nx4]<;>omega|fail) [q4,Ot.agg]
  exact ⟨_,wk_refl _,rfl,oc3,hS3.mv (by simp -implicitDefEqProofs (disch:=first|omega|simp only[nx4]<;>omega|fail)) (by simp -implicitDefEqProofs (disch:=first|omega|simp only[nx4]<;>omega|fail)),by omega,fun q a b c => by
   have e0:=k3 q (by simp -implicitDefEqProofs (disch:=first|omega|simp only[nx4]<;>omega|fail) <;> omega) (by omega) (by omega)
   have e1:=k6 q (by simp -implicitDefEqProofs (disch:=first|omega|simp only[nx4]<;>omega|fail) <;> omega) (by omega) (by omega)
   simp -implicitDefEqProofs (disch:=first|omega|simp only[nx4]<;>omega|fail) at e0 e1
   simp -implicitDefEqProofs (disch:=first|omega|simp only[nx4]<;>omega|fail) [e0,e1]⟩
end Go.AL.Dm
set_option maxHeartbeats 4000000
namespace Go.AL.Dm
open Go Go.Proofs
def mor (f i:Nat):List Nat:=(List.range i).map (f+·)
theorem mor_succ (f i:Nat):mor f (i+1)=mor f i++[f+i]:=by simp [mor,List.range_succ]
theorem mor_len (f i:Nat):(mor f i).length=i:=by simp [mor]
def letS (σ:Sg) (inner:List Nat) (l:List Pl):Sg:={ σ with cells:=σ.cells++l.map fun x => .hold x inner }
theorem letS_snoc (σ:Sg) (inner:List Nat) (l:List Pl) (x:Pl):letS σ inner (l++[x])=(letS σ inner l).add (.hold x inner):=by simp [letS,Sg.add]
theorem letS_len (σ:Sg) (inner:List Nat) (l:List Pl):(letS σ inner l).cells.length=σ.cells.length+l.length:=by simp [letS]
def I7a (xo:Nat) (f n:Nat) (env:List Nat) (s S0:St) (m:Nat) (g:Env) (s1:St):Prop :=
 ∃ (i:Nat) (v:AV),i≤n∧m=n - i∧g.get 0=.ptr xo 0∧g.get 2=.list 1 .none (nl env)∧g.get 4=.ptr s.nx 0∧g.get 6=.ptr (s.nx+1) 0∧g.get 8=.int .i64 n∧g.get 9=.int .i64 f∧g.get 10=v∧TokS s1 1 (s.nx+2) v (nl (mor f i))∧g.get 11=.int .i64 i ∧
  (∀ q,q < s.nx+2→s1.m q=S0.m q)∧s.nx+2≤s1.nx
def I7b (p:List Gl) (xo oc:Nat) (σ:Sg) (d:Int) (n:Nat) (inner:List Nat) (args:List Pl) (s S0:St) (m:Nat) (g:Env) (s1:St):Prop :=
 ∃ (i oc1:Nat),i≤n∧m=n - i∧g.get 0=.ptr xo 0∧g.get 4=.ptr s.nx 0∧g.get 6=.ptr (s.nx+1) 0∧g.get 8=.int .i64 n∧g.get 12=.list 1 .none (nl inner)∧g.get 13=.int .i64 i ∧
  Sto p (gls0 p) xo oc1 (letS σ inner (args.take i)) d s1∧(oc1=oc∨s.nx+2≤oc1)∧oc1 < s1.nx ∧
  (∀ q,q < s.nx+2→q≠xo→q≠oc→s1.m q=S0.m q)∧s.nx+2≤s1.nx
variable {p:List Gl} {d:Int} {ev:Evf} {e:Pl}
theorem n7 (hok:Evok p ev) (hev:EvC p d ev) (o7:e.op=7):C113 p d ev e:=by
 intro xo oc σ s env h hσ he hb
 refine ACalls.bnd Tryz.call113 fun hbd => ?_
 have hx:=hbd _ _ h.1
 have ho:=hbd _ _ h.2.1
 obtain ⟨h1,h2,h3⟩:=id h
 have hnd:=(wf_nd he.wf).1
 have hl:=hnd.lt o7
 have hlen:=hnd.len
 have hbd6:=he.bd
 have hdw:=dw_pos e
 have hst:=hσ.st
 have hbn:=hσ.bn
 have hf:=flat_ces σ.cells
 obtain ⟨n,hn⟩:∃ n,e.args.length=n+1:=⟨e.args.length - 1,by omega⟩
 have hi:inn e=n:=by simp [inn,o7];omega
 generalize hfs:σ.cells.length=f at *
 have e1:nodeW p ev e env σ=ev (e.args[n]'(by omega)) (env++mor f n) (letS σ (env++mor f n) (e.args.take n)):=by
  rw [nodeW];simp [o7,hn,mor,hfs,letS]
 have hme:∀ c∈mor f n,c < f+n:=fun c hc => by
  obtain ⟨j,hj,rfl⟩:=List.mem_map.1 hc
  have:=List.mem_range.1 hj
  omega
 have hml:((mor f n).length:Int)=inn e:=by rw [mor_len,hi]
 have hσ1:=hσ.app (xs:=(e.args.take n).map fun x => Ce.hold x (env++mor f n)) (fun x hx => by
   obtain ⟨y,hy,rfl⟩:=List.mem_map.1 hx
   refine (he.arg (m':=f+n) (by omega) (List.mem_of_mem_take hy) hml (by omega) hme).mono ?_
   simp;omega) (by simp;omega)
 have hxo:=(he.arg (m':=f+n) (x:=e.args[n]'(by omega)) (by omega) (by simp) hml (by omega) hme)
 rw [e1]
 refine ACalls.res (fun_sound mixed Tryz.func113 Tryz.call113 k113.2 rfl (awpFun_go _ _ _ _ ?_))
 have w1:IntKind.i64.wrap (n:Int)=n:=w64 _ (by omega) (by omega)
 simp -implicitDefEqProofs (disch:=first|omega|simp only[nx4]<;>omega|fail) [k113,o7,hn,h1,w1]
 generalize hS0:St.new _ _=S0
 have s0:S0.nx=s.nx+2:=by rw [← hS0];simp -implicitDefEqProofs (disch:=first|omega|simp only[nx4]<;>omega|fail)
 have b1:S0.m s.nx=some (.box [.int .i64 7,.int .i64 e.n,.str e.s,.list 5 .none (e.args.map Pl.av),.list 8 .none (e.alts.map Pl.altv)]):=by rw [← hS0];simp -implicitDefEqProofs (disch:=first|omega|simp only[nx4]<;>omega|fail)
 obtain ⟨bs,b2,b2l⟩:∃ bs,S0.m (s.nx+1)=some (.box bs)∧bs.length=10:=⟨_,by rw [← hS0];simp -implicitDefEqProofs (disch:=first|omega|simp only[nx4]<;>omega|fail);rfl,rfl⟩
 have hk0:∀ q,q < s.nx→S0.m q=s.m q:=fun q hq => by rw [← hS0];simp -implicitDefEqProofs (disch:=first|omega|simp only[nx4]<;>omega|fail)
 clear hS0
 refine go_loop (I7a xo f n env s S0) n ⟨0,.list 0 .full [],by omega,by omega,?_,?_,?_,?_,?_,?_,?_,.inl ⟨rfl,rfl⟩,?_,fun q _ => rfl,by omega⟩ ?_
 iterate 8 (try simp -implicitDefEqProofs (disch:=first|omega|simp only[nx4]<;>omega|fail))
 rintro m g s1 ⟨i,v,hin,rfl,g0,g2,g4,g6,g8,g9,g10,ht,g11,hk,hnx⟩
 by_cases hlt:i < n
 ·have hlt':(i:Int) < n:=by omega
  have w2:IntKind.i64.wrap ((f:Int)+i)=(f+i:Nat):=by rw [w64 _ (by omega) (by omega)];omega
  have w3:IntKind.i64.wrap ((i:Int)+1)=(i+1:Nat):=by rw [w64 _ (by omega) (by omega)];omega
  simp -implicitDefEqProofs (disch:=first|omega|simp only[nx4]<;>omega|fail) [g0,g2,g4,g6,g8,g9,g10,g11,hlt',hlt,w2]
  refine ap_tok ht ?_ ?_ (by omega) fun v' s2 ht' hn2 hk2 => ?_
  ·simp [mor];omega
  ·simp [mor];omega
  have e9:nl (mor f i)++[.int .i64 ((f:Int)+(i:Int))]=nl (mor f (i+1)):=by rw [mor_succ,nl_app];simp [nl]
  rw [e9] at ht'
  simp -implicitDefEqProofs (disch:=first|omega|simp only[nx4]<;>omega|fail) [g0,g2,g4,g6,g8,g9,g10,g11,w3]
  refine go_next (n - (i+1)) (by omega) ⟨i+1,v',by omega,rfl,?_,?_,?_,?_,?_,?_,?_,ht',?_,?_,by omega⟩
  iterate 9 (try simp -implicitDefEqProofs (disch:=first|omega|simp only[nx4]<;>omega|fail) [g0,g2,g4,g6,g8,g9,g10,g11])
  exact fun q hq => by rw [hk2 q (by omega) (.inl hq),hk q hq]
 ·obtain rfl:i=n:=by omega
  simp -implicitDefEqProofs (disch:=first|omega|simp only[nx4]<;>omega|fail) [g0,g2,g4,g6,g8,g9,g10,g11]
  have h151:PureC Tryz.prog 151 [AV.list 1 Tok.none (nl env),v] (.list 1 .none (nl (env++mor f i))):=(p151 env (mor f i) (by rw [mor_len];omega)).argw ⟨wk_refl _,ht.wk (wkL_refl _),trivial⟩
  refine go_pure h151 fun mm1 hm1 => ?_
  try simp only [nx4] at hm1
  simp -implicitDefEqProofs (disch:=first|omega|simp only[nx4]<;>omega|fail) [g0,g2,g4,g6,g8,g9,g10,g11]
  refine go_loop (I7b p xo oc σ d i (env++mor f i) e.args s S0) i ⟨0,oc,by omega,by omega,?_,?_,?_,?_,?_,?_,?_,.inl rfl,?_,?_,?_⟩ ?_
  iterate 6 (try simp -implicitDefEqProofs (disch:=first|omega|simp only[nx4]<;>omega|fail) [g0,g2,g4,g6,g8,g9,g10,g11])
  ·rw [show letS σ (env++mor f i) (e.args.take 0)=σ by simp [letS]]
   exact h.mv (by simp -implicitDefEqProofs (disch:=first|omega|simp only[nx4]<;>omega|fail) [hk xo (by omega),hk0 xo hx]) (by simp -implicitDefEqProofs (disch:=first|omega|simp only[nx4]<;>omega|fail) [hk oc (by omega),hk0 oc ho])
  ·simp -implicitDefEqProofs (disch:=first|omega|simp only[nx4]<;>omega|fail);omega
  ·exact fun q a b c => by simp -implicitDefEqProofs (disch:=first|omega|simp only[nx4]<;>omega|fail) [hk q a]
  ·simp -implicitDefEqProofs (disch:=first|omega|simp only[nx4]<;>omega|fail);omega
  clear h151 ht hk g0 g2 g4 g6 g8 g9 g10 g11
  rintro m g s1 ⟨j,oc1,hjn,rfl,g0,g4,g6,g8,g12,g13,hS,hoc,hon,hk,hnx⟩
  have c1:=hk s.nx (by omega) (by omega) (by omega)
  have c2:=hk (s.nx+1) (by omega) (by omega) (by omega)
  rw [b1] at c1
  rw [b2] at c2
  by_cases hlt:j < i
  ·have hlt':(j:Int) < i:=by omega
   have hget:(e.args.map Pl.av)[j]?=some (e.args[j]'(by omega)).av:=by rw [List.getElem?_map,List.getElem?_eq_getElem (by omega)];rfl
   have w3:IntKind.i64.wrap ((j:Int)+1)=(j+1:Nat):=by rw [w64 _ (by omega) (by omega)];omega
   have htk:e.args.take (j+1)=e.args.take j++[e.args[j]'(by omega)]:=List.take_succ_eq_append_getElem (by omega)
   have hlj:(letS σ (env++mor f i) (e.args.take j)).cells.length=f+j:=by rw [letS_len,hfs,List.length_take];omega
   simp -implicitDefEqProofs (disch:=first|omega|simp only[nx4]<;>omega|fail) [g0,g4,g6,g8,g12,g13,hlt',hlt,c1,hget,hn]
   refine go_calls (monoB (p110 hS (by rw [hlj];omega) (e.args[j]'(by omega)) (env++mor f i)) fun r s2 hn2 hbd2 h2' => go_of ?_)
   obtain ⟨rfl,oc2,hS2,k2,k3⟩:=h2'
   have hx2:=hbd2 _ _ hS2.1
   have ho2:=hbd2 _ _ hS2.2.1
   simp -implicitDefEqProofs (disch:=first|omega|simp only[nx4]<;>omega|fail) [g0,g4,g6,g8,g12,g13,w3]
   refine go_next (i - (j+1)) (by omega) ⟨j+1,oc2,by omega,rfl,?_,?_,?_,?_,?_,?_,?_,?_,ho2,?_,by omega⟩
   iterate 6 (try simp -implicitDefEqProofs (disch:=first|omega|simp only[nx4]<;>omega|fail) [g0,g4,g6,g8,g12,g13])
   ·rw [htk,letS_snoc];exact hS2
   ·omega
   ·exact fun q a b c => by rw [k3 q (by omega) b (by omega),hk q a b c]
  ·obtain rfl:j=i:=by omega
   have hget:(e.args.map Pl.av)[j]?=some (e.args[j]'(by omega)).av:=by rw [List.getElem?_map,List.getElem?_eq_getElem (by omega)];rfl
   have hlj:(letS σ (env++mor f j) (e.args.take j)).cells.length=f+j:=by rw [letS_len,hfs,List.length_take];omega
   have hj2:(j:Int) < j+1:=by omega
   simp -implicitDefEqProofs (disch:=first|omega|simp only[nx4]<;>omega|fail) [g0,g4,g6,g8,g12,g13,c1,hget,hn,hj2]
   refine go_calls (monoB (hev xo oc1 _ _ _ _ hS hσ1 (by rw [hlj];exact hxo)) fun r s2 hn2 hbd2 h2' => go_of ?_)
   obtain ⟨rfl,oc2,hS2,k2,k3⟩:=h2'
   have c3:=k3 (s.nx+1) (by omega) (by omega) (by omega)
   rw [c2] at c3
   have hbz:List.drop 10 bs=[]:=List.drop_eq_nil_of_le (by omega)
   simp -implicitDefEqProofs (disch:=first|omega|simp only[nx4]<;>omega|fail) [g6,c3,b2l,hbz,Ot.agg]
   exact ⟨_,wk_refl _,rfl,oc2,hS2.mv (by simp -implicitDefEqProofs (disch:=first|omega|simp only[nx4]<;>omega|fail)) (by simp -implicitDefEqProofs (disch:=first|omega|simp only[nx4]<;>omega|fail)),by omega,fun q a b c => by
    have e1:=k3 q (by omega) b (by omega)
    have e2:=hk q (by omega) b c
    simp -implicitDefEqProofs (disch:=first|omega|simp only[nx4]<;>omega|fail) [e1,e2,hk0 q a]⟩
end Go.AL.Dm
