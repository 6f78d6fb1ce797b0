/- What an evaluation keeps: all of it. -/
import Derived.Test.YtlledcnjfgcipaaGreatDoorJ2
set_option linter.unusedVariables false
set_option linter.unusedSimpArgs false
namespace Go.AL.Dm
open Go Go.Proofs
theorem wrap_i64 (x:Int):i64 (IntKind.i64.wrap x):=by
 unfold i64 IntKind.wrap
 simp [IntKind.bits,IntKind.signed]
 omega
theorem AFN {p:List Gl} (b:Bool) (m:Nat):okO p (boo b) m:=⟨by simp,by simp⟩
theorem AAj {p:List Gl} (k a b:Int) (m:Nat):okO p (HV k a b) m:=by
 unfold HV
 repeat' split
 all_goals first
  | exact wrap_i64 _
  | exact AFN _ _
  | exact⟨by decide,by decide⟩
theorem Rs.wr {p:List Gl} {σ:Sg} (h:OKs p σ) (b:Nat):Rs p σ b (.Bi,σ):=.same (o:=.Bi) h trivial b
theorem Jh (ev:Evf) (m:Nat) (c:Pl) (env l0 l:List Nat) (σ:Sg):BQ ev (m+1) (.fn c env l0) l σ=if σ.err≠0 then(.fn c env l0,σ)else
  if ((l0++l).length:Int) < c.n then(.fn c env (l0++l),σ)
  else if ((l0++l).length:Int)=c.n then ev (c.args.headD c) (env++(l0++l).take c.n.toNat) σ
   else BQ ev m (ev (c.args.headD c) (env++(l0++l).take c.n.toNat) σ).1 ((l0++l).drop c.n.toNat) (ev (c.args.headD c) (env++(l0++l).take c.n.toNat) σ).2:=by
 rw [BQ.eq_def]
 simp [Ot.val]
theorem I6 (ev:Evf) (m:Nat) (f:Ot) (l:List Nat) (σ:Sg) (h:∀ c env l0,f≠.fn c env l0):BQ ev (m+1) f l σ=(f,σ)∨BQ ev (m+1) f l σ=(.Bi,σ):=by
 rw [BQ.eq_def]
 cases f <;> simp [Ot.val]at * <;>(by_cases h0:σ.err=0 <;> simp [h0])
theorem Lq {p:List Gl} {ev:Evf} (h:EU p ev):∀ (m:Nat) {f:Ot} {l:List Nat} {σ:Sg} (_:OKs p σ) (_:okO p f σ.cells.length) (_:∀ c∈l,c < σ.cells.length),Rs p σ 0 (BQ ev m f l σ)
 | 0,f,l,σ,hσ,hf,_=>.same hσ hf 0
 | m+1,f,l,σ,hσ,hf,hl=>by
  by_cases hfn:∃ c env l0,f=.fn c env l0
  ·obtain⟨c,env,l0,rfl⟩:=hfn
   rw [Jh]
   split
   ·exact .same hσ hf 0
   obtain⟨o5,hc,hl0,hln⟩:=hf
   have hall:∀ x∈l0++l,x < σ.cells.length:=fun x hx=>(List.mem_append.1 hx).elim (hl0 x) (hl x)
   split
   ·rename_i hlt
    exact .same (o:=.fn c env (l0++l)) hσ ⟨o5,hc,hall,hlt⟩ 0
   ·rename_i hge
    have hnd:=(A5 hc.wf).1.lam o5
    have hcn:((l0++l).take c.n.toNat).length=c.n.toNat:=by rw [List.length_take];omega
    have hinn:inn c=c.n:=by simp [inn,o5]
    obtain⟨b,hb⟩:∃ b,c.args=[b]:=by
     match hca:c.args,hnd.2.2 with
     | [b],_=>exact⟨b,rfl⟩
    have hbody:=hc.arg (more:=(l0++l).take c.n.toNat) (m':=σ.cells.length) (by omega) (x:=b) (by rw [hb];simp) (by rw [hcn,hinn];omega) (Nat.le_refl _) fun x hx=>hall x (List.mem_of_mem_take hx)
    have hr:=h b _ σ hσ hbody
    rw [hb,List.headD_cons]
    split
    ·exact hr
    ·have:=Lq h m hr.ok hr.out (l:=(l0++l).drop c.n.toNat) fun x hx=>Nat.lt_of_lt_of_le (hall x (List.mem_of_mem_drop hx)) hr.len
     exact Rs.trans hr.len hr.stp hr.inc this
  ·rcases I6 ev m f l σ (fun c env l0 e=>hfn ⟨c,env,l0,e⟩)with e | e <;> rw [e]
   ·exact .same hσ hf 0
   ·exact .wr hσ 0
theorem Ji {p:List Gl} {o:Ot} {m:Nat} (h:okO p o m):∀ c∈B9 o,c < m:=by
 cases o with
 | con s l=>exact h.1
 | act s l=>exact h.1
 | fn c env l=>exact h.2.2.1
 | int n=>simp [B9]
 | thr n=>simp [B9]
 | Bi=>simp [B9]
theorem Mp {p:List Gl} {ev:Evf} (h:EU p ev) {e:Pl} {env:List Nat} {σ:Sg} (hσ:OKs p σ) (he:okE p e env σ.cells.length) (o8:e.op=8) {o:Ot} (ho:okO p o σ.cells.length) (hb:σ.cells.length+1≤400+13 * σ.steps) :
  ∀ l:List (Hd × Pl),(∀ a∈l,a∈e.alts)→Rs p σ 1 (Cg ev o env l σ)
 | [],_=>.wr hσ 1
 | (hd,b)::r,hm=>by
  rw [Cg]
  split
  ·rename_i hfit
   have hl:(σ.add (.done o)).cells.length=σ.cells.length+1:=by simp [Sg.add]
   have hσ1:OKs p (σ.add (.done o)):=hσ.app (xs:=[.done o]) (fun x hx=>by simp at hx;subst hx;exact ho.mono (by simp)) (by simpa using hb)
   have hml:((σ.cells.length::(if hd.op=2 then B9 o else [])).length:Int)=bnd hd:=by
    unfold bnd
    by_cases h2:hd.op=2
    ·rw [if_pos h2,if_pos h2]
     unfold Lk at hfit
     rw [if_neg (by omega)]at hfit
     cases o with
     | con s l =>
      have:=of_decide_eq_true hfit
      simp only [List.length_cons,B9];omega
     | int n=>have:=of_decide_eq_true hfit;omega
     | act s l=>simp at hfit
     | fn c env l=>simp at hfit
     | thr n=>simp at hfit
     | Bi=>simp at hfit
    ·rw [if_neg h2,if_neg h2];rfl
   have he1:=he.alt (a:=(hd,b)) (more:=σ.cells.length::(if hd.op=2 then B9 o else [])) (m':=σ.cells.length+1) (by omega) (hm _ (by simp)) hml (by omega) fun c hc=>by
    rcases List.mem_cons.1 hc with rfl | hc
    ·omega
    ·split at hc
     ·have:=Ji ho c hc;omega
     ·simp at hc
   have hr:=h b _ (σ.add (.done o)) hσ1 (by rw [hl];exact he1)
   have:=Rs.trans (a:=1) (σ:=σ) (σ1:=σ.add (.done o)) (by omega) (Nat.le_refl _) (by show (σ.add (.done o)).cells.length+13 * σ.steps≤_+13 * σ.steps+1;omega) hr
   exact this
  ·exact Mp h hσ he o8 ho hb r fun a ha=>hm a (by simp [ha])
theorem okE.E7 {p:List Gl} {e x:Pl} {env:List Nat} {m m':Nat} (h:okE p e env m) (o1:e.op≠1) (hi:inn e=0) (hx:x∈e.args) (hm:m≤m'):okE p x env m':=by
 have:=h.arg (more:=[]) o1 hx (by simpa using hi.symm) hm (by simp)
 simpa using this
theorem F4 {α:Type} {l:List α} {d:α} (h:0 < l.length):l.headD d∈l:=by cases l <;> simp_all
theorem Mq {α:Type} {l:List α} {i:Nat} {d:α} (h:i < l.length):(l[i]?).getD d∈l:=by simp [h]
theorem AAk {p:List Gl} {ev:Evf} (h:EU p ev) {e:Pl} {env:List Nat} {σ:Sg} (hσ:OKs p σ) (he:okE p e env σ.cells.length) (o9:e.op=9) (hb:σ.cells.length+13≤400+13 * σ.steps):Rs p σ 13 (FI ev e env σ):=by
 have hnd:=(A5 he.wf).1
 obtain⟨k,hk,hkl⟩:=hnd.prm o9
 have hi:inn e=0:=by simp [inn,o9]
 have o1:e.op≠1:=by omega
 unfold FI
 simp only
 split
 ·rename_i h9
  have hl:0 < e.args.length:=by
   have:=hk
   rw [arI,h9]at this
   simp [ars]at this
   omega
  have hr:=h (e.args.headD e) env σ hσ (he.E7 o1 hi (F4 hl) (Nat.le_refl _))
  generalize ev (e.args.headD e) env σ=r at hr
  obtain⟨o,τ⟩:=r
  cases o with
  | int n=>exact(Rs.G6 ⟨hr.ok,hr.out,hr.len,hr.stp,hr.inc⟩ (by omega))
  | con s l=>exact(Rs.G6 ⟨hr.ok,trivial,hr.len,hr.stp,hr.inc⟩ (by omega))
  | fn c env l=>exact(Rs.G6 ⟨hr.ok,trivial,hr.len,hr.stp,hr.inc⟩ (by omega))
  | act s l=>exact(Rs.G6 ⟨hr.ok,trivial,hr.len,hr.stp,hr.inc⟩ (by omega))
  | thr n=>exact(Rs.G6 ⟨hr.ok,hr.out,hr.len,hr.stp,hr.inc⟩ (by omega))
  | Bi=>exact(Rs.G6 ⟨hr.ok,trivial,hr.len,hr.stp,hr.inc⟩ (by omega))
 ·split
  ·obtain⟨h1,h2,h3,h4,h5,h6,h7⟩:=GZ (env:=env) (l:=e.args) hσ (fun x hx=>he.E7 o1 hi hx (Nat.le_refl _)) (by have:=hnd.len;omega)
   have:=hnd.len
   exact⟨h1,⟨h2,by rw [h3];exact this⟩,h4,by rw [h6];exact Nat.le_refl _,by simp only [h6];omega⟩
  ·rename_i h9 h99
   have hl:e.args.length=2:=by
    have h0:=hk
    rw [arI]at h0
    split at h0
    ·cases h0
    ·rename_i hneg
     have:(Ab e.s).toNat < 9:=by omega
     generalize (Ab e.s).toNat=j at h0 this
     have hk2:k=2:=by
      have:∀ j < 9,ars[j]?=some 2:=by decide
      rw [this j (by omega)]at h0
      injection h0 with h0;exact h0.symm
     omega
   have hr:=h (e.args.headD e) env σ hσ (he.E7 o1 hi (F4 (by omega)) (Nat.le_refl _))
   generalize ev (e.args.headD e) env σ=r at hr
   obtain⟨o,τ⟩:=r
   split
   ·exact hr.G6 (by omega)
   ·have hq:=h ((e.args[1]?).getD e) env τ hr.ok (he.E7 o1 hi (Mq (by omega)) hr.len)
    simp only
    generalize ev ((e.args[1]?).getD e) env τ=q at hq
    obtain⟨o2,τ2⟩:=q
    have ht:=Rs.trans hr.len hr.stp hr.inc hq
    split
    ·exact ht.G6 (by omega)
    ·split
     ·exact Rs.G6 ⟨ht.ok,AAj _ _ _ _,ht.len,ht.stp,ht.inc⟩ (by omega)
     ·exact Rs.G6 ⟨ht.ok,trivial,ht.len,ht.stp,ht.inc⟩ (by omega)
theorem AAl {p:List Gl} {ev:Evf} (h:EU p ev) {e:Pl} {env:List Nat} {σ:Sg} (hσ:OKs p σ) (he:okE p e env σ.cells.length) (hb:σ.cells.length+13≤400+13 * σ.steps):Rs p σ 13 (BR p ev e env σ):=by
 have hnd:=(A5 he.wf).1
 have hlen:=hnd.len
 unfold BR
 split
 ·exact(QG h hσ).G6 (by omega)
 split
 ·exact(QG h hσ).G6 (by omega)
 split
 ·exact .same (o:=.int e.n) hσ ((Cc e).1 he.rg).2.1 13
 split
 ·rename_i o1 o2 o3 o4
  have hi:inn e=0:=by simp [inn,o4]
  obtain⟨h1,h2,h3,h4,h5,h6,h7⟩:=GZ (env:=env) (l:=e.args) hσ (fun x hx=>he.E7 o1 hi hx (Nat.le_refl _)) (by omega)
  exact⟨h1,⟨h2,by rw [h3];exact hlen⟩,h4,by rw [h6];exact Nat.le_refl _,by simp only [h6];omega⟩
 split
 ·rename_i o5
  have:=hnd.lam o5
  exact .same (o:=.fn e env []) hσ ⟨o5,he,by simp,by simp;omega⟩ 13
 split
 ·rename_i o1 _ _ _ _ o6
  have hi:inn e=0:=by simp [inn,o6]
  have hl:=hnd.app o6
  have hr:=h (e.args.headD e) env σ hσ (he.E7 o1 hi (F4 (by omega)) (Nat.le_refl _))
  simp only
  generalize ev (e.args.headD e) env σ=r at hr
  obtain⟨o,τ⟩:=r
  have hinc:=hr.inc
  simp only at hinc
  have other:Rs p σ 13 (BQ ev 1 o [] τ):=(Rs.trans hr.len hr.stp hr.inc (Lq h 1 hr.ok hr.out (l:=[]) (by simp))).G6 (by omega)
  cases o with
  | fn c env' l =>
   obtain⟨h1,h2,h3,h4,h5,h6,h7⟩:=GZ (env:=env) (σ:=τ) (l:=e.args.drop 1) hr.ok (fun x hx=>he.E7 o1 hi (List.mem_of_mem_drop hx) hr.len) (by simp only [List.length_drop];omega)
   simp only [List.length_drop]at h5
   have ha:=Lq (σ:=(Be env (e.args.drop 1) τ).2) h (e.args.length+1) h1 (hr.out.mono h4) h2
   refine(Rs.trans (a:=13) (Nat.le_trans hr.len h4) (by rw [h6];exact hr.stp) ?_ ha).G6 (by omega)
   rw [h6];omega
  | int n=>exact other
  | con s l=>exact other
  | act s l=>exact other
  | thr n=>exact other
  | Bi=>exact other
 split
 ·rename_i o1 _ _ _ _ _ o7
  have hl:=hnd.lt o7
  have hi:inn e=(e.args.length:Int) - 1:=by simp [inn,o7]
  simp only
  have hil:((List.range (e.args.length - 1)).map (σ.cells.length+·)).length=e.args.length - 1:=by simp
  have himl:((((List.range (e.args.length - 1)).map (σ.cells.length+·)).length:Nat):Int)=inn e:=by rw [hil,hi];omega
  have htl:((e.args.take (e.args.length - 1)).map fun x=>Ce.hold x (env++(List.range (e.args.length - 1)).map (σ.cells.length+·))).length=e.args.length - 1:=by simp
  have hme:∀ c∈(List.range (e.args.length - 1)).map (σ.cells.length+·),c < σ.cells.length+(e.args.length - 1):=fun c hc=>by
   obtain⟨j,hj,rfl⟩:=List.mem_map.1 hc
   have:=List.mem_range.1 hj
   omega
  have hσ1:=hσ.app (xs:=(e.args.take (e.args.length - 1)).map fun x=>Ce.hold x (env++(List.range (e.args.length - 1)).map (σ.cells.length+·))) (fun x hx=>by
   obtain⟨y,hy,rfl⟩:=List.mem_map.1 hx
   rw [htl]
   exact he.arg o1 (List.mem_of_mem_take hy) himl (by omega) hme) (by simp;omega)
  have hr:=h ((e.args[e.args.length - 1]?).getD e) (env++(List.range (e.args.length - 1)).map (σ.cells.length+·)) _ hσ1 ((he.arg (m':=σ.cells.length+(e.args.length - 1)) o1 (Mq (by omega)) himl (by omega) hme).mono (by simp))
  refine(Rs.trans (σ:=σ) (σ1:={ σ with cells:=σ.cells++_ }) (a:=13) (b:=0) ?_ ?_ ?_ hr).G6 (by omega)
  ·simp
  ·exact Nat.le_refl _
  ·simp;omega
 split
 ·rename_i o1 _ _ _ _ _ _ o8
  have hi:inn e=0:=by simp [inn,o8]
  have hl:=hnd.cas o8
  have hr:=h (e.args.headD e) env σ hσ (he.E7 o1 hi (F4 (by omega)) (Nat.le_refl _))
  simp only
  generalize ev (e.args.headD e) env σ=r at hr
  obtain⟨o,τ⟩:=r
  have hinc:=hr.inc
  simp only at hinc
  split
  ·exact hr.G6 (by omega)
  ·have hc:=Mp (σ:=τ) h hr.ok (he.mono hr.len) o8 hr.out (by have:=hr.stp;simp only at this;omega) e.alts fun a ha=>ha
   exact(Rs.trans hr.len hr.stp hr.inc hc).G6 (by omega)
 ·have:=hnd.op
  exact AAk h hσ he (by omega) hb
theorem I4 {p:List Gl}:∀ n,EU p (evalW p n)
 | n,e,env,σ,hσ,he=>by
  rw [evalW.eq_def]
  dsimp only
  by_cases he0:σ.err≠0
  ·rw [if_pos he0];exact .wr hσ 0
  rw [if_neg he0]
  split
  ·exact⟨⟨hσ.ce,hσ.pl,hσ.bn,hσ.st⟩,trivial,Nat.le_refl _,Nat.le_refl _,by simp⟩
  ·rename_i hs
   have hst:=hσ.st
   have hbn:=hσ.bn
   have h13:σ.cells.length≤400+13 * (σ.steps+1):=by omega
   have h14:σ.steps+1≤20000:=by omega
   have h15:σ.cells.length+13 * σ.steps≤σ.cells.length+13 * (σ.steps+1)+0:=by omega
   have h16:σ.cells.length+13≤400+13 * (σ.steps+1):=by omega
   have hσ1:OKs p { σ with steps:=σ.steps+1 }:=⟨hσ.ce,hσ.pl,h13,h14⟩
   match n with
   | 0=>exact⟨⟨hσ.ce,hσ.pl,h13,h14⟩,trivial,Nat.le_refl _,Nat.le_succ _,h15⟩
   | n+1 =>
    show Rs p σ 0 (BR p (evalW p n) e env { σ with steps:=σ.steps+1 })
    have hr:=AAl (I4 (p:=p) n) hσ1 he h16
    have h1:(BR p (evalW p n) e env { σ with steps:=σ.steps+1 }).2.cells.length+13 * (σ.steps+1)≤σ.cells.length+13 * (BR p (evalW p n) e env { σ with steps:=σ.steps+1 }).2.steps+13:=hr.inc
    have h2:σ.steps+1≤(BR p (evalW p n) e env { σ with steps:=σ.steps+1 }).2.steps:=hr.stp
    generalize BR p (evalW p n) e env { σ with steps:=σ.steps+1 }=r at hr h1 h2 ⊢
    exact⟨hr.ok,hr.out,hr.len,by omega,by omega⟩
theorem QP {p:List Gl} (hp:EW p) (hg:∀ g∈p,Gin p g.body) (hc:∀ g∈p,fv g.body 0=[]):OKs p (start p):=by
 refine⟨fun x hx=>?_,by simp [start],by simp only [start,List.length_map];have:=hp.few;omega,by simp [start]⟩
 obtain⟨g,hgm,rfl⟩:=List.mem_map.1 hx
 obtain⟨h1,h2⟩:=hp.sm g hgm
 refine⟨hp.wf g hgm,h2,hg g hgm,?_,by simp,by have:=h1.2;simp;omega⟩
 have:=Lo g.body 0 0 (by omega) (by rw [hc g hgm];simp)
 simpa using this
def MB (x:ND) (Q:Int→Prop):Prop:=x=none∨∃ l,x=some l∧∃ v∈l,Q v
theorem MB.mono {x:ND} {Q Q':Int→Prop} (h:MB x Q) (hq:∀ v,Q v→Q' v):MB x Q':=by
 rcases h with h | ⟨l,h,v,hv,q⟩
 ·exact .inl h
 ·exact .inr ⟨l,h,v,hv,hq v q⟩
theorem MB.X3 {x:ND} {Q Q':Int→Prop} (h:MB x Q) (hq:∀ l,x=some l→∀ v∈l,Q v→Q' v):MB x Q':=by
 rcases h with h | ⟨l,h,v,hv,q⟩
 ·exact .inl h
 ·exact .inr ⟨l,h,v,hv,hq l h v hv q⟩
theorem MB.no {Q:Int→Prop} (h:MB (some []) Q):False:=by
 rcases h with h | ⟨l,h,v,hv,_⟩
 ·cases h
 ·cases h;simp at hv
theorem MB.with {x y:ND} {Q:Int→Prop} (h:MB (BB x y) Q):MB x Q∨MB y Q:=by
 cases x with
 | none=>exact .inl (.inl rfl)
 | some a =>
  cases y with
  | none=>exact .inr (.inl rfl)
  | some b =>
   rcases h with h | ⟨l,h,v,hv,q⟩
   ·cases h
   ·simp only [BB,Option.some.injEq]at h
    subst h
    rcases Cf.1 hv with hv | hv
    ·exact .inl (.inr ⟨a,rfl,v,hv,q⟩)
    ·exact .inr (.inr ⟨b,rfl,v,hv,q⟩)
theorem MB.out {x:ND} {n:Int} {Q:Int→Prop} (h:MB (B5 n x) Q):MB x fun v=>n≤v∧Q (v - n):=by
 cases x with
 | none=>exact .inl rfl
 | some a =>
  rcases h with h | ⟨l,h,v,hv,q⟩
  ·cases h
  ·simp only [B5,Option.some.injEq]at h
   subst h
   obtain⟨h1,h2⟩:=EC.1 hv
   exact .inr ⟨a,rfl,v+n,h1,by omega,by rw [show v+n - n=v by omega];exact q⟩
theorem Mr:∀ (l:List ND) (acc:ND),(l.foldl BU acc=none→acc=none∧∀ x∈l,x=none)∧(∀ m v,l.foldl BU acc=some m→v∈m→(acc=none∨∃ a,acc=some a∧v∈a)∧∀ x∈l,x=none∨∃ a,x=some a∧v∈a)
 | [],acc=>⟨fun h=>⟨h,by simp⟩,fun m v h hv=>⟨.inr ⟨m,h,hv⟩,by simp⟩⟩
 | x::l,acc=>by
  obtain⟨h1,h2⟩:=Mr l (BU acc x)
  rw [List.foldl_cons]
  refine⟨fun h=>?_,fun m v h hv=>?_⟩
  ·obtain⟨h3,h4⟩:=h1 h
   cases acc <;> cases x <;> simp [BU]at h3
   exact⟨rfl,by simpa using h4⟩
  ·obtain⟨h3,h4⟩:=h2 m v h hv
   cases acc with
   | none =>
    refine⟨.inl rfl,fun y hy=>?_⟩
    rcases List.mem_cons.1 hy with rfl | hy
    ·exact h3
    ·exact h4 y hy
   | some a =>
    cases x with
    | none =>
     refine⟨h3,fun y hy=>?_⟩
     rcases List.mem_cons.1 hy with rfl | hy
     ·exact .inl rfl
     ·exact h4 y hy
    | some b =>
     rcases h3 with h3 | ⟨c,h3,hc⟩
     ·cases h3
     ·simp only [BU,Option.some.injEq]at h3
      subst h3
      simp only [He,List.mem_filter,decide_eq_true_eq]at hc
      refine⟨.inr ⟨a,rfl,hc.1⟩,fun y hy=>?_⟩
      rcases List.mem_cons.1 hy with rfl | hy
      ·exact .inr ⟨b,rfl,hc.2⟩
      ·exact h4 y hy
theorem MB.union {Q:Int→Prop}:∀ {bs:List Bool} {xs:List ND} {acc:ND} (_:MB (Av bs xs acc) Q),MB acc Q∨∃ (i:Nat) (x:ND),bs[i]?=some true∧xs[i]?=some x∧MB x Q
 | [],xs,acc,h=>.inl (by simpa [Av] using h)
 | b::bs,[],acc,h=>.inl (by simpa [Av] using h)
 | b::bs,x::xs,acc,h=>by
  rw [Av]at h
  rcases MB.union h with h | ⟨i,y,h1,h2,h3⟩
  ·cases b with
   | false=>exact .inl (by simpa using h)
   | true =>
    rw [if_pos rfl]at h
    rcases h.with with h | h
    ·exact .inl h
    ·exact .inr ⟨0,x,rfl,rfl,h⟩
  ·exact .inr ⟨i+1,y,by simpa using h1,by simpa using h2,h3⟩
theorem MB.lam {Q:Int→Prop} {fb:ND} {n:Int}:∀ {xs:List ND} {i:Int} {acc:ND} (_:MB (Aw fb n i xs acc) Q),MB acc Q∨∃ (j:Nat) (x:ND),xs[j]?=some x∧i+j < n∧fb.has (n - 1 - (i+j))∧MB x Q
 | [],i,acc,h=>.inl (by simpa [Aw] using h)
 | x::xs,i,acc,h=>by
  rw [Aw]at h
  split at h
  ·rename_i hi
   rcases MB.lam h with h | ⟨j,y,h1,h2,h3,h4⟩
   ·split at h
    ·rename_i hb
     rcases h.with with h | h
     ·exact .inl h
     ·exact .inr ⟨0,x,rfl,by simpa using hi,by simpa using hb,h⟩
    ·exact .inl h
   ·refine .inr ⟨j+1,y,by simpa using h1,by simp;omega,?_,h4⟩
    rw [show n - 1 - (i+((j+1:Nat):Int))=n - 1 - (i+1+j)by simp;omega];exact h3
  ·exact .inl h
theorem GY {α:Type} {l:List α} (h:l.length=1):∃ x,l=[x]:=by
 match l,h with
 | [x],_=>exact⟨x,rfl⟩
def NC (m:Int) (x:ND):Prop:=∀ k,x.has k→0≤k∧k < m
theorem FK (m:Int):NC m none:=fun k h=>by simp [ND.has]at h
theorem Lr (m:Int):NC m (some []):=fun k h=>by simp [ND.has]at h
theorem Kb {m:Int} {a b:ND} (ha:NC m a) (hb:NC m b):NC m (BB a b):=by
 cases a <;> cases b <;> try exact FK _
 intro k hk
 simp only [BB,ND.has,Cf]at hk
 exact hk.elim (ha k) (hb k)
theorem X4 {m n:Int} {a:ND} (ha:NC (m+n) a):NC m (B5 n a):=by
 cases a with
 | none=>exact FK _
 | some l =>
  intro k hk
  simp only [B5,ND.has,EC]at hk
  have:=ha (k+n) hk.1
  omega
theorem AAm {m:Int} {a b:ND} (ha:NC m a) (hb:NC m b):NC m (BU a b):=by
 cases a with
 | none=>exact hb
 | some l =>
  cases b with
  | none=>exact ha
  | some r =>
   intro k hk
   simp only [BU,ND.has,He,List.mem_filter]at hk
   exact ha k hk.1
theorem QQ {m:Int}:∀ (bs:List Bool) (xs:List ND) (acc:ND),(∀ x∈xs,NC m x)→NC m acc→NC m (Av bs xs acc)
 | [],xs,acc,_,h=>by cases xs <;> exact h
 | b::bs,[],acc,_,h=>h
 | b::bs,x::xs,acc,hx,h=>by
  rw [Av]
  refine QQ bs xs _ (fun y hy=>hx y (by simp [hy])) ?_
  split
  ·exact Kb h (hx x (by simp))
  ·exact h
theorem X5 {m:Int} (fb:ND) (n:Int):∀ (xs:List ND) (i:Int) (acc:ND),(∀ x∈xs,NC m x)→NC m acc→NC m (Aw fb n i xs acc)
 | [],i,acc,_,h=>h
 | x::xs,i,acc,hx,h=>by
  rw [Aw]
  split
  ·refine X5 fb n xs _ _ (fun y hy=>hx y (by simp [hy])) ?_
   split
   ·exact Kb h (hx x (by simp))
   ·exact h
  ·exact h
theorem Td {m:Int}:∀ (l:List ND) (acc:ND),(∀ x∈l,NC m x)→NC m acc→NC m (l.foldl BU acc)
 | [],acc,_,h=>h
 | x::l,acc,hx,h=>Td l _ (fun y hy=>hx y (by simp [hy])) (AAm h (hx x (by simp)))
theorem AFO {m:Int} {vs:List ND} {b:ND} (hv:∀ x∈vs,NC (m+vs.length) x) (hb:NC (m+vs.length) b):NC m (DE vs b):=by
 by_cases h:JP vs.length (valOf vs) b
 ·rw [DJ.2 h];exact FK _
 ·obtain⟨l,e,_,hm⟩:=DK h
  rw [e]
  intro k hk
  obtain⟨h1,h2⟩:=(hm k).1 hk
  have h3:=K9 h1
  rcases List.mem_append.1 h3 with h3 | h3
  ·cases b with
   | none=>simp at h3
   | some lb=>have:=hb _ h3;omega
  ·obtain⟨x,hx,hk2⟩:=List.mem_flatMap.1 h3
   cases x with
   | none=>simp at hk2
   | some lx=>have:=hv _ hx _ hk2;omega
end Go.AL.Dm
namespace Go.AL.Dm
open Go Go.Proofs
def eS:ByteArray:=⟨⟨[]⟩⟩
def i41:Pl:=.mk 3 41 eS [] []
def spL:Pl:=.mk 7 0 eS [.mk 1 0 eS [] [],.mk 1 0 eS [] []] []
def spA:Pl:=.mk 6 0 eS [i41,i41] []
def spD:Pl:=.mk 9 0 ⟨⟨[100,105,118]⟩⟩ [i41,.mk 3 0 eS [] []] []
def spc (e:Pl):Prop:=e=spL∨e=spA∨e=spD
theorem R1 {e:Pl} (h:spc e):e.op=7∨e.op=6∨e.op=9:=by
 rcases h with rfl | rfl | rfl <;> decide
theorem FX {e:Pl} (h:e.op≠7∧e.op≠6∧e.op≠9):¬ spc e:=fun hs=>by
 rcases R1 hs with h | h | h <;> omega
open Classical in
mutual
noncomputable def ndS (K:ByteArray→Kn):Pl→ND × ND
 | .mk op n s args alts=>(if spc (.mk op n s args alts)then none else comb K op n s (X6 K args) (AAn K alts),((X6 K args).head?.map (·.2.1)).getD (some []))
noncomputable def X6 (K:ByteArray→Kn):List Pl→List (Pl × ND × ND)
 | []=>[]
 | t::ts=>(t,ndS K t)::X6 K ts
noncomputable def AAn (K:ByteArray→Kn):List (Hd × Pl)→List (Hd × ND)
 | []=>[]
 | (h,t)::ts=>(h,(ndS K t).1)::AAn K ts
end
noncomputable def AP (K:ByteArray→Kn) (t:Pl):ND:=(ndS K t).1
noncomputable def Bw (K:ByteArray→Kn) (t:Pl):ND:=(ndS K t).2
theorem OV (K:ByteArray→Kn):∀ l:List Pl,X6 K l=l.map fun x=>(x,AP K x,Bw K x)
 | []=>rfl
 | t::ts=>by simp [X6,OV K ts,AP,Bw]
theorem Te (K:ByteArray→Kn):∀ l:List (Hd × Pl),AAn K l=l.map fun a=>(a.1,AP K a.2)
 | []=>rfl
 | (h,t)::ts=>by simp [AAn,Te K ts,AP]
theorem C4 {K:ByteArray→Kn} {t:Pl} (h:¬ spc t):AP K t=comb K t.op t.n t.s (t.args.map fun x=>(x,AP K x,Bw K x)) (t.alts.map fun a=>(a.1,AP K a.2)):=by
 cases t;rw [AP,ndS,if_neg h,OV,Te];rfl
theorem Cy {K:ByteArray→Kn} {t:Pl} (h:spc t):AP K t=none:=by
 cases t;rw [AP,ndS,if_pos h]
theorem F3 (K:ByteArray→Kn) (t:Pl):Bw K t=(t.args.head?.map (AP K)).getD (some []):=by
 cases t with
 | mk op n s args alts =>
  rw [Bw,ndS,OV]
  cases args <;> rfl
theorem Ms (K:ByteArray→Kn) (l:List Pl):(l.map fun x=>(x,AP K x,Bw K x)).map (·.2.1)=l.map (AP K):=by simp
section
variable {K:ByteArray→Kn} {t:Pl}
theorem DN (h:t.op=1):AP K t=some [t.n]:=by rw [C4 (by first | assumption | exact FX (by omega)),comb.eq_def,if_pos h]
theorem E8 (h:t.op=2):AP K t=if (K t.s).w=0∧(K t.s).BV=true then none else some []:=by rw [C4 (by first | assumption | exact FX (by omega)),comb.eq_def,if_neg (by omega),if_pos h]
theorem D1 (h:t.op=3∨t.op=4∨t.op=5):AP K t=some []:=by
 rw [C4 (by first | assumption | exact FX (by omega)),comb.eq_def,if_neg (by omega),if_neg (by omega),if_neg (by omega),if_neg (by omega),if_neg (by omega),if_neg (by omega)]
theorem Ei (hsp:¬ spc t) (h:t.op=6) {f:Pl} {l:List Pl} (ha:t.args=f::l):AP K t=(if f.op=5∧f.n≤(l.length:Int)then Aw (Bw K f) f.n 0 (l.map (AP K)) (B5 f.n (Bw K f))else if f.op≠2 then AP K f else if (K f.s).w=0 then AP K f
  else if (l.length:Int) < (K f.s).w then some []else if (K f.s).BV=true then none else Av (K f.s).st (l.map (AP K)) (some [])):=by
 rw [C4 (by first | assumption | exact FX (by omega)),comb.eq_def,if_neg (by omega),if_neg (by omega),if_pos h,ha,List.map_cons]
 simp only [Ms,List.length_map]
theorem HQ (hsp:¬ spc t) (h:t.op=7) {vs:List Pl} {b:Pl} (ha:t.args=vs++[b]):AP K t=DE (vs.map (AP K)) (AP K b):=by
 rw [C4 (by first | assumption | exact FX (by omega)),comb.eq_def,if_neg (by omega),if_neg (by omega),if_neg (by omega),if_pos h,ha]
 simp
 rfl
theorem HR (hsp:¬ spc t) (h:t.op=8) {x:Pl} (ha:t.args=[x]):AP K t=BB (AP K x) ((t.alts.map fun a=>B5 (bnd a.1) (AP K a.2)).foldl BU none):=by
 rw [C4 (by first | assumption | exact FX (by omega)),comb.eq_def,if_neg (by omega),if_neg (by omega),if_neg (by omega),if_neg (by omega),if_pos h,ha]
 simp
 rfl
theorem G8 (hsp:¬ spc t) (h:t.op=9) (hs:t.s=BZ):AP K t=none:=by
 rw [C4 (by first | assumption | exact FX (by omega)),comb.eq_def,if_neg (by omega),if_neg (by omega),if_neg (by omega),if_neg (by omega),if_neg (by omega),if_pos h,if_pos hs]
theorem Jm (hsp:¬ spc t) (h:t.op=9) (hs:t.s≠BZ) (hp:¬ Ab t.s < 9):AP K t=some []:=by
 rw [C4 (by first | assumption | exact FX (by omega)),comb.eq_def,if_neg (by omega),if_neg (by omega),if_neg (by omega),if_neg (by omega),if_neg (by omega),if_pos h,if_neg hs,if_neg hp]
theorem Ga (hsp:¬ spc t) (h:t.op=9) (hs:t.s≠BZ) (hp:Ab t.s < 9) {x y:Pl} (ha:t.args=[x,y]):AP K t=BB (AP K x) (AP K y):=by
 rw [C4 (by first | assumption | exact FX (by omega)),comb.eq_def,if_neg (by omega),if_neg (by omega),if_neg (by omega),if_neg (by omega),if_neg (by omega),if_pos h,if_neg hs,if_pos hp,ha]
 simp
end
section
variable {K:ByteArray→Kn}
theorem X7 (op n:Int) (s:ByteArray) (args:List Pl) (alts:List (Hd × Pl)) (h1:∀ x∈args,(AM K x).le (AP K x)∧(Bm K x).le (Bw K x)) (h2:∀ a∈alts,(AM K a.2).le (AP K a.2)) :
  (comb K op n s (args.map fun x=>(x,AM K x,Bm K x)) (alts.map fun a=>(a.1,AM K a.2))).le (comb K op n s (args.map fun x=>(x,AP K x,Bw K x)) (alts.map fun a=>(a.1,AP K a.2))):=by
 have hl:∀ l:List Pl,(∀ x∈l,x∈args)→LLe ((l.map fun x=>(x,AM K x,Bm K x)).map (·.2.1)) ((l.map fun x=>(x,AP K x,Bw K x)).map (·.2.1)):=by
  intro l hm
  simp only [LS,Ms]
  exact LLe.map l fun x hx=>(h1 x (hm x hx)).1
 have hk:Is (K s) (K s):=Is.refl _
 rw [comb.eq_def,comb.eq_def]
 split
 ·exact ND.le_refl _
 split
 ·exact ND.le_refl _
 split
 ·cases args with
  | nil=>exact ND.le_refl _
  | cons f l =>
   have hf:=h1 f (by simp)
   have hll:=hl l (fun x hx=>by simp [hx])
   have hkf:Is (K f.s) (K f.s):=Is.refl _
   simp only [List.map_cons,List.length_map]
   split
   ·exact H3 hf.2 _ _ hll (KV hf.2 _) (fun e=>by rw [e];rfl)
   split
   ·exact hf.1
   rw [← hkf.1]
   split
   ·exact hf.1
   split
   ·exact ND.le_refl _
   by_cases e:(K f.s).BV=true
   ·rw [if_pos e,if_pos (hkf.2.2 e)];trivial
   ·rw [if_neg e]
    split
    ·exact ND.le_top _
    ·exact H2 hkf.2.1 hll (ND.le_refl _)
 split
 ·have e:∀ K:ByteArray→Kn,(((args.map fun x=>(x,AM K x,Bm K x)).dropLast).map (·.2.1))=((args.dropLast).map fun x=>(x,AM K x,Bm K x)).map (·.2.1):=by
   intro K;rw [← List.map_dropLast]
  have e':∀ K:ByteArray→Kn,(((args.map fun x=>(x,AP K x,Bw K x)).dropLast).map (·.2.1))=((args.dropLast).map fun x=>(x,AP K x,Bw K x)).map (·.2.1):=by
   intro K;rw [← List.map_dropLast]
  rw [e,e']
  refine Sm (hl _ fun x hx=>List.dropLast_subset _ hx) ?_
  rw [List.getLast?_map,List.getLast?_map]
  cases hg:args.getLast? with
  | none=>exact ND.le_refl _
  | some x=>exact(h1 x (List.mem_of_getLast? hg)).1
 split
 ·refine Fs ?_ (G1 ?_ (ND.le_refl _))
  ·rw [List.head?_map,List.head?_map]
   cases hg:args.head? with
   | none=>exact ND.le_refl _
   | some x=>exact(h1 x (List.mem_of_head? hg)).1
  ·rw [List.map_map,List.map_map]
   exact LLe.map alts fun a ha=>KV (h2 a ha) _
 split
 ·split
  ·trivial
  split
  ·refine Fs ?_ ?_
   ·rw [List.head?_map,List.head?_map]
    cases hg:args.head? with
    | none=>exact ND.le_refl _
    | some x=>exact(h1 x (List.mem_of_head? hg)).1
   ·rw [List.getElem?_map,List.getElem?_map]
    cases hg:args[1]? with
    | none=>exact ND.le_refl _
    | some x=>exact(h1 x (List.mem_of_getElem? hg)).1
  ·exact ND.le_refl _
 ·exact ND.le_refl _
theorem I5 (t:Pl):(AM K t).le (AP K t)∧(Bm K t).le (Bw K t):=by
 induction t using Pl.ind with
 | h t ih1 ih2 =>
  refine⟨?_,?_⟩
  ·by_cases hsp:spc t
   ·rw [Cy hsp];exact ND.le_top _
   rw [Cv,C4 hsp]
   exact X7 _ _ _ _ _ ih1 fun a ha=>(ih2 a ha).1
  ·rw [Ey,F3]
   cases h:t.args with
   | nil=>exact ND.le_refl _
   | cons x l=>exact(ih1 x (by rw [h];simp)).1
end
theorem MB.le {x y:ND} {Q:Int→Prop} (h:x.le y) (hx:MB x Q):MB y Q:=by
 cases y with
 | none=>exact .inl rfl
 | some b =>
  cases x with
  | none=>exact absurd h (by simp [ND.le])
  | some a =>
   rcases hx with hx | ⟨l,hl,v,hv,q⟩
   ·cases hx
   ·cases hl
    exact .inr ⟨b,rfl,v,h v hv,q⟩
theorem G9 (K:ByteArray→Kn) (t:Pl):∀ m:Int,wf t=true→cl t m=true→NC m (AP K t)∧(t.op=5→NC (m+t.n) (Bw K t)):=by
 induction t using Pl.ind with
 | h t ih1 ih2 =>
  intro m hw hc
  obtain⟨hnd,hwa,hwb⟩:=A5 hw
  rw [Fw]at hc
  by_cases hsp:spc t
  ·refine⟨by rw [Cy hsp];exact FK _,fun o5=>?_⟩
   rcases R1 hsp with h | h | h <;> omega
  by_cases o1:t.op=1
  ·rw [if_pos o1]at hc
   refine⟨?_,fun h=>by omega⟩
   rw [DN o1]
   intro k hk
   simp only [ND.has,List.mem_singleton]at hk
   subst hk
   exact⟨(hnd.var o1).1,of_decide_eq_true hc⟩
  rw [if_neg o1,Bool.and_eq_true,Da,Db]at hc
  obtain⟨hc1,hc2⟩:=hc
  have h1:∀ x∈t.args,NC (m+inn t) (AP K x)∧(x.op=5→NC (m+inn t+x.n) (Bw K x)):=fun x hx=>ih1 x hx _ (hwa x hx) (hc1 x hx)
  have h2:∀ a∈t.alts,NC (m+bnd a.1) (AP K a.2):=fun a ha=>(ih2 a ha _ (hwb a ha) (hc2 a ha)).1
  refine⟨?_,fun o5=>?_⟩
  ·have ho:=hnd.op
   by_cases o2:t.op=2
   ·rw [E8 o2];split
    ·exact FK _
    ·exact Lr _
   by_cases o3:t.op=3∨t.op=4∨t.op=5
   ·rw [D1 o3];exact Lr _
   by_cases o7:t.op=7
   ·obtain⟨vs,b,hvb⟩:=Dz (l:=t.args) (by intro h;have:=hnd.lt o7;rw [h]at this;simp at this)
    have hi:m+inn t=m+(vs.map (AP K)).length:=by simp [inn,o7,hvb]
    rw [hi]at h1
    rw [HQ hsp o7 hvb]
    refine AFO (fun x hx=>?_) (h1 b (by rw [hvb];simp)).1
    obtain⟨y,hy,rfl⟩:=List.mem_map.1 hx
    exact(h1 y (by rw [hvb];simp [hy])).1
   have hi:m+inn t=m:=by simp [inn,o7,show ¬ t.op=5 by omega]
   rw [hi]at h1
   by_cases o6:t.op=6
   ·obtain⟨f,l,hfl⟩:∃ f l,t.args=f::l:=by
     cases h:t.args with
     | nil=>have:=hnd.app o6;rw [h]at this;simp at this
     | cons f l=>exact⟨f,l,rfl⟩
    have hf:=h1 f (by rw [hfl];simp)
    have hl:∀ x∈l.map (AP K),NC m x:=by
     intro x hx
     obtain⟨y,hy,rfl⟩:=List.mem_map.1 hx
     exact(h1 y (by rw [hfl];simp [hy])).1
    rw [Ei hsp o6 hfl]
    split
    ·rename_i hc
     exact X5 _ _ _ _ _ hl (X4 (hf.2 hc.1))
    split
    ·exact hf.1
    split
    ·exact hf.1
    split
    ·exact Lr _
    split
    ·exact FK _
    ·exact QQ _ _ _ hl (Lr _)
   by_cases o8:t.op=8
   ·obtain⟨x,hx⟩:=List.length_eq_one_iff.1 (hnd.cas o8).1
    rw [HR hsp o8 hx]
    refine Kb (h1 x (by rw [hx];simp)).1 (Td _ _ (fun y hy=>?_) (FK _))
    obtain⟨a,ha,rfl⟩:=List.mem_map.1 hy
    exact X4 (h2 a ha)
   ·have o9:t.op=9:=by omega
    by_cases hs:t.s=BZ
    ·rw [G8 hsp o9 hs];exact FK _
    by_cases hp:Ab t.s < 9
    ·obtain⟨k,hk,hl⟩:=hnd.prm o9
     have:=H0 hk hp
     obtain⟨x,y,hxy⟩:=HL (show t.args.length=2 by omega)
     rw [Ga hsp o9 hs hp hxy]
     exact Kb (h1 x (by rw [hxy];simp)).1 (h1 y (by rw [hxy];simp)).1
    ·rw [Jm hsp o9 hs hp];exact Lr _
  ·obtain⟨b,hb⟩:=GY (hnd.lam o5).2.2
   rw [F3,hb]
   have:=(h1 b (by rw [hb];simp)).1
   rw [show inn t=t.n by simp [inn,o5]]at this
   exact this
end Go.AL.Dm
namespace Go.AL.Dm
open Go Go.Proofs
theorem Mt {env more:List Nat} {v:Int} (h1:(more.length:Int)≤v) (h2:v - more.length < env.length):CK (env++more) v=CK env (v - more.length):=by
 unfold CK
 have e:(((env++more).length:Int) - 1 - v).toNat=((env.length:Int) - 1 - (v - more.length)).toNat:=by
  rw [List.length_append];omega
 have hl:((env.length:Int) - 1 - (v - more.length)).toNat < env.length:=by omega
 rw [e,List.getD_eq_getElem?_getD,List.getD_eq_getElem?_getD,List.getElem?_append_left hl]
theorem Jn {env more:List Nat} {v:Int} (h0:0≤v) (h1:v < more.length):CK (env++more) v=more.getD (more.length - 1 - v.toNat) 0:=by
 unfold CK
 have e:(((env++more).length:Int) - 1 - v).toNat=env.length+(more.length - 1 - v.toNat):=by
  rw [List.length_append];omega
 rw [e,List.getD_eq_getElem?_getD,List.getD_eq_getElem?_getD,List.getElem?_append_right (by omega)]
 congr 2
 omega
section
variable (p:List Gl) (K:ByteArray→Kn)
def Fl (B:Nat→Prop) (e:Pl) (env:List Nat):Prop:=MB (AP K e) (fun v=>B (CK env v))∨spc e
def Uo (B:Nat→Prop):Ce→Prop
 | .hold e env=>Fl K B e env
 | .busy=>True
 | .done o=>o.val=false
structure Sd (B:Nat→Prop) (σ:Sg):Prop where
 bi:∀ c,B c→∃ x,σ.cells[c]?=some x∧Uo K B x
 gi:∀ (i:Nat) (g:Gl),p[i]?=some g→g.body.op=5→∃ x:Ce,σ.cells[i]?=some x∧(x=.hold g.body []∨x=.busy∨x=.done (.fn g.body [] []))
 hb:∀ (i:Nat) (g:Gl),p[i]?=some g→g.body.op≠5→(K g.name).BV=true→B i
def Exd (B:Nat→Prop) (m:Nat) (B2:Nat→Prop):Prop:=(∀ c,B c→B2 c)∧∀ c,B2 c→B c∨m≤c
def Cn (B:Nat→Prop) (σ:Sg) (r:Ot × Sg) (F:Prop):Prop:=r.2.err≠0∨((F→r.1.val=false)∧∃ B2,Exd B σ.cells.length B2∧Sd p K B2 r.2)
def I8 (ev:Evf):Prop:=∀ e env σ B,OKs p σ→okE p e env σ.cells.length→σ.err=0→Sd p K B σ →
 Cn p K B σ (ev e env σ) (Fl K B e env)∧((ev e env σ).2.err≠0∨((e.op=5→(ev e env σ).1=.fn e env [])∧(e.op=3→(ev e env σ).1=.int e.n)∧(e.op=2→∀ g∈p,g.name=e.s→g.body.op=5→(ev e env σ).1=.fn g.body [] []∨(ev e env σ).1.val=false)))
end
variable {p:List Gl} {K:ByteArray→Kn}
theorem Exd.refl (B:Nat→Prop) (m:Nat):Exd B m B:=⟨fun _ h=>h,fun _ h=>.inl h⟩
theorem Exd.trans {B B2 B3:Nat→Prop} {m m':Nat} (h:Exd B m B2) (k:Exd B2 m' B3) (hm:m≤m'):Exd B m B3 :=
 ⟨fun c hc=>k.1 c (h.1 c hc),fun c hc=>(k.2 c hc).elim (h.2 c) fun h=>.inr (Nat.le_trans hm h)⟩
theorem Fl.mono {B B2:Nat→Prop} {e:Pl} {env:List Nat} (h:Fl K B e env) (hB:∀ c,B c→B2 c):Fl K B2 e env:=h.imp (fun h=>h.mono fun v=>hB _) id
theorem Fl.or {B:Nat→Prop} {e:Pl} {env:List Nat} (h:Fl K B e env):(¬ spc e∧MB (AP K e) fun v=>B (CK env v))∨spc e:=by
 by_cases hs:spc e
 ·exact .inr hs
 ·exact .inl ⟨hs,h.resolve_right hs⟩
theorem Uo.mono {B B2:Nat→Prop} {x:Ce} (h:Uo K B x) (hB:∀ c,B c→B2 c):Uo K B2 x:=by
 cases x with
 | hold e env=>exact Fl.mono h hB
 | busy=>trivial
 | done o=>exact h
theorem Cn.same {B:Nat→Prop} {σ:Sg} {o:Ot} {F:Prop} (h:Sd p K B σ) (hF:F→o.val=false):Cn p K B σ (o,σ) F:=.inr ⟨hF,B,Exd.refl _ _,h⟩
theorem Cn.imp {B:Nat→Prop} {σ:Sg} {r:Ot × Sg} {F F':Prop} (h:Cn p K B σ r F) (hF:F'→F):Cn p K B σ r F':=Or.imp id (fun h=>⟨fun f=>h.1 (hF f),h.2⟩) h
theorem Sd.put {B:Nat→Prop} {σ:Sg} (h:Sd p K B σ) {c:Nat} {x:Ce} (hc:c < σ.cells.length) (h1:B c→Uo K B x) (h2:∀ g,p[c]?=some g→g.body.op=5→x=.hold g.body []∨x=.busy∨x=.done (.fn g.body [] [])):Sd p K B (σ.put c x):=by
 have hg:∀ i,(σ.put c x).cells[i]?=if i=c then some x else σ.cells[i]?:=fun i=>by
  simp only [Sg.put,List.getElem?_set]
  by_cases e:c=i
  ·subst e;simp [hc]
  ·simp [e,show ¬ i=c from fun h=>e h.symm]
 refine⟨fun i hi=>?_,fun i g hi h5=>?_,h.hb⟩
 ·rw [hg]
  by_cases e:i=c
  ·subst e;exact⟨x,by simp,h1 hi⟩
  ·rw [if_neg e];exact h.bi i hi
 ·rw [hg]
  by_cases e:i=c
  ·subst e;exact⟨x,by simp,h2 g hi h5⟩
  ·rw [if_neg e];exact h.gi i g hi h5
theorem Sd.app {B B2:Nat→Prop} {σ:Sg} (h:Sd p K B σ) {xs:List Ce} (hE:Exd B σ.cells.length B2) (hn:∀ c,B2 c→σ.cells.length≤c→∃ x,xs[c - σ.cells.length]?=some x∧Uo K B2 x):Sd p K B2 { σ with cells:=σ.cells++xs }:=by
 refine⟨fun c hc=>?_,fun i g hi h5=>?_,fun i g hi h5 hf=>hE.1 i (h.hb i g hi h5 hf)⟩
 ·rcases hE.2 c hc with hb | hb
  ·obtain⟨x,hx,hbad⟩:=h.bi c hb
   exact⟨x,by show (σ.cells++xs)[c]?=_;rw [List.getElem?_append_left (List.getElem?_eq_some_iff.1 hx).1];exact hx,hbad.mono hE.1⟩
  ·obtain⟨x,hx,hbad⟩:=hn c hc hb
   exact⟨x,by show (σ.cells++xs)[c]?=_;rw [List.getElem?_append_right hb];exact hx,hbad⟩
 ·obtain⟨x,hx,hk⟩:=h.gi i g hi h5
  exact⟨x,by show (σ.cells++xs)[i]?=_;rw [List.getElem?_append_left (List.getElem?_eq_some_iff.1 hx).1];exact hx,hk⟩
theorem Sd.cells {B:Nat→Prop} {σ σ':Sg} (h:Sd p K B σ) (hc:σ'.cells=σ.cells):Sd p K B σ':=⟨by rw [hc];exact h.bi,by rw [hc];exact h.gi,h.hb⟩
theorem Mu {ev:Evf} (hok:EU p ev) (h:I8 p K ev) {σ:Sg} {B:Nat→Prop} (hσ:OKs p σ) (he:σ.err=0) (hs:Sd p K B σ) (c:Nat) :
  Cn p K B σ (CT ev c σ) (B c)∧((CT ev c σ).2.err≠0∨∀ g,p[c]?=some g→g.body.op=5→(CT ev c σ).1=.fn g.body [] []∨(CT ev c σ).1.val=false):=by
 unfold CT
 split
 ·rename_i o hc
  refine⟨.same hs fun hB=>?_,.inr fun g hg h5=>?_⟩
  ·obtain⟨x,hx,hbad⟩:=hs.bi c hB
   rw [hc]at hx;cases hx;exact hbad
  ·obtain⟨x,hx,hk⟩:=hs.gi c g hg h5
   rw [hc]at hx;cases hx
   rcases hk with hk | hk | hk
   ·cases hk
   ·cases hk
   ·cases hk;exact .inl rfl
 ·rename_i e env hc
  have hlt:=(List.getElem?_eq_some_iff.1 hc).1
  have hce:=hσ.ce _ (List.mem_of_getElem? hc)
  have hl:(σ.put c .busy).cells.length=σ.cells.length:=by simp [Sg.put]
  have hσ1:OKs p (σ.put c .busy):=hσ.put (x:=.busy) trivial
  have hs1:Sd p K B (σ.put c .busy):=hs.put hlt (fun _=>trivial) fun g _ _=>.inr (.inl rfl)
  obtain⟨h1,h2⟩:=h e env (σ.put c .busy) B hσ1 (by rw [hl];exact hce) he hs1
  have hr:=hok e env (σ.put c .busy) hσ1 (by rw [hl];exact hce)
  generalize ev e env (σ.put c .busy)=r at h1 h2 hr
  have hlen:=hr.len
  rw [hl]at hlen
  rcases h1 with h1 | ⟨h1,B2,hE,hs2⟩
  ·exact⟨.inl h1,.inl h1⟩
  rcases h2 with h2 | ⟨h2,_⟩
  ·exact⟨.inl h2,.inl h2⟩
  rw [hl]at hE
  have hnv:B c→r.1.val=false:=fun hB=>by
   obtain⟨x,hx,hbad⟩:=hs.bi c hB
   rw [hc]at hx;cases hx;exact h1 hbad
  have hgl:∀ g,p[c]?=some g→g.body.op=5→r.1=.fn g.body [] []:=fun g hg h5=>by
   obtain⟨x,hx,hk⟩:=hs.gi c g hg h5
   rw [hc]at hx;cases hx
   rcases hk with hk | hk | hk
   ·injection hk with e1 e2
    subst e1 e2
    exact h2 h5
   ·cases hk
   ·cases hk
  refine⟨.inr ⟨hnv,B2,hE,hs2.put (by omega) (fun hB=>hnv ((hE.2 c hB).elim id fun h=>by omega)) fun g hg h5=>.inr (.inr (by rw [hgl g hg h5]))⟩,.inr fun g hg h5=>.inl (hgl g hg h5)⟩
 ·exact⟨.same hs fun _=>rfl,.inr fun _ _ _=>.inr rfl⟩
theorem HA {env:List Nat}:∀ (l:List Pl) {σ:Sg} {B:Nat→Prop} (_:Sd p K B σ),∃ B2,Exd B σ.cells.length B2∧Sd p K B2 (Be env l σ).2∧∀ (i:Nat) e,l[i]?=some e→Fl K B e env→∃ c,(Be env l σ).1[i]?=some c∧B2 c
 | [],σ,B,hs=>⟨B,Exd.refl _ _,hs,by simp⟩
 | e::r,σ,B,hs=>by
  rw [Be]
  split
  ·rename_i o1
   obtain⟨B2,hE,hs2,hk⟩:=HA r hs (env:=env)
   refine⟨B2,hE,hs2,fun i x hx hf=>?_⟩
   cases i with
   | zero =>
    simp at hx;subst hx
    refine⟨_,rfl,hE.1 _ ?_⟩
    rcases hf with hf | hf
    ·rw [DN o1]at hf
     rcases hf with hf | ⟨l,hl,v,hv,q⟩
     ·cases hf
     ·cases hl;simp at hv;subst hv;exact q
    ·rcases hf with rfl | rfl | rfl <;> exact absurd o1 (by decide)
   | succ i=>exact hk i x (by simpa using hx) hf
  ·have hs1:Sd p K (fun c=>B c∨(c=σ.cells.length∧Fl K B e env)) (σ.add (.hold e env)):=hs.app (xs:=[.hold e env]) ⟨fun c h=>.inl h,fun c h=>h.imp id fun h=>by omega⟩ (fun c hc hle=>by
    rcases hc with hc | ⟨rfl,hf⟩
    ·obtain⟨x,hx,_⟩:=hs.bi c hc
     have:=(List.getElem?_eq_some_iff.1 hx).1
     omega
    ·exact⟨Ce.hold e env,by simp,Fl.mono (B2:=fun c=>B c∨(c=σ.cells.length∧Fl K B e env)) hf fun c h=>Or.inl h⟩)
   obtain⟨B2,hE,hs2,hk⟩:=HA r hs1 (env:=env)
   refine⟨B2,Exd.trans (B2:=fun c=>B c∨(c=σ.cells.length∧Fl K B e env)) ⟨fun c h=>.inl h,fun c h=>h.imp id fun h=>by omega⟩ hE (by simp [Sg.add]),hs2,fun i x hx hf=>?_⟩
   cases i with
   | zero =>
    simp at hx;subst hx
    exact⟨_,rfl,hE.1 _ (.inr ⟨rfl,hf⟩)⟩
   | succ i=>exact hk i x (by simpa using hx) (hf.mono fun c h=>.inl h)
theorem Eh (ev:Evf):∀ (m:Nat) (f:Ot) (l:List Nat) (σ:Sg),σ.err≠0∨f.val=false→BQ ev m f l σ=(f,σ)
 | 0,f,l,σ,_=>by rw [BQ]
 | m+1,f,l,σ,h=>by
  rw [BQ.eq_def]
  simp only
  rw [if_pos (h.symm)]
theorem Jo {ev:Evf} (hok:EU p ev) (h:I8 p K ev):∀ (m:Nat) {f:Ot} {l:List Nat} {σ:Sg} {B:Nat→Prop} (_:OKs p σ) (_:okO p f σ.cells.length) (_:∀ c∈l,c < σ.cells.length) (_:σ.err=0) (_:Sd p K B σ),
  Cn p K B σ (BQ ev m f l σ) (0 < m∧∃ c env l0,f=.fn c env l0∧c.n≤((l0++l).length:Int)∧Fl K B (c.args.headD c) (env++(l0++l).take c.n.toNat))
 | 0,f,l,σ,B,hσ,hf,hl,he,hs=>by rw [BQ];exact .same hs fun h=>by omega
 | m+1,f,l,σ,B,hσ,hf,hl,he,hs=>by
  by_cases hfn:∃ c env l0,f=.fn c env l0
  ·obtain⟨c,env,l0,rfl⟩:=hfn
   rw [Jh,if_neg (by simp [he])]
   obtain⟨o5,hc,hl0,hln⟩:=hf
   have hall:∀ x∈l0++l,x < σ.cells.length:=fun x hx=>(List.mem_append.1 hx).elim (hl0 x) (hl x)
   split
   ·rename_i hlt
    refine .same hs fun h=>?_
    obtain⟨_,c',env',l0',e,h,_⟩:=h
    cases e;omega
   ·rename_i hge
    have hnd:=(A5 hc.wf).1.lam o5
    have hcn:((l0++l).take c.n.toNat).length=c.n.toNat:=by rw [List.length_take];omega
    have hinn:inn c=c.n:=by simp [inn,o5]
    obtain⟨b,hb⟩:=GY hnd.2.2
    have hbody:=hc.arg (more:=(l0++l).take c.n.toNat) (m':=σ.cells.length) (by omega) (x:=b) (by rw [hb];simp) (by rw [hcn,hinn];omega) (Nat.le_refl _) fun x hx=>hall x (List.mem_of_mem_take hx)
    have hr:=hok b _ σ hσ hbody
    have hbad:=(h b _ σ B hσ hbody he hs).1
    rw [hb,List.headD_cons]
    generalize ev b (env++(l0++l).take c.n.toNat) σ=r at hr hbad
    have hF:∀ {Q:Prop},(0 < m+1∧∃ c_1 env_1 l0_1,Ot.fn c env l0=.fn c_1 env_1 l0_1∧c_1.n≤((l0_1++l).length:Int)∧Fl K B (c_1.args.headD c_1) (env_1++(l0_1++l).take c_1.n.toNat))→Fl K B b (env++(l0++l).take c.n.toNat):=fun⟨_,c',env',l0',e,_,h⟩=>by
     cases e;rw [hb,List.headD_cons]at h;exact h
    split
    ·exact hbad.imp fun h=>hF (Q:=True) h
    ·rcases hbad with hbad | ⟨hbad,B2,hE,hs2⟩
     ·rw [Eh ev m r.1 _ r.2 (.inl hbad)];exact .inl hbad
     by_cases he2:r.2.err=0
     ·rcases Jo hok h m hr.ok hr.out (l:=(l0++l).drop c.n.toNat) (fun x hx=>Nat.lt_of_lt_of_le (hall x (List.mem_of_mem_drop hx)) hr.len) he2 hs2 with hq | ⟨_,B3,hE3,hs3⟩
      ·exact .inl hq
      ·refine .inr ⟨fun h=>?_,B3,hE.trans hE3 hr.len,hs3⟩
       rw [Eh ev m r.1 _ r.2 (.inr (hbad (hF (Q:=True) h)))]
       exact hbad (hF (Q:=True) h)
     ·rw [Eh ev m r.1 _ r.2 (.inl he2)];exact .inl he2
  ·rcases I6 ev m f l σ (fun c env l0 e=>hfn ⟨c,env,l0,e⟩)with e | e <;> rw [e]
   ·exact .same hs fun⟨_,c,env,l0,e,_⟩=>absurd ⟨c,env,l0,e⟩ hfn
   ·exact .same hs fun _=>rfl
theorem Ls {ev:Evf} (hok:EU p ev) (h:I8 p K ev) {e:Pl} {env:List Nat} {σ:Sg} {B:Nat→Prop} (hσ:OKs p σ) (he:okE p e env σ.cells.length) (o8:e.op=8) {o:Ot} (ho:okO p o σ.cells.length) (hb:σ.cells.length+1≤400+13 * σ.steps) (he0:σ.err=0) (hs:Sd p K B σ) :
  ∀ l:List (Hd × Pl),(∀ a∈l,a∈e.alts)→Cn p K B σ (Cg ev o env l σ) (∀ a∈l,MB (AP K a.2) fun v=>bnd a.1≤v∧B (CK env (v - bnd a.1)))
 | [],_=>.same hs fun _=>rfl
 | (hd,b)::r,hm=>by
  rw [Cg]
  split
  ·rename_i hfit
   have hl:(σ.add (.done o)).cells.length=σ.cells.length+1:=by simp [Sg.add]
   have hσ1:OKs p (σ.add (.done o)):=hσ.app (xs:=[.done o]) (fun x hx=>by simp at hx;subst hx;exact ho.mono (by simp)) (by simpa using hb)
   have hs1:Sd p K B (σ.add (.done o)):=hs.app (xs:=[.done o]) (Exd.refl _ _) fun c hc hle=>by
    obtain⟨x,hx,_⟩:=hs.bi c hc
    have:=(List.getElem?_eq_some_iff.1 hx).1
    omega
   have hml:((σ.cells.length::(if hd.op=2 then B9 o else [])).length:Int)=bnd hd:=by
    unfold bnd
    by_cases h2:hd.op=2
    ·rw [if_pos h2,if_pos h2]
     unfold Lk at hfit
     rw [if_neg (by omega)]at hfit
     cases o with
     | con s l =>
      have:=of_decide_eq_true hfit
      simp only [List.length_cons,B9];omega
     | int n=>have:=of_decide_eq_true hfit;omega
     | act s l=>simp at hfit
     | fn c env l=>simp at hfit
     | thr n=>simp at hfit
     | Bi=>simp at hfit
    ·rw [if_neg h2,if_neg h2];rfl
   have he1:=he.alt (a:=(hd,b)) (more:=σ.cells.length::(if hd.op=2 then B9 o else [])) (m':=σ.cells.length+1) (by omega) (hm _ (by simp)) hml (by omega) fun c hc=>by
    rcases List.mem_cons.1 hc with rfl | hc
    ·omega
    ·split at hc
     ·have:=Ji ho c hc;omega
     ·simp at hc
   have hbad:=(h b _ (σ.add (.done o)) B hσ1 (by rw [hl];exact he1) he0 hs1).1
   have hnc:=(G9 K b _ he1.wf he1.cl).1
   generalize ev b (env++σ.cells.length::(if hd.op=2 then B9 o else [])) (σ.add (.done o))=q at hbad
   rcases hbad with hbad | ⟨hbad,B2,hE,hs2⟩
   ·exact .inl hbad
   ·refine .inr ⟨fun hF=>hbad (.inl ?_),B2,(Exd.refl B σ.cells.length).trans hE (by rw [hl];omega),hs2⟩
    refine(hF (hd,b) (by simp)).X3 fun lx hlx v hv ⟨q1,q2⟩=>?_
    have hk:=hnc v (by rw [hlx];exact hv)
    rw [List.length_append,Int.natCast_add,hml]at hk
    rw [Mt (by rw [hml];exact q1) (by rw [hml];omega),hml]
    exact q2
  ·exact(Ls hok h hσ he o8 ho hb he0 hs r fun a ha=>hm a (by simp [ha])).imp fun hF a ha=>hF a (by simp [ha])
end Go.AL.Dm
namespace Go.AL.Dm
open Go Go.Proofs
variable {p:List Gl} {K:ByteArray→Kn}
theorem Fl.mb {B:Nat→Prop} {e:Pl} {env:List Nat} (h:Fl K B e env) (ho:e.op≠7∧e.op≠6∧e.op≠9):MB (AP K e) fun v=>B (CK env v):=by
 rcases h with h | h
 ·exact h
 ·rcases R1 h with h | h | h <;> omega
theorem JA (env:List Nat):∀ (l:List Pl) (σ:Sg),(Be env l σ).2.err=σ.err
 | [],σ=>rfl
 | e::r,σ=>by
  rw [Be]
  split
  ·exact JA env r σ
  ·exact JA env r _
theorem QR (ev:Evf) (m:Nat) (f:Ot) (l:List Nat) (σ:Sg) (h:∀ c env l0,f≠.fn c env l0):(BQ ev (m+1) f l σ).1.val=false∨σ.err≠0:=by
 rw [BQ.eq_def]
 cases f <;> simp [Ot.val]at * <;>(by_cases h0:σ.err=0 <;> simp [h0,Ot.val])
theorem Jp:Ab ⟨⟨[100,105,118]⟩⟩=3:=by kernel_rfl
theorem H9:Ab BZ=9:=by kernel_rfl
theorem X8 {ev:Evf} (hok:EU p ev) (h:I8 p K ev) {e:Pl} {env:List Nat} {σ:Sg} {B:Nat→Prop} (hσ:OKs p σ) (he:okE p e env σ.cells.length) (o9:e.op=9) (hb:σ.cells.length+13≤400+13 * σ.steps) (he0:σ.err=0) (hs:Sd p K B σ) :
  Cn p K B σ (FI ev e env σ) (Fl K B e env):=by
 have hnd:=(A5 he.wf).1
 obtain⟨k,hk,hkl⟩:=hnd.prm o9
 have hi:inn e=0:=by simp [inn,o9]
 have o1:e.op≠1:=by omega
 unfold FI
 simp only
 split
 ·rename_i h9
  have hl:0 < e.args.length:=by
   have:=hk
   rw [arI,h9]at this
   simp [ars]at this
   omega
  have hr:=(h (e.args.headD e) env σ B hσ (he.E7 o1 hi (F4 hl) (Nat.le_refl _)) he0 hs).1
  generalize ev (e.args.headD e) env σ=r at hr
  obtain⟨o,τ⟩:=r
  rcases hr with hr | ⟨_,B2,hE,hs2⟩
  ·cases o <;> exact .inl hr
  ·cases o <;> exact .inr ⟨fun _=>rfl,B2,hE,hs2⟩
 ·split
  ·rename_i h9 h99
   obtain⟨B2,hE,hs2,_⟩:=HA (env:=env) e.args hs
   refine .inr ⟨fun hF=>?_,B2,hE,hs2⟩
   exfalso
   rcases hF.or with ⟨hsp,hF⟩ | hF
   ·rw [Jm hsp o9 (by rintro e2;rw [e2,H9]at h99;omega) (by omega)]at hF
    exact hF.no
   ·rcases hF with rfl | rfl | rfl
    ·exact absurd o9 (by decide)
    ·exact absurd o9 (by decide)
    ·have:=Jp;simp only [spD,Pl.s]at h99;omega
  ·rename_i h9 h99
   have hp9:Ab e.s < 9:=by omega
   have hkk:=H0 hk hp9
   obtain⟨x,y,hxy⟩:=HL (show e.args.length=2 by omega)
   have hth:e.s≠BZ:=by rintro e2;rw [e2,H9]at hp9;omega
   have hnd2:=fun hsp=>Ga (K:=K) hsp o9 hth hp9 hxy
   rw [hxy,List.headD_cons,show ([x,y][1]?).getD e=y from rfl]
   have hxo:=he.E7 o1 hi (x:=x) (by rw [hxy];simp) (Nat.le_refl _)
   have hr:=h x env σ B hσ hxo he0 hs
   have hrk:=hok x env σ hσ hxo
   generalize ev x env σ=r at hr hrk
   obtain⟨o,τ⟩:=r
   obtain⟨hr,hrm⟩:=hr
   split
   ·rename_i hst
    rcases hr with hr | ⟨hr,B2,hE,hs2⟩
    ·exact .inl hr
    ·rcases hst with hst | hst
     ·exact .inr ⟨fun _=>hst,B2,hE,hs2⟩
     ·exact .inl hst
   ·rename_i hst
    simp only [not_or,Bool.not_eq_false,ne_eq,Decidable.not_not]at hst
    obtain⟨hv1,he1⟩:=hst
    rcases hr with hr | ⟨hr,B2,hE,hs2⟩
    ·exact absurd he1 hr
    rcases hrm with hrm | hrm
    ·exact absurd he1 hrm
    have hyo:=he.E7 o1 hi (x:=y) (by rw [hxy];simp) hrk.len
    have hq:=h y env τ B2 hrk.ok hyo he1 hs2
    have hqk:=hok y env τ hrk.ok hyo
    generalize ev y env τ=q at hq hqk
    obtain⟨o2,τ2⟩:=q
    obtain⟨hq,hqm⟩:=hq
    simp only
    rcases hq with hq | ⟨hq,B3,hE3,hs3⟩
    ·split
     ·exact .inl hq
     ·split <;> exact .inl hq
    have hEE:=hE.trans hE3 hrk.len
    have hF:Fl K B e env→o2.val=false∨e=spD:=fun hF=>by
     rcases hF.or with ⟨hsp,hF⟩ | hF
     ·rw [hnd2 hsp]at hF
      rcases hF.with with hF | hF
      ·have:=hr (.inl hF);rw [hv1]at this;cases this
      ·exact .inl (hq (.inl (hF.mono fun v=>hE.1 _)))
     ·rcases hF with rfl | rfl | rfl
      ·exact absurd o9 (by decide)
      ·exact absurd o9 (by decide)
      ·exact .inr rfl
    rcases hqm with hqm | hqm
    ·split
     ·exact .inl hqm
     ·split <;> exact .inl hqm
    split
    ·rename_i hst
     by_cases he2:τ2.err=0
     ·refine .inr ⟨fun f=>?_,B3,hEE,hs3⟩
      rcases hF f with hF | rfl
      ·exact hF
      ·rcases hst with hst | hst | hst
       ·have:=Jp;simp only [spD,Pl.s]at hst;omega
       ·exact hst
       ·exact absurd he2 hst
     ·exact .inl he2
    ·rename_i hst
     simp only [not_or,Bool.not_eq_false,ne_eq,Decidable.not_not]at hst
     refine .inr ⟨fun f=>?_,B3,hEE,?_⟩
     ·rcases hF f with hF | rfl
      ·rw [hst.2.1]at hF;cases hF
      ·simp only [spD,Pl.args,List.cons.injEq,and_true]at hxy
       obtain⟨rfl,rfl⟩:=hxy
       have e1:o=.int 41:=hrm.2.1 rfl
       have e2:o2=.int 0:=hqm.2.1 rfl
       subst e1 e2
       show (HV (Ab spD.s) 41 0).val=false
       have:Ab spD.s=3:=Jp
       rw [this];rfl
     ·split <;> exact hs3
end Go.AL.Dm
namespace Go.AL.Dm
open Go Go.Proofs
variable {p:List Gl} {K:ByteArray→Kn}
structure Fix (p:List Gl) (K:ByteArray→Kn):Prop where
 gp:EW p
 fx:∀ g∈p,K g.name=GS K g.body
theorem AAo {b:Pl} (h:b.op=5):cde b=b.args.headD b:=by rw [cde,if_pos h]
theorem Fix.w {p:List Gl} {K:ByteArray→Kn} (h:Fix p K) {g:Gl} (hg:g∈p):(K g.name).w=wnt g.body:=by rw [h.fx g hg];rfl
theorem Fix.BV {p:List Gl} {K:ByteArray→Kn} (h:Fix p K) {g:Gl} (hg:g∈p) (hf:(K g.name).BV=true):AM K (cde g.body)=none:=by
 rw [h.fx g hg]at hf
 exact Option.isNone_iff_eq_none.1 hf
theorem Fix.strict {p:List Gl} {K:ByteArray→Kn} (h:Fix p K) {g:Gl} (hg:g∈p) {i:Nat} (hs:(K g.name).st[i]?=some true):(i:Int) < wnt g.body∧(AM K (cde g.body)=none∨(AM K (cde g.body)).has (wnt g.body - 1 - i)):=by
 rw [h.fx g hg]at hs
 simp only [GS,List.getElem?_map,Option.map_eq_some_iff]at hs
 obtain⟨j,hj,hs⟩:=hs
 obtain⟨hlt,hj⟩:=List.getElem?_eq_some_iff.1 hj
 simp at hj hlt
 subst hj
 refine⟨by omega,?_⟩
 rw [Bool.or_eq_true]at hs
 rcases hs with hs | hs
 ·exact .inl (Option.isNone_iff_eq_none.1 hs)
 ·exact .inr (of_decide_eq_true hs)
inductive RW (n:Int) (Ci:Int→ND) (Q:Int→Prop):Int→Prop
 | all {u:Int}:0≤u→u < n→Ci u=none→RW n Ci Q u
 | out {u k:Int} {l:List Int}:0≤u→u < n→Ci u=some l→k∈l→n≤k→Q (k - n)→RW n Ci Q u
 | val {u k:Int} {l:List Int}:0≤u→u < n→Ci u=some l→k∈l→RW n Ci Q k→RW n Ci Q u
theorem RW.bd {n:Int} {Ci:Int→ND} {Q:Int→Prop} {u:Int} (h:RW n Ci Q u):0≤u∧u < n:=by cases h <;> exact⟨by assumption,by assumption⟩
def Un (n:Int) (Ci:Int→ND) (Q:Int→Prop) (k:Int):Prop:=(n≤k∧Q (k - n))∨RW n Ci Q k
theorem Mv {n:Int} {Ci:Int→ND} {Q:Int→Prop} {body:ND} {k:Int} (h:Reach n Ci body k):Un n Ci Q k→MB body (Un n Ci Q):=by
 induction h with
 | @body l k e hm=>exact fun hk=>.inr ⟨l,e,k,hm,hk⟩
 | @val u l k hr h0 h1 e hm ih =>
  intro hk
  refine ih (.inr ?_)
  rcases hk with ⟨h2,h3⟩ | hk
  ·exact .out h0 h1 e hm h2 h3
  ·exact .val h0 h1 e hm hk
theorem MB.DE {vs:List ND} {b:ND} {Q:Int→Prop} (h:MB (DE vs b) Q):MB b (Un vs.length (valOf vs) Q):=by
 rcases h with h | ⟨l,h,v,hv,q⟩
 ·rcases DJ.1 h with h | ⟨u,hu,h0,h1,h2⟩
  ·exact .inl h
  ·exact Mv hu (.inr (.all h0 h1 h2))
 ·have hna:¬ JP vs.length (valOf vs) b:=fun ha=>by rw [DJ.2 ha]at h;cases h
  obtain⟨l',e,_,hm⟩:=DK hna
  rw [e]at h;cases h
  obtain⟨h1,h2⟩:=(hm v).1 hv
  exact Mv h1 (.inl ⟨by omega,by rw [show v+(vs.length:Int) - vs.length=v by omega];exact q⟩)
theorem AJH {x y:ND} {k:Int} (h:x.le y) (hx:x=none∨x.has k):y=none∨y.has k:=by
 cases y with
 | none=>exact .inl rfl
 | some b =>
  cases x with
  | none=>exact absurd h (by simp [ND.le])
  | some a=>exact .inr (h k (hx.resolve_left (by simp)))
theorem Fl.under {B:Nat→Prop} {b:Pl} {env more:List Nat} {x:ND} (hx:AP K b=x) (hnc:NC ((env.length:Int)+more.length) x)
  (h:MB x fun v=>(((more.length:Nat):Int)≤v∧B (CK env (v - more.length)))∨(v < more.length∧B (more.getD (more.length - 1 - v.toNat) 0))):Fl K B b (env++more):=by
 subst hx
 refine .inl (h.X3 fun l hl v hv hq=>?_)
 have hk:=hnc v (by rw [hl];exact hv)
 rcases hq with ⟨h1,h2⟩ | ⟨h1,h2⟩
 ·rw [Mt h1 (by omega)];exact h2
 ·rw [Jn hk.1 h1];exact h2
theorem R2 {t:Pl} (h:0 < t.args.length):∃ f l,t.args=f::l:=by
 cases h':t.args with
 | nil=>rw [h']at h;simp at h
 | cons f l=>exact⟨f,l,rfl⟩
theorem Lt {f b:Pl} (hb:f.args=[b]):Bw K f=AP K b:=by rw [F3,hb];rfl
theorem AAp {ev:Evf} (hfx:Fix p K) (hok:EU p ev) (h:I8 p K ev) {e:Pl} {env:List Nat} {σ:Sg} {B:Nat→Prop} (hσ:OKs p σ) (he:okE p e env σ.cells.length) (o6:e.op=6) (hb:σ.cells.length+13≤400+13 * σ.steps) (he0:σ.err=0) (hs:Sd p K B σ) {f:Pl} {l:List Pl} (hfl:e.args=f::l) :
  Cn p K B σ (match (ev f env σ).1 with
   | .fn c env' l0=>BQ ev (e.args.length+1) (.fn c env' l0) (Be env l (ev f env σ).2).1 (Be env l (ev f env σ).2).2
   | o=>BQ ev 1 o [] (ev f env σ).2) (Fl K B e env):=by
 have hnd:=(A5 he.wf).1
 have o1:e.op≠1:=by omega
 have hi:inn e=0:=by simp [inn,o6]
 have hfo:=he.E7 o1 hi (x:=f) (by rw [hfl];simp) (Nat.le_refl _)
 have hr:=h f env σ B hσ hfo he0 hs
 have hrk:=hok f env σ hσ hfo
 generalize ev f env σ=r at hr hrk
 obtain⟨o,τ⟩:=r
 obtain⟨hr,hrm⟩:=hr
 have hlen:=hrk.len
 have hinc:=hrk.inc
 simp only at hlen hinc
 -- an error ends it
 by_cases heτ:τ.err=0
 rotate_left
 ·cases o <;> simp only
  case fn c env' l0 =>
   rw [Eh _ _ _ _ _ (.inl (by rw [JA];exact heτ))]
   exact .inl (by rw [JA];exact heτ)
  all_goals
   rw [Eh _ _ _ _ _ (.inl heτ)]
   exact .inl heτ
 rcases hr with hr | ⟨hr,B2,hE,hs2⟩
 ·exact absurd heτ hr
 rcases hrm with hrm | ⟨hrm5,hrm3,hrm2⟩
 ·exact absurd heτ hrm
 by_cases hfn:∃ c env' l0,o=.fn c env' l0
 rotate_left
 ·have hne:∀ c env' l0,o≠.fn c env' l0:=fun c env' l0 e=>hfn ⟨c,env',l0,e⟩
  have hv:=QR ev 0 o [] τ hne
  have H:Cn p K B σ (BQ ev 1 o [] τ) (Fl K B e env):=by
   rcases Jo hok h 1 (l:=[]) hrk.ok hrk.out (by simp) heτ hs2 with hq | ⟨_,B3,hE3,hs3⟩
   ·exact .inl hq
   ·rcases hv with hv | hv
    ·exact .inr ⟨fun _=>hv,B3,hE.trans hE3 hlen,hs3⟩
    ·exact absurd heτ hv
  cases o <;> first | exact H | exact absurd rfl (hne _ _ _)
 obtain⟨c,env',l0,rfl⟩:=hfn
 simp only
 have hla:=hnd.len
 rw [hfl,List.length_cons]at hla
 obtain⟨h1,h2,h3,h4,h5,h6,h7⟩:=GZ (env:=env) (σ:=τ) (l:=l) hrk.ok (fun x hx=>he.E7 o1 hi (by rw [hfl];simp [hx]) hlen) (by omega)
 obtain⟨B3,hE3,hs3,hk3⟩:=HA (env:=env) l hs2
 have hca:=Jo hok h (e.args.length+1) h1 (hrk.out.mono h4) h2 (by rw [h7];exact heτ) hs3
 rcases hca with hca | ⟨hca,B4,hE4,hs4⟩
 ·exact .inl hca
 refine .inr ⟨fun hF=>hca ⟨by omega,c,env',l0,rfl,?_⟩,B4,(hE.trans hE3 hlen).trans hE4 (by omega),hs4⟩
 have hB3:∀ c,B c→B3 c:=fun c hc=>hE3.1 c (hE.1 c hc)
 have hnf:¬ Fl K B f env:=fun hq=>by have:=hr hq;simp [Ot.val]at this
 have hcell:∀ (i:Nat) (x:ND),(l.map (AP K))[i]?=some x→MB x (fun v=>B (CK env v))→∃ c,(Be env l τ).1[i]?=some c∧B3 c:=fun i x hx hq=>by
  rw [List.getElem?_map,Option.map_eq_some_iff]at hx
  obtain⟨y,hy,rfl⟩:=hx
  exact hk3 i y hy (.inl (hq.mono fun v=>hE.1 _))
 rcases hF.or with ⟨hsp,hF⟩ | hF
 rotate_left
 ·rcases hF with rfl | rfl | rfl
  ·exact absurd o6 (by decide)
  ·simp only [spA,Pl.args,List.cons.injEq]at hfl
   have:=hrm3 (by rw [← hfl.1];rfl)
   cases this
  ·exact absurd o6 (by decide)
 rw [Ei hsp o6 hfl]at hF
 split at hF
 ·rename_i hc
  obtain⟨o5,hn⟩:=hc
  have e1:=hrm5 o5
  cases e1
  have hnl:=(A5 hfo.wf).1.lam o5
  obtain⟨b,hb⟩:=GY hnl.2.2
  have hcl:NC ((env.length:Int)+f.n) (Bw K f):=(G9 K f _ hfo.wf hfo.cl).2 o5
  have htl:((Be env l τ).1.take f.n.toNat).length=f.n.toNat:=by rw [List.length_take,h3];omega
  refine⟨by rw [List.nil_append,h3];exact hn,?_⟩
  rw [hb,List.headD_cons,List.nil_append]
  refine Fl.under (Lt hb).symm (by rw [htl,show ((f.n.toNat:Nat):Int)=f.n by omega];exact hcl) ?_
  rw [htl]
  rcases hF.lam with hF | ⟨j,x,hj1,hj2,hj3,hj4⟩
  ·exact hF.out.mono fun v hv=>.inl ⟨by omega,by rw [show ((f.n.toNat:Nat):Int)=f.n by omega];exact hB3 _ hv.2⟩
  ·obtain⟨cc,hc1,hc2⟩:=hcell j x hj1 hj4
   rw [Int.zero_add]at hj2 hj3
   cases hfb:Bw K f with
   | none=>exact .inl rfl
   | some lb =>
    rw [hfb]at hj3
    refine .inr ⟨lb,rfl,_,hj3,.inr ⟨by omega,?_⟩⟩
    have:f.n.toNat - 1 - (f.n - 1 - (j:Int)).toNat=j:=by omega
    rw [this,List.getD_eq_getElem?_getD,List.getElem?_take_of_lt (by omega),hc1]
    exact hc2
 split at hF
 ·exact absurd (Or.inl hF) hnf
 split at hF
 ·exact absurd (Or.inl hF) hnf
 rename_i hno5 hop2 hw0
 split at hF
 ·exact absurd hF MB.no
 rename_i hwl
 have of2:f.op=2:=by
  apply Classical.byContradiction
  intro hc;exact hop2 hc
 obtain⟨j,hj,hjl,hjn⟩:=HO (hfo.gi f (I0 f) of2)
 have hgm:p[j]∈p:=List.getElem_mem hjl
 generalize p[j]=g at hjn hgm
 have hww:=hfx.w hgm
 rw [hjn]at hww
 have o5:g.body.op=5:=by
  apply Classical.byContradiction
  intro hc
  rw [wnt,if_neg hc]at hww
  exact hw0 hww
 have hwn:wnt g.body=g.body.n:=by rw [wnt,if_pos o5]
 rcases hrm2 of2 g hgm hjn o5 with e1 | e1
 rotate_left
 ·simp [Ot.val]at e1
 cases e1
 have hgo:=hrk.out
 obtain⟨_,hgE,_,_⟩:=hgo
 have hnl:=(A5 hgE.wf).1.lam o5
 obtain⟨b,hb⟩:=GY hnl.2.2
 have hcd:cde g.body=b:=by rw [AAo o5,hb];rfl
 have hcl:NC ((([]:List Nat).length:Int)+g.body.n) (AP K b):=by
  rw [← Lt hb]
  exact(G9 K g.body _ hgE.wf hgE.cl).2 o5
 have htl:((Be env l τ).1.take g.body.n.toNat).length=g.body.n.toNat:=by rw [List.length_take,h3];omega
 refine⟨by rw [List.nil_append,h3];omega,?_⟩
 rw [hb,List.headD_cons,show ([]:List Nat)++(Be env l τ).1=(Be env l τ).1 from rfl]
 refine Fl.under (env:=[]) rfl (by rw [htl,show ((g.body.n.toNat:Nat):Int)=g.body.n by omega];exact hcl) ?_
 rw [htl]
 split at hF
 ·rename_i hfa
  have:=hfx.BV hgm (by rw [hjn];exact hfa)
  rw [hcd]at this
  exact MB.le (I5 b).1 (.inl this)
 ·rcases hF.union with hF | ⟨i,x,hi1,hi2,hi3⟩
  ·exact absurd hF MB.no
  ·obtain⟨cc,hc1,hc2⟩:=hcell i x hi2 hi3
   obtain⟨k1,k2⟩:=hfx.strict hgm (by rw [hjn];exact hi1)
   rw [hcd]at k2
   replace k2:=AJH (I5 b).1 k2
   rcases k2 with k2 | k2
   ·exact .inl k2
   ·rw [hwn]at k1 k2
    cases hnb:AP K b with
    | none=>exact .inl rfl
    | some lb =>
     rw [hnb]at k2
     refine .inr ⟨lb,rfl,_,k2,.inr ⟨by omega,?_⟩⟩
     have:g.body.n.toNat - 1 - (g.body.n - 1 - (i:Int)).toNat=i:=by omega
     rw [this,List.getD_eq_getElem?_getD,List.getElem?_take_of_lt (by omega),hc1]
     exact hc2
end Go.AL.Dm
namespace Go.AL.Dm
open Go Go.Proofs
variable {p:List Gl} {K:ByteArray→Kn}
theorem Up {vs:List ND} {u:Int} {x:ND} (h0:0≤u) (h1:u < vs.length) (h:valOf vs u=x):vs[vs.length - 1 - u.toNat]?=some x:=by
 have hl:vs.length - 1 - u.toNat < vs.length:=by omega
 rw [valOf,if_pos h0,List.getElem?_eq_getElem hl,Option.getD_some]at h
 rw [List.getElem?_eq_getElem hl,h]
theorem AAq {ev:Evf} (hok:EU p ev) (h:I8 p K ev) {e:Pl} {env:List Nat} {σ:Sg} {B:Nat→Prop} (hσ:OKs p σ) (he:okE p e env σ.cells.length) (o7:e.op=7) (hb:σ.cells.length+13≤400+13 * σ.steps) (he0:σ.err=0) (hs:Sd p K B σ) {vs:List Pl} {b:Pl} (hvb:e.args=vs++[b]) :
  Cn p K B σ (ev b (env++(List.range vs.length).map (σ.cells.length+·)) { σ with cells:=σ.cells++vs.map fun x=>.hold x (env++(List.range vs.length).map (σ.cells.length+·)) }) (Fl K B e env):=by
 have hnd:=(A5 he.wf).1
 have o1:e.op≠1:=by omega
 have hlen:=hnd.len
 have hel:e.args.length=vs.length+1:=by rw [hvb];simp
 have himl:(((List.range vs.length).map (σ.cells.length+·)).length:Int)=inn e:=by
  simp [inn,o7,hel]
 generalize hmore:(List.range vs.length).map (σ.cells.length+·)=more at himl ⊢
 have hml:more.length=vs.length:=by rw [← hmore];simp
 have hmg:∀ j,j < vs.length→more.getD j 0=σ.cells.length+j:=fun j hj=>by
  rw [← hmore];simp [hj]
 have hme:∀ c∈more,c < σ.cells.length+vs.length:=by
  rw [← hmore]
  intro c hc
  obtain⟨j,hj,rfl⟩:=List.mem_map.1 hc
  have:=List.mem_range.1 hj
  omega
 have hok1:∀ x∈e.args,okE p x (env++more) (σ.cells.length+vs.length):=fun x hx=>he.arg o1 hx himl (by omega) hme
 have hσ1:OKs p { σ with cells:=σ.cells++vs.map fun x=>.hold x (env++more) }:=hσ.app (fun x hx=>by
  obtain⟨y,hy,rfl⟩:=List.mem_map.1 hx
  rw [List.length_map]
  exact hok1 y (by rw [hvb];simp [hy])) (by simp;omega)
 have hnc:∀ x∈e.args,NC ((env.length:Int)+more.length) (AP K x):=fun x hx=>by
  have:=hok1 x hx
  have:=(G9 K x _ this.wf this.cl).1
  rwa [List.length_append,Int.natCast_add]at this
 have hnvs:(vs.map (AP K)).length=vs.length:=by simp
 let Q:Int→Prop:=fun v=>B (CK env v)
 let B1:Nat→Prop:=fun c=>B c∨(∃ u:Int,RW (vs.map (AP K)).length (valOf (vs.map (AP K))) Q u∧c=σ.cells.length+(vs.length - 1 - u.toNat))∨(e=spL∧c=σ.cells.length)
 have hB1:∀ c,B c→B1 c:=fun c hc=>.inl hc
 have hE1:Exd B σ.cells.length B1:=⟨hB1,fun c hc=>by
  rcases hc with hc | ⟨u,_,rfl⟩ | ⟨_,rfl⟩
  ·exact .inl hc
  ·exact .inr (by omega)
  ·exact .inr (by omega)⟩
 have hhit:∀ {v:Int},0≤v→Un (vs.map (AP K)).length (valOf (vs.map (AP K))) Q v→(((more.length:Nat):Int)≤v∧B1 (CK env (v - more.length)))∨(v < more.length∧B1 (more.getD (more.length - 1 - v.toNat) 0)):=by
  intro v hv0 hv
  rw [hml]
  rcases hv with ⟨h1,h2⟩ | hv
  ·rw [hnvs]at h1 h2
   exact .inl ⟨h1,.inl h2⟩
  ·have hbd:=hv.bd
   rw [hnvs]at hbd
   refine .inr ⟨hbd.2,?_⟩
   rw [hmg _ (by omega)]
   exact .inr (.inl ⟨v,hv,rfl⟩)
 have hund:∀ {x:Pl},x∈e.args→MB (AP K x) (Un (vs.map (AP K)).length (valOf (vs.map (AP K))) Q)→Fl K B1 x (env++more):=fun {x} hx hm=>by
  refine Fl.under rfl (hnc x hx) (hm.X3 fun l hl v hv hq=>hhit ?_ hq)
  exact(hnc x hx v (by rw [hl];exact hv)).1
 have hs1:Sd p K B1 { σ with cells:=σ.cells++vs.map fun x=>.hold x (env++more) }:=hs.app hE1 fun c hc hle=>by
  rcases hc with hc | ⟨u,hu,rfl⟩ | ⟨e7,rfl⟩
  ·obtain⟨x,hx,_⟩:=hs.bi c hc
   have:=(List.getElem?_eq_some_iff.1 hx).1
   omega
  ·have hbd:=hu.bd
   have hx:=Up hbd.1 hbd.2 rfl
   rw [hnvs,List.getElem?_map,Option.map_eq_some_iff]at hx
   obtain⟨x,hx,hv⟩:=hx
   refine⟨.hold x (env++more),?_,hund (by rw [hvb];exact List.mem_append_left _ (List.mem_of_getElem? hx)) ?_⟩
   ·rw [List.getElem?_map,show σ.cells.length+(vs.length - 1 - u.toNat) - σ.cells.length=vs.length - 1 - u.toNat by omega,hx];rfl
   ·rw [hv]
    cases hu with
    | all h0 h1 h2=>exact .inl h2
    | out h0 h1 h2 h3 h4 h5=>exact .inr ⟨_,h2,_,h3,.inl ⟨h4,h5⟩⟩
    | val h0 h1 h2 h3 h4=>exact .inr ⟨_,h2,_,h3,.inr h4⟩
  ·subst e7
   have hvs:vs=[.mk 1 0 eS [] []]:=by
    have:spL.args=[.mk 1 0 eS [] []]++[.mk 1 0 eS [] []]:=rfl
    rw [this]at hvb
    exact(List.append_inj_left' hvb rfl).symm
   subst hvs
   refine⟨.hold (.mk 1 0 eS [] []) (env++more),by simp,.inl ?_⟩
   rw [DN rfl]
   refine .inr ⟨_,rfl,0,by simp [Pl.n],?_⟩
   show B1 (CK (env++more) 0)
   rw [Jn (by omega) (by rw [hml];simp),hml]
   show B1 (more.getD (1 - 1 - 0) 0)
   rw [hmg _ (by simp)]
   exact .inr (.inr ⟨rfl,rfl⟩)
 have hbo:=hok1 b (by rw [hvb];simp)
 have hr:=(h b (env++more) _ B1 hσ1 (by simpa using hbo) he0 hs1).1
 rcases hr with hr | ⟨hr,B2,hE,hs2⟩
 ·exact .inl hr
 refine .inr ⟨fun hF=>hr ?_,B2,hE1.trans hE (by simp),hs2⟩
 rcases hF.or with ⟨hsp,hF⟩ | hF
 ·rw [HQ hsp o7 hvb]at hF
  exact hund (by rw [hvb];simp) hF.DE
 ·rcases hF with rfl | rfl | rfl
  ·have:vs=[.mk 1 0 eS [] []]∧b=.mk 1 0 eS [] []:=by
    have:spL.args=[.mk 1 0 eS [] []]++[.mk 1 0 eS [] []]:=rfl
    rw [this]at hvb
    exact⟨(List.append_inj_left' hvb rfl).symm,by simpa using (List.append_inj_right' hvb rfl).symm⟩
   obtain⟨rfl,rfl⟩:=this
   refine .inl ?_
   rw [DN rfl]
   refine .inr ⟨_,rfl,0,by simp [Pl.n],?_⟩
   show B1 (CK (env++more) 0)
   rw [Jn (by omega) (by rw [hml];simp),hml]
   show B1 (more.getD (1 - 1 - 0) 0)
   rw [hmg _ (by simp)]
   exact .inr (.inr ⟨rfl,rfl⟩)
  ·exact absurd o7 (by decide)
  ·exact absurd o7 (by decide)
theorem X9 {p:List Gl} (hn:(nms p).Nodup) {g:Gl} (hg:g∈p):∃ j:Nat,Bc p g.name=j∧∃ h:j < p.length,p[j]=g:=by
 obtain⟨j,h1,h2,h3⟩:=HO (List.mem_map_of_mem (f:=Gl.name) hg)
 refine⟨j,h1,h2,?_⟩
 obtain⟨a,ha,rfl⟩:=List.mem_iff_getElem.1 hg
 have e1:(nms p)[a]?=some p[a].name:=by simp [nms,ha]
 have e2:(nms p)[j]?=some p[a].name:=by rw [← h3];simp [nms,h2]
 have:a=j:=Fm hn e1 e2
 subst this;rfl
theorem MB.fold {l:List ND} {Q:Int→Prop} (h:MB (l.foldl BU none) Q):∀ x∈l,MB x Q:=by
 obtain⟨h1,h2⟩:=Mr l none
 intro x hx
 rcases h with h | ⟨m,h,v,hv,q⟩
 ·exact .inl ((h1 h).2 x hx)
 ·rcases (h2 m v h hv).2 x hx with h | ⟨a,h,ha⟩
  ·exact .inl h
  ·exact .inr ⟨a,h,v,ha,q⟩
theorem YA {ev:Evf} (hok:EU p ev) (h:I8 p K ev) {e:Pl} {env:List Nat} {σ:Sg} {B:Nat→Prop} (hσ:OKs p σ) (he:okE p e env σ.cells.length) (o8:e.op=8) (hb:σ.cells.length+13≤400+13 * σ.steps) (he0:σ.err=0) (hs:Sd p K B σ) {x:Pl} (hx:e.args=[x]) :
  Cn p K B σ (if (ev x env σ).1.val=false∨(ev x env σ).2.err≠0 then ev x env σ else Cg ev (ev x env σ).1 env e.alts (ev x env σ).2) (Fl K B e env):=by
 have o1:e.op≠1:=by omega
 have hi:inn e=0:=by simp [inn,o8]
 have hxo:=he.E7 o1 hi (x:=x) (by rw [hx];simp) (Nat.le_refl _)
 have hr:=(h x env σ B hσ hxo he0 hs).1
 have hrk:=hok x env σ hσ hxo
 generalize ev x env σ=r at hr hrk
 obtain⟨o,τ⟩:=r
 rcases hr with hr | ⟨hr,B2,hE,hs2⟩
 ·rw [if_pos (.inr hr)];exact .inl hr
 split
 ·rename_i hst
  rcases hst with hst | hst
  ·exact .inr ⟨fun _=>hst,B2,hE,hs2⟩
  ·exact .inl hst
 ·rename_i hst
  simp only [not_or,Bool.not_eq_false,ne_eq,Decidable.not_not]at hst
  obtain⟨hv1,he1⟩:=hst
  have hinc:=hrk.inc
  have hstp:=hrk.stp
  simp only at hinc hstp
  rcases Ls hok h (σ:=τ) hrk.ok (he.mono hrk.len) o8 hrk.out (by omega) he1 hs2 e.alts fun a ha=>ha with hq | ⟨hq,B3,hE3,hs3⟩
  ·exact .inl hq
  ·refine .inr ⟨fun hF=>hq fun a ha=>?_,B3,hE.trans hE3 hrk.len,hs3⟩
   have hF:=hF.mb (by omega)
   rw [HR (FX (by omega)) o8 hx]at hF
   rcases hF.with with hF | hF
   ·have:=hr (.inl hF);rw [hv1]at this;cases this
   ·exact(hF.fold _ (List.mem_map_of_mem (f:=fun a:Hd × Pl=>B5 (bnd a.1) (AP K a.2)) ha)).out.mono fun v hv=>⟨hv.1,hE.1 _ hv.2⟩
theorem YB {ev:Evf} (hfx:Fix p K) (hok:EU p ev) (h:I8 p K ev) {e:Pl} {env:List Nat} {σ:Sg} {B:Nat→Prop} (hσ:OKs p σ) (he:okE p e env σ.cells.length) (hb:σ.cells.length+13≤400+13 * σ.steps) (he0:σ.err=0) (hs:Sd p K B σ) :
  Cn p K B σ (BR p ev e env σ) (Fl K B e env)∧((BR p ev e env σ).2.err≠0∨((e.op=5→(BR p ev e env σ).1=.fn e env [])∧(e.op=3→(BR p ev e env σ).1=.int e.n)∧(e.op=2→∀ g∈p,g.name=e.s→g.body.op=5→(BR p ev e env σ).1=.fn g.body [] []∨(BR p ev e env σ).1.val=false))):=by
 have hnd:=(A5 he.wf).1
 unfold BR
 split
 ·rename_i o1
  obtain⟨h1,_⟩:=Mu hok h hσ he0 hs (CK env e.n)
  refine⟨h1.imp fun hF=>?_,.inr ⟨fun o=>by omega,fun o=>by omega,fun o=>by omega⟩⟩
  have hF:=hF.mb (by omega)
  rw [DN o1]at hF
  rcases hF with hF | ⟨l,hl,v,hv,q⟩
  ·cases hl:hF
  ·cases hl;simp at hv;subst hv;exact q
 split
 ·rename_i o1 o2
  obtain⟨j,hj,hjl,hjn⟩:=HO (he.gi e (I0 e) o2)
  rw [hj,Int.toNat_natCast]
  obtain⟨h1,h2⟩:=Mu hok h hσ he0 hs j
  have hgm:p[j]∈p:=List.getElem_mem hjl
  have hgj:p[j]?=some p[j]:=List.getElem?_eq_getElem hjl
  refine⟨h1.imp fun hF=>?_,h2.imp id fun h2=>⟨fun o=>by omega,fun o=>by omega,fun _ g hg hn h5=>?_⟩⟩
  ·have hF:=hF.mb (by omega)
   rw [E8 o2]at hF
   split at hF
   ·rename_i hw
    have hww:=hfx.w hgm
    rw [hjn]at hww
    refine hs.hb j _ hgj (fun o5=>?_) (by rw [hjn];exact hw.2)
    rw [wnt,if_pos o5]at hww
    have:=(A5 (hfx.gp.wf _ hgm)).1.lam o5
    omega
   ·exact absurd hF MB.no
  ·obtain⟨j2,hj2,hj2l,hj2n⟩:=X9 hfx.gp.nd hg
   rw [hn,hj]at hj2
   obtain rfl:j=j2:=by omega
   exact h2 g (by rw [hgj,hj2n]) h5
 split
 ·rename_i o1 o2 o3
  refine⟨.same hs fun hF=>?_,.inr ⟨fun o=>by omega,fun _=>rfl,fun o=>by omega⟩⟩
  have hF:=hF.mb (by omega)
  rw [D1 (.inl o3)]at hF
  exact absurd hF MB.no
 split
 ·rename_i o1 o2 o3 o4
  obtain⟨B2,hE,hs2,_⟩:=HA (env:=env) e.args hs
  refine⟨.inr ⟨fun hF=>?_,B2,hE,hs2⟩,.inr ⟨fun o=>by omega,fun o=>by omega,fun o=>by omega⟩⟩
  have hF:=hF.mb (by omega)
  rw [D1 (.inr (.inl o4))]at hF
  exact absurd hF MB.no
 split
 ·rename_i o1 o2 o3 o4 o5
  refine⟨.same hs fun hF=>?_,.inr ⟨fun _=>rfl,fun o=>by omega,fun o=>by omega⟩⟩
  have hF:=hF.mb (by omega)
  rw [D1 (.inr (.inr o5))]at hF
  exact absurd hF MB.no
 split
 ·rename_i o1 o2 o3 o4 o5 o6
  have hl:=hnd.app o6
  obtain⟨f,l,hfl⟩:=R2 (t:=e) (by omega)
  refine⟨?_,.inr ⟨fun o=>by omega,fun o=>by omega,fun o=>by omega⟩⟩
  have:=AAp hfx hok h hσ he o6 hb he0 hs hfl
  rw [hfl]at this ⊢
  exact this
 split
 ·rename_i o1 o2 o3 o4 o5 o6 o7
  obtain⟨vs,b,hvb⟩:=Dz (l:=e.args) (by intro h;have:=hnd.lt o7;rw [h]at this;simp at this)
  refine⟨?_,.inr ⟨fun o=>by omega,fun o=>by omega,fun o=>by omega⟩⟩
  have:=AAq hok h hσ he o7 hb he0 hs hvb
  have e1:e.args.length - 1=vs.length:=by rw [hvb];simp
  simp only [e1]
  rw [hvb,List.take_left,show ((vs++[b])[vs.length]?).getD e=b by simp]
  exact this
 split
 ·rename_i o1 o2 o3 o4 o5 o6 o7 o8
  obtain⟨x,hx⟩:=List.length_eq_one_iff.1 (hnd.cas o8).1
  refine⟨?_,.inr ⟨fun o=>by omega,fun o=>by omega,fun o=>by omega⟩⟩
  have:=YA hok h hσ he o8 hb he0 hs hx
  rw [hx,List.headD_cons]
  exact this
 ·have:=hnd.op
  exact⟨X8 hok h hσ he (by omega) hb he0 hs,.inr ⟨fun o=>by omega,fun o=>by omega,fun o=>by omega⟩⟩
theorem QS (hfx:Fix p K):∀ n,I8 p K (evalW p n)
 | n,e,env,σ,B,hσ,he,he0,hs=>by
  rw [evalW.eq_def]
  dsimp only
  rw [if_neg (by omega)]
  split
  ·exact⟨.inl (fun h=>by cases h),.inl (fun h=>by cases h)⟩
  ·rename_i hst
   have hst2:=hσ.st
   have hbn:=hσ.bn
   match n with
   | 0=>exact⟨.inl (fun h=>by cases h),.inl (fun h=>by cases h)⟩
   | n+1 =>
    have hσ1:OKs p { σ with steps:=σ.steps+1 }:=⟨hσ.ce,hσ.pl,(by omega:σ.cells.length≤400+13 * (σ.steps+1)),(by omega:σ.steps+1≤20000)⟩
    exact YB (σ:={ σ with steps:=σ.steps+1 }) hfx (I4 (p:=p) n) (QS hfx n) hσ1 he (by omega:σ.cells.length+13≤400+13 * (σ.steps+1)) he0 (hs.cells rfl)
end Go.AL.Dm
namespace Go.AL.Dm
open Go Go.Proofs
theorem AAr {p:List Gl} (hp:EW p):Fix p (AJ (tbD p (fin p).1)):=by
 refine⟨hp,fun g hg=>?_⟩
 obtain⟨n,hw,hc⟩:=N7 hp
 rw [G2 hp.nd g hg]
 exact((hw.done hc).2 g hg).symm
def run (p:List Gl) (e:Pl):Ot × Sg:=evalW p 2000 e [] (start p)
def X1 (p:List Gl) (e:Pl):Bool:=decide ((run p e).2.err=0) && decide ((run p e).2.steps≠20000) && (run p e).1.val
theorem X2 {p:List Gl} (hp:EW p) (hg:∀ g∈p,Gin p g.body) (hc:∀ g∈p,fv g.body 0=[]) {e:Pl} (he:okE p e [] p.length) (hn:AP (AJ (tbD p (fin p).1)) e=none):X1 p e=false:=by
 have hst:=QP hp hg hc
 have hfx:=AAr hp
 generalize AJ (tbD p (fin p).1)=K at hn hfx
 have hs:Sd p K (fun c=>∃ g,p[c]?=some g∧g.body.op≠5∧(K g.name).BV=true) (start p):=by
  refine⟨fun c ⟨g,hg,h5,hf⟩=>⟨.hold g.body [],by simp [start,hg],?_⟩,fun i g hg h5=>⟨.hold g.body [],by simp [start,hg],.inl rfl⟩,fun i g hg h5 hf=>⟨g,hg,h5,hf⟩⟩
  have:=hfx.BV (List.mem_of_getElem? hg) hf
  rw [cde,if_neg h5]at this
  exact .inl (MB.le (I5 g.body).1 (.inl this))
 have hb:=(QS hfx 2000 e [] (start p) _ hst (by simpa [start] using he) rfl hs).1
 rw [X1,run]
 rcases hb with hb | ⟨hb,_⟩
 ·simp [hb]
 ·rw [hb (.inl (.inl hn))];simp
theorem TJ:∀ {l:List Pl},(∀ x∈l,wf x=true)→wfs l=true
 | [],_=>rfl
 | y::l,h=>by rw [wfs,h y (by simp),TJ fun x hx=>h x (by simp [hx])];rfl
theorem P5:∀ {l:List Pl} {e:Pl},e∈Gh l→∃ x∈l,e∈pre x
 | y::l,e,he=>by
  rw [Gh,List.mem_append]at he
  rcases he with he | he
  ·exact⟨y,by simp,he⟩
  ·obtain⟨x,hx,h⟩:=P5 he
   exact⟨x,by simp [hx],h⟩
structure okA (p:List Gl) (x:Pl):Prop where
 wf:wf x=true
 rg:rng x
 gi:Gin p x
 cl:cl x 0=true
 dw:dw x≤300
theorem okA.ok {p:List Gl} {x:Pl} (h:okA p x):okE p x [] p.length:=⟨h.wf,h.rg,h.gi,by simpa using h.cl,by simp,by have:=h.dw;simp;omega⟩
def wo (k:Int):Pl:=if k=0 then .mk 9 0 BZ [i41] []else if k=1 then spL else if k=2 then spA else spD
theorem AAi (K:ByteArray→Kn) (k:Int):AP K (wo k)=none:=by
 rw [wo]
 split
 ·by_cases hsp:spc (.mk 9 0 BZ [i41] [])
  ·exact Cy hsp
  ·exact G8 hsp rfl rfl
 split
 ·exact Cy (.inl rfl)
 split
 ·exact Cy (.inr (.inl rfl))
 ·exact Cy (.inr (.inr rfl))
theorem AJG (p:List Gl) (k:Int):okA p (wo k):=by
 rw [wo]
 split
 rotate_left
 split
 rotate_left
 split
 all_goals
  refine⟨by kernel_rfl,by simp [rng,OI,OJ,i64,spL,spA,spD,i41],fun e he ho=>?_,by kernel_rfl,by simp [dw,dws,dwa,spL,spA,spD,i41];try omega⟩
  simp [pre,Gh,FP,spL,spA,spD,i41]at he
  rcases he with rfl | rfl | rfl <;> simp [Pl.op]at ho
end Go.AL.Dm
