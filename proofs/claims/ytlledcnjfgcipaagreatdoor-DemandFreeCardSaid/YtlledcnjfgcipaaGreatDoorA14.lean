/- The abstract layer: blocks that are no objects, records of loops, deferred calls. -/
import Derived.Test.YtlledcnjfgcipaaGreatDoorA12k
set_option linter.unusedVariables false
set_option linter.unusedSimpArgs false
namespace Go.AL
variable {ro:Option Nat} {P:Program} {gs:List Nat} {N:Nat} {ι ι':Nat→Option Nat} {g l:Env} {s s':St} {a:Act} {w w':World}
theorem Tz {ι ι':Nat→Option Nat} {F F':Nat→Nat→Prop} {w w':World}
  (hext:∀ o b,ι o=some b→ι' o=some b)
  (hcell:∀ b off v,w.cell? ⟨b,off,none⟩=some v→¬ F b off→w'.cell? ⟨b,off,none⟩=some v)
  (hfoot:∀ b off,b < w.heap.size→F' b off→F b off)
  (hshape:∀ b n,CN w b n→CN w' b n) (hmaps:∀ b ces c,w.heap[b]?=some (.map ces c)→(∀ off,¬ F b off)→w'.heap[b]?=some (.map ces c)) {v:Value} {x:AV} (h:Rep ι F w v x):Rep ι' F' w' v x:=by
 induction h with
 | any v=>exact .any v
 | bool b=>exact .bool b
 | int k n=>exact .int k n
 | str s=>exact .str s
 | @list a len cap sz t xs cs hlen hcap hsz ht hnone hc hr ih =>
  refine .list cs hlen hcap hsz ?_ hnone (fun j hj=>?_) ih
  ·cases t with
   | none=>trivial
   | full=>exact ht
   | own o =>
    rcases ht with ht | ⟨b,h1,h2,h3⟩
    ·exact .inl ht
    ·exact .inr ⟨b,hext _ _ h1,h2,hshape _ _ h3⟩
  ·obtain⟨ad,h1,h2,h3,h4,h5⟩:=hc j hj
   have hb:=Er h3
   exact⟨ad,h1,h2,hcell _ _ _ h3 h4,fun hf=>h4 (hfoot _ _ hb hf),h5⟩
 | agg hl hc hr ih=>exact .agg hl hc ih
 | tup hl hr ih=>exact .tup hl ih
 | ptr off h=>exact .ptr off (hext _ _ h)
 | Ai cs ha hc hr ih =>
  refine .Ai cs ha (fun j hj=>?_) ih
  obtain⟨h3,h4,h5⟩:=hc j hj
  have hb:=Er h3
  exact⟨hcell _ _ _ h3 h4,fun hf=>h4 (hfoot _ _ hb hf),h5⟩
 | C2=>exact .C2
 | fn f hl hl' hf hr ih1 ih2=>exact .fn f hl hl' ih1 ih2
 | Es=>exact .Es
 | map h=>exact .map (hext _ _ h)
 | Ad=>exact .Ad
 | Dc h hf hin hout hnd=>exact .Dc (hmaps _ _ _ h hf) (fun off h'=>hf off (hfoot _ off (Array.getElem?_eq_some_iff.1 h).1 h')) hin hout hnd
 | Bp σ h hf hsz hσ hinj hsur hborn hnd hk hv ih1 ih2=>exact .Bp σ (hmaps _ _ _ h hf) (fun off h'=>hf off (hfoot _ off (Array.getElem?_eq_some_iff.1 h).1 h')) hsz hσ hinj hsur hborn hnd ih1 ih2
 | Ag h hcap hb=>exact .Ag (hext _ _ h) hcap (hshape _ _ hb)
 | FN=>exact .FN
 | HT h=>exact .HT (hext _ _ h)
 | yld h=>exact .yld (hext _ _ h)
section
variable {S:AX} {row:Option Nat}
structure Grown (S:AX) (ι:Nat→Option Nat) (w w':World) (row:Option Nat):Prop where
 by':w.grownBy w' row
 row:∀ r,row=some r→(∃ o,w.heap[r]?=some o∧o.isCells=false∧∀ ces c,o≠.map ces c)∧¬ Blk ι S r
theorem Grown.cell (h:Grown S ι w w' row) {b off:Nat} {v:Value} (hc:w.cell? ⟨b,off,none⟩=some v):w'.cell? ⟨b,off,none⟩=some v:=by
 refine(World.cell?_of_block (h.by'.block b (Er hc) fun e=>?_)).trans hc
 obtain⟨⟨o,ho,hn,_⟩,_⟩:=h.row b e.symm
 cases o <;> simp [World.cell?,ho,Obj.isCells]at hc hn
theorem Grown.shape (h:Grown S ι w w' row) {b n:Nat} (hb:CN w b n):CN w' b n:=by
 obtain⟨c,e,hc,hn⟩:=hb
 refine⟨c,e,(h.by'.block b (Array.getElem?_eq_some_iff.1 hc).1 fun e'=>?_).trans hc,hn⟩
 obtain⟨⟨o,ho,hno,_⟩,_⟩:=h.row b e'.symm
 rw [hc]at ho;cases ho;cases hno
theorem Grown.maps (h:Grown S ι w w' row) {b:Nat} {ces:Array MapEntry} {c:Nat} (hb:w.heap[b]?=some (.map ces c)):w'.heap[b]?=some (.map ces c):=by
 refine(h.by'.block b (Array.getElem?_eq_some_iff.1 hb).1 fun e=>?_).trans hb
 obtain⟨⟨o,ho,_,hno⟩,_⟩:=h.row b e.symm
 rw [hb]at ho;cases ho;exact hno _ _ rfl
theorem Grown.rep [Glob] (h:Grown S ι w w' row) {F:Nat→Nat→Prop} {v:Value} {x:AV} (hr:Rep ι F w v x):Rep ι F w' v x :=
 Tz (fun _ _ h=>h) (fun _ _ _ hc _=>h.cell hc) (fun _ _ _ h=>h) (fun _ _ h'=>h.shape h') (fun _ _ _ h' _=>h.maps h') hr
theorem Grown.wf [Glob] (h:Grown S ι w w' row) (hw:WF ι S w):WF ι S w' :=
 ⟨fun o b ho=>Nat.lt_of_lt_of_le (hw.blt o b ho) h.by'.size,hw.inj,fun o obj b ho hb =>
  (hw.rep o obj b ho hb).keep (fun v x hr=>h.rep hr) (h.by'.block b (hw.blt o b hb) fun e=>(h.row b e.symm).2 ⟨o,obj,ho,hb⟩) (fun mb ces c h' hf=>⟨h.maps h',hf⟩),fun g x hg=>h.rep (hw.laid g x hg)⟩
theorem Grown.step [Glob] (h:Grown S ι w w' row) {ι0:Nat→Option Nat} {S0:AX} {w0:World} (hs:Step ι0 S0 w0 ι S w) (hr:∀ r,row=some r→w0.heap.size≤r):Step ι0 S0 w0 ι S w' where
 os:=h.by'.os.trans hs.os
 tape:=h.by'.tape.trans hs.tape
 output:=h.by'.output.trans hs.output
 size:=Nat.le_trans hs.size h.by'.size
 blk b hb hn:=(h.by'.block b (Nat.lt_of_lt_of_le hb hs.size) fun e=>by have:=hr b e.symm;omega).trans (hs.blk b hb hn)
 cell b off hb hn:=(World.cell?_of_block (h.by'.block b (Nat.lt_of_lt_of_le hb hs.size) fun e=>by have:=hr b e.symm;omega)).trans (hs.cell b off hb hn)
 shape b n hb:=h.shape (hs.shape b n hb)
 maps b ces c hb hn:=h.maps (hs.maps b ces c hb hn)
 ext:=hs.ext
 IL:=hs.IL
 Lv:=hs.Lv
end
def HZ (D:Nat):Deferred:={ target:=.collected D,args:=#[] }
def Gd (B:Nat) (ι:Nat→Option Nat) (S:AX) (d:List Deferred) (w:World):Prop :=
 B≤w.heap.size∧∃ Ds:List Nat,d=Ds.map HZ∧Ds.Nodup∧∀ D∈Ds,B≤D∧w.heap[D]?=some (.deferred (some []))∧¬ Blk ι S D
theorem Gd.nil {B:Nat} {S:AX} (h:B≤w.heap.size):Gd B ι S [] w:=⟨h,[],rfl,by simp,by simp⟩
theorem Gd.step {B:Nat} {S S':AX} {d:List Deferred} (hs:Step ι S w ι' S' w') (h:Gd B ι S d w):Gd B ι' S' d w':=by
 obtain⟨h0,Ds,h1,h2,h3⟩:=h
 refine⟨Nat.le_trans h0 hs.size,Ds,h1,h2,fun D hD=>?_⟩
 obtain⟨k0,k1,k2⟩:=h3 D hD
 have hlt:=(Array.getElem?_eq_some_iff.1 k1).1
 exact⟨k0,(hs.blk D hlt k2).trans k1,fun hb=>k2 (hs.Lv D hlt hb)⟩
theorem Rel.move [Glob] (h:Rel gs N ι g l s a w) (hst:Step ι s.m w ι' s'.m w') (hwf:WF ι' s'.m w') (hb:Bnd ι' s'.m s'.nx):Rel gs N ι' g l s' a w' :=
 ⟨hwf,hb,h.size,h.defers,fun t ht=>(h.Ek t ht).step hst,fun t ht=>(h.loc t ht).step hst⟩
theorem KL {o:Nat} {ob ob':Ax} (h:Bnd ι s.m s.nx) (ho:s.m o=some ob):Bnd ι (s.set o ob').m (s.set o ob').nx :=
 ⟨fun r x hr=>by
  by_cases e:r=o
  ·subst e;exact h.lt r _ ho
  ·simp [St.set,e]at hr;exact h.lt r x hr,h.ilt⟩
theorem YY [Glob] {o:Nat} (h:Bnd ι s.m s.nx):Bnd ι (s.del o).m (s.del o).nx:=⟨fun r x hr=>h.lt r x (Ap s.m o r x hr),h.ilt⟩
theorem Fc [Glob] {o b:Nat} {st n:Nat} {j:Option (Option Nat)} {env:Env} {ps:List Nat} {ca cb:Code} (hwf:WF ι s.m w) (ho:s.m o=some (.loop st j env ps n ca cb)) (hb:ι o=some b) :
  ∃ r:Loop,w.heap[b]?=some (.loop r)∧r.state=lst st∧r.pending=j.map Jt∧r.params=ps.toArray∧r.assign=ca∧r.body=cb∧r.tmps.size=n ∧
   (∀ t,Rep ι (AZ ι s.m) w (r.tmps.getD t undef) (env.get t)) ∧
   ∀ st' j',Step ι s.m w ι (s.set o (.loop st' j' env ps n ca cb)).m (w.putObj b (.loop { r with state:=lst st',pending:=j'.map Jt })) ∧
    WF ι (s.set o (.loop st' j' env ps n ca cb)).m (w.putObj b (.loop { r with state:=lst st',pending:=j'.map Jt })):=by
 obtain⟨D,fn,tmps,h1,h2,h3⟩:=hwf.rep o _ b ho hb
 refine⟨_,h1,rfl,rfl,rfl,rfl,rfl,h2,h3,fun st' j'=>?_⟩
 exact GA (co':=.loop { state:=lst st',pending:=j'.map Jt,fn,tmps,params:=ps.toArray,assign:=ca,body:=cb,defers:=D }) (obj':=.loop st' j' env ps n ca cb) hwf ho hb h1 (fun _ _ _ h=>by cases h) (fun _ _ _ h=>by cases h)
  (fun _=>trivial) fun hR hh=>⟨D,fn,tmps,hh,h2,fun t=>hR _ _ (h3 t)⟩
theorem VG [Glob] (hwf:WF ι s.m w) (hι:ι s.nx=none) (r:Loop) {n:Nat} {env:Env} {ps:List Nat} (h0:r.state=.ready) (h1:r.pending=none) (h2:r.params=ps.toArray) (h3:r.tmps.size=n) (h4:∀ t,Rep ι (AZ ι s.m) w (r.tmps.getD t undef) (env.get t)) :
  Step ι s.m w (An ι s.nx w.heap.size) (s.new (.loop 0 none env ps n r.assign r.body)).m (w.alloc (.loop r))∧WF (An ι s.nx w.heap.size) (s.new (.loop 0 none env ps n r.assign r.body)).m (w.alloc (.loop r)):=by
 have hs:=A8 hwf hι (.loop r) (.loop 0 none env ps n r.assign r.body)
 refine⟨hs,Bo hwf hι _ _ ⟨r.defers,r.fn,r.tmps,?_,h3,fun t=>(h4 t).step hs⟩⟩
 rw [BH]
 obtain⟨st,pe,fn,tmps,ps',as,bd,df⟩:=r
 simp only at h0 h1 h2
 subst h0 h1 h2
 rfl
theorem Kp:∀ (ps:List Nat) (vs:List Value) (args:List AV) (tmps:Array Value) (env:Env) {F:Nat→Nat→Prop},(∀ p∈ps,p < tmps.size)→vs.length=ps.length→args.length=ps.length →
  (∀ (j:Nat) v x,vs[j]?=some v→args[j]?=some x→Rep ι F w v x)→(∀ t,Rep ι F w (tmps.getD t undef) (env.get t)) →
  ((ps.zip vs).foldl (fun t (p:Nat × Value)=>t.setIfInBounds p.1 p.2) tmps).size=tmps.size ∧
   ∀ t,Rep ι F w (((ps.zip vs).foldl (fun t (p:Nat × Value)=>t.setIfInBounds p.1 p.2) tmps).getD t undef) ((F9 ps args env).get t)
 | [],vs,args,tmps,env,F,_,_,_,_,h=>⟨rfl,fun t=>by cases args <;> exact h t⟩
 | p::ps,v::vs,x::args,tmps,env,F,hp,h1,h2,hr,h=>by
  have hp0:p < tmps.size:=hp p (by simp)
  have:=Kp ps vs args (tmps.setIfInBounds p v) ((p,x)::env) (F:=F) (fun q hq=>by simpa using hp q (by simp [hq])) (by simpa using h1) (by simpa using h2) (fun j u y hu hy=>hr (j+1) u y hu hy) (fun t=>by
   simp only [Env.get]
   by_cases e:p=t
   ·subst e
    simpa [hp0] using hr 0 v x rfl rfl
   ·have:=h t
    simpa [e,Array.getElem?_setIfInBounds_ne e,Array.getD_eq_getD_getElem?] using this)
  simpa [F9] using this
 | p::ps,[],_,_,_,_,_,h1,_,_,_=>by simp at h1
 | p::ps,_::_,[],_,_,_,_,_,h2,_,_=>by simp at h2
theorem Oz (keep:List Nat) (g:Env) (t:Nat):(F8 keep g).get t=if t∈keep then g.get t else .any:=by
 induction keep with
 | nil=>rfl
 | cons k r ih =>
  simp only [F8,List.map_cons,Env.get]at ih ⊢
  by_cases e:k=t
  ·subst e;simp
  ·rw [if_neg e,ih]
   simp [Ne.symm e]
section
variable {F:Fence} {n:Nat} {Q:Exit→Act→World→Prop}
theorem M0 {c:Code} (J:Nat→Act→World→Prop) {m:Nat} (h₀:J m a w)
  (round:∀ m a w,J m a w→c.wpIn F n P (Exit.then (fun a' w'=>∃ j,j < m∧J j a' w') Q) a w):(Code.loop c).wpIn F n P Q a w:=by
 intro b k cs hro hb hr
 have key:∀ m a w,J m a w →
   ∃ e a' w',Q e a' w'∧ArrivesIn (Machine.fenced P F) P (lone (b.atR a (.code c::.inLoop c::k)) cs w) b k cs e a' w':=by
  intro m
  induction m using Nat.strongRecOn with
  | _ m ih =>
   intro a w hI
   obtain⟨e,a₁,w₁,hq,harr⟩:=round m a w hI b (.inLoop c::k) cs hro hb hr
   cases e with
   | normal =>
    obtain⟨j,hlt,hI₁⟩:=hq
    obtain⟨e₂,a₂,w₂,hq₂,harr₂⟩:=ih j hlt a₁ w₁ hI₁
    exact⟨e₂,a₂,w₂,hq₂,.of_steps (StepsIn.trans harr (.one (fenced_calm hb hr rfl) stepR_inLoop)) harr₂⟩
   | exit id=>exact⟨_,a₁,w₁,hq,.pass (x:=.inLoop c) rfl (fun _ _=>.inl (by simp)) harr⟩
   | goto l=>exact⟨_,a₁,w₁,hq,.pass (x:=.inLoop c) rfl (fun _ _=>.inl (by simp)) harr⟩
   | ret=>exact⟨_,a₁,w₁,hq,.pass (x:=.inLoop c) rfl (fun _ _=>.inl (by simp)) harr⟩
   | panic ch=>exact⟨_,a₁,w₁,hq,.pass (x:=.inLoop c) rfl (fun _ _=>.inl (by simp)) harr⟩
   | outgrown=>exact⟨_,a₁,w₁,hq,.pass (x:=.inLoop c) rfl (fun _ _=>.inl (by simp)) harr⟩
 obtain⟨e,a',w',hq,harr⟩:=key m a w h₀
 exact⟨e,a',w',hq,.of_steps (.one (fenced_calm hb hr rfl) stepR_loop) harr⟩
theorem DH {b:Frame} {k:List Item} {cs:List Frame} {c:Code}:step P (lone (b.atR a (.code (.scope c)::k)) cs w)=.next (lone (b.atR a (.code c::.inScope c::k)) cs w) :=
 step_lone_go (by simp [stepG,stepG.exec,Frame.atR])
theorem Lw {b:Frame} {k:List Item} {cs:List Frame} {c:Code}:step P (lone (b.atR a (.inScope c::k)) cs w)=.next (lone (b.atR a k) cs w) :=
 step_lone_go (by simp [stepG,stepG.exec,Frame.atR])
theorem O0 [Glob] {c:Code} (hg:∀ l a w,¬ Q (.goto l) a w) (h:c.wpIn F n P Q a w):(Code.scope c).wpIn F n P Q a w:=by
 intro b k cs hro hb hr
 have h0:(lone (b.atR a (.code (.scope c)::k)) cs w).fenced P F:=fenced_calm hb hr rfl
 obtain⟨e,a₁,w₁,hq,harr⟩:=h b (.inScope c::k) cs hro hb hr
 cases e with
 | normal=>exact⟨.normal,a₁,w₁,hq,.head h0 DH (StepsIn.trans harr (.one (fenced_calm hb hr rfl) Lw))⟩
 | exit id' =>
  have hx:exitTo id' (.inScope c::k)=exitTo id' k:=by simp [exitTo]
  exact⟨.exit id',a₁,w₁,hq,fun k' hk=>.head h0 DH (harr.1 k' (by rw [hx];exact hk)),
    fun hr' hk=>let ⟨k₁,h1,h2⟩:=harr.2 hr' (by rw [hx];exact hk);⟨k₁,h1,.head h0 DH h2⟩⟩
 | goto l=>exact absurd hq (hg _ _ _)
 | ret=>exact⟨_,a₁,w₁,hq,.of_steps (.one h0 DH) harr⟩
 | panic ch=>exact⟨_,a₁,w₁,hq,.of_steps (.one h0 DH) harr⟩
 | outgrown=>exact⟨_,a₁,w₁,hq,.of_steps (.one h0 DH) harr⟩
end
end Go.AL
namespace Go.AL
variable {ro:Option Nat} {P:Program} {gs:List Nat} {N:Nat} {ι ι':Nat→Option Nat} {g l:Env} {s s':St} {a:Act} {w w':World}
def O1 [Glob] (B:Nat) (gs:List Nat) (N:Nat) (ι0:Nat→Option Nat) (s0:St) (w0:World) (Q:Ay→Env→St→Prop) (e:Exit) (a:Act) (w:World):Prop :=
 ∃ ι g l s d a0,a=Bj d a0∧Gd B ι s.m d w∧Rel gs N ι g l s a0 w∧Step ι0 s0.m w0 ι s.m w∧Inc ι0 ι s0.nx s.nx∧match e with | .normal=>Q .normal g s | .exit i=>Q (.exit i) g s | .ret=>Q .ret g s | _=>False
theorem Ju [Glob] {c:Operand} {y:AG} (h:IB gs c=some y):opd gs c=some y∧∀ l l',y.val g l=y.val g l':=by
 unfold IB at h
 split at h
 ·cases h
 ·rename_i hne
  refine⟨h,fun l l'=>?_⟩
  cases y with
  | l t=>exact absurd h (hne t)
  | _=>rfl
theorem Rel.frz [Glob] (h:Rel gs N ι g l s a w) {t o off:Nat} {cs:List AV} (ht:gs.contains t=true) (hg:g.get t=.ptr o off) (ho:s.m o=some (.box cs)) :
  Rel gs N ι ((t,.Ai (cs.drop off))::g) l (s.del o) a w∧Step ι s.m w ι (s.del o).m w:=by
 have hsub:=Ap s.m o
 have hst:Step ι s.m w ι (s.del o).m w:=BG s.m (CO s.m o) hsub ι w
 have hwf:WF ι (s.del o).m w:=h.wf.drop hsub
 refine⟨⟨hwf,⟨fun q ob hq=>h.bnd.lt q ob (hsub q ob hq),h.bnd.ilt⟩,h.size,h.defers,fun u hu=>?_,fun u hu=>(h.loc u hu).step hst⟩,hst⟩
 simp only [Env.get]
 split
 ·rename_i e
  subst e
  have hp:=h.Ek t ht
  rw [hg]at hp
  obtain⟨b,hb,hv⟩:=EZ hp
  rw [hv]
  have hc:=(Gt (h.wf.rep o _ b ho hb)).drop off
  simp only [Nat.zero_add]at hc
  obtain⟨_,f,hf⟩:=hc
  refine .Ai f rfl (fun j hj=>?_) (fun j x hx=>((hf j x hx).2.2).step hst)
  have hx:(cs.drop off)[j]?=some (cs.drop off)[j]:=by simp [hj]
  obtain⟨h1,h2,h3⟩:=hf j _ hx
  refine⟨h1,?_,h2⟩
  rintro⟨q,ob,k1,k2,k3⟩
  have hq:q≠o:=by
   intro e
   simp [St.del,e]at k1
  exact hq (h.wf.inj q o ob _ b (hsub q ob k1) ho k2 hb)
 ·exact(h.Ek u hu).step hst
theorem Kq [Glob] {B:Nat} {ι0:Nat→Option Nat} {s0:St} {w0:World} {c:Code}:∀ (ts:List Nat) (x:Ae),ts.all gs.contains=true →
  (∀ Q,awp P x Q g s→c.wpIn (inR ro) 0 P (O1 B gs N ι0 s0 w0 Q) a w)→∀ Q,awp P (ACe ts x) Q g s→c.wpIn (inR ro) 0 P (O1 B gs N ι0 s0 w0 Q) a w
 | [],x,_,hx,Q,h=>hx Q h
 | t::r,x,ht,hx,Q,h=>by
  simp only [List.all_cons,Bool.and_eq_true]at ht
  refine Kq r (.seq x (.frz t)) ht.2 (fun Q' h'=>?_) Q h
  refine wpIn_mono (hx _ h') fun e a' w' ⟨ι',g',l',s',d,a0,h0,hd,h1,h2,h3,h4⟩=>?_
  cases e with
  | normal =>
   simp only [awp]at h4
   split at h4
   ·rename_i o off hg
    split at h4
    ·rename_i cs ho
     obtain⟨k1,k2⟩:=h1.frz ht.1 hg ho
     exact⟨ι',_,l',_,d,a0,h0,hd.step k2,k1,h2.trans k2,h3,h4⟩
    ·exact h4.elim
   ·exact h4.elim
  | exit i=>exact⟨ι',g',l',s',d,a0,h0,hd,h1,h2,h3,h4⟩
  | ret=>exact⟨ι',g',l',s',d,a0,h0,hd,h1,h2,h3,h4⟩
  | _=>exact h4.elim
def CS [Glob] (P:Program) (gs:List Nat) (N:Nat) (c:Code):Prop :=
 ∀ (B:Nat) (ro:Option Nat) (ac:Ae),(ro=none∨Cz c=true)→Aj P gs N c=some ac→∀ (ι0:Nat→Option Nat) (s0:St) (w0:World) (Q:Ay→Env→St→Prop) (ι:Nat→Option Nat) (g l:Env) (s:St) (a:Act) (d:List Deferred) (w:World),
  awp P ac Q g s→Rel gs N ι g l s a w→Gd B ι s.m d w→Step ι0 s0.m w0 ι s.m w→Inc ι0 ι s0.nx s.nx→c.wpIn (inR ro) 0 P (O1 B gs N ι0 s0 w0 Q) (Bj d a) w
theorem YZ {r:Loop} {st:LoopState} {j:Option Code} (h1:r.pending=j):({ r with state:=st }:Loop)={ r with state:=st,pending:=j }:=by
 subst h1;rfl
theorem T0 [Glob] {as bd:Code} {a' b':Ae} {ps:List Nat} {o:Nat} {env:Env} (iha:CS P gs N as) (ihb:CS P gs N bd) (hfa:Cz as=true) (hfb:Cz bd=true) (hps:∀ p∈ps,p < N)
  (ha:Aj P gs N as=some a') (hb:Aj P gs N bd=some b') (henv:∀ t,gs.contains t=true∨env.get t=.any):OX P o env ps N as bd (awp P a') (awp P b'):=by
 intro args s1 K hobj hlen hawp ι1 w1 vs L hwf hbnd hL hvs
 obtain⟨r,hr,r1,r2,r3,r4,r5,r6,r7,r8⟩:=Fc hwf hobj hL
 have hsz:vs.size=r.params.size:=by rw [hvs.1,hlen,r3];simp
 refine⟨r.fn,_,r.assign,r.body,run_yield hr hsz,roundIn_of_wpIn trivial ?_⟩
 obtain⟨b1,b2⟩:=Kp ps vs.toList args r.tmps env (F:=AZ ι1 s1.m) (fun p hp=>by rw [r6];exact hps p hp) (by rw [Array.length_toList,hsz,r3];simp) hlen (fun j v x hv hx=>hvs.2 j v x (by simpa using hv) hx) r7
 have hfold:(r.params.zip vs).foldl (fun tmps (x:Nat × Value)=>tmps.setIfInBounds x.1 x.2) r.tmps=(ps.zip vs.toList).foldl (fun t (p:Nat × Value)=>t.setIfInBounds p.1 p.2) r.tmps:=by
  rw [r3,← Array.foldl_toList]
  congr 1
  simp [Array.toList_zip]
 have hrel:Rel gs N ι1 (F9 ps args env) [] s1 { tmps:=(r.params.zip vs).foldl (fun tmps (x:Nat × Value)=>tmps.setIfInBounds x.1 x.2) r.tmps,defers:=[] } w1:=by
  refine⟨hwf,hbnd,?_,rfl,fun t ht=>?_,fun t ht=>.any _⟩
  ·simp only [hfold];rw [b1,r6]
  ·simp only [hfold];exact b2 t
 have h1:=iha 0 (some L) a' (.inr hfa) ha ι1 s1 w1 _ ι1 _ [] s1 _ [] w1 hawp hrel (Gd.nil (Nat.zero_le _)) (Step.refl _ _ _) (Inc.refl _ _)
 rw [Ob]at h1
 rw [r4,r5]
 refine wpIn_mono h1 ?_
 rintro e a2 w2 ⟨ι2,g2,l2,s2,d2,a0,rfl,hd2,hrel2,hst2,hinc2,hq⟩
 cases e with
 | normal =>
  obtain⟨hobj2,hbody⟩:=hq
  have hL2:=hst2.ext _ _ hL
  obtain⟨r',k0,k1,k2,k3,k4,k5,k6,k7,k8⟩:=Fc hrel2.wf hobj2 hL2
  obtain⟨m1,m2⟩:=k8 1 none
  refine⟨_,run_beginRound k0 k1,?_⟩
  rw [YZ k2]
  have hrel3:=hrel2.move (s':=s2.set o _) m1 m2 (KL hrel2.bnd hobj2)
  refine wpIn_mono (ihb 0 (some L) b' (.inr hfb) hb ι1 s1 w1 _ ι2 _ _ _ a0 d2 _ hbody hrel3 (hd2.step m1) (hst2.trans m1) hinc2) ?_
  rintro e a3 w3 ⟨ι3,g3,l3,s3,d3,a0',rfl,hd3,hrel3,hst3,hinc3,hq⟩
  have hL3:=hst3.ext _ _ hL
  cases e with
  | normal =>
   obtain⟨hobj3,hK⟩:=hq
   obtain⟨r',k0,k1,k2,k3,k4,k5,k6,k7,k8⟩:=Fc hrel3.wf hobj3 hL3
   obtain⟨m1,m2⟩:=k8 0 none
   exact⟨_,_,run_endRound none k0,_,_,_,ι3,rfl,hst3.trans m1,m2,KL hrel3.bnd hobj3,hinc3,.bool _,hK⟩
  | ret =>
   obtain⟨hobj3,hK⟩:=hq
   obtain⟨r',k0,k1,k2,k3,k4,k5,k6,k7,k8⟩:=Fc hrel3.wf hobj3 hL3
   obtain⟨m1,m2⟩:=k8 2 (some none)
   exact⟨_,_,run_endRound _ k0,_,_,_,ι3,rfl,hst3.trans m1,m2,KL hrel3.bnd hobj3,hinc3,.bool _,hK⟩
  | exit i =>
   obtain⟨hobj3,hK⟩:=hq
   obtain⟨r',k0,k1,k2,k3,k4,k5,k6,k7,k8⟩:=Fc hrel3.wf hobj3 hL3
   obtain⟨m1,m2⟩:=k8 2 (some (some i))
   exact⟨_,_,run_endRound _ k0,_,_,_,ι3,rfl,hst3.trans m1,m2,KL hrel3.bnd hobj3,hinc3,.bool _,hK⟩
  | _=>exact hq.elim
 | exit i=>exact hq.elim
 | ret=>exact hq.elim
 | _=>exact hq.elim
theorem M3 [Glob] {B:Nat} {f:Operand} {f':AG} {as bd:Code} {a' b':Ae} {ps:Array Nat} {ι0:Nat→Option Nat} {s0:St} {w0:World} {Q:Ay→Env→St→Prop} {d:List Deferred} (iha:CS P gs N as) (ihb:CS P gs N bd) (hfa:Cz as=true) (hfb:Cz bd=true)
  (hps:∀ p∈ps.toList,p < N) (hf:IB gs f=some f') (ha:Aj P gs N as=some a') (hb:Aj P gs N bd=some b')
  (h:awp P (.R3 f' ps.toList N (Di gs N as bd) a' b') Q g s) (hr:Rel gs N ι g l s a w) (hd:Gd B ι s.m d w) (hs:Step ι0 s0.m w0 ι s.m w) (hn:Inc ι0 ι s0.nx s.nx) :
  (Code.rangeFunc f ps as bd).wpIn (inR none) 0 P (O1 B gs N ι0 s0 w0 Q) (Bj d a) w:=by
 obtain⟨ho,hv⟩:=Ju (g:=g) hf
 have hval:=hr.val f f' ho
 rw [hv l []]at hval
 have hY:OX P s.nx (F8 (Di gs N as bd) g) ps.toList N as bd (awp P a') (awp P b'):=T0 iha ihb hfa hfb hps ha hb fun t=>by
  rw [Oz]
  by_cases ht:t∈Di gs N as bd
  ·exact .inl (MD ht)
  ·exact .inr (if_neg ht)
 have h:=h as bd hY
 have hda:a.defers=[]:=hr.defers
 refine wpIn_rangeFunc fun fn hfn=>?_
 -- the block for deferred calls
 have hg1:w.grownBy (w.alloc (.deferred (some []))) none:=by
  refine⟨rfl,rfl,rfl,by simp,fun k hk _=>RowKit.Below.heap_alloc w _ k hk⟩
 have hG:Grown s.m ι w (w.alloc (.deferred (some []))) none:=⟨hg1,fun r e=>by cases e⟩
 have hst1:=hG.step (Step.refl ι s.m w) (fun r e=>by cases e)
 have hwf1:=hG.wf hr.wf
 have hι:ι s.nx=none:=by
  cases h:ι s.nx with
  | none=>rfl
  | some b=>exact absurd (hr.bnd.ilt _ b h) (Nat.lt_irrefl _)
 have hr1:∀ t,Rep ι (AZ ι s.m) (w.alloc (.deferred (some []))) (a.tmps.getD t undef) ((F8 (Di gs N as bd) g).get t):=fun t=>by
  rw [Oz]
  split
  ·rename_i ht;exact hG.rep (hr.Ek t (MD ht))
  ·exact .any _
 obtain⟨m1,m2⟩:=VG (s:=s) hwf1 hι { state:=.ready,pending:=none,fn,tmps:=a.tmps,params:=ps,assign:=as,body:=bd,defers:=w.heap.size } (n:=N) (ps:=ps.toList) (env:=F8 (Di gs N as bd) g) rfl rfl (by simp) hr.size hr1
 simp only [World.size_alloc]at m1 m2
 have hstL:=hst1.trans m1
 have hbnd1:Bnd (An ι s.nx (w.heap.size+1)) (s.new (.loop 0 none (F8 (Di gs N as bd) g) ps.toList N as bd)).m (s.nx+1):=by
  refine⟨fun q ob hq=>?_,fun q b hq=>?_⟩
  ·by_cases e:q=s.nx
   ·omega
   ·simp [St.new,e]at hq;have:=hr.bnd.lt q ob hq;omega
  ·by_cases e:q=s.nx
   ·omega
   ·simp [An,e]at hq;have:=hr.bnd.ilt q b hq;omega
 have hinc1:Inc ι (An ι s.nx (w.heap.size+1)) s.nx (s.nx+1):=⟨by omega,fun q b hq hlt=>by
  have e:q≠s.nx:=by omega
  simpa [An,e] using hq⟩
 have hDk:((w.alloc (.deferred (some []))).alloc (.loop { state:=.ready,pending:=none,fn,tmps:=a.tmps,params:=ps,assign:=as,body:=bd,defers:=w.heap.size })).heap[w.heap.size]?=some (.deferred (some [])) :=
  (RowKit.Below.heap_alloc _ _ _ (by simp)).trans (World.alloc_heap_new w _)
 have hDb:¬ Blk (An ι s.nx (w.heap.size+1)) (s.new (.loop 0 none (F8 (Di gs N as bd) g) ps.toList N as bd)).m w.heap.size:=by
  rintro⟨q,ob,q1,q2⟩
  by_cases e:q=s.nx
  ·subst e;simp [An]at q2
  ·simp [An,e]at q2;exact absurd (hr.wf.blt q _ q2) (Nat.lt_irrefl _)
 have hd1:Gd B (An ι s.nx (w.heap.size+1)) (s.new (.loop 0 none (F8 (Di gs N as bd) g) ps.toList N as bd)).m (HZ w.heap.size::d) ((w.alloc (.deferred (some []))).alloc (.loop { state:=.ready,pending:=none,fn,tmps:=a.tmps,params:=ps,assign:=as,body:=bd,defers:=w.heap.size })):=by
  obtain⟨e0,Ds,e1,e2,e3⟩:=hd.step hstL
  have hlt:∀ D∈Ds,D < w.heap.size:=by
   obtain⟨f0,Ds',f1,f2,f3⟩:=hd
   intro D hD
   have:Ds=Ds':=by
    have:=e1.symm.trans f1
    exact(List.map_inj_right (fun x y (h:HZ x=HZ y)=>by simpa [HZ] using h)).1 this
   subst this
   exact(Array.getElem?_eq_some_iff.1 (f3 D hD).2.1).1
  refine⟨e0,w.heap.size::Ds,by simp [e1],List.nodup_cons.2 ⟨fun hm=>absurd (hlt _ hm) (Nat.lt_irrefl _),e2⟩,fun D hD=>?_⟩
  rcases List.mem_cons.1 hD with rfl | hD
  ·exact⟨hd.1,hDk,hDb⟩
  ·exact e3 D hD
 cases hfv:f'.val g [] <;> rw [hfv]at h hval <;> simp only [callee]at h
 rename_i fid first cap
 obtain⟨hcb,hcall⟩:=h
 cases hav:a.eval f <;> rw [hav]at hval <;> try (cases hval;done)
 rename_i fn0 fs cs
 cases fn0 <;> try (cases hval;done)
 rename_i fid0
 obtain⟨rfl,hvs⟩:fid0=fid∧Bs (An ι s.nx (w.heap.size+1)) (AZ (An ι s.nx (w.heap.size+1)) (s.new (.loop 0 none (F8 (Di gs N as bd) g) ps.toList N as bd)).m) ((w.alloc (.deferred (some []))).alloc (.loop { state:=.ready,pending:=none,fn,tmps:=a.tmps,params:=ps,assign:=as,body:=bd,defers:=w.heap.size }))
   (fs++#[.func (.yield (w.heap.size+1)) #[] #[]]++cs) (first++[.yld s.nx]++cap):=by
  cases hval with
  | fn _ hl hl' hff hrr =>
   refine⟨rfl,Bs.append (Bs.append ⟨hl,fun j v x hv hx=>(hff j v x hv hx).step hstL⟩ ⟨rfl,fun j v x hv hx=>?_⟩) ⟨hl',fun j v x hv hx=>(hrr j v x hv hx).step hstL⟩⟩
   cases j with
   | zero=>simp at hv hx;subst hv hx;exact .yld (by simp [An])
   | succ j=>simp at hv
 have henter:=run_enterLoop_outer (P:=P) (w:=w) fn a.tmps ps as bd
 generalize hW1:(w.alloc (.deferred (some []))).alloc (.loop { state:=.ready,pending:=none,fn,tmps:=a.tmps,params:=ps,assign:=as,body:=bd,defers:=w.heap.size })=W1 at henter hvs hd1 hDk hstL m1 m2
 refine⟨w.heap.size+1,[HZ w.heap.size],W1,{ target:=.fn (.func fid0) cs,args:=fs++#[.func (.yield (w.heap.size+1)) #[] #[]] },W1,fid0,fs++#[.func (.yield (w.heap.size+1)) #[] #[]]++cs,W1,
  henter,?_,fun _ _=>trivial,?_,by simp [inR,Fence.wide],?_⟩
 ·simp [resolve,JD,hav,Deferred.ofValue]
  rfl
 ·have:=hcb (fs.push (.func (.yield (w.heap.size+1)) #[] #[])++cs) W1
  simp [invoke]
  exact this
 refine CallsIn.mono (JC (hcall _ _ _ m2 hbnd1 hvs)) ?_
 rintro e w3 ⟨v,r,s3,ι3,rfl,hst3,hwf3,hbnd3,hinc3,hrep3,st,j,hobj3,hne,hm⟩
 have hL3:ι3 s.nx=some (w.heap.size+1):=hst3.ext _ _ (by simp [An])
 obtain⟨r',k0,k1,k2,k3,k4,k5,k6,k7,k8⟩:=Fc hwf3 hobj3 hL3
 obtain⟨p1,p2⟩:=k8 3 j
 have hbusy:r'.state≠.busy:=by
  rw [k1]
  match st,hne with
  | 0,_=>simp [lst]
  | 2,_=>simp [lst]
  | n+3,_=>simp [lst]
 have hsub:∀ q ob,(s3.del s.nx).m q=some ob→(s3.set s.nx (.loop 3 j (F8 (Di gs N as bd) g) ps.toList N as bd)).m q=some ob:=by
  intro q ob hq
  by_cases e:q=s.nx
  ·subst e;simp [St.del]at hq
  ·simp [St.del,e]at hq;simp [St.set,e,hq]
 have q1:=BG _ _ hsub ι3 (w3.putObj (w.heap.size+1) (.loop { r' with state:=lst 3,pending:=j.map Jt }))
 have q2:=p2.drop hsub
 refine⟨_,_,run_endLoop k0 hbusy,?_⟩
 rw [k2]
 have hst4:Step ι s.m w ι3 (s3.del s.nx).m (w3.putObj (w.heap.size+1) (.loop { r' with state:=lst 3,pending:=j.map Jt })):=hstL.trans (hst3.trans (p1.trans q1))
 have hrel4:Rel gs N ι3 g l (s3.del s.nx) a (w3.putObj (w.heap.size+1) (.loop { r' with state:=lst 3,pending:=j.map Jt })):=hr.move hst4 q2 (YY hbnd3)
 have hd4:=hd1.step (hst3.trans (p1.trans q1))
 have happ:({ Bj d a with defers:=[HZ w.heap.size]++(Bj d a).defers }:Act)=Bj (HZ w.heap.size::d) a:=by simp [Bj,hda]
 rw [happ]
 match j,hm with
 | none,hm=>exact⟨ι3,g,l,_,_,a,rfl,hd4,hrel4,hs.trans hst4,hn.trans (hinc1.trans hinc3),hm⟩
 | some none,hm=>exact wpIn_ret ⟨ι3,g,l,_,_,a,rfl,hd4,hrel4,hs.trans hst4,hn.trans (hinc1.trans hinc3),hm⟩
 | some (some i),hm=>exact wpIn_exit ⟨ι3,g,l,_,_,a,rfl,hd4,hrel4,hs.trans hst4,hn.trans (hinc1.trans hinc3),hm⟩
theorem Qh [Glob] (hdraws:P.follows .mixedOrders=true):∀ (c:Code),CS P gs N c:=by
 intro c
 induction c with
 | skip =>
  intro B ro ac hro hc ι0 s0 w0 Q ι g l s a d w h hr hd hs hn
  cases hc
  exact wpIn_skip ⟨ι,g,l,s,d,a,rfl,hd,hr,hs,hn,h⟩
 | region id ops draw =>
  intro B ro ac hro hc ι0 s0 w0 Q ι g l s a d w h hr hd hs hn
  simp only [Aj]at hc
  split at hc
  rotate_left
  ·cases hc
  rename_i hfr
  rw [Bool.and_eq_true]at hfr
  obtain⟨hfr,htame⟩:=hfr
  simp only [Option.map_eq_some_iff]at hc
  obtain⟨ac,hc,rfl⟩:=hc
  refine Kq _ ac hfr (fun Q' h'=>?_) Q h
  clear h
  have h:=h'
  clear h'
  split at hc
  ·rename_i k hmk
   clear hmk
   split at hc
   rotate_left
   ·cases hc
   rename_i hdr
   subst hdr
   simp only [Gp]at hc
   generalize ((List.range (ops.size+1)).find? fun j=>decide (k < j) && Gb ops j).getD 0=m at hc
   split at hc
   rotate_left
   ·cases hc
   rename_i hchk
   simp only [Bool.and_eq_true,decide_eq_true_eq,List.all_eq_true,List.mem_range,Bool.or_eq_true,List.contains_iff_mem]at hchk
   obtain⟨⟨⟨hkm,hsuf⟩,hsl⟩,haf⟩:=hchk
   split at hc
   rotate_left
   ·cases hc
   rename_i kinds oc hk hoc
   split at hc
   rotate_left
   ·cases hc
   rename_i hw
   rw [Bool.and_eq_true]at hw
   split at hc
   rotate_left
   ·cases hc
   rename_i ac' dc os suf hac hdc hos hsf
   split at hc
   rotate_left
   ·cases hc
   rename_i hfl
   simp only [Bool.and_eq_true]at hfl
   obtain⟨⟨hcl,hfl⟩,hcn⟩:=hfl
   cases hc
   have T:=YW (by rw [Bool.and_eq_true];exact hsl) hk hos hw.1 hcn
   have hln:=T.len
   rw [D9 (Hk hsuf).le]at hln
   have htk:(os.take k).length=k:=by simp;omega
   rw [awp,htk]at h
   refine Oy d htame hdraws hkm hsuf T (fun j h1 h2=>?_) hoc hac hcl (by simpa using hw.2) hdc (fun i hi hb=>?_) hsf (fun ι' g' l' s' a' w' h1 h2 h3 h4=>⟨ι',g',l',s',d,a',rfl,hd.step h2,h1,hs.trans h2,hn.trans h3,h4⟩) h hr.clear (Step.refl _ _ _) (Inc.refl _ _)
   ·rcases haf j h2 with h3 | h3
    ·omega
    ·exact h3
   ·have hmem:i∈Mx ((AN (AI ops m).toList []).getD k []) k:=by
     simp only [Mx,List.mem_filter,List.mem_range,Bool.not_eq_true',hi,true_and]
     rw [← Bool.not_eq_true,List.contains_iff_mem]
     exact hb
    have h1:=List.all_eq_true.1 hfl i hmem
    have hoi:os[i]?=some (os[i]'(by omega)):=by simp
    rw [hoi]at h1
    refine⟨_,hoi,?_,fun x hx=>List.all_eq_true.1 h1 x hx⟩
    rw [List.mem_filterMap]
    exact⟨i,hmem,by rw [hoi];rfl⟩
  rename_i hmk0
  clear hmk0
  split at hc
  ·rename_i hms
   simp only [Bool.and_eq_true]at hms
   obtain⟨_,rfl⟩:=hms
   simp only [Gn]at hc
   generalize ((List.range (ops.size+1)).find? (Hh ops)).getD ops.size=k at hc
   split at hc
   rotate_left
   ·cases hc
   rename_i hchk
   simp only [Bool.and_eq_true]at hchk
   split at hc
   rotate_left
   ·cases hc
   rename_i kinds oc oa hk hoc hoa
   split at hc
   rotate_left
   ·cases hc
   rename_i hw
   split at hc
   rotate_left
   ·cases hc
   rename_i e t hae hda hgc hga
   split at hc
   rotate_left
   ·cases hc
   rename_i hts
   simp only [Bool.and_eq_true,decide_eq_true_eq,bne_iff_ne,ne_eq,List.all_eq_true,List.mem_range]at hts
   split at hc
   rotate_left
   ·cases hc
   rename_i zs' acl dc os suf hz hac hdc hos hsf
   cases hc
   exact Qf d htame hdraws hchk.1 (by simpa using hchk.2) hk hw hos hoc hac hgc hdc hts.1.2 hoa hae hga hda hts.1.1 hz (fun i hi o ho=>by have:=hts.2 i hi;rw [ho]at this;simpa using this) hsf (fun ι' g' l' s' a' w' h1 h2 h3 h4=>⟨ι',g',l',s',d,a',rfl,hd.step h2,h1,hs.trans h2,hn.trans h3,h4⟩) h hr.clear (Step.refl _ _ _) (Inc.refl _ _)
  rename_i hms0
  clear hms0
  split at hc
  ·rename_i hms
   simp only [Bool.and_eq_true]at hms
   obtain⟨_,rfl⟩:=hms
   simp only [Gm]at hc
   generalize ((List.range (ops.size+1)).find? (Gb ops)).getD ops.size=k at hc
   split at hc
   ·rename_i hchk
    simp only [Bool.and_eq_true]at hchk
    split at hc
    ·rename_i kinds hk
     split at hc
     ·rename_i os suf hos hsf
      cases hc
      exact Tu d htame hdraws hchk.1 (by simpa using hchk.2) hk hos hsf (fun ι' g' l' s' a' w' h1 h2 h3 h4=>⟨ι',g',l',s',d,a',rfl,hd.step h2,h1,hs.trans h2,hn.trans h3,h4⟩) h hr.clear (Step.refl _ _ _) (Inc.refl _ _)
     ·cases hc
    ·cases hc
   ·cases hc
  rename_i hms
  clear hms
  simp only [HW]at hc
  split at hc
  ·rename_i hd
   subst hd
   split at hc
   ·rename_i hchk
    split at hc
    ·rename_i kinds hk
     simp only [Option.map_eq_some_iff]at hc
     obtain⟨os,hos,rfl⟩:=hc
     exact Qc d htame hdraws hchk hk hos (fun ι' g' l' s' a' w' h1 h2 h3 h4=>⟨ι',g',l',s',d,a',rfl,hd.step h2,h1,hs.trans h2,hn.trans h3,h4⟩) h hr.clear (Step.refl _ _ _) (Inc.refl _ _)
    ·cases hc
   ·cases hc
  ·rename_i hd
   simp only [Bool.not_eq_true]at hd
   subst hd
   simp only [Option.map_eq_some_iff]at hc
   obtain⟨os,hos,rfl⟩:=hc
   exact QW htame (Ts (Q:=fun e a w=>O1 B gs N ι0 s0 w0 _ e (Bj d a) w) hos (fun ι' g' l' s' a' w' h1 h2 h3 h4=>⟨ι',g',l',s',d,a',rfl,hd.step h2,h1,hs.trans h2,hn.trans h3,h4⟩) h hr.clear (Step.refl _ _ _) (Inc.refl _ _))
 | seq x y ihx ihy =>
  intro B ro ac hro hc ι0 s0 w0 Q ι g l s a d w h hr hd hs hn
  simp only [Aj]at hc
  split at hc
  ·rename_i x' y' hx hy
   cases hc
   have hrx:ro=none∨Cz x=true:=hro.imp (fun h=>h) fun h=>by simp only [Cz,Bool.and_eq_true]at h;exact h.1
   have hry:ro=none∨Cz y=true:=hro.imp (fun h=>h) fun h=>by simp only [Cz,Bool.and_eq_true]at h;exact h.2
   refine wpIn_seq (wpIn_mono (ihx B ro x' hrx hx ι0 s0 w0 _ ι g l s a d w h hr hd hs hn) fun e a' w' ⟨ι',g',l',s',d',a0,h0,hd',h1,h2,h3,h4⟩=>?_)
   subst h0
   cases e with
   | normal=>exact ihy B ro y' hry hy ι0 s0 w0 Q ι' g' l' s' a0 d' w' h4 h1 hd' h2 h3
   | exit i=>exact⟨ι',g',l',s',d',a0,rfl,hd',h1,h2,h3,h4⟩
   | ret=>exact⟨ι',g',l',s',d',a0,rfl,hd',h1,h2,h3,h4⟩
   | _=>exact h4.elim
  ·cases hc
 | cond c x y ihx ihy =>
  intro B ro ac hro hc ι0 s0 w0 Q ι g l s a d w h hr hd hs hn
  simp only [Aj]at hc
  split at hc
  ·rename_i c' x' y' hcc hx hy
   cases hc
   have hrx:ro=none∨Cz x=true:=hro.imp (fun h=>h) fun h=>by simp only [Cz,Bool.and_eq_true]at h;exact h.1
   have hry:ro=none∨Cz y=true:=hro.imp (fun h=>h) fun h=>by simp only [Cz,Bool.and_eq_true]at h;exact h.2
   obtain⟨ho,hv⟩:=Ju (g:=g) hcc
   have hval:=hr.val c c' ho
   simp only [awp]at h
   rw [hv l []]at hval
   split at h
   ·rename_i t ht
    rw [ht]at hval
    exact wpIn_cond_split (by rw [JD];exact CC hval) (fun e=>ihx B ro x' hrx hx ι0 s0 w0 Q ι g l s a d w (h.1 e) hr hd hs hn) (fun e=>ihy B ro y' hry hy ι0 s0 w0 Q ι g l s a d w (h.2 e) hr hd hs hn)
   ·exact h.elim
  ·cases hc
 | block id b ih =>
  intro B ro ac hro hc ι0 s0 w0 Q ι g l s a d w h hr hd hs hn
  simp only [Aj,Option.map_eq_some_iff]at hc
  obtain⟨b',hb,rfl⟩:=hc
  refine wpIn_block (wpIn_mono (ih B ro b' (hro.imp (fun h=>h) fun h=>by simpa only [Cz] using h) hb ι0 s0 w0 _ ι g l s a d w h hr hd hs hn) fun e a' w' ⟨ι',g',l',s',d',a0,h0,hd',h1,h2,h3,h4⟩=>?_)
  cases e with
  | normal=>exact⟨ι',g',l',s',d',a0,h0,hd',h1,h2,h3,h4⟩
  | exit i =>
   simp only [Exit.inBlock]
   simp only at h4
   split at h4
   ·rename_i e;rw [if_pos e];exact⟨ι',g',l',s',d',a0,h0,hd',h1,h2,h3,h4⟩
   ·rename_i e;rw [if_neg e];exact⟨ι',g',l',s',d',a0,h0,hd',h1,h2,h3,h4⟩
  | ret=>exact⟨ι',g',l',s',d',a0,h0,hd',h1,h2,h3,h4⟩
  | _=>exact h4.elim
 | scope b ih =>
  intro B ro ac hro hc ι0 s0 w0 Q ι g l s a d w h hr hd hs hn
  simp only [Aj]at hc
  exact O0 (fun _ _ _ ⟨_,_,_,_,_,_,_,_,_,_,_,h⟩=>h) (ih B ro ac (hro.imp (fun h=>h) fun h=>by simpa only [Cz] using h) hc ι0 s0 w0 Q ι g l s a d w h hr hd hs hn)
 | label b =>
  intro B ro ac hro hc ι0 s0 w0 Q ι g l s a d w h hr hd hs hn
  cases hc
  exact wpIn_label ⟨ι,g,l,s,d,a,rfl,hd,hr,hs,hn,h⟩
 | loop b ih =>
  intro B ro ac hro hc ι0 s0 w0 Q ι g l s a d w h hr hd hs hn
  simp only [Aj,Option.map_eq_some_iff]at hc
  obtain⟨b',hb,rfl⟩:=hc
  obtain⟨I,n,hI,hstep⟩:=h
  refine M0 (fun n a w=>∃ ι g l s d a0,a=Bj d a0∧Gd B ι s.m d w∧Rel gs N ι g l s a0 w∧Step ι0 s0.m w0 ι s.m w∧Inc ι0 ι s0.nx s.nx∧I n g s) (m:=n) ⟨ι,g,l,s,d,a,rfl,hd,hr,hs,hn,hI⟩ ?_
  rintro n a w ⟨ι,g,l,s,d,a0,rfl,hd,hr,hs,hn,hI⟩
  refine wpIn_mono (ih B ro b' (hro.imp (fun h=>h) fun h=>by simpa only [Cz] using h) hb ι0 s0 w0 _ ι g l s a0 d w (hstep n g s hI) hr hd hs hn) fun e a' w' ⟨ι',g',l',s',d',a1,h0,hd',h1,h2,h3,h4⟩=>?_
  cases e with
  | normal =>
   obtain⟨m,hm,hI'⟩:=h4
   exact⟨m,hm,ι',g',l',s',d',a1,h0,hd',h1,h2,h3,hI'⟩
  | exit i=>exact⟨ι',g',l',s',d',a1,h0,hd',h1,h2,h3,h4⟩
  | ret=>exact⟨ι',g',l',s',d',a1,h0,hd',h1,h2,h3,h4⟩
  | _=>exact h4.elim
 | exit id =>
  intro B ro ac hro hc ι0 s0 w0 Q ι g l s a d w h hr hd hs hn
  cases hc
  exact wpIn_exit ⟨ι,g,l,s,d,a,rfl,hd,hr,hs,hn,h⟩
 | ret =>
  intro B ro ac hro hc ι0 s0 w0 Q ι g l s a d w h hr hd hs hn
  cases hc
  exact wpIn_ret ⟨ι,g,l,s,d,a,rfl,hd,hr,hs,hn,h⟩
 | rangeFunc f ps as bd iha ihb =>
  intro B ro ac hro hc ι0 s0 w0 Q ι g l s a d w h hr hd hs hn
  simp only [Aj]at hc
  split at hc
  rotate_left
  ·cases hc
  rename_i f' a' b' hf ha hb
  split at hc
  rotate_left
  ·cases hc
  rename_i hchk
  cases hc
  simp only [Bool.and_eq_true,List.all_eq_true,decide_eq_true_eq]at hchk
  obtain⟨⟨hfa,hfb⟩,hps⟩:=hchk
  obtain rfl:ro=none:=hro.resolve_right (by simp [Cz])
  exact M3 iha ihb hfa hfb hps hf ha hb h hr hd hs hn
 | _=>intro B ro ac hro hc;cases hc
theorem Kr:∀ (i:Nat) (args:List AV) (t:Nat),(FM i args).get t=if i≤t then args.getD (t - i) .any else .any
 | i,[],t=>by simp [FM,Env.get]
 | i,v::r,t=>by
  simp only [FM,Env.get]
  by_cases h:i=t
  ·subst h;simp
  ·rw [if_neg h,Kr (i+1) r t]
   by_cases h1:i+1≤t
   ·rw [if_pos h1,if_pos (by omega)]
    have:t - i=t - (i+1)+1:=by omega
    rw [this];simp
   ·rw [if_neg h1,if_neg (by omega)]
theorem Lx [Glob] {fn:Func} {rs:List JB} (hc:Bz P gs fn.results.toList=some rs) (hr:Rel gs N ι g l s a w) {vs:List AV} (hv:BF rs g s=some vs) :
  ∃ cv,(results fn a.tmps).run P w=.ok cv w∧Rep ι (AZ ι s.m) w cv (oneOf vs):=by
 have key:∀ (l0:List ResultVar) (rs:List JB) (vs:List AV),Bz P gs l0=some rs→BF rs g s=some vs →
   ∃ cvs:List Value,(l0.mapM fun(r:ResultVar)=>match r with | .tmp t=>(Pure.pure (a.tmps.getD t undef):Sem Value) | .cell c t=>do loadVar t (← asAddr (a.tmps.getD c undef))).run P w=.ok cvs w ∧
    cvs.length=vs.length∧∀ (j:Nat) v x,cvs[j]?=some v→vs[j]?=some x→Rep ι (AZ ι s.m) w v x:=by
  intro l0
  induction l0 with
  | nil =>
   intro rs vs h1 h2
   simp [Bz]at h1;subst h1
   simp [BF]at h2;subst h2
   exact⟨[],by simp,rfl,by simp⟩
  | cons x l0 ih =>
   intro rs vs h1 h2
   have fin:∀ {cv v r' vs'},(match x with | .tmp t=>(Pure.pure (a.tmps.getD t undef):Sem Value) | .cell c t=>do loadVar t (← asAddr (a.tmps.getD c undef))).run P w=.ok cv w →
     Rep ι (AZ ι s.m) w cv v→Bz P gs l0=some r'→BF r' g s=some vs'→vs=v::vs' →
     ∃ cvs:List Value,((x::l0).mapM fun(r:ResultVar)=>match r with | .tmp t=>(Pure.pure (a.tmps.getD t undef):Sem Value) | .cell c t=>do loadVar t (← asAddr (a.tmps.getD c undef))).run P w=.ok cvs w ∧
      cvs.length=vs.length∧∀ (j:Nat) v x,cvs[j]?=some v→vs[j]?=some x→Rep ι (AZ ι s.m) w v x:=by
    intro cv v r' vs' k1 k2 k3 k4 k5
    subst k5
    obtain⟨cvs,m1,m2,m3⟩:=ih r' vs' k3 k4
    refine⟨cv::cvs,?_,by simp [m2],fun j u y hu hy=>?_⟩
    ·simp only [List.mapM_cons,Sem.run_bind,k1,Result.andThen_ok,m1]
     rfl
    ·cases j with
     | zero=>simp at hu hy;subst hu hy;exact k2
     | succ j=>simp at hu hy;exact m3 j u y hu hy
   cases x with
   | tmp t =>
    simp only [Bz,Option.map_eq_some_iff]at h1
    obtain⟨r',hr',rfl⟩:=h1
    cases hg:gs.contains t with
    | false=>rw [hg]at h2;simp [BF]at h2
    | true =>
     rw [hg]at h2
     simp only [BF,Option.map_eq_some_iff]at h2
     obtain⟨vs',hvs',rfl⟩:=h2
     exact fin (by rfl) (hr.Ek t hg) hr' hvs' rfl
   | cell c t =>
    simp only [Bz]at h1
    split at h1
    ·rename_i n agg r' hn hagg hr'
     cases h1
     cases hg:gs.contains c with
     | false=>rw [hg]at h2;simp [BF]at h2
     | true =>
      rw [hg]at h2
      simp only [BF]at h2
      split at h2
      ·rename_i o off hp
       split at h2
       ·rename_i cs ho
        split at h2
        ·rename_i hfit
         split at h2
         ·rename_i v vs' hl hvs'
          cases h2
          have hrep:=hr.Ek c hg
          rw [hp]at hrep
          obtain⟨b,hb,hv⟩:=EZ hrep
          have hcells:=(Gt (hr.wf.rep o _ b ho hb)).drop off
          simp only [Nat.zero_add]at hcells
          obtain⟨cv,hrun,hcv⟩:=Hl (P:=P) t n agg (Fe hagg) (run_sizeOf hn) hcells (by simp;omega) hl
          refine fin ?_ hcv hr' hvs' rfl
          simp only [Instr.loadAt,Instr.sureAddr,Sem.run_bind,Sem.run_pure,Result.andThen_ok]at hrun
          simp [hv,asAddr,hrun]
         ·cases h2
        ·cases h2
       ·cases h2
      ·cases h2
    ·cases h1
 obtain⟨cvs,m1,m2,m3⟩:=key _ rs vs hc hv
 have hrun:(fn.results.mapM fun(r:ResultVar)=>match r with | .tmp t=>(Pure.pure (a.tmps.getD t undef):Sem Value) | .cell c t=>do loadVar t (← asAddr (a.tmps.getD c undef))).run P w=.ok cvs.toArray w:=by
  rw [Array.mapM_eq_mapM_toList]
  simp only [Sem.run_map,m1,Result.andThen_ok]
 refine⟨if h:cvs.toArray.size=1 then cvs.toArray[0]else .tuple cvs.toArray,?_,?_⟩
 ·unfold results
  rw [Sem.run_bind]
  exact congrArg (fun r=>Result.andThen r fun vs w'=>Result.ok (if h:vs.size=1 then vs[0]else Value.tuple vs) w') hrun
 ·match cvs,vs,m2,m3 with
  | [c],[v],_,m3=>exact m3 0 c v rfl rfl
  | [],[],_,m3=>exact .tup rfl (by simp)
  | c::c'::cs,v::v'::vs,m2,m3 =>
   have hne:¬ ((c::c'::cs).toArray.size=1):=by simp
   rw [dif_neg hne]
   exact .tup (by simpa using m2) (fun j u y hu hy=>m3 j u y (by simpa using hu) hy)
theorem IM [Glob] {fn:Func} {rs:List JB} {vs:List AV} {K:AV→St→Prop} {ι0:Nat→Option Nat} {s0:St} {w0:World} (hrs:Bz P gs fn.results.toList=some rs) (hvs:BF rs g s=some vs) (hK:K (oneOf vs) s) :
  ∀ (Ds:List Nat) (w:World),Ds.Nodup→(∀ D∈Ds,w.heap[D]?=some (.deferred (some []))∧¬ Blk ι s.m D)→Rel gs N ι g l s a w→Step ι0 s0.m w0 ι s.m w→(∀ D∈Ds,w0.heap.size≤D)→Inc ι0 ι s0.nx s.nx →
   LeavesInM (inR none) 0 P fn a.tmps (fun e w'=>∃ v r s' ι',e=.returned v∧Step ι0 s0.m w0 ι' s'.m w'∧WF ι' s'.m w'∧Bnd ι' s'.m s'.nx∧Inc ι0 ι' s0.nx s'.nx∧Rep ι' (AZ ι' s'.m) w' v r∧K r s') (Ds.map HZ) .returning w
 | [],w,_,_,hr,hs,_,hn=>by
  obtain⟨cv,k1,k2⟩:=Lx hrs hr hvs
  exact⟨cv,k1,cv,_,s,ι,rfl,hs,hr.wf,hr.bnd,hn,k2,hK⟩
 | D::Ds,w,hnd,hall,hr,hs,hlo,hn=>by
  obtain⟨k1,k2⟩:=hall D (by simp)
  have hG:Grown s.m ι w (w.putObj D (.deferred none)) (some D):=⟨grownBy_putObj' _ _ _,fun r e=>by cases e;exact⟨⟨_,k1,rfl,by simp⟩,k2⟩⟩
  refine⟨by simp,.inl ⟨D,_,rfl,run_takeDeferred k1,?_⟩⟩
  refine IM hrs hvs hK Ds _ (List.nodup_cons.1 hnd).2 (fun D' hD'=>?_) ⟨hG.wf hr.wf,hr.bnd,hr.size,hr.defers,fun t ht=>hG.rep (hr.Ek t ht),fun t ht=>hG.rep (hr.loc t ht)⟩ (hG.step hs fun r e=>by cases e;exact hlo D (by simp)) (fun D' hD'=>hlo D' (by simp [hD'])) hn
  obtain⟨q1,q2⟩:=hall D' (by simp [hD'])
  have hne:D'≠D:=fun e=>(List.nodup_cons.1 hnd).1 (e ▸ hD')
  exact⟨(World.putObj_heap_other hne).trans q1,q2⟩
theorem AD [Glob] {f:FuncId} {fn:Func} {af:F7} (hdraws:P.follows .mixedOrders=true) (hf:P.funcs[f]?=some fn) (hcb:D7 P f) (hc:A7 P gs fn=some af) {args:List AV} (hargs:args.length=af.np) {s:St}
  {K:AV→St→Prop} (h:U3 P af args s K):AB P f args s K:=by
 refine⟨hcb,fun ι w vs hwf hbnd hvs=>?_⟩
 unfold A7 at hc
 split at hc
 ·rename_i body rs hb hrs
  split at hc
  ·rename_i hnp
   cases hc
   cases hbody:fn.body with
   | none=>simp [hbody]at hb
   | some c =>
    simp only [hbody,Option.bind_some]at hb
    have hsz:vs.size=fn.params.size+fn.nfree:=hvs.1.trans hargs
    have hrel:Rel gs fn.ntmps ι (FM 0 args) [] s { tmps:=vs++Array.replicate (fn.ntmps - vs.size) undef,defers:=[] } w:=by
     refine⟨hwf,hbnd,by simp;omega,rfl,fun t ht=>?_,fun t ht=>.any _⟩
     rw [Kr]
     simp only [Nat.zero_le,if_true,Nat.sub_zero]
     by_cases hlt:t < vs.size
     ·have hlt':t < args.length:=by rw [← hvs.1];exact hlt
      have e1:(vs++Array.replicate (fn.ntmps - vs.size) undef).getD t undef=vs[t]:=by
       simp [Array.getElem?_append_left hlt,hlt]
      have e2:args.getD t .any=args[t]:=by simp [hlt']
      rw [e1,e2]
      exact hvs.2 t _ _ (by simp [hlt]) (by simp [hlt'])
     ·have:args.getD t .any=.any:=by
       have:args.length≤t:=by rw [← hvs.1];omega
       simp [List.getElem?_eq_none this]
      rw [this]
      exact .any _
    have hw:=Qh hdraws c w.heap.size none body (.inl rfl) hb ι s w _ ι _ [] s _ [] w h hrel (Gd.nil (Nat.le_refl _)) (Step.refl _ _ _) (Inc.refl _ _)
    rw [Ob]at hw
    refine(callsIn_wide (n:=0)).1 (callsIn_of_wp_marks hf hbody trivial (wpIn_mono hw fun e a' w' ⟨ι',g',l',s',d,a0,h0,hd,h1,h2,h3,h4⟩=>?_))
    subst h0
    have fin:(match BF rs g' s' with | some vs=>K (oneOf vs) s' | none=>False)→LeavesInM (inR none) 0 P fn (Bj d a0).tmps (fun e w'=>∃ v r s' ι',e=.returned v∧Step ι s.m w ι' s'.m w'∧WF ι' s'.m w'∧Bnd ι' s'.m s'.nx∧Inc ι ι' s.nx s'.nx∧Rep ι' (AZ ι' s'.m) w' v r∧K r s') (Bj d a0).defers .returning w':=by
     intro h
     split at h
     ·rename_i vs' hvs'
      obtain⟨_,Ds,e1,e2,e3⟩:=hd
      have hdf:(Bj d a0).defers=Ds.map HZ:=by simp [Bj,h1.defers,e1]
      rw [hdf]
      exact IM (a:=a0) hrs hvs' h Ds w' e2 (fun D hD=>(e3 D hD).2) h1 h2 (fun D hD=>(e3 D hD).1) h3
     ·exact h.elim
    cases e with
    | normal=>exact fin h4
    | ret=>exact fin h4
    | exit i=>exact h4.elim
    | _=>exact h4.elim
  ·cases hc
 ·cases hc
end Go.AL
namespace Go.AL
variable {P:Program}
section
variable (k:IntKind) (n:Int) (b:Bool) (s:ByteArray) (sz o off f:Nat) (t:Tok) (xs ys:List AV)
@[simp] theorem ACm:(AV.bool b).isVal=true:=rfl
@[simp] theorem AFP:(AV.int k n).isVal=true:=rfl
@[simp] theorem AFQ:(AV.str s).isVal=true:=rfl
@[simp] theorem ACn:(AV.list sz t xs).isVal=true:=rfl
@[simp] theorem AFR:(AV.agg xs).isVal=true:=rfl
@[simp] theorem AFS:(AV.ptr o off).isVal=true:=rfl
@[simp] theorem ACo:(AV.Ai xs).isVal=true:=rfl
@[simp] theorem Ya:AV.C2.isVal=true:=rfl
@[simp] theorem AHk:(AV.fn f xs ys).isVal=true:=rfl
@[simp] theorem AFT:(AV.yld o).isVal=true:=rfl
@[simp] theorem AAv:AV.Es.isVal=true:=rfl
@[simp] theorem T1:(AV.map o).isVal=true:=rfl
@[simp] theorem M5:AV.Ad.isVal=true:=rfl
@[simp] theorem ACp:(AV.bool b).cells=[.bool b]:=rfl
@[simp] theorem AFU:(AV.int k n).cells=[.int k n]:=rfl
@[simp] theorem AFV:(AV.str s).cells=[.str s]:=rfl
@[simp] theorem ACq:(AV.list sz t xs).cells=[.list sz t xs]:=rfl
@[simp] theorem AFW:(AV.ptr o off).cells=[.ptr o off]:=rfl
@[simp] theorem ACr:(AV.Ai xs).cells=[.Ai xs]:=rfl
@[simp] theorem Yb:AV.C2.cells=[.C2]:=rfl
@[simp] theorem AHl:(AV.fn f xs ys).cells=[.fn f xs ys]:=rfl
@[simp] theorem AFX:(AV.yld o).cells=[.yld o]:=rfl
@[simp] theorem AAw:AV.Es.cells=[.Es]:=rfl
@[simp] theorem T2:(AV.map o).cells=[.map o]:=rfl
@[simp] theorem M6:AV.Ad.cells=[.Ad]:=rfl
end
@[simp] theorem ACs (zs:List AV):BE zs []=zs:=rfl
@[simp] theorem AAx (zs:List AV) (off:Nat) (x:AV) (r:List (Nat × AV)):BE zs ((off,x)::r)=BE (zs.take off++x.cells++zs.drop (off+x.cells.length)) r:=rfl
@[simp] theorem Env.get_nil (t:Nat):Env.get [] t=.any:=rfl
@[simp] theorem Env.AHm (k t:Nat) (v:AV) (e:Env):Env.get ((k,v)::e) t=if k=t then v else Env.get e t:=rfl
@[simp] theorem ALD (g l:Env) (t:Nat):(AG.g t).val g l=g.get t:=rfl
@[simp] theorem ALE (g l:Env) (t:Nat):(AG.l t).val g l=l.get t:=rfl
@[simp] theorem ALF (g l:Env) (v:AV):(AG.c v).val g l=v:=rfl
@[simp] theorem St.Dr (s:St) (o:Ax):(s.new o).nx=s.nx+1:=rfl
@[simp] theorem St.GF (s:St) (o:Nat) (ob:Ax):(s.set o ob).nx=s.nx:=rfl
@[simp] theorem St.GG (s:St) (o:Nat):(s.del o).nx=s.nx:=rfl
@[simp] theorem St.Ec (s:St) (n:Nat):(s.bump n).nx=n:=rfl
@[simp] theorem St.AJU (s:St) (n:Nat):(s.bump n).m=s.m:=rfl
@[simp] theorem St.Ks (s:St) (o:Ax):(s.new o).m s.nx=some o:=by simp [St.new]
@[simp] theorem St.B0 (s:St) (o:Ax) (q:Nat) (h:q≠s.nx):(s.new o).m q=s.m q:=by simp [St.new,h]
@[simp] theorem St.EK (s:St) (o:Nat) (ob:Ax):(s.set o ob).m o=some ob:=by simp [St.set]
@[simp] theorem St.Bq (s:St) (o q:Nat) (ob:Ax) (h:q≠o):(s.set o ob).m q=s.m q:=by simp [St.set,h]
@[simp] theorem St.Kt (s:St) (o q:Nat) (h:q≠o):(s.del o).m q=s.m q:=by simp [St.del,h]
def go (X:Prop):Prop:=X
theorem AW {X:Prop} (h:go X):X:=h
abbrev KS:=AV→St→Prop
def ldK (n:Nat) (agg:Bool) (cs:List AV) (s:St) (K:KS):Prop:=n≤cs.length∧match CA n agg cs with | some v=>K v s | none=>False
def ldO (n:Nat) (agg:Bool) (off:Nat) (ob:Option Ax) (s:St) (K:KS):Prop:=match ob with | some (.box cs)=>off+n≤cs.length∧(match CA n agg (cs.drop off)with | some v=>K v s | none=>False) | _=>False
def ldV (n:Nat) (agg:Bool) (v:AV) (s:St) (K:KS):Prop:=match v with | .ptr o off=>ldO n agg off (s.m o) s K | .Ai cs=>ldK n agg cs s K | _=>False
def stO (n o off:Nat) (x:AV) (ob:Option Ax) (s:St) (K:KS):Prop:=match ob with | some (.box cs)=>x.isVal=true∧x.cells.length=n∧off+n≤cs.length∧K (.tup []) (s.set o (.box (Ed cs off x))) | _=>False
def stV (n:Nat) (a x:AV) (s:St) (K:KS):Prop:=match a with | .ptr o off=>stO n o off x (s.m o) s K | _=>False
def bxV (x:AV) (s:St) (K:KS):Prop:=x.isVal=true∧K (.ptr s.nx 0) (s.new (.box x.cells))
def pkV (c a b:AV) (s:St) (K:KS):Prop:=match c with | .bool t=>K (Hm t a b) s | _=>False
def bdV (zs:List AV) (ps:List (Nat × Nat × AV)) (s:St) (K:KS):Prop:=(∀ p∈ps,p.2.2.isVal=true∧p.2.2.cells.length=p.2.1∧p.1+p.2.1≤zs.length)∧K (.agg (BE zs (ps.map fun p=>(p.1,p.2.2)))) s
def bsV (sz:Nat) (z:AV) (m:Nat) (ps:List (Nat × AV)) (s:St) (K:KS):Prop:=(∀ p∈ps,p.2.isVal=true∧p.2.cells.length=sz∧p.1 < m)∧K (.list sz .full (ps.foldl (fun xs p=>xs.set p.1 p.2) (List.replicate m z))) s
def ncV (x:AV) (s:St) (K:KS):Prop:=match x with | .ptr .. | .HT .. | .Ai .. | .fn ..=>K x s | _=>False
def bnV (op:BinOp) (x y:AV) (s:St) (K:KS):Prop:=B7 op x y∧match Dg op x y with | some v=>K v s | none=>False
def eaV (neg:Bool) (m:Nat) (x y:AV) (s:St) (K:KS):Prop:=match x,y with | .agg as,.agg bs=>(match Bu as,Bu bs with | some a,some b=>a.length=m∧b.length=m∧K (.bool (if neg then !decide (a=b)else decide (a=b))) s | _,_=>False) | _,_=>False
def inV (neg:Bool) (x:AV) (s:St) (K:KS):Prop:=match x with | .list _ _ xs=>∀ b:Bool,(xs≠[]→b=neg)→K (.bool b) s | _=>False
def eqV (neg:Bool) (x y:AV) (s:St) (K:KS):Prop:=match x,y with | .bool a,.bool b=>K (.bool (if neg then !decide (a=b)else decide (a=b))) s | _,_=>False
def unV (op:UnOp) (x:AV) (s:St) (K:KS):Prop:=match op,x with | .not,.bool b=>K (.bool (!b)) s | .neg,.int k n=>K (.int k (k.wrap (0 - n))) s | _,_=>False
def cvV (k:IntKind) (x:AV) (s:St) (K:KS):Prop:=match x with | .int _ n=>K (.int k (k.wrap n)) s | _=>False
def faV (f:Nat) (x:AV) (s:St) (K:KS):Prop:=match x with | .ptr o off=>K (.ptr o (off+f)) s | .Ai cs=>f < cs.length∧K (.Ai (cs.drop f)) s | _=>False
def fdV (off n:Nat) (agg:Bool) (x:AV) (s:St) (K:KS):Prop:=match x with | .agg cs=>off+n≤cs.length∧(match CA n agg (cs.drop off)with | some v=>K v s | none=>False) | _=>False
def iaV (sz:Nat) (x i:AV) (s:St) (K:KS):Prop:=match x,i with
 | .list sz' _ xs,.int _ n=>(sz'=sz∧0≤n∧n < xs.length)∧K (.Ai (xs.getD n.toNat .any).cells) s
 | .Ag sz' o off m,.int _ n=>(sz'=sz∧0≤n∧n < m)∧K (.ptr o ((off+n.toNat) * sz)) s
 | _,_=>False
def isV (x i:AV) (s:St) (K:KS):Prop:=match x,i with | .str t,.int _ n=>(0≤n∧n < t.size)∧K (.int .u8 ((t.data.toList.getD n.toNat 0).toNat)) s | _,_=>False
def aaV (sz n:Nat) (x i:AV) (s:St) (K:KS):Prop:=match x,i with | .ptr o off,.int _ k=>(0≤k∧k < n)∧K (.ptr o (off+k.toNat * sz)) s | .Ai cs,.int _ k=>(0≤k∧k < n)∧K (.Ai (cs.drop (k.toNat * sz))) s | _,_=>False
def saV (n:Nat) (x h:AV) (s:St) (K:KS):Prop:=match x,h with | .Ai cs,.int _ h=>((0 < n∧n≤cs.length)∧(0≤h∧h≤n)∧∀ y∈cs.take n,y.cells=[y])∧K (.list 1 .none ((cs.take n).take h.toNat)) s | _,_=>False
def exV (i:Nat) (x:AV) (s:St) (K:KS):Prop:=match x with | .tup vs=>(match vs[i]? with | some v=>K v s | none=>False) | _=>False
def lnV (x:AV) (s:St) (K:KS):Prop:=match x with | .list _ _ xs=>K (.int .i64 xs.length) s | .Ag _ _ _ n=>K (.int .i64 n) s | _=>False
def lsV (x:AV) (s:St) (K:KS):Prop:=match x with | .str t=>K (.int .i64 t.size) s | _=>False
def apS (sz bytes sz0:Nat) (t:Tok) (xs:List AV) (sz1:Nat) (ys:List AV):Prop:=(sz0=sz∨(xs=[]∧t=.full))∧(sz1=sz∨ys=[])∧(xs.length+ys.length) * bytes≤140737488355328∧xs.length+ys.length≤9223372036854775807
def apO (sz o:Nat) (xs ys:List AV) (ob:Option Ax) (s:St) (K:KS):Prop:=match ob with | some (.spare n)=>n=xs.length * sz∧K (.list sz (.own s.nx) (xs++ys)) ((s.del o).new (.spare ((xs.length+ys.length) * sz))) | _=>False
def amO (sz n:Nat) (ys:List AV) (ob:Option Ax) (s s1:St) (K:KS):Prop:=match ob with | some (.box cs)=>cs.length=n * sz∧K (.Ag sz s.nx 0 (n+ys.length)) (s1.new (.box (cs++flat ys))) | _=>False
def apV (sz bytes:Nat) (a x:AV) (s:St) (K:KS):Prop :=
 match a,x with
 | .Ag sz0 o off n,.list sz1 _ ys=>(sz0=sz∧off=0∧(sz1=sz∨ys=[])∧(n+ys.length) * bytes≤140737488355328∧n+ys.length≤9223372036854775807)∧amO sz n ys (s.m o) s (s.del o) K
 | .list sz0 .full xs,.list sz1 _ ys=>apS sz bytes sz0 .full xs sz1 ys∧K (.list sz (.own s.nx) (xs++ys)) (s.new (.spare ((xs.length+ys.length) * sz)))
 | .list sz0 (.own o) xs,.list sz1 _ ys=>apS sz bytes sz0 (.own o) xs sz1 ys∧apO sz o xs ys (s.m o) s K
 | _,_=>False
def mnV (x y:AV) (s:St) (K:KS):Prop:=match x,y with | .int k a,.int k' b=>k=k'∧K (.int k (if b < a then b else a)) s | _,_=>False
def mxV (x y:AV) (s:St) (K:KS):Prop:=match x,y with | .int k a,.int k' b=>k=k'∧K (.int k (if a < b then b else a)) s | _,_=>False
def clV [Glob] (P:Program) (f:AV) (args:List AV) (s:St) (K:KS):Prop:=match f with | .fn f first captured=>AB P f (first++args++captured) s K | .yld o=>CL P o args s K | _=>False
def cpV [Glob] (P:Program) (f:AV) (args:List AV) (s:St) (K:KS):Prop:=match f with | .fn f first captured=>∃ r,AF P f (first++args++captured) r∧K r s | _=>False
def msV (sz bytes:Nat) (zs:List AV) (x y:AV) (s:St) (K:KS):Prop:=match x,y with
 | .int _ n,.int _ m=>(n=m∧0≤n∧n.toNat * bytes≤140737488355328∧n≤9223372036854775807)∧K (.Ag sz s.nx 0 n.toNat) (s.new (.box (List.replicate n.toNat zs).flatten))
 | _,_=>False
def lkR (c:Bool) (zs:List AV) (agg:Bool) (es:List (Nat × AV × AV)) (r:Option (Option Nat)) (s:St) (K:KS):Prop:=match r with | some r=>K (A2 c zs agg (r.bind fun i=>(es[i]?).map (·.2.2))) s | none=>False
def lkO (c:Bool) (zs:List AV) (agg:Bool) (k:AV) (ob:Option Ax) (s:St) (K:KS):Prop:=match ob with | some (.map es _)=>lkR c zs agg es (BL k es 0) s K | _=>False
def lkC (c:Bool) (zs:List AV) (agg:Bool) (r:Option (Option AV)) (s:St) (K:KS):Prop:=match r with | some r=>K (A2 c zs agg r) s | none=>False
def lkV (str c:Bool) (zs:List AV) (agg:Bool) (m k:AV) (s:St) (K:KS):Prop:=match m with | .map o=>Bf str k∧lkO c zs agg k (s.m o) s K | .Ad=>Bf str k∧K (A2 c zs agg none) s | .Dc es=>Bf str k∧lkC c zs agg (DU k es) s K | .Bp es=>Bf str k∧lkC c zs agg (DV k es) s K | _=>False
def upR (o:Nat) (es:List (Nat × AV × AV)) (clock:Nat) (k x:AV) (r:Option (Option Nat)) (s:St) (K:KS):Prop:=match r with | some r=>K (.tup []) (s.set o (Hn es clock k x r)) | none=>False
def upO (o:Nat) (k x:AV) (ob:Option Ax) (s:St) (K:KS):Prop:=match ob with | some (.map es clock)=>upR o es clock k x (BL k es 0) s K | _=>False
def upV (str:Bool) (m k x:AV) (s:St) (K:KS):Prop:=match m with | .map o=>Bf str k∧upO o k x (s.m o) s K | _=>False
def dlR (o:Nat) (es:List (Nat × AV × AV)) (clock:Nat) (r:Option (Option Nat)) (s:St) (K:KS):Prop:=match r with | some r=>K (.tup []) (s.set o (M7 es clock r)) | none=>False
def dlO (o:Nat) (k:AV) (ob:Option Ax) (s:St) (K:KS):Prop:=match ob with | some (.map es clock)=>dlR o es clock (BL k es 0) s K | _=>False
def dlV (str:Bool) (m k:AV) (s:St) (K:KS):Prop:=match m with | .map o=>Bf str k∧dlO o k (s.m o) s K | .Ad=>Bf str k∧K (.tup []) s | _=>False
def lmO (ob:Option Ax) (s:St) (K:KS):Prop:=match ob with | some (.map es _)=>K (.int .i64 es.length) s | _=>False
def lmV (m:AV) (s:St) (K:KS):Prop:=match m with | .map o=>lmO (s.m o) s K | .Ad=>K (.int .i64 0) s | _=>False
def rgO (o:Nat) (ob:Option Ax) (s:St) (K:KS):Prop:=match ob with | some (.map _ clock)=>K (.ptr s.nx 0) (s.new (.iter (some o) clock [] clock)) | _=>False
def rgV (m:AV) (s:St) (K:KS):Prop:=match m with | .map o=>rgO o (s.m o) s K | .Ad=>K (.ptr s.nx 0) (s.new (.iter none 0 [] 0)) | .Bp es=>K (.ptr s.nx 0) (s.new (.CU es [])) | _=>False
def nxK (q:Nat) (es:List (AV × AV)) (seen:List Nat) (s:St) (K:KS):Prop:=((∀ j,j < es.length→j∈seen)→K (.tup [.bool false]) s)∧∀ (j:Nat) p,es[j]?=some p→j ∉ seen→K (.tup [.bool true,p.1,p.2]) (s.set q (.CU es (seen++[j])))
def enK (es:List (AV × AV)) (seen:List Nat) (s:St) (K:KS):Prop:=match (seen.getLast?).bind (es[·]?)with | some p=>K (.tup [p.1,p.2]) s | none=>False
def nxM (q o since:Nat) (seen:List Nat) (last:Nat) (ob:Option Ax) (s:St) (K:KS):Prop:=match ob with
 | some (.map es clock)=>(seen=[]∨es=[]∨∃ e∈es,e.1 < last)∧((∀ e∈es,e.1 < since→e.1∈seen)→K (.tup [.bool false]) s) ∧
   ∀ e∈es,e.1 ∉ seen→K (.tup [.bool true,e.2.1,e.2.2]) (s.set q (.iter (some o) since (seen++[e.1]) clock))
 | _=>False
def nxO (q:Nat) (ob:Option Ax) (s:St) (K:KS):Prop:=match ob with
 | some (.iter none _ _ _)=>K (.tup [.bool false]) s
 | some (.iter (some o) since seen last)=>nxM q o since seen last (s.m o) s K
 | some (.CU es seen)=>nxK q es seen s K
 | _=>False
def nxV (x:AV) (s:St) (K:KS):Prop:=match x with | .ptr q 0=>nxO q (s.m q) s K | _=>False
def enM (seen:List Nat) (last:Nat) (ob:Option Ax) (s:St) (K:KS):Prop:=match ob,seen.getLast? with
 | some (.map es clock),some st=>clock=last∧(match es.find? fun e=>e.1 == st with | some e=>K (.tup [e.2.1,e.2.2]) s | none=>False)
 | _,_=>False
def enO (ob:Option Ax) (s:St) (K:KS):Prop:=match ob with
 | some (.iter (some o) _ seen last)=>enM seen last (s.m o) s K
 | some (.CU es seen)=>enK es seen s K
 | _=>False
def enV (x:AV) (s:St) (K:KS):Prop:=match x with | .ptr q 0=>enO (s.m q) s K | _=>False
section
variable {g l:Env} {s:St} {K:KS}
theorem Yc [Glob] (x:AG):AOp.step P (.mv x) g l s K=K (x.val g l) s:=by simp [AOp.step,AOp.BO,AOp.AT,AOp.ev,AOp.side,St.Bk]
@[simp] theorem ACt [Glob] (x:AG)  : go (AOp.step P (.mv x) g l s K)=go (K (x.val g l) s):=by rw [Yc]
theorem T3 [Glob] (c a b:AG):AOp.step P (.pick c a b) g l s K=pkV (c.val g l) (a.val g l) (b.val g l) s K:=by
 simp only [AOp.step,AOp.BO,AOp.AT,AOp.ev,AOp.side,St.Bk,pkV]
 cases c.val g l <;> simp
@[simp] theorem Yd [Glob] (c a b:AG)  : go (AOp.step P (.pick c a b) g l s K)=go (pkV (c.val g l) (a.val g l) (b.val g l) s K):=by rw [T3]
theorem Qi [Glob] (zs:List AV):AOp.step P (.alloc zs) g l s K=K (.ptr s.nx 0) (s.new (.box zs)):=by simp [AOp.step,AOp.BO,AOp.AT,AOp.ev,AOp.side,St.Bk]
@[simp] theorem YC [Glob] (zs:List AV)  : go (AOp.step P (.alloc zs) g l s K)=go (K (.ptr s.nx 0) (s.new (.box zs))):=by rw [Qi]
theorem VH [Glob] (x:AG):AOp.step P (.box x) g l s K=bxV (x.val g l) s K:=by simp [AOp.step,AOp.BO,AOp.AT,AOp.ev,AOp.side,St.Bk,bxV]
@[simp] theorem AAy [Glob] (x:AG)  : go (AOp.step P (.box x) g l s K)=go (bxV (x.val g l) s K):=by rw [VH]
theorem Qj [Glob] (zs:List AV) (ps:List (Nat × Nat × AG)):AOp.step P (.build zs ps) g l s K=bdV zs (ps.map fun p=>(p.1,p.2.1,p.2.2.val g l)) s K:=by
 simp only [AOp.step,AOp.BO,AOp.AT,AOp.ev,AOp.side,St.Bk,bdV,List.forall_mem_map,List.map_map,Function.comp_def]
@[simp] theorem YD [Glob] (zs:List AV) (ps:List (Nat × Nat × AG))  : go (AOp.step P (.build zs ps) g l s K)=go (bdV zs (ps.map fun p=>(p.1,p.2.1,p.2.2.val g l)) s K):=by rw [Qj]
theorem KC [Glob] (sz:Nat) (agg:Bool) (zs:List AV) (m:Nat) (ps:List (Nat × AG)):AOp.step P (.buildSlice sz agg zs m ps) g l s K=bsV sz (if agg then .agg zs else zs.headD .any) m (ps.map fun p=>(p.1,p.2.val g l)) s K:=by
 simp only [AOp.step,AOp.BO,AOp.AT,AOp.ev,AOp.side,St.Bk,bsV,List.forall_mem_map,List.map_map,Function.comp_def]
@[simp] theorem Qk [Glob] (sz:Nat) (agg:Bool) (zs:List AV) (m:Nat) (ps:List (Nat × AG))  : go (AOp.step P (.buildSlice sz agg zs m ps) g l s K)=go (bsV sz (if agg then .agg zs else zs.headD .any) m (ps.map fun p=>(p.1,p.2.val g l)) s K):=by rw [KC]
theorem T4 [Glob] (n:Nat) (agg:Bool) (a:AG):AOp.step P (.load n agg a) g l s K=ldV n agg (a.val g l) s K:=by
 simp only [AOp.step,AOp.BO,AOp.AT,AOp.ev,AOp.side,ldV]
 cases a.val g l <;> simp only
 case ptr o off =>
  cases s.m o with
  | none=>rfl
  | some ob =>
   cases ob <;> simp only [ldO]
   rename_i cs
   cases CA n agg (cs.drop off) <;> simp [St.HS,St.Bk]
 case Ai cs =>
  simp only [ldK]
  cases CA n agg cs <;> simp [St.HS,St.Bk]
 case HT a b c d =>
  cases s.m b <;> rfl
@[simp] theorem Ye [Glob] (n:Nat) (agg:Bool) (a:AG)  : go (AOp.step P (.load n agg a) g l s K)=go (ldV n agg (a.val g l) s K):=by rw [T4]
theorem Ql [Glob] (n:Nat) (a x:AG):AOp.step P (.store n a x) g l s K=stV n (a.val g l) (x.val g l) s K:=by
 simp only [AOp.step,AOp.BO,AOp.AT,AOp.ev,AOp.side,stV]
 cases a.val g l <;> simp only
 case ptr o off =>
  cases s.m o with
  | none=>rfl
  | some ob=>cases ob <;> simp [stO,St.HS,St.Bk,and_assoc]
 case HT a b c d =>
  cases s.m b <;> rfl
@[simp] theorem YE [Glob] (n:Nat) (a x:AG)  : go (AOp.step P (.store n a x) g l s K)=go (stV n (a.val g l) (x.val g l) s K):=by rw [Ql]
theorem Ly [Glob] (x:AG):AOp.step P (.nilCheck x) g l s K=ncV (x.val g l) s K:=by
 simp only [AOp.step,AOp.BO,AOp.AT,AOp.ev,AOp.side,ncV]
 cases h:x.val g l <;> simp [St.Bk,h]
@[simp] theorem T5 [Glob] (x:AG)  : go (AOp.step P (.nilCheck x) g l s K)=go (ncV (x.val g l) s K):=by rw [Ly]
theorem VI [Glob] (op:BinOp) (x y:AG):AOp.step P (.bin op x y) g l s K=bnV op (x.val g l) (y.val g l) s K:=by
 simp only [AOp.step,AOp.BO,AOp.AT,AOp.ev,AOp.side,bnV]
 cases Dg op (x.val g l) (y.val g l) <;> simp [St.Bk]
@[simp] theorem AAz [Glob] (op:BinOp) (x y:AG)  : go (AOp.step P (.bin op x y) g l s K)=go (bnV op (x.val g l) (y.val g l) s K):=by rw [VI]
theorem VJ [Glob] (n:Bool) (x y:AG):AOp.step P (.eqb n x y) g l s K=eqV n (x.val g l) (y.val g l) s K:=by
 simp only [AOp.step,AOp.BO,AOp.AT,AOp.ev,AOp.side,eqV]
 cases x.val g l <;> cases y.val g l <;> simp [St.Bk]
@[simp] theorem AA0 [Glob] (n:Bool) (x y:AG)  : go (AOp.step P (.eqb n x y) g l s K)=go (eqV n (x.val g l) (y.val g l) s K):=by rw [VJ]
theorem VK [Glob] (n:Bool) (m:Nat) (x y:AG):AOp.step P (.eqa n m x y) g l s K=eaV n m (x.val g l) (y.val g l) s K:=by
 simp only [AOp.step,AOp.BO,AOp.AT,AOp.ev,AOp.side,eaV]
 cases x.val g l <;> cases y.val g l <;> simp only
 rename_i as bs
 cases Bu as <;> cases Bu bs <;> simp only
 rename_i a b
 by_cases h:a.length=m∧b.length=m
 ·simp [h,St.Bk]
 ·simp only [h,if_false]
  exact propext ⟨False.elim,fun h'=>h ⟨h'.1,h'.2.1⟩⟩
@[simp] theorem AA1 [Glob] (n:Bool) (m:Nat) (x y:AG)  : go (AOp.step P (.eqa n m x y) g l s K)=go (eaV n m (x.val g l) (y.val g l) s K):=by rw [VK]
theorem Qm [Glob] (n:Bool) (x:AG):AOp.step P (.Jq n x) g l s K=inV n (x.val g l) s K:=by
 simp only [AOp.step,QY,inV]
 cases x.val g l <;> rfl
@[simp] theorem YF [Glob] (n:Bool) (x:AG)  : go (AOp.step P (.Jq n x) g l s K)=go (inV n (x.val g l) s K):=by rw [Qm]
theorem Yf [Glob] (op:UnOp) (x:AG):AOp.step P (.un op x) g l s K=unV op (x.val g l) s K:=by
 simp only [AOp.step,AOp.BO,AOp.AT,AOp.ev,AOp.side,unV]
 cases op <;> cases x.val g l <;> simp [St.Bk]
@[simp] theorem ACu [Glob] (op:UnOp) (x:AG)  : go (AOp.step P (.un op x) g l s K)=go (unV op (x.val g l) s K):=by rw [Yf]
theorem T6 [Glob] (k:IntKind) (x:AG):AOp.step P (.conv k x) g l s K=cvV k (x.val g l) s K:=by
 simp only [AOp.step,AOp.BO,AOp.AT,AOp.ev,AOp.side,cvV]
 cases x.val g l <;> simp [St.Bk]
@[simp] theorem Yg [Glob] (k:IntKind) (x:AG)  : go (AOp.step P (.conv k x) g l s K)=go (cvV k (x.val g l) s K):=by rw [T6]
theorem T7 [Glob] (f:FuncId) (a b:List AG):AOp.step P (.QU f a b) g l s K=K (.fn f (a.map (AG.val g l)) (b.map (AG.val g l))) s:=by simp [AOp.step,AOp.BO,AOp.AT,AOp.ev,AOp.side,St.Bk]
@[simp] theorem Yh [Glob] (f:FuncId) (a b:List AG)  : go (AOp.step P (.QU f a b) g l s K)=go (K (.fn f (a.map (AG.val g l)) (b.map (AG.val g l))) s):=by rw [T7]
theorem Ku [Glob] (f:Nat) (x:AG):AOp.step P (.fieldAddr f x) g l s K=faV f (x.val g l) s K:=by
 simp only [AOp.step,AOp.BO,AOp.AT,AOp.ev,AOp.side,faV]
 cases x.val g l <;> simp [St.Bk]
@[simp] theorem SB [Glob] (f:Nat) (x:AG)  : go (AOp.step P (.fieldAddr f x) g l s K)=go (faV f (x.val g l) s K):=by rw [Ku]
theorem Qn [Glob] (off n:Nat) (agg:Bool) (x:AG):AOp.step P (.field off n agg x) g l s K=fdV off n agg (x.val g l) s K:=by
 simp only [AOp.step,AOp.BO,AOp.AT,AOp.ev,AOp.side,fdV]
 cases x.val g l <;> simp only
 rename_i cs
 cases CA n agg (cs.drop off) <;> simp [St.Bk]
@[simp] theorem YG [Glob] (off n:Nat) (agg:Bool) (x:AG)  : go (AOp.step P (.field off n agg x) g l s K)=go (fdV off n agg (x.val g l) s K):=by rw [Qn]
theorem Kv [Glob] (sz:Nat) (x i:AG):AOp.step P (.indexAddr sz x i) g l s K=iaV sz (x.val g l) (i.val g l) s K:=by
 simp only [AOp.step,AOp.BO,AOp.AT,AOp.ev,AOp.side,iaV]
 cases x.val g l <;> cases i.val g l <;> simp [St.Bk]
@[simp] theorem SC [Glob] (sz:Nat) (x i:AG)  : go (AOp.step P (.indexAddr sz x i) g l s K)=go (iaV sz (x.val g l) (i.val g l) s K):=by rw [Kv]
theorem Lz [Glob] (x i:AG):AOp.step P (.FY x i) g l s K=isV (x.val g l) (i.val g l) s K:=by
 simp only [AOp.step,AOp.BO,AOp.AT,AOp.ev,AOp.side,isV]
 cases x.val g l <;> cases i.val g l <;> simp [St.Bk]
@[simp] theorem T8 [Glob] (x i:AG)  : go (AOp.step P (.FY x i) g l s K)=go (isV (x.val g l) (i.val g l) s K):=by rw [Lz]
theorem M8 [Glob] (x:AG) (i:Nat):AOp.step P (.extract x i) g l s K=exV i (x.val g l) s K:=by
 simp only [AOp.step,AOp.BO,AOp.AT,AOp.ev,AOp.side,exV]
 cases x.val g l <;> simp only
 rename_i vs
 cases vs[i]? <;> simp [St.Bk]
@[simp] theorem Uq [Glob] (x:AG) (i:Nat)  : go (AOp.step P (.extract x i) g l s K)=go (exV i (x.val g l) s K):=by rw [M8]
theorem VL [Glob] (x:AG):AOp.step P (.len x) g l s K=lnV (x.val g l) s K:=by
 simp only [AOp.step,AOp.BO,AOp.AT,AOp.ev,AOp.side,lnV]
 cases x.val g l <;> simp [St.Bk]
@[simp] theorem AA2 [Glob] (x:AG)  : go (AOp.step P (.len x) g l s K)=go (lnV (x.val g l) s K):=by rw [VL]
theorem O2 [Glob] (x:AG):AOp.step P (.Kc x) g l s K=lsV (x.val g l) s K:=by
 simp only [AOp.step,AOp.BO,AOp.AT,AOp.ev,AOp.side,lsV]
 cases x.val g l <;> simp [St.Bk]
@[simp] theorem VM [Glob] (x:AG)  : go (AOp.step P (.Kc x) g l s K)=go (lsV (x.val g l) s K):=by rw [O2]
theorem step_append [Glob] (sz bytes:Nat) (a x:AG):AOp.step P (.append sz bytes a x) g l s K=apV sz bytes (a.val g l) (x.val g l) s K:=by
 simp only [AOp.step,AOp.BO,AOp.AT,AOp.ev,AOp.side,apV]
 cases a.val g l <;> try (rfl;done)
 case Ag sz0 o off n =>
  cases ho:s.m o with
  | none=>cases x.val g l <;> simp [ho,amO]
  | some ob =>
   cases ob <;> cases x.val g l <;> simp [ho,amO]
   rename_i cs sz1 t1 ys
   by_cases h:sz0=sz∧off=0∧cs.length=n * sz
   ·obtain⟨h1,h2,h3⟩:=h
    simp [h1,h2,h3,St.HS,St.Bk]
   ·simp only [if_neg h]
    simp only [false_iff]
    rintro⟨⟨h1,h2,_⟩,h3,_⟩
    exact h ⟨h1,h2,h3⟩
 rename_i sz0 t xs
 cases t with
 | none=>cases x.val g l <;> simp
 | full=>cases x.val g l <;> simp [St.Bk,apS]
 | own o =>
  cases ho:s.m o with
  | none=>cases x.val g l <;> simp [ho,apO,apS]
  | some ob =>
   cases ob <;> cases x.val g l <;> simp [ho,apO,apS]
   rename_i n sz1 t1 ys
   by_cases h:n=xs.length * sz <;> simp [h,St.HS,St.Bk]
@[simp] theorem VN [Glob] (sz bytes:Nat) (a x:AG)  : go (AOp.step P (.append sz bytes a x) g l s K)=go (apV sz bytes (a.val g l) (x.val g l) s K):=by rw [step_append]
theorem L0 [Glob] (sz bytes:Nat) (zs:List AV) (x y:AG):AOp.step P (.C5 sz bytes zs true x y) g l s K=K (.Ag sz s.nx 0 0) (s.new (.box [])):=by
 simp [AOp.step,AOp.BO,AOp.AT,AOp.ev,AOp.side,St.Bk]
@[simp] theorem T9 [Glob] (sz bytes:Nat) (zs:List AV) (x y:AG)  : go (AOp.step P (.C5 sz bytes zs true x y) g l s K)=go (K (.Ag sz s.nx 0 0) (s.new (.box []))):=by rw [L0]
theorem VO [Glob] (x y:AG):AOp.step P (.min x y) g l s K=mnV (x.val g l) (y.val g l) s K:=by
 simp only [AOp.step,AOp.BO,AOp.AT,AOp.ev,AOp.side,mnV]
 cases x.val g l <;> cases y.val g l <;> simp [St.Bk]
@[simp] theorem AA3 [Glob] (x y:AG)  : go (AOp.step P (.min x y) g l s K)=go (mnV (x.val g l) (y.val g l) s K):=by rw [VO]
theorem L1 [Glob] (n:Nat) (x y:AG):AOp.step P (.Ej n x y) g l s K=saV n (x.val g l) (y.val g l) s K:=by
 simp only [AOp.step,AOp.BO,AOp.AT,AOp.ev,AOp.side,saV]
 cases x.val g l <;> cases y.val g l <;> simp [St.Bk]
@[simp] theorem UA [Glob] (n:Nat) (x y:AG)  : go (AOp.step P (.Ej n x y) g l s K)=go (saV n (x.val g l) (y.val g l) s K):=by rw [L1]
theorem M9 [Glob] (sz n:Nat) (x y:AG):AOp.step P (.D2 sz n x y) g l s K=aaV sz n (x.val g l) (y.val g l) s K:=by
 simp only [AOp.step,AOp.BO,AOp.AT,AOp.ev,AOp.side,aaV]
 cases x.val g l <;> cases y.val g l <;> simp [St.Bk]
@[simp] theorem Ur [Glob] (sz n:Nat) (x y:AG)  : go (AOp.step P (.D2 sz n x y) g l s K)=go (aaV sz n (x.val g l) (y.val g l) s K):=by rw [M9]
theorem VP [Glob] (x y:AG):AOp.step P (.max x y) g l s K=mxV (x.val g l) (y.val g l) s K:=by
 simp only [AOp.step,AOp.BO,AOp.AT,AOp.ev,AOp.side,mxV]
 cases x.val g l <;> cases y.val g l <;> simp [St.Bk]
@[simp] theorem AA4 [Glob] (x y:AG)  : go (AOp.step P (.max x y) g l s K)=go (mxV (x.val g l) (y.val g l) s K):=by rw [VP]
theorem UB [Glob] (f:AG) (args:List AG):AOp.step P (.call false f args) g l s K=clV P (f.val g l) (args.map (AG.val g l)) s K:=by
 simp only [AOp.step,callee,clV]
 cases f.val g l <;> simp
@[simp] theorem Yi [Glob] (f:AG) (args:List AG)  : go (AOp.step P (.call false f args) g l s K)=go (clV P (f.val g l) (args.map (AG.val g l)) s K):=by rw [UB]
theorem Qo [Glob] (f:AG) (args:List AG):AOp.step P (.call true f args) g l s K=cpV P (f.val g l) (args.map (AG.val g l)) s K:=by
 simp only [AOp.step,callee,cpV]
 cases f.val g l <;> simp
@[simp] theorem YH [Glob] (f:AG) (args:List AG)  : go (AOp.step P (.call true f args) g l s K)=go (cpV P (f.val g l) (args.map (AG.val g l)) s K):=by rw [Qo]
theorem Qp [Glob]:AOp.step P .Cj g l s K=K (.map s.nx) (s.new (.map [] 0)):=by
 simp [AOp.step,AOp.BO,AOp.AT,AOp.ev,AOp.side,St.Bk]
@[simp] theorem YI [Glob]  : go (AOp.step P .Cj g l s K)=go (K (.map s.nx) (s.new (.map [] 0))):=by rw [Qp]
theorem NA [Glob] (sz bytes:Nat) (zs:List AV) (x y:AG):AOp.step P (.C5 sz bytes zs false x y) g l s K=msV sz bytes zs (x.val g l) (y.val g l) s K:=by
 simp only [AOp.step,AOp.BO,AOp.AT,AOp.ev,AOp.side,msV,Bool.false_eq_true,if_false]
 cases x.val g l <;> cases y.val g l <;> simp
 rename_i k n k' m
 by_cases h:n=m <;> simp [h,St.Bk,and_assoc]
@[simp] theorem Us [Glob] (sz bytes:Nat) (zs:List AV) (x y:AG)  : go (AOp.step P (.C5 sz bytes zs false x y) g l s K)=go (msV sz bytes zs (x.val g l) (y.val g l) s K):=by rw [NA]
theorem O3 [Glob] (str c:Bool) (zs:List AV) (agg:Bool) (m k:AG):AOp.step P (.lookup str c zs agg m k) g l s K=lkV str c zs agg (m.val g l) (k.val g l) s K:=by
 simp only [AOp.step,AOp.BO,AOp.AT,AOp.ev,AOp.side,lkV]
 cases m.val g l <;> simp [St.Bk]
 rename_i o
 cases s.m o with
 | none=>simp [lkO]
 | some ob =>
  cases ob <;> simp [lkO]
  rename_i es clock
  cases BL (k.val g l) es 0 <;> simp [lkR,St.HS,St.Bk]
 ·rename_i es
  cases DU (k.val g l) es <;> simp [lkC,St.Bk]
 ·rename_i es
  cases DV (k.val g l) es <;> simp [lkC,St.Bk]
@[simp] theorem VQ [Glob] (str c:Bool) (zs:List AV) (agg:Bool) (m k:AG)  : go (AOp.step P (.lookup str c zs agg m k) g l s K)=go (lkV str c zs agg (m.val g l) (k.val g l) s K):=by rw [O3]
theorem Kw [Glob] (str:Bool) (m k x:AG):AOp.step P (.mapUpdate str m k x) g l s K=upV str (m.val g l) (k.val g l) (x.val g l) s K:=by
 simp only [AOp.step,AOp.BO,AOp.AT,AOp.ev,AOp.side,upV]
 cases m.val g l <;> simp
 rename_i o
 cases s.m o with
 | none=>simp [upO]
 | some ob =>
  cases ob <;> simp [upO]
  rename_i es clock
  cases BL (k.val g l) es 0 <;> simp [upR,St.HS,St.Bk]
@[simp] theorem SD [Glob] (str:Bool) (m k x:AG)  : go (AOp.step P (.mapUpdate str m k x) g l s K)=go (upV str (m.val g l) (k.val g l) (x.val g l) s K):=by rw [Kw]
theorem O4 [Glob] (str:Bool) (m k:AG):AOp.step P (.delete str m k) g l s K=dlV str (m.val g l) (k.val g l) s K:=by
 simp only [AOp.step,AOp.BO,AOp.AT,AOp.ev,AOp.side,dlV]
 cases m.val g l <;> simp [St.Bk]
 rename_i o
 cases s.m o with
 | none=>simp [dlO]
 | some ob =>
  cases ob <;> simp [dlO]
  rename_i es clock
  cases BL (k.val g l) es 0 <;> simp [dlR,St.HS,St.Bk]
@[simp] theorem VR [Glob] (str:Bool) (m k:AG)  : go (AOp.step P (.delete str m k) g l s K)=go (dlV str (m.val g l) (k.val g l) s K):=by rw [O4]
theorem O5 [Glob] (x:AG):AOp.step P (.Hg x) g l s K=lmV (x.val g l) s K:=by
 simp only [AOp.step,AOp.BO,AOp.AT,AOp.ev,AOp.side,lmV]
 cases x.val g l <;> simp [St.Bk]
 rename_i o
 cases s.m o with
 | none=>simp [lmO]
 | some ob=>cases ob <;> simp [lmO,St.HS,St.Bk]
@[simp] theorem VS [Glob] (x:AG)  : go (AOp.step P (.Hg x) g l s K)=go (lmV (x.val g l) s K):=by rw [O5]
theorem Qq [Glob] (x:AG):AOp.step P (.range x) g l s K=rgV (x.val g l) s K:=by
 simp only [AOp.step,AOp.BO,AOp.AT,AOp.ev,AOp.side,rgV]
 cases x.val g l <;> simp [St.Bk]
 rename_i o
 cases s.m o with
 | none=>simp [rgO]
 | some ob=>cases ob <;> simp [rgO,St.HS,St.Bk]
@[simp] theorem YJ [Glob] (x:AG)  : go (AOp.step P (.range x) g l s K)=go (rgV (x.val g l) s K):=by rw [Qq]
theorem UC [Glob] (x:AG):AOp.step P (.next x) g l s K=nxV (x.val g l) s K:=by
 rfl
@[simp] theorem Yj [Glob] (x:AG)  : go (AOp.step P (.next x) g l s K)=go (nxV (x.val g l) s K):=by rw [UC]
theorem Qr [Glob] (x:AG):AOp.step P (.entry x) g l s K=enV (x.val g l) s K:=by
 rfl
@[simp] theorem YK [Glob] (x:AG)  : go (AOp.step P (.entry x) g l s K)=go (enV (x.val g l) s K):=by rw [Qr]
end
end Go.AL
