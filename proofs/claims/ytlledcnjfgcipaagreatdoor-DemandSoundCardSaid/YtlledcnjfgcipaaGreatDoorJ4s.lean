/- Strict: the program. -/
import Derived.Test.YtlledcnjfgcipaaGreatDoorF39
import Derived.Test.YtlledcnjfgcipaaGreatDoorF23
import Derived.Test.YtlledcnjfgcipaaGreatDoorC4
set_option linter.unusedVariables false
set_option linter.unusedSimpArgs false
namespace Go.AL.Dm
open Go Go.Proofs
def I41 (p:List Gl) (n:ByteArray) (o:Nat) (s:St) (m:Nat) (g:Env) (s1:St):Prop :=
 ∃ i:Nat,i≤p.length∧m=p.length - i∧idxQ (fun g => decide (g.name=n)) (p.drop i) i=findI p n∧g.get 0=.list 6 .none (p.map Gl.av)∧g.get 1=.fn 42 [] [.ptr o 0]∧g.get 7=.int .i64 p.length∧g.get 8=.int .i64 i∧s1.m o=some (.box [.str n])∧Kept s s1∧s.nx≤s1.nx
theorem p41 (p:List Gl) (n:ByteArray) (o:Nat) (s:St) (hp:p.length≤100000) (ho:s.m o=some (.box [.str n])) (ho2:o < s.nx) :
  ACalls Tryz.prog 41 [.list 6 .none (p.map Gl.av),.fn 42 [] [.ptr o 0]] s fun r s' => r=.int .i64 (findI p n)∧Kept s s':=by
 refine fun_sound mixed Tryz.func41 Tryz.call41 k41.2 rfl (awpFun_go _ _ _ _ ?_)
 simp -implicitDefEqProofs (disch:=first|omega|simp only[nx4]<;>omega|fail) [k41]
 refine go_loop (I41 p n o s) p.length ⟨0,by omega,by omega,rfl,?_,?_,?_,?_,?_,?_,?_⟩ ?_
 iterate 7 (simp -implicitDefEqProofs (disch:=first|omega|simp only[nx4]<;>omega|fail) [ho])
 rintro m g S ⟨i,hi,rfl,hw,e0,e1,e7,e8,jo,hk,hn0⟩
 by_cases hlt:i < p.length
 ·have hlt':(i:Int) < p.length:=by omega
  have w3:=wrapS (i:=i) (by omega)
  rw [List.drop_eq_getElem_cons hlt,idxQ] at hw
  generalize hx:p[i]=x at hw
  simp -implicitDefEqProofs (disch:=first|omega|simp only[nx4]<;>omega|fail) [e0,e1,e7,e8,hlt',hlt,hx]
  refine go_calls (ACalls.mono (p42 x n o S jo (by omega)) fun r s' hn' h => go_of ?_)
  obtain ⟨rfl,hk'⟩:=h
  have q1:s'.m o=some (.box [.str n]):=(hk' _ (by omega)).trans jo
  have q2:Kept s s':=fun q hq => (hk' q (by omega)).trans (hk q hq)
  by_cases h:x.name=n
  ·rw [if_pos (by simp [h])] at hw
   simp -implicitDefEqProofs (disch:=first|omega|simp only[nx4]<;>omega|fail) [h,← hw,q2]
  ·rw [if_neg (by simp [h])] at hw
   simp -implicitDefEqProofs (disch:=first|omega|simp only[nx4]<;>omega|fail) [h,e8,w3]
   refine go_next (p.length - (i+1)) (by omega) ⟨i+1,by omega,rfl,hw,?_,?_,?_,?_,?_,?_,?_⟩
   all_goals (try simp -implicitDefEqProofs (disch:=first|omega|simp only[nx4]<;>omega|fail) [e0,e1,e7,q1,q2])
   all_goals (try omega)
 ·have hlt':¬ (i:Int) < p.length:=by omega
  obtain rfl:i=p.length:=by omega
  rw [List.drop_length,idxQ] at hw
  simp -implicitDefEqProofs (disch:=first|omega|simp only[nx4]<;>omega|fail) [e7,e8,hlt',hw,hk]
theorem findI_some {p:List Gl} {n:ByteArray} (h:¬ findI p n < 0):∃ j:Nat,findI p n=j∧j < p.length:=by
 have:∀ (l:List Gl) (i:Int),0≤i→0≤idxQ (fun g => decide (g.name=n)) l i→∃ j:Nat,idxQ (fun g => decide (g.name=n)) l i=i+j∧j < l.length:=by
  intro l
  induction l with
  | nil => intro i hi h;simp [idxQ] at h
  | cons x l ih =>
   intro i hi h
   rw [idxQ] at h ⊢
   split
   ·exact ⟨0,by omega,by simp⟩
   ·rename_i hq
    rw [if_neg hq] at h
    obtain ⟨j,h1,h2⟩:=ih (i+1) (by omega) h
    exact ⟨j+1,by omega,by simpa using h2⟩
 obtain ⟨j,h1,h2⟩:=this p 0 (by omega) (by rw [findI] at h;omega)
 exact ⟨j,by rw [findI];omega,h2⟩
noncomputable def strP (p:List Gl) (n:ByteArray) (i:Int):Bool × Int :=
 if isP p=false then (false,40)
 else if findI p n < 0 then (false,6)
 else if i < 0∨((((p[(findI p n).toNat]?).map (fin p).1).getD Kn.zero).st.length:Int)≤i then (false,2)
 else ((((p[(findI p n).toNat]?).map (fin p).1).getD Kn.zero).st.getD i.toNat false,0)
theorem p20 (p:List Gl) (hp:Few p) (n:ByteArray) (i:Int):PureC Tryz.prog 20 [.list 6 .none (p.map Gl.av),.str n,.int .i64 i] (.tup [.bool (strP p n i).1,.int .i64 (strP p n i).2]):=by
 refine PureC.intro fun s => fun_sound mixed Tryz.func20 Tryz.call20 c20 rfl (awpFun_go _ _ _ _ ?_)
 have h36:=p36 p hp
 unfold strP
 cases hi:isP p with
 | false =>
  rw [hi] at h36
  simp -implicitDefEqProofs (disch:=first|omega|simp only[nx4]<;>omega|fail) [a20,a20b,a20r0,a20r1]
  refine go_pure h36 fun mm1 hm1 => ?_
  try simp only [nx4] at hm1
  simp -implicitDefEqProofs (disch:=first|omega|simp only[nx4]<;>omega|fail) [a20r2]
 | true =>
  rw [hi] at h36
  have hgp:=goodP hp hi
  have h37:=p37 p hgp
  have hpl:=hgp.few
  simp -implicitDefEqProofs (disch:=first|omega|simp only[nx4]<;>omega|fail) [a20,a20b,a20r0,a20r1]
  refine go_pure h36 fun mm2 hm2 => ?_
  try simp only [nx4] at hm2
  simp -implicitDefEqProofs (disch:=first|omega|simp only[nx4]<;>omega|fail) [a20r3]
  refine go_calls (ACalls.mono (p41 p n s.nx _ (by omega) (by simp -implicitDefEqProofs (disch:=first|omega|simp only[nx4]<;>omega|fail)) (by simp -implicitDefEqProofs (disch:=first|omega|simp only[nx4]<;>omega|fail);omega)) fun r s' hn' h => go_of ?_)
  obtain ⟨rfl,hk'⟩:=h
  have hk2:Kept s s':=fun q hq => (hk' q (by simp -implicitDefEqProofs (disch:=first|omega|simp only[nx4]<;>omega|fail);omega)).trans (by simp -implicitDefEqProofs (disch:=first|omega|simp only[nx4]<;>omega|fail))
  simp -implicitDefEqProofs (disch:=first|omega|simp only[nx4]<;>omega|fail) at hn'
  by_cases hneg:findI p n < 0
  ·simp -implicitDefEqProofs (disch:=first|omega|simp only[nx4]<;>omega|fail) [a20r4,hneg,a20r5,hk2]
  ·obtain ⟨j,hj,hjl⟩:=findI_some hneg
   have hjl':(j:Int) < p.length:=by omega
   have hneg':¬ (j:Int) < 0:=by omega
   have hlen:(dmL p (fin p).1).length=p.length:=by simp [dmL]
   have hget:(dmL p (fin p).1)[j]?.getD AV.any=.agg [.str p[j].name,.list 1 .none (((fin p).1 p[j]).st.map AV.bool),.bool ((fin p).1 p[j]).fails]:=by simp [dmL,dm,hjl]
   have hget':∀ h:j < (dmL p (fin p).1).length,(dmL p (fin p).1)[j]'h=.agg [.str p[j].name,.list 1 .none (((fin p).1 p[j]).st.map AV.bool),.bool ((fin p).1 p[j]).fails]:=by intro h;simp [dmL,dm]
   rw [hj]
   simp -implicitDefEqProofs (disch:=first|omega|simp only[nx4]<;>omega|fail) [a20r4,hneg',a20r6,hjl]
   generalize (fin p).1 p[j]=k at hget hget' ⊢
   refine go_pure h37 fun mm3 hm3 => ?_
   try simp only [nx4] at hm3
   simp -implicitDefEqProofs (disch:=first|omega|simp only[nx4]<;>omega|fail) [hlen,hget,hget',hjl',hjl]
   by_cases h0:i < 0
   ·simp -implicitDefEqProofs (disch:=first|omega|simp only[nx4]<;>omega|fail) [a20r7,h0,a20r8,hk2]
   ·by_cases h1:(k.st.length:Int)≤i
    ·simp -implicitDefEqProofs (disch:=first|omega|simp only[nx4]<;>omega|fail) [a20r7,h0,h1,a20r8,hk2]
    ·obtain ⟨m,rfl⟩:∃ m:Nat,i=m:=⟨i.toNat,by omega⟩
     have h2:m < k.st.length:=by omega
     have h2':(m:Int) < k.st.length:=by omega
     have h1':¬ k.st.length≤m:=by omega
     simp -implicitDefEqProofs (disch:=first|omega|simp only[nx4]<;>omega|fail) [a20r7,h0,h1,h1',h2,h2',a20r9,hk2]
     done
end Go.AL.Dm
namespace Go.AL.Dm
def lenN (x:ND):Nat:=(x.getD []).length
end Go.AL.Dm
namespace Go.AL.Dm
open Go Go.Proofs
def TokS (s:St) (sz b:Nat) (v:AV) (xs:List AV):Prop:=(v=.list 0 .full []∧xs=[])∨∃ o,v=.list sz (.own o) xs∧s.m o=some (.spare (xs.length * sz))∧b≤o∧o < s.nx
theorem ap_tok {sz bytes b:Nat} {v:AV} {xs ys:List AV} {t:Tok} {s:St} {K:KS} (h:TokS s sz b v xs) (hl:(xs.length+ys.length) * bytes≤140737488355328) (hl2:xs.length+ys.length≤9223372036854775807) (hb:b≤s.nx)
  (hk:∀ v' s',TokS s' sz b v' (xs++ys)→s.nx < s'.nx→(∀ q,q < s.nx→(q < b∨∀ n,s.m q≠some (.spare n))→s'.m q=s.m q)→go (K v' s')):go (apV sz bytes v (.list sz t ys) s K):=by
 rcases h with ⟨rfl,rfl⟩ | ⟨o,rfl,ho,h1,h2⟩
 ·rw [go_apV_full]
  refine ok_intro ?_ (hk _ _ (.inr ⟨s.nx,rfl,?_,hb,?_⟩) ?_ ?_)
  ·simp [apS] at *
   omega
  ·simp [St.new]
  ·simp [St.new]
  ·simp [St.new]
  ·intro q hq _
   have:q≠s.nx:=by omega
   simp [St.new,this]
 ·rw [go_apV_own,ho]
  refine ok_intro ?_ ?_
  ·simp [apS] at *
   omega
  ·show go (apO _ _ _ _ _ _ _)
   unfold apO
   refine ⟨rfl,hk _ _ (.inr ⟨s.nx,rfl,?_,hb,?_⟩) ?_ ?_⟩
   ·simp [St.new,St.del]
   ·simp [St.new,St.del]
   ·simp [St.new,St.del]
   ·intro q hq hne
    have h1:q≠s.nx:=by omega
    have h2:q≠o:=by
     rintro rfl
     rcases hne with h | h
     ·omega
     ·exact h _ ho
    simp [St.new,St.del,h1,h2]
theorem TokS.wk {s:St} {sz b:Nat} {v:AV} {xs ys:List AV} (h:TokS s sz b v xs) (hw:wkL xs ys):wk v (.list sz .none ys):=by
 rcases h with ⟨rfl,rfl⟩ | ⟨o,rfl,_⟩
 ·simp [hw]
 ·simp [hw]
theorem TokS.move {s s':St} {sz b:Nat} {v:AV} {xs:List AV} (h:TokS s sz b v xs) (hn:s.nx≤s'.nx) (hk:∀ q,b≤q→q < s.nx→(∃ n,s.m q=some (.spare n))→s'.m q=s.m q):TokS s' sz b v xs:=by
 rcases h with h | ⟨o,h1,h2,h3,h4⟩
 ·exact .inl h
 ·exact .inr ⟨o,h1,(hk o h3 h4 ⟨_,h2⟩).trans h2,h3,by omega⟩
theorem TokS.val {s:St} {sz b:Nat} {v:AV} {xs:List AV} (h:TokS s sz b v xs):v.isVal=true∧v.cells=[v]:=by
 rcases h with ⟨rfl,rfl⟩ | ⟨o,rfl,_⟩ <;> exact ⟨rfl,rfl⟩
theorem p13 (x:Gl):PureC Tryz.prog 13 [x.av] (.int .i64 (wnt x.body)):=by
 refine PureC.intro fun s => fun_sound mixed Tryz.func13 Tryz.call13 k13.2 rfl (awpFun_go _ _ _ _ ?_)
 unfold wnt
 by_cases h:x.body.op=5
 ·simp -implicitDefEqProofs (disch:=first|omega|simp only[nx4]<;>omega|fail) [k13,h]
 ·simp -implicitDefEqProofs (disch:=first|omega|simp only[nx4]<;>omega|fail) [k13,h]
def Gin (p:List Gl) (t:Pl):Prop:=∀ e∈pre t,e.op=2→e.s∈nms p
theorem pres_mem:∀ {l:List Pl} {x e:Pl},x∈l→e∈pre x→e∈pres l
 | y::l,x,e,h,he => by
  rw [pres,List.mem_append]
  rcases List.mem_cons.1 h with rfl | h
  ·exact .inl he
  ·exact .inr (pres_mem h he)
theorem prea_mem:∀ {l:List (Hd × Pl)} {x:Hd × Pl} {e:Pl},x∈l→e∈pre x.2→e∈prea l
 | (h0,y)::l,x,e,h,he => by
  rw [prea,List.mem_append]
  rcases List.mem_cons.1 h with rfl | h
  ·exact .inl he
  ·exact .inr (prea_mem h he)
theorem pre_self (t:Pl):t∈pre t:=by cases t;simp [pre]
theorem Gin.arg {p:List Gl} {t x:Pl} (h:Gin p t) (hx:x∈t.args):Gin p x:=fun e he ho => h e (by
 cases t
 rw [pre]
 exact List.mem_cons_of_mem _ (List.mem_append_left _ (pres_mem hx he))) ho
theorem Gin.alt {p:List Gl} {t:Pl} {x:Hd × Pl} (h:Gin p t) (hx:x∈t.alts):Gin p x.2:=fun e he ho => h e (by
 cases t
 rw [pre]
 exact List.mem_cons_of_mem _ (List.mem_append_right _ (prea_mem hx he))) ho
theorem idxQ_at {α:Type} (q:α→Bool):∀ (l:List α) (i:Int) (j:Nat),0≤i→idxQ q l i=i+j→∃ h:j < l.length,q l[j]=true
 | [],i,j,hi,h => by simp [idxQ] at h;omega
 | x::l,i,j,hi,h => by
  rw [idxQ] at h
  split at h
  ·rename_i hq
   have:j=0:=by omega
   subst this
   exact ⟨by simp,hq⟩
  ·cases j with
   | zero =>
    exfalso
    have:∀ (l:List α) (k:Int),0≤k→idxQ q l k=-1∨k≤idxQ q l k:=by
     intro l
     induction l with
     | nil => intro k _;simp [idxQ]
     | cons y l ih =>
      intro k hk
      rw [idxQ]
      split
      ·exact .inr (by omega)
      ·rcases ih (k+1) (by omega) with h | h
       ·exact .inl h
       ·exact .inr (by omega)
    rcases this l (i+1) (by omega) with h' | h' <;> omega
   | succ j =>
    obtain ⟨h1,h2⟩:=idxQ_at q l (i+1) j (by omega) (by omega)
    exact ⟨by simpa using h1,by simpa using h2⟩
theorem find_name {p:List Gl} {s:ByteArray} (h:s∈nms p):∃ j:Nat,findI p s=j∧∃ h:j < p.length,p[j].name=s:=by
 have hn:0≤findI p s:=(idxQ_neg _ p 0 (by omega)).2 (by
  simp only [nms,List.mem_map] at h
  obtain ⟨g,hg,e⟩:=h
  exact ⟨g,hg,by simp [e]⟩)
 obtain ⟨j,hj⟩:∃ j:Nat,findI p s=j:=⟨(findI p s).toNat,by omega⟩
 obtain ⟨h1,h2⟩:=idxQ_at (fun g:Gl => decide (g.name=s)) p 0 j (by omega) (by rw [findI] at hj;omega)
 exact ⟨j,hj,h1,by simpa using h2⟩
structure RT (p:List Gl) (f:Tb):Prop where
 gp:GoodP p
 good:GoodT p f
 w:∀ g∈p,(f g).w=wnt g.body
theorem dmL_get {p:List Gl} {f:Tb} {j:Nat} (hj:j < p.length):∀ h:j < (dmL p f).length,(dmL p f)[j]'h=.agg [.str p[j].name,.list 1 .none ((f p[j]).st.map .bool),.bool (f p[j]).fails]:=by
 intro h;simp [dmL,dm]
theorem dmL_len {p:List Gl} {f:Tb}:(dmL p f).length=p.length:=by simp [dmL]
def cntF (l:List Bool):Nat:=(l.filter fun b => !b).length
theorem rep_getD (n i:Nat):(List.replicate n false).getD i false=false:=by
 rw [List.getD_eq_getElem?_getD,List.getElem?_replicate]
 split <;> rfl
theorem cntF_rep (n:Nat):cntF (List.replicate n false)=n:=by simp [cntF]
structure LetR (vs:List ND) (body:ND) (out:ND) (sr:List Bool):Prop where
 li:∃ seen,LetI vs body out seen∧∀ u:Nat,u < vs.length→sr.getD u false=seen.getD (vs.length - 1 - u) false
 len:sr.length=vs.length
 bnd:lenN out+3000 * cntF sr≤3000 * (vs.length+1)
 nb:NB out
theorem LetR.start {vs:List ND} {body:ND} (hb:body.ok) (hl:lenN body≤3000) (hnb:NB body):LetR vs body body (List.replicate vs.length false):=by
 refine ⟨⟨_,LetI.start hb,fun u hu => ?_⟩,by simp,by rw [cntF_rep];omega,hnb⟩
 rw [rep_getD,rep_getD]
theorem LetR.done {vs:List ND} {body:ND} {out:ND} {sr:List Bool} (h:LetR vs body out sr) (hc:∀ S,out=some S→∀ u:Nat,u < vs.length→(u:Int)∈S→sr.getD u false=true):letC vs body=nOut vs.length out:=by
 obtain ⟨seen,h1,h2⟩:=h.li
 have hsl:=h1.len
 refine h1.done fun S hS i hi hm => ?_
 have hu:vs.length - 1 - i < vs.length:=by omega
 have h3:=hc S hS (vs.length - 1 - i) hu (by
  have:((vs.length - 1 - i:Nat):Int)=(vs.length:Int) - 1 - i:=by omega
  rw [this];exact hm)
 rw [h2 _ hu] at h3
 have e:vs.length - 1 - (vs.length - 1 - i)=i:=by omega
 rw [e] at h3
 simpa [hi] using h3
theorem LetR.ok {vs:List ND} {body:ND} {out:ND} {sr:List Bool} (h:LetR vs body out sr):out.ok:=by
 obtain ⟨seen,h1,_⟩:=h.li
 exact h1.ok
def J22 (p:List Gl) (f f':Tb) (i:Nat) (a b:List Bool) (n:ByteArray) (fl:Bool) (b6 b7:Nat) (s:St) (m:Nat) (g:Env) (s1:St):Prop :=
 ∃ j:Nat,j≤a.length∧m=a.length - j∧(a=b↔a.drop j=b.drop j)∧g.get 0=.list 3 .none (dmL p f)∧g.get 1=.list 3 .none (dmL p f')∧g.get 5=.int .i64 i∧g.get 6=.ptr b6 0∧g.get 7=.ptr b7 0∧g.get 8=.int .i64 j ∧
  s1.m b6=some (.box [.str n,.list 1 .none (a.map .bool),.bool fl])∧s1.m b7=some (.box [.str n,.list 1 .none (b.map .bool),.bool fl])∧Kept s s1∧s.nx≤s1.nx
theorem rt_0 {p:List Gl} (hp:GoodP p):RT p tb0:=⟨hp,goodT_0 hp,fun _ _ => rfl⟩
theorem RT.stp {p:List Gl} {f:Tb} (h:RT p f):RT p (stp p f):=⟨h.gp,goodT_stp h.gp f,fun _ _ => rfl⟩
def nH:ByteArray:=⟨#[104]⟩
def nK:ByteArray:=⟨#[107]⟩
def e0:ByteArray:=⟨#[]⟩
def hC:Pl:=.mk 6 0 e0 [.mk 2 0 nH [] [],.mk 1 0 e0 [] []] []
def hB:Pl:=.mk 5 1 e0 [hC] []
def kC:Pl:=.mk 8 0 e0 [.mk 1 0 e0 [] []] [(⟨3,e0,1⟩,.mk 1 2 e0 [] []),(⟨1,e0,0⟩,.mk 3 0 e0 [] [])]
def kB:Pl:=.mk 5 2 e0 [kC] []
def smp:List Gl:=[⟨nH,hB⟩,⟨nK,kB⟩]
set_option maxHeartbeats 4000000 in
theorem p35:PureC Tryz.prog 35 [] (.list 6 .none (smp.map Gl.av)):=by
 refine PureC.intro fun s => fun_sound mixed Tryz.func35 Tryz.call35 k35.2 rfl (awpFun_go _ _ _ _ ?_)
 simp -implicitDefEqProofs (maxSteps:=999999) (disch:=first|omega|simp only[nx4]<;>omega|fail) [k35,fillAV]
 simp [smp,Gl.av,Pl.av,Pl.avs,Pl.avAlts,hB,hC,kB,kC,nH,nK,e0,wkL,Pl.altv]
theorem wf_h:wf hB=true:=by kernel_rfl
theorem wf_k:wf kB=true:=by kernel_rfl
theorem nm_h:nm nH=true:=by kernel_rfl
theorem nm_k:nm nK=true:=by kernel_rfl
theorem fv_h:fv hB 0=[]:=by kernel_rfl
theorem fv_k:fv kB 0=[]:=by kernel_rfl
theorem pre_h:pre hB=[hB,hC,.mk 2 0 nH [] [],.mk 1 0 e0 [] []]:=rfl
theorem pre_k:pre kB=[kB,kC,.mk 1 0 e0 [] [],.mk 1 2 e0 [] [],.mk 3 0 e0 [] []]:=rfl
theorem mem_bs {x:List UInt8} {b:ByteArray} (h:b.data.toList=x):ba x=b:=by subst h;rfl
theorem clo_h:clo (nms smp) hB=true:=by
 rw [clo,fv_h,Bool.and_eq_true]
 refine ⟨rfl,List.all_eq_true.2 fun x hx => ?_⟩
 obtain ⟨e,he,ho,hs⟩:=mem_gls.1 hx
 rw [pre_h] at he
 rw [mem_bs hs]
 simp only [List.mem_cons,List.not_mem_nil,or_false] at he
 rcases he with rfl | rfl | rfl | rfl
 ·exact absurd ho (by decide)
 ·exact absurd ho (by decide)
 ·simp [nms,smp]
 ·exact absurd ho (by decide)
theorem clo_k:clo (nms smp) kB=true:=by
 rw [clo,fv_k,Bool.and_eq_true]
 refine ⟨rfl,List.all_eq_true.2 fun x hx => ?_⟩
 obtain ⟨e,he,ho,hs⟩:=mem_gls.1 hx
 rw [pre_k] at he
 simp only [List.mem_cons,List.not_mem_nil,or_false] at he
 rcases he with rfl | rfl | rfl | rfl | rfl <;> exact absurd ho (by decide)
theorem isP_smp:isP smp=true:=by
 have h:namesOK [] smp=true:=by simp [namesOK,smp,wf_h,wf_k,nm_h,nm_k,show ¬ nK=nH from by decide]
 rw [isP,h]
 simp [smp,show clo (nms smp) hB=true from clo_h,show clo (nms smp) kB=true from clo_k]
 exact ⟨clo_h,clo_k⟩
theorem few_smp:Few smp:=by
 refine ⟨by decide,fun g hg => ?_⟩
 simp only [smp,List.mem_cons,List.not_mem_nil,or_false] at hg
 rcases hg with rfl | rfl
 ·exact ⟨⟨by decide,by decide⟩,by simp [hB,hC,rng,rngs,rnga,i64]⟩
 ·exact ⟨⟨by decide,by decide⟩,by simp [kB,kC,rng,rngs,rnga,i64]⟩
theorem need_hC (K:ByteArray→Kn) (h1:(K nH).w=1) (h2:(K nH).fails=true):need K hC=none:=by
 rw [need_app (t:=hC) rfl (f:=.mk 2 0 nH [] []) (l:=[.mk 1 0 e0 [] []]) rfl]
 simp [h1,h2]
theorem need_kC (K:ByteArray→Kn):need K kC=some [0]:=by
 rw [need_cas (t:=kC) rfl (x:=.mk 1 0 e0 [] []) rfl,need_var rfl]
 simp [kC,need_var (K:=K) (t:=.mk 1 2 e0 [] []) rfl,need_made (K:=K) (t:=.mk 3 0 e0 [] []) (.inl rfl)]
 decide
theorem knOf_h (K:ByteArray→Kn) (h1:(K nH).w=1) (h2:(K nH).fails=true):knOf K hB=⟨1,[true],true⟩:=by
 have e:need K (cde hB)=none:=need_hC K h1 h2
 have e2:wnt hB=1:=rfl
 rw [knOf,e,e2];rfl
theorem knOf_k (K:ByteArray→Kn):knOf K kB=⟨2,[false,true],false⟩:=by
 have e:need K (cde kB)=some [0]:=need_kC K
 have e2:wnt kB=2:=rfl
 rw [knOf,e,e2];rfl
noncomputable def fS:Tb:=stp smp tb0
def gH:Gl:=⟨nH,hB⟩
def gK:Gl:=⟨nK,kB⟩
theorem smp_eq:smp=[gH,gK]:=rfl
theorem gp_smp:GoodP smp:=goodP few_smp isP_smp
theorem stp_h (f:Tb) (h1:(f gH).w=1) (h2:(f gH).fails=true):stp smp f gH=⟨1,[true],true⟩:=by
 have e:=lookK_tb (f:=f) gp_smp.nd gH (by rw [smp_eq];simp)
 exact knOf_h _ (by rw [show nH=gH.name from rfl,e];exact h1) (by rw [show nH=gH.name from rfl,e];exact h2)
theorem stp_k (f:Tb):stp smp f gK=⟨2,[false,true],false⟩:=knOf_k _
theorem tb0_k:tb0 gK=⟨2,[true,true],true⟩:=rfl
theorem fS_h:fS gH=⟨1,[true],true⟩:=stp_h _ rfl rfl
theorem fS_k:fS gK=⟨2,[false,true],false⟩:=stp_k _
theorem fin_smp:fin smp=(fS,2):=by
 have h1:chgs smp tb0 smp=true:=by
  rw [chgs,smp_eq,List.any_cons,List.any_cons,← smp_eq,stp_k,tb0_k]
  have:kch ⟨2,[false,true],false⟩ ⟨2,[true,true],true⟩=true:=by decide
  rw [this];simp
 obtain ⟨n',_,hw⟩:=(way_0 gp_smp).go gp_smp h1
 have h2:chgs smp fS smp=false:=by
  rw [chgs,smp_eq,List.any_cons,List.any_cons,← smp_eq,stp_k,fS_k,stp_h fS (by rw [fS_h]) (by rw [fS_h]),fS_h,kch_same,kch_same]
  rfl
 exact (hw.done h2).1
theorem resP_smp:resP smp=[dm nH ⟨1,[true],true⟩,dm nK ⟨2,[false,true],false⟩]:=by
 rw [resP,if_pos isP_smp,fin_smp]
 show dmL smp fS=_
 rw [smp_eq,dmL,List.map_cons,List.map_cons,List.map_nil,fS_h,fS_k]
 rfl
theorem findI_k:findI smp nK=1:=by kernel_rfl
theorem findI_x:findI smp ⟨#[120]⟩=-1:=by kernel_rfl
theorem want_k:(((smp[1]?).map (fin smp).1).getD Kn.zero)=⟨2,[false,true],false⟩:=by
 rw [fin_smp]
 show fS gK=_
 exact fS_k
theorem strP_1:strP smp nK 1=(true,0):=by
 rw [strP,if_neg (by rw [isP_smp];simp),findI_k,if_neg (by omega)]
 rw [show ((1:Int).toNat)=1 from rfl,want_k]
 decide
theorem strP_2:strP smp nK 2=(false,2):=by
 rw [strP,if_neg (by rw [isP_smp];simp),findI_k,if_neg (by omega)]
 rw [show ((1:Int).toNat)=1 from rfl,want_k]
 decide
theorem strP_x:strP smp ⟨#[120]⟩ 0=(false,6):=by
 rw [strP,if_neg (by rw [isP_smp];simp),findI_x,if_pos (by omega)]
set_option maxHeartbeats 4000000 in
theorem p10:PureC Tryz.prog 10 [] (.bool true):=by
 refine PureC.intro fun s => fun_sound mixed Tryz.func10 Tryz.call10 k10.2 rfl (awpFun_go _ _ _ _ ?_)
 have h11:=p11 smp few_smp
 rw [resP_smp,errP,if_pos isP_smp] at h11
 have h1:=p20 smp few_smp nK 1
 have h2:=p20 smp few_smp nK 2
 have h3:=p20 smp few_smp ⟨#[120]⟩ 0
 rw [strP_1] at h1
 rw [strP_2] at h2
 rw [strP_x] at h3
 simp only [nK,nH,dm,List.map_cons,List.map_nil] at h1 h2 h11
 have hc0:∀ (a:AV) (l:List AV),((a::l)[0]?).getD AV.any=a:=fun _ _ => rfl
 have hc1:∀ (a b:AV) (l:List AV),((a::b::l)[1]?).getD AV.any=b:=fun _ _ _ => rfl
 simp -implicitDefEqProofs (maxSteps:=999999) (disch:=first|omega|simp only[nx4]<;>omega|fail) [k10]
 refine go_pure p35 fun mm1 hm1 => ?_
 try simp only [nx4] at hm1
 simp -implicitDefEqProofs (maxSteps:=999999) (disch:=first|omega|simp only[nx4]<;>omega|fail) []
 refine go_pure h11 fun mm2 hm2 => ?_
 try simp only [nx4] at hm2
 simp -implicitDefEqProofs (maxSteps:=999999) (disch:=first|omega|simp only[nx4]<;>omega|fail) []
 refine go_pure p35 fun mm3 hm3 => ?_
 try simp only [nx4] at hm3
 simp -implicitDefEqProofs (maxSteps:=999999) (disch:=first|omega|simp only[nx4]<;>omega|fail) []
 refine go_pure h1 fun mm4 hm4 => ?_
 try simp only [nx4] at hm4
 simp -implicitDefEqProofs (maxSteps:=999999) (disch:=first|omega|simp only[nx4]<;>omega|fail) []
 refine go_pure p35 fun mm5 hm5 => ?_
 try simp only [nx4] at hm5
 simp -implicitDefEqProofs (maxSteps:=999999) (disch:=first|omega|simp only[nx4]<;>omega|fail) []
 refine go_pure h2 fun mm6 hm6 => ?_
 try simp only [nx4] at hm6
 simp -implicitDefEqProofs (maxSteps:=999999) (disch:=first|omega|simp only[nx4]<;>omega|fail) []
 refine go_pure p35 fun mm7 hm7 => ?_
 try simp only [nx4] at hm7
 simp -implicitDefEqProofs (maxSteps:=999999) (disch:=first|omega|simp only[nx4]<;>omega|fail) []
 refine go_pure h3 fun mm8 hm8 => ?_
 try simp only [nx4] at hm8
 simp -implicitDefEqProofs (maxSteps:=999999) (disch:=first|omega|simp only[nx4]<;>omega|fail) [hc0,hc1]
 done
theorem gin_of {p:List Gl} (h:isP p=true):∀ g∈p,Gin p g.body:=by
 intro g hg e he ho
 simp only [isP,Bool.and_eq_true,decide_eq_true_eq,List.all_eq_true] at h
 have hc:=h.2.2 g hg
 simp only [clo,Bool.and_eq_true,decide_eq_true_eq,List.all_eq_true] at hc
 have hm:e.s.data.toList∈gls g.body:=mem_gls.2 ⟨e,he,ho,rfl⟩
 have:=hc.2 _ hm
 rw [mem_bs rfl] at this
 simpa using this
theorem wgs_few (most:Int) (hm:0≤most):∀ (p:List Gl) (n:Int),0≤n→wgs p most n≤most→n≤most∧∀ g∈p,wt g.body most 100≤most
 | [],n,hn,h => by simpa [wgs] using h
 | g::p,n,hn,h => by
  rw [wgs] at h
  split at h
  ·rename_i hle
   have hb:=wt_bound g.body most 100 hm (by omega)
   obtain ⟨h1,h2⟩:=wgs_few most hm p _ (by omega) h
   refine ⟨hle,fun x hx => ?_⟩
   rcases List.mem_cons.1 hx with rfl | hx
   ·omega
   ·exact h2 x hx
  ·omega
theorem few_of {p:List Gl} {t:Pl} (h:fewD p t=true) (hr:∀ g∈p,rng g.body):Few p:=by
 simp only [fewD,Bool.and_eq_true,decide_eq_true_eq] at h
 obtain ⟨h1,h2⟩:=wgs_few 3000 (by omega) p p.length (by omega) h.1
 refine ⟨by omega,fun g hg => ⟨?_,hr g hg⟩⟩
 have h3:=h2 g hg
 obtain ⟨h4,h5⟩:=wt_spec g.body 3000 100 (by omega) (by omega) h3
 exact ⟨by omega,by omega⟩
end Go.AL.Dm
set_option maxRecDepth 100000
namespace Go.AL.Dm
open Go Go.Proofs
-- damask/plain.Reached
-- damask/plain.Check
-- slices.Clone[[]string,string]
-- damask/term.Copy
-- damask/term.Map
-- damask/term.Copy$1
-- damask/damasklaw18.DemandOther
def k6:CF [0,1,4,5,6,7,8,9,10,11,12,26,75,79,104] Tryz.f6:=by
 refine ⟨?_,?_⟩;rotate_left;cbv;rfl
-- damask/damasklaw18.mod
def k12:CF [0,1,4] Tryz.f12:=by
 refine ⟨?_,?_⟩;rotate_left;cbv;rfl
end Go.AL.Dm
set_option maxRecDepth 100000
namespace Go.AL.Dm
open Go Go.Proofs
-- (*damask/damaskref17.Store).node
@[simp] def a113r0:Rg:=[oT 4 (.box (.g 1)),oT 6 (.alloc [i0,i0,s0,nzl,i0,i0,s0,nzl,nzl,nzl])]
@[simp] def a113r1:Rg:=[oL 15 (.fa 0 (.g 4)),oT 16 (.ld (.l 15))]
@[simp] def a113r2:Rg:=[oL 18 (.bin .eql (.g 16) (ci 1)),oT 17 (.mv (.l 18))]
@[simp] def a113r3:Rg:=[oL 19 (.mv (.g 0)),oL 20 (.mv (.g 2)),oL 21 (.mv (.g 2)),oL 22 (.len (.l 21)),oL 23 (.bin .sub (.l 22) (ci 1)),oL 24 (.fa 1 (.g 4)),oL 25 (.ld (.l 24)),oL 26 (.bin .sub (.l 23) (.l 25)),oL 27 (.ia 1 (.l 20) (.l 26)),oL 28 (.ld (.l 27)),oL 29 (.cf 111 [(.l 19),(.l 28)]),oN (.store 10 (.g 6) (.l 29))]
@[simp] def a113r4:Rg:=[oL 31 (.bin .eql (.g 16) (ci 2)),oT 30 (.mv (.l 31))]
@[simp] def a113r5:Rg:=[oL 32 (.mv (.g 0)),oL 33 (.mv (.g 0)),oL 34 (.nilCheck (.l 33)),oL 35 (.fa 2 (.l 34)),oL 36 (.ld (.l 35)),oL 37 (.mv (.g 0)),oL 38 (.nilCheck (.l 37)),oL 39 (.fa 0 (.l 38)),oL 40 (.ld (.l 39)),oL 41 (.fa 2 (.g 4)),oL 42 (.ld (.l 41)),oL 43 (.ct 23 [(.l 40),(.l 42)]),oL 44 (.ia 1 (.l 36) (.l 43)),oL 45 (.ld (.l 44))]
@[simp] def a113s5:Rg:=[oL 46 (.cf 111 [(.l 32),(.l 45)]),oN (.store 10 (.g 6) (.l 46))]
@[simp] def a113r6:Rg:=[oL 48 (.bin .eql (.g 16) (ci 3)),oT 47 (.mv (.l 48))]
@[simp] def a113r7:Rg:=[oL 49 (.fa 1 (.g 4)),oL 50 (.ld (.l 49)),oL 51 (.build [i0,i0,s0,nzl,i0,i0,s0,nzl,nzl,nzl] [(0,1,(ci 1)),(1,1,(.l 50))]),oN (.store 10 (.g 6) (.l 51))]
@[simp] def a113r8:Rg:=[oL 53 (.bin .eql (.g 16) (ci 4)),oT 52 (.mv (.l 53))]
@[simp] def a113r9:Rg:=[oL 54 (.fa 2 (.g 4)),oL 55 (.ld (.l 54)),oL 56 (.mv (.g 0)),oL 57 (.fa 3 (.g 4)),oL 58 (.ld (.l 57)),oL 59 (.mv (.g 2))]
@[simp] def a113t9:Rg:=[]
@[simp] def a113s9:Rg:=[oL 61 (.build [i0,i0,s0,nzl,i0,i0,s0,nzl,nzl,nzl] [(0,1,(ci 2)),(2,1,(.l 55)),(3,1,(.l 60))]),oN (.store 10 (.g 6) (.l 61))]
@[simp] def a113r10:Rg:=[oL 63 (.bin .eql (.g 16) (ci 5)),oT 62 (.mv (.l 63))]
@[simp] def a113r11:Rg:=[oL 64 (.load 5 true (.g 4)),oL 65 (.mv (.g 2)),oL 66 (.build [i0,i0,s0,nzl,i0,i0,s0,nzl,nzl,nzl] [(0,1,(ci 3)),(4,5,(.l 64)),(9,1,(.l 65))]),oN (.store 10 (.g 6) (.l 66))]
@[simp] def a113r12:Rg:=[oL 68 (.bin .eql (.g 16) (ci 6)),oT 67 (.mv (.l 68))]
@[simp] def a113r13:Rg:=[oL 69 (.mv (.g 0)),oL 70 (.fa 3 (.g 4)),oL 71 (.ld (.l 70)),oL 72 (.ia 5 (.l 71) (ci 0)),oL 73 (.load 5 true (.l 72)),oL 74 (.mv (.g 2)),oL 75 (.cf 79 [(.l 69),(.l 73),(.l 74)]),oT 7 (.alloc [i0,i0,s0,nzl,i0,i0,s0,nzl,nzl,nzl]),oN (.store 10 (.g 7) (.l 75))]
@[simp] def a113r14:Rg:=[oL 76 (.fa 0 (.g 7)),oL 77 (.ld (.l 76)),oT 78 (.bin .neq (.l 77) (ci 3))]
@[simp] def a113r15:Rg:=[oL 79 (.mv (.g 0)),oL 80 (.load 10 true (.g 7)),oL 81 (.cf 150 [(.l 79),(.l 80),(.c nzl)]),oN (.store 10 (.g 6) (.l 81))]
@[simp] def a113r16:Rg:=[oL 82 (.mv (.g 0)),oL 83 (.load 10 true (.g 7)),oL 84 (.mv (.g 0)),oL 85 (.fa 3 (.g 4)),oL 86 (.ld (.l 85)),oL 87 (.slice 5 (.l 86) (some (ci 1)) none none),oL 88 (.mv (.g 2))]
@[simp] def a113t16:Rg:=[]
@[simp] def a113s16:Rg:=[oL 90 (.cf 150 [(.l 82),(.l 83),(.l 89)]),oN (.store 10 (.g 6) (.l 90))]
@[simp] def a113r17:Rg:=[oL 92 (.bin .eql (.g 16) (ci 7)),oT 91 (.mv (.l 92))]
@[simp] def a113r18:Rg:=[oL 93 (.fa 3 (.g 4)),oL 94 (.ld (.l 93)),oL 95 (.len (.l 94)),oL 96 (.bin .sub (.l 95) (ci 1)),oT 8 (.mv (.l 96))]
@[simp] def a113r19:Rg:=[oL 97 (.mv (.g 0)),oL 98 (.nilCheck (.l 97)),oL 99 (.fa 1 (.l 98)),oL 100 (.ld (.l 99)),oL 101 (.len (.l 100)),oT 9 (.mv (.l 101))]
@[simp] def a113r20:Rg:=[oT 10 (.mv (.c nzl))]
@[simp] def a113r21:Rg:=[oT 11 (.mv (ci 0))]
@[simp] def a113r22:Rg:=[oL 102 (.mv (.g 11)),oL 103 (.mv (.g 8)),oT 104 (.bin .lss (.l 102) (.l 103))]
@[simp] def a113r23:Rg:=[oL 107 (.mv (.g 10)),oL 108 (.mv (.g 9)),oL 109 (.mv (.g 11)),oL 110 (.bin .add (.l 108) (.l 109)),oL 111 (.buildSlice 1 false [i0] 1 [(0,(.l 110))]),oL 112 (.append 1 8 (.l 107) (.l 111)),oT 10 (.mv (.l 112))]
@[simp] def a113r24:Rg:=[oL 105 (.mv (.g 11)),oL 106 (.bin .add (.l 105) (ci 1)),oT 11 (.mv (.l 106))]
@[simp] def a113l25:ACode:=(.seq (.seq (rq a113r22) (.cond (.g 104) .skip (.exit 1))) (.seq (.block 2 (rq a113r23)) (rq a113r24)))
@[simp] def a113r26:Rg:=[oL 113 (.mv (.g 2)),oL 114 (.mv (.g 10)),oL 115 (.cf 151 [(.l 113),(.l 114)]),oT 12 (.mv (.l 115))]
@[simp] def a113r27:Rg:=[oT 13 (.mv (ci 0))]
@[simp] def a113r28:Rg:=[oL 116 (.mv (.g 13)),oL 117 (.mv (.g 8)),oT 118 (.bin .lss (.l 116) (.l 117))]
@[simp] def a113r29:Rg:=[oL 121 (.mv (.g 0)),oL 122 (.fa 3 (.g 4)),oL 123 (.ld (.l 122)),oL 124 (.mv (.g 13)),oL 125 (.ia 5 (.l 123) (.l 124)),oL 126 (.load 5 true (.l 125)),oL 127 (.mv (.g 12)),oL 128 (.cf 110 [(.l 121),(.l 126),(.l 127)])]
@[simp] def a113r30:Rg:=[oL 119 (.mv (.g 13)),oL 120 (.bin .add (.l 119) (ci 1)),oT 13 (.mv (.l 120))]
@[simp] def a113l31:ACode:=(.seq (.seq (rq a113r28) (.cond (.g 118) .skip (.exit 3))) (.seq (.block 4 (rq a113r29)) (rq a113r30)))
@[simp] def a113r32:Rg:=[oL 129 (.mv (.g 0)),oL 130 (.fa 3 (.g 4)),oL 131 (.ld (.l 130)),oL 132 (.mv (.g 8)),oL 133 (.ia 5 (.l 131) (.l 132)),oL 134 (.load 5 true (.l 133)),oL 135 (.mv (.g 12)),oL 136 (.cf 79 [(.l 129),(.l 134),(.l 135)]),oN (.store 10 (.g 6) (.l 136))]
@[simp] def a113r33:Rg:=[oL 138 (.bin .eql (.g 16) (ci 8)),oT 137 (.mv (.l 138))]
@[simp] def a113r34:Rg:=[oL 139 (.mv (.g 0)),oL 140 (.fa 3 (.g 4)),oL 141 (.ld (.l 140)),oL 142 (.ia 5 (.l 141) (ci 0)),oL 143 (.load 5 true (.l 142)),oL 144 (.mv (.g 2)),oL 145 (.cf 79 [(.l 139),(.l 143),(.l 144)]),oT 14 (.alloc [i0,i0,s0,nzl,i0,i0,s0,nzl,nzl,nzl]),oN (.store 10 (.g 14) (.l 145))]
@[simp] def a113r35:Rg:=[oL 146 (.load 10 true (.g 14)),oL 147 (.cf 152 [(.l 146)]),oL 148 (.un .not (.l 147)),oL 149 (.mv (.l 148)),oLf 150 (.mv (.g 0)) 149,oLf 151 (.nilCheck (.l 150)) 149,oLf 152 (.fa 5 (.l 151)) 149,oLf 153 (.ld (.l 152)) 149,oLf 154 (.bin .neq (.l 153) (ci 0)) 149,oT 155 (.pick (.l 149) cT (.l 154))]
@[simp] def a113r36:Rg:=[oL 156 (.load 10 true (.g 14)),oN (.store 10 (.g 6) (.l 156))]
@[simp] def a113r37:Rg:=[oL 157 (.mv (.g 0)),oL 158 (.load 10 true (.g 14)),oL 159 (.fa 4 (.g 4)),oL 160 (.ld (.l 159)),oL 161 (.mv (.g 2)),oL 162 (.cf 153 [(.l 157),(.l 158),(.l 160),(.l 161)]),oN (.store 10 (.g 6) (.l 162))]
@[simp] def a113r38:Rg:=[oL 163 (.mv (.g 0)),oL 164 (.load 5 true (.g 4)),oL 165 (.mv (.g 2)),oL 166 (.cf 154 [(.l 163),(.l 164),(.l 165)]),oN (.store 10 (.g 6) (.l 166))]
@[simp] def a113b:ACode:=(.seq (.reg false a113r0) (.seq (.seq (.reg false a113r1) (.block 0 (.seq (.reg false a113r2) (.cond (.g 17) (.seq (.reg false a113r3) .ret) (.seq (.reg false a113r4) (.cond (.g 30) (.seq (.reg2 a113r5 a113s5) .ret) (.seq (.reg false a113r6) (.cond (.g 47) (.seq (.reg false a113r7) .ret) (.seq (.reg false a113r8) (.cond (.g 52) (.seq (.reg4 a113r9 [.fieldAddr 2 (.g 4),.load 1 false (.l 54)] ⟨some (false,60),.call false (.c (.fn 149 [] [])) [(.l 56),(.l 58),(.l 59)],none,[]⟩ a113t9 a113s9) .ret) (.seq (.reg false a113r10) (.cond (.g 62) (.seq (.reg false a113r11) .ret) (.seq (.reg false a113r12) (.cond (.g 67) (.seq (.reg false a113r13) (.seq (.seq (.reg false a113r14) (.cond (.g 78) (.seq (.reg false a113r15) .ret) .skip)) (.seq (.reg4 a113r16 [.mv (.g 0),.load 10 true (.g 7)] ⟨some (false,89),.call false (.c (.fn 149 [] [])) [(.l 84),(.l 87),(.l 88)],none,[]⟩ a113t16 a113s16) .ret))) (.seq (.reg false a113r17) (.cond (.g 91) (.seq (.reg false a113r18) (.seq (.reg false a113r19) (.seq (.reg false a113r20) (.seq (.seq (.reg false a113r21) (.block 1 (.loop a113l25))) (.seq (.reg false a113r26) (.seq (.seq (.reg false a113r27) (.block 3 (.loop a113l31))) (.seq (.reg false a113r32) .ret))))))) (.seq (.reg false a113r33) (.cond (.g 137) (.seq (.reg false a113r34) (.seq (.seq (.reg false a113r35) (.cond (.g 155) (.seq (.reg false a113r36) .ret) .skip)) (.seq (.reg false a113r37) .ret))) .skip)))))))))))))))))) (.seq (.reg false a113r38) .ret)))
@[simp] def a113:AFun:=⟨3,167,a113b,[.cell (true,6) 10 true]⟩
theorem c113:compileFun Tryz.prog [0,1,2,4,6,7,8,9,10,11,12,13,14,16,17,30,47,52,62,67,78,91,104,118,137,155,6000000999999,10000900000006,17000900000007] Tryz.f113=some a113:=by kernel_rfl
def k113:CF [0,1,2,4,6,7,8,9,10,11,12,13,14,16,17,30,47,52,62,67,78,91,104,118,137,155,6000000999999,10000900000006,17000900000007] Tryz.f113:=⟨a113,c113⟩
end Go.AL.Dm
set_option maxRecDepth 100000
namespace Go.AL.Dm
open Go Go.Proofs
-- damask/damaskref17.New
def k77:CF [0,2,3,4,5,12] Tryz.f77:=by
 refine ⟨?_,?_⟩;rotate_left;cbv;rfl
-- (*damask/damaskref17.Store).Show
def k78:CF [0,1,2,4,6,7,8,9,10,22,33,40,47,52,56,63,91] Tryz.f78:=by
 refine ⟨?_,?_⟩;rotate_left;cbv;rfl
-- (*damask/damaskref17.Store).Eval
def k79:CF [0,1,2,4,6,7,12,18,34] Tryz.f79:=by
 refine ⟨?_,?_⟩;rotate_left;cbv;rfl
-- (*damask/damaskref17.Store).hold
def k110:CF [0,1,2,4,6] Tryz.f110:=by
 refine ⟨?_,?_⟩;rotate_left;cbv;rfl
-- (*damask/damaskref17.Store).Force
def k111:CF [0,1,4,5,6,15,16,20] Tryz.f111:=by
 refine ⟨?_,?_⟩;rotate_left;cbv;rfl
-- damask/damaskref17.wrong
def k112:CF [0] Tryz.f112:=by
 refine ⟨?_,?_⟩;rotate_left;cbv;rfl
-- damask/damaskref17.throw
def k148:CF [0,2] Tryz.f148:=by
 refine ⟨?_,?_⟩;rotate_left;cbv;rfl
-- (*damask/damaskref17.Store).all
def k149:CF [0,1,2,6,7,8,9,13] Tryz.f149:=by
 refine ⟨?_,?_⟩;rotate_left;cbv;rfl
-- damask/damaskref17.with
def k151:CF [0,1,4,5] Tryz.f151:=by
 refine ⟨?_,?_⟩;rotate_left;cbv;rfl
-- damask/damaskref17.Value
def k152:CF [0,1,2] Tryz.f152:=by
 refine ⟨?_,?_⟩;rotate_left;cbv;rfl
-- (*damask/damaskref17.Store).fresh
def k178:CF [0,1,2,4,6,9] Tryz.f178:=by
 refine ⟨?_,?_⟩;rotate_left;cbv;rfl
-- (*damask/damaskref17.Store).value
def k179:CF [0,1,3,4] Tryz.f179:=by
 refine ⟨?_,?_⟩;rotate_left;cbv;rfl
-- damask/damaskref17.Number
def k180:CF [0,1,2,6,7,8,9,10,16,22,28,34,40,47,63,70] Tryz.f180:=by
 refine ⟨?_,?_⟩;rotate_left;cbv;rfl
-- damask/damaskref17.truth
def k186:CF [0,2,3] Tryz.f186:=by
 refine ⟨?_,?_⟩;rotate_left;cbv;rfl
inductive Ot where
 | int (n:Int)
 | con (s:ByteArray) (l:List Nat)
 | fn (c:Pl) (env l:List Nat)
 | act (s:ByteArray) (l:List Nat)
 | thr (n:Int)
 | wrong
def Ot.val:Ot→Bool
 | .thr _ | .wrong => false
 | _ => true
inductive Ce where
 | hold (c:Pl) (env:List Nat)
 | busy
 | done (o:Ot)
structure Sg where
 cells:List Ce
 steps:Nat
 err:Int
def Sg.put (σ:Sg) (c:Nat) (x:Ce):Sg:={ σ with cells:=σ.cells.set c x }
def Sg.add (σ:Sg) (x:Ce):Sg:={ σ with cells:=σ.cells++[x] }
def envAt (env:List Nat) (v:Int):Nat:=env.getD ((env.length:Int) - 1 - v).toNat 0
def alls (env:List Nat):List Pl→Sg→List Nat × Sg
 | [],σ => ([],σ)
 | e::r,σ =>
  if e.op=1 then ((envAt env e.n)::(alls env r σ).1,(alls env r σ).2)
  else (σ.cells.length::(alls env r (σ.add (.hold e env))).1,(alls env r (σ.add (.hold e env))).2)
def boo (b:Bool):Ot:=.con (if b then ⟨⟨[84,114,117,101]⟩⟩ else ⟨⟨[70,97,108,115,101]⟩⟩) []
def numb (k a b:Int):Ot :=
 if k=0 then .int (IntKind.i64.wrap (a+b)) else if k=1 then .int (IntKind.i64.wrap (a - b)) else if k=2 then .int (IntKind.i64.wrap (a * b))
 else if k=5 then boo (decide (a=b)) else if k=6 then boo (decide (a < b)) else if k=7 then boo (decide (a≤b))
 else if b=0 then .thr (-2)
 else if k=3 then .int (IntKind.i64.wrap (a.fdiv b)) else .int (IntKind.i64.wrap (a.fmod b))
abbrev Evf:=Pl→List Nat→Sg→Ot × Sg
def forceW (ev:Evf) (c:Nat) (σ:Sg):Ot × Sg :=
 match σ.cells[c]? with
 | some (.done o) => (o,σ)
 | some (.hold e env) => ((ev e env (σ.put c .busy)).1,(ev e env (σ.put c .busy)).2.put c (.done (ev e env (σ.put c .busy)).1))
 | _ => (.thr (-3),σ)
def applyW (ev:Evf):Nat→Ot→List Nat→Sg→Ot × Sg
 | 0,f,_,σ => (f,σ)
 | m+1,f,l,σ =>
  if f.val=false∨σ.err≠0 then (f,σ)
  else match f with
   | .fn c env l0 =>
    if ((l0++l).length:Int) < c.n then (.fn c env (l0++l),σ)
    else
     let r:=ev (c.args.headD c) (env++(l0++l).take c.n.toNat) σ
     if ((l0++l).length:Int)=c.n then r else applyW ev m r.1 ((l0++l).drop c.n.toNat) r.2
   | _ => (.wrong,σ)
def fitsW (o:Ot) (h:Hd):Bool :=
 if h.op=1 then true else
 match o with
 | .int n => decide (h.op=3∧n=h.n)
 | .con s l => decide (h.op=2∧s=h.s∧(l.length:Int)=h.n)
 | _ => false
def fieldsW:Ot→List Nat
 | .con _ l => l
 | .act _ l => l
 | .fn _ _ l => l
 | _ => []
def chooseW (ev:Evf) (o:Ot) (env:List Nat):List (Hd × Pl)→Sg→Ot × Sg
 | [],σ => (.wrong,σ)
 | (h,b)::r,σ => if fitsW o h then ev b (env++(σ.cells.length::(if h.op=2 then fieldsW o else []))) (σ.add (.done o)) else chooseW ev o env r σ
def primW (ev:Evf) (e:Pl) (env:List Nat) (σ:Sg):Ot × Sg :=
 let k:=primI e.s
 let x:=e.args.headD e
 if k=9 then
  let r:=ev x env σ
  match r.1 with
  | .int n => (.thr n,r.2)
  | o => (if o.val then .wrong else o,r.2)
 else if 9 < k then (.act e.s (alls env e.args σ).1,(alls env e.args σ).2)
 else
  let r:=ev x env σ
  if r.1.val=false∨r.2.err≠0 then r
  else
   let q:=ev ((e.args[1]?).getD e) env r.2
   if k=8∨q.1.val=false∨q.2.err≠0 then q
   else match r.1,q.1 with
    | .int a,.int b => (numb k a b,q.2)
    | _,_ => (.wrong,q.2)
def nodeW (p:List Gl) (ev:Evf) (e:Pl) (env:List Nat) (σ:Sg):Ot × Sg :=
 if e.op=1 then forceW ev (envAt env e.n) σ
 else if e.op=2 then forceW ev (findI p e.s).toNat σ
 else if e.op=3 then (.int e.n,σ)
 else if e.op=4 then (.con e.s (alls env e.args σ).1,(alls env e.args σ).2)
 else if e.op=5 then (.fn e env [],σ)
 else if e.op=6 then
  let r:=ev (e.args.headD e) env σ
  match r.1 with
  | .fn c env' l => applyW ev (e.args.length+1) (.fn c env' l) (alls env (e.args.drop 1) r.2).1 (alls env (e.args.drop 1) r.2).2
  | o => applyW ev 1 o [] r.2
 else if e.op=7 then
  let n:=e.args.length - 1
  let inner:=env++(List.range n).map (σ.cells.length+·)
  ev ((e.args[n]?).getD e) inner { σ with cells:=σ.cells++(e.args.take n).map fun x => .hold x inner }
 else if e.op=8 then
  let r:=ev (e.args.headD e) env σ
  if r.1.val=false∨r.2.err≠0 then r else chooseW ev r.1 env e.alts r.2
 else primW ev e env σ
def evalW (p:List Gl):Nat→Evf
 | n,e,env,σ =>
  if σ.err≠0 then (.wrong,σ)
  else if σ.steps=20000 then (.wrong,{ σ with err:=7 })
  else match n with
   | 0 => (.wrong,{ σ with steps:=σ.steps+1,err:=5 })
   | n+1 => nodeW p (evalW p n) e env { σ with steps:=σ.steps+1 }
def start (p:List Gl):Sg:=⟨p.map fun g => .hold g.body [],0,0⟩
mutual
def cl:Pl→Int→Bool
 | .mk op n s args alts,m => if op=1 then decide (n < m) else cls args (m+inn (.mk op n s args alts)) && cla alts m
def cls:List Pl→Int→Bool
 | [],_ => true
 | t::ts,m => cl t m && cls ts m
def cla:List (Hd × Pl)→Int→Bool
 | [],_ => true
 | (h,b)::ts,m => cl b (m+bnd h) && cla ts m
end
theorem cl_eq (t:Pl) (m:Int):cl t m=if t.op=1 then decide (t.n < m) else cls t.args (m+inn t) && cla t.alts m:=by cases t;rw [cl];rfl
theorem cls_iff:∀ (l:List Pl) (m:Int),cls l m=true↔∀ x∈l,cl x m=true
 | [],m => by simp [cls]
 | t::ts,m => by simp [cls,cls_iff ts m]
theorem cla_iff:∀ (l:List (Hd × Pl)) (m:Int),cla l m=true↔∀ a∈l,cl a.2 (m+bnd a.1)=true
 | [],m => by simp [cla]
 | (h,b)::ts,m => by simp [cla,cla_iff ts m]
theorem fvs_mem:∀ {l:List Pl} {x:Pl} {u v:Int},x∈l→v∈fv x u→v∈fvs l u
 | y::l,x,u,v,h,hv => by
  rw [fvs,List.mem_append]
  rcases List.mem_cons.1 h with rfl | h
  ·exact .inl hv
  ·exact .inr (fvs_mem h hv)
theorem fva_mem:∀ {l:List (Hd × Pl)} {a:Hd × Pl} {u v:Int},a∈l→v∈fv a.2 (u+bnd a.1)→v∈fva l u
 | (y,b)::l,a,u,v,h,hv => by
  rw [fva,List.mem_append]
  rcases List.mem_cons.1 h with rfl | h
  ·exact .inl hv
  ·exact .inr (fva_mem h hv)
theorem cl_of_fv (t:Pl):∀ u k:Int,0≤k→(∀ v∈fv t u,v < k)→cl t (u+k)=true:=by
 induction t using Pl.ind with
 | h t ih1 ih2 =>
  intro u k hk h
  rw [cl_eq]
  rw [fv_eq] at h
  split
  ·rename_i o1
   rw [if_pos o1] at h
   apply decide_eq_true
   split at h
   ·have:=h _ (List.mem_singleton.2 rfl);omega
   ·omega
  ·rename_i o1
   rw [if_neg o1] at h
   rw [Bool.and_eq_true,cls_iff,cla_iff]
   refine ⟨fun x hx => ?_,fun a ha => ?_⟩
   ·have:=ih1 x hx (u+inn t) k hk fun v hv => h v (List.mem_append_left _ (fvs_mem hx hv))
    rw [show u+k+inn t=u+inn t+k by omega];exact this
   ·have:=ih2 a ha (u+bnd a.1) k hk fun v hv => h v (List.mem_append_right _ (fva_mem ha hv))
    rw [show u+k+bnd a.1=u+bnd a.1+k by omega];exact this
structure okE (p:List Gl) (e:Pl) (env:List Nat) (m:Nat):Prop where
 wf:wf e=true
 rg:rng e
 gi:Gin p e
 cl:cl e env.length=true
 lt:∀ c∈env,c < m
 bd:(env.length:Int)+14 * dw e≤6000
theorem okE.mono {p:List Gl} {e:Pl} {env:List Nat} {m m':Nat} (h:okE p e env m) (hm:m≤m'):okE p e env m' :=
 ⟨h.wf,h.rg,h.gi,h.cl,fun c hc => Nat.lt_of_lt_of_le (h.lt c hc) hm,h.bd⟩
theorem okE.arg {p:List Gl} {e x:Pl} {env more:List Nat} {m m':Nat} (h:okE p e env m) (o1:e.op≠1) (hx:x∈e.args) (hl:(more.length:Int)=inn e) (hm:m≤m') (hmore:∀ c∈more,c < m'):okE p x (env++more) m':=by
 obtain ⟨hnd,hwa,hwb⟩:=wf_nd h.wf
 have hcl:=h.cl
 rw [cl_eq,if_neg o1,Bool.and_eq_true,cls_iff] at hcl
 have hi:=hnd.inn
 have hd:=(arg_lt hx).2
 have hb:=h.bd
 refine ⟨hwa x hx,((rng_eq e).1 h.rg).2.2.1 x hx,h.gi.arg hx,?_,fun c hc => ?_,?_⟩
 ·have:=hcl.1 x hx
  rw [List.length_append,Int.natCast_add,hl];exact this
 ·rcases List.mem_append.1 hc with hc | hc
  ·exact Nat.lt_of_lt_of_le (h.lt c hc) hm
  ·exact hmore c hc
 ·rw [List.length_append,Int.natCast_add];omega
theorem okE.alt {p:List Gl} {e:Pl} {a:Hd × Pl} {env more:List Nat} {m m':Nat} (h:okE p e env m) (o1:e.op≠1) (ha:a∈e.alts) (hl:(more.length:Int)=bnd a.1) (hm:m≤m') (hmore:∀ c∈more,c < m'):okE p a.2 (env++more) m':=by
 obtain ⟨hnd,hwa,hwb⟩:=wf_nd h.wf
 have hcl:=h.cl
 rw [cl_eq,if_neg o1,Bool.and_eq_true,cla_iff] at hcl
 have hi:bnd a.1≤13:=by
  unfold bnd
  split
  ·rename_i h2;have:=hnd.hd a ha h2;omega
  ·omega
 have hd:=(alt_lt ha).2
 have hb:=h.bd
 refine ⟨hwb a ha,(((rng_eq e).1 h.rg).2.2.2 a ha).2.2,h.gi.alt ha,?_,fun c hc => ?_,?_⟩
 ·have:=hcl.2 a ha
  rw [List.length_append,Int.natCast_add,hl];exact this
 ·rcases List.mem_append.1 hc with hc | hc
  ·exact Nat.lt_of_lt_of_le (h.lt c hc) hm
  ·exact hmore c hc
 ·rw [List.length_append,Int.natCast_add];omega
def okO (p:List Gl):Ot→Nat→Prop
 | .int n,_ => i64 n
 | .con _ l,m => (∀ c∈l,c < m)∧l.length≤13
 | .fn c env l,m => c.op=5∧okE p c env m∧(∀ c∈l,c < m)∧(l.length:Int) < c.n
 | .act _ l,m => (∀ c∈l,c < m)∧l.length≤13
 | .thr n,_ => i64 n
 | .wrong,_ => True
theorem okO.mono {p:List Gl} {o:Ot} {m m':Nat} (h:okO p o m) (hm:m≤m'):okO p o m':=by
 cases o with
 | int n => exact h
 | con s l => exact ⟨fun c hc => Nat.lt_of_lt_of_le (h.1 c hc) hm,h.2⟩
 | fn c env l => exact ⟨h.1,h.2.1.mono hm,fun c hc => Nat.lt_of_lt_of_le (h.2.2.1 c hc) hm,h.2.2.2⟩
 | act s l => exact ⟨fun c hc => Nat.lt_of_lt_of_le (h.1 c hc) hm,h.2⟩
 | thr n => exact h
 | wrong => trivial
def okC (p:List Gl):Ce→Nat→Prop
 | .hold e env,m => okE p e env m
 | .busy,_ => True
 | .done o,m => okO p o m
theorem okC.mono {p:List Gl} {x:Ce} {m m':Nat} (h:okC p x m) (hm:m≤m'):okC p x m':=by
 cases x with
 | hold e env => exact okE.mono h hm
 | busy => trivial
 | done o => exact okO.mono h hm
structure OKs (p:List Gl) (σ:Sg):Prop where
 ce:∀ x∈σ.cells,okC p x σ.cells.length
 pl:p.length≤σ.cells.length
 bn:σ.cells.length≤400+13 * σ.steps
 st:σ.steps≤20000
structure Rs (p:List Gl) (σ:Sg) (b:Nat) (r:Ot × Sg):Prop where
 ok:OKs p r.2
 out:okO p r.1 r.2.cells.length
 len:σ.cells.length≤r.2.cells.length
 stp:σ.steps≤r.2.steps
 inc:r.2.cells.length+13 * σ.steps≤σ.cells.length+13 * r.2.steps+b
def Evok (p:List Gl) (ev:Evf):Prop:=∀ e env σ,OKs p σ→okE p e env σ.cells.length→Rs p σ 0 (ev e env σ)
theorem Rs.same {p:List Gl} {σ:Sg} {o:Ot} (h:OKs p σ) (ho:okO p o σ.cells.length) (b:Nat):Rs p σ b (o,σ):=⟨h,ho,Nat.le_refl _,Nat.le_refl _,by simp⟩
theorem Rs.trans {p:List Gl} {σ σ1:Sg} {a b:Nat} {r:Ot × Sg} (h1:σ.cells.length≤σ1.cells.length) (h2:σ.steps≤σ1.steps) (h3:σ1.cells.length+13 * σ.steps≤σ.cells.length+13 * σ1.steps+a) (h:Rs p σ1 b r):Rs p σ (a+b) r :=
 ⟨h.ok,h.out,Nat.le_trans h1 h.len,Nat.le_trans h2 h.stp,by have:=h.inc;omega⟩
theorem Rs.weak {p:List Gl} {σ:Sg} {a b:Nat} {r:Ot × Sg} (h:Rs p σ a r) (hab:a≤b):Rs p σ b r:=⟨h.ok,h.out,h.len,h.stp,by have:=h.inc;omega⟩
theorem OKs.put {p:List Gl} {σ:Sg} (h:OKs p σ) {c:Nat} {x:Ce} (hx:okC p x σ.cells.length):OKs p (σ.put c x):=by
 have hl:(σ.put c x).cells.length=σ.cells.length:=by simp [Sg.put]
 refine ⟨fun y hy => ?_,by rw [hl];exact h.pl,by rw [hl];exact h.bn,h.st⟩
 rw [hl]
 rcases List.mem_or_eq_of_mem_set hy with hy | rfl
 ·exact h.ce y hy
 ·exact hx
theorem OKs.app {p:List Gl} {σ:Sg} (h:OKs p σ) {xs:List Ce} (hx:∀ x∈xs,okC p x (σ.cells.length+xs.length)) (hb:σ.cells.length+xs.length≤400+13 * σ.steps):OKs p { σ with cells:=σ.cells++xs }:=by
 refine ⟨fun y hy => ?_,by simp;have:=h.pl;omega,by simpa using hb,h.st⟩
 simp only [List.length_append]
 rcases List.mem_append.1 hy with hy | hy
 ·exact (h.ce y hy).mono (by omega)
 ·exact hx y hy
theorem envAt_mem {env:List Nat} {v:Int} (h0:0≤v) (h1:v < env.length):envAt env v∈env:=by
 unfold envAt
 have:((env.length:Int) - 1 - v).toNat < env.length:=by omega
 rw [List.getD_eq_getElem?_getD,List.getElem?_eq_getElem this]
 exact List.getElem_mem this
theorem okE.var {p:List Gl} {e:Pl} {env:List Nat} {m:Nat} (h:okE p e env m) (o1:e.op=1):0≤e.n∧e.n < env.length:=by
 have h1:=((wf_nd h.wf).1.var o1).1
 have h2:=h.cl
 rw [cl_eq,if_pos o1] at h2
 exact ⟨h1,of_decide_eq_true h2⟩
theorem force_ok {p:List Gl} {ev:Evf} (h:Evok p ev) {σ:Sg} (hσ:OKs p σ) {c:Nat}:Rs p σ 0 (forceW ev c σ):=by
 unfold forceW
 split
 ·rename_i o hc
  exact .same hσ (hσ.ce _ (List.mem_of_getElem? hc)) 0
 ·rename_i e env hc
  have he:=hσ.ce _ (List.mem_of_getElem? hc)
  have hl:(σ.put c .busy).cells.length=σ.cells.length:=by simp [Sg.put]
  have hr:=h e env (σ.put c .busy) (hσ.put (x:=.busy) trivial) (by rw [hl];exact he)
  have h1:=hr.len
  have h2:=hr.stp
  have h3:=hr.inc
  rw [hl] at h1 h3
  refine ⟨hr.ok.put hr.out,?_,?_,h2,?_⟩
  ·show okO p _ (Sg.put _ _ _).cells.length
   simp only [Sg.put,List.length_set];exact hr.out
  ·show _≤(Sg.put _ _ _).cells.length
   simp only [Sg.put,List.length_set];exact h1
  ·show (Sg.put _ _ _).cells.length+_≤_
   simp only [Sg.put,List.length_set];exact h3
 ·exact .same hσ (by simp [okO,i64]) 0
theorem alls_ok {p:List Gl} {env:List Nat}:∀ {l:List Pl} {σ:Sg} (_:OKs p σ) (_:∀ e∈l,okE p e env σ.cells.length) (_:σ.cells.length+l.length≤400+13 * σ.steps),
  OKs p (alls env l σ).2∧(∀ c∈(alls env l σ).1,c < (alls env l σ).2.cells.length)∧(alls env l σ).1.length=l.length∧σ.cells.length≤(alls env l σ).2.cells.length∧(alls env l σ).2.cells.length≤σ.cells.length+l.length ∧
   (alls env l σ).2.steps=σ.steps∧(alls env l σ).2.err=σ.err
 | [],σ,h,_,_ => by simp [alls,h]
 | e::r,σ,h,he,hb => by
  simp only [List.length_cons] at hb
  rw [alls]
  split
  ·rename_i o1
   obtain ⟨h1,h2,h3,h4,h5,h6,h7⟩:=alls_ok (l:=r) h (fun x hx => he x (by simp [hx])) (by omega)
   have hv:=(he e (by simp)).var o1
   refine ⟨h1,fun c hc => ?_,by simp [h3],h4,by simp;omega,h6,h7⟩
   rcases List.mem_cons.1 hc with rfl | hc
   ·exact Nat.lt_of_lt_of_le ((he e (by simp)).lt _ (envAt_mem hv.1 hv.2)) h4
   ·exact h2 c hc
  ·have hl:(σ.add (.hold e env)).cells.length=σ.cells.length+1:=by simp [Sg.add]
   have hσ1:OKs p (σ.add (.hold e env)):=h.app (xs:=[.hold e env]) (fun x hx => by simp at hx;subst hx;exact (he e (by simp)).mono (by simp)) (by simp;omega)
   obtain ⟨h1,h2,h3,h4,h5,h6,h7⟩:=alls_ok (l:=r) hσ1 (fun x hx => (he x (by simp [hx])).mono (by omega)) (by rw [hl];show _≤400+13 * σ.steps;omega)
   rw [hl] at h4 h5
   refine ⟨h1,fun c hc => ?_,by simp [h3],by show _≤(alls env r _).2.cells.length;omega,by simp;omega,h6,h7⟩
   rcases List.mem_cons.1 hc with rfl | hc
   ·show _ < (alls env r _).2.cells.length;omega
   ·exact h2 c hc
theorem wrap_i64 (x:Int):i64 (IntKind.i64.wrap x):=by
 unfold i64 IntKind.wrap
 simp [IntKind.bits,IntKind.signed]
 omega
theorem boo_ok {p:List Gl} (b:Bool) (m:Nat):okO p (boo b) m:=⟨by simp,by simp⟩
theorem numb_ok {p:List Gl} (k a b:Int) (m:Nat):okO p (numb k a b) m:=by
 unfold numb
 repeat' split
 all_goals first
  | exact wrap_i64 _
  | exact boo_ok _ _
  | exact ⟨by decide,by decide⟩
theorem Rs.wr {p:List Gl} {σ:Sg} (h:OKs p σ) (b:Nat):Rs p σ b (.wrong,σ):=.same (o:=.wrong) h trivial b
theorem applyW_fn (ev:Evf) (m:Nat) (c:Pl) (env l0 l:List Nat) (σ:Sg):applyW ev (m+1) (.fn c env l0) l σ=if σ.err≠0 then (.fn c env l0,σ) else
  if ((l0++l).length:Int) < c.n then (.fn c env (l0++l),σ)
  else if ((l0++l).length:Int)=c.n then ev (c.args.headD c) (env++(l0++l).take c.n.toNat) σ
   else applyW ev m (ev (c.args.headD c) (env++(l0++l).take c.n.toNat) σ).1 ((l0++l).drop c.n.toNat) (ev (c.args.headD c) (env++(l0++l).take c.n.toNat) σ).2:=by
 rw [applyW.eq_def]
 simp [Ot.val]
theorem applyW_other (ev:Evf) (m:Nat) (f:Ot) (l:List Nat) (σ:Sg) (h:∀ c env l0,f≠.fn c env l0):applyW ev (m+1) f l σ=(f,σ)∨applyW ev (m+1) f l σ=(.wrong,σ):=by
 rw [applyW.eq_def]
 cases f <;> simp [Ot.val] at * <;> (by_cases h0:σ.err=0 <;> simp [h0])
theorem apply_ok {p:List Gl} {ev:Evf} (h:Evok p ev):∀ (m:Nat) {f:Ot} {l:List Nat} {σ:Sg} (_:OKs p σ) (_:okO p f σ.cells.length) (_:∀ c∈l,c < σ.cells.length),Rs p σ 0 (applyW ev m f l σ)
 | 0,f,l,σ,hσ,hf,_ => .same hσ hf 0
 | m+1,f,l,σ,hσ,hf,hl => by
  by_cases hfn:∃ c env l0,f=.fn c env l0
  ·obtain ⟨c,env,l0,rfl⟩:=hfn
   rw [applyW_fn]
   split
   ·exact .same hσ hf 0
   obtain ⟨o5,hc,hl0,hln⟩:=hf
   have hall:∀ x∈l0++l,x < σ.cells.length:=fun x hx => (List.mem_append.1 hx).elim (hl0 x) (hl x)
   split
   ·rename_i hlt
    exact .same (o:=.fn c env (l0++l)) hσ ⟨o5,hc,hall,hlt⟩ 0
   ·rename_i hge
    have hnd:=(wf_nd hc.wf).1.lam o5
    have hcn:((l0++l).take c.n.toNat).length=c.n.toNat:=by rw [List.length_take];omega
    have hinn:inn c=c.n:=by simp [inn,o5]
    obtain ⟨b,hb⟩:∃ b,c.args=[b]:=by
     match hca:c.args,hnd.2.2 with
     | [b],_ => exact ⟨b,rfl⟩
    have hbody:=hc.arg (more:=(l0++l).take c.n.toNat) (m':=σ.cells.length) (by omega) (x:=b) (by rw [hb];simp) (by rw [hcn,hinn];omega) (Nat.le_refl _) fun x hx => hall x (List.mem_of_mem_take hx)
    have hr:=h b _ σ hσ hbody
    rw [hb,List.headD_cons]
    split
    ·exact hr
    ·have:=apply_ok h m hr.ok hr.out (l:=(l0++l).drop c.n.toNat) fun x hx => Nat.lt_of_lt_of_le (hall x (List.mem_of_mem_drop hx)) hr.len
     exact Rs.trans hr.len hr.stp hr.inc this
  ·rcases applyW_other ev m f l σ (fun c env l0 e => hfn ⟨c,env,l0,e⟩) with e | e <;> rw [e]
   ·exact .same hσ hf 0
   ·exact .wr hσ 0
theorem fields_ok {p:List Gl} {o:Ot} {m:Nat} (h:okO p o m):∀ c∈fieldsW o,c < m:=by
 cases o with
 | con s l => exact h.1
 | act s l => exact h.1
 | fn c env l => exact h.2.2.1
 | int n => simp [fieldsW]
 | thr n => simp [fieldsW]
 | wrong => simp [fieldsW]
theorem choose_ok {p:List Gl} {ev:Evf} (h:Evok p ev) {e:Pl} {env:List Nat} {σ:Sg} (hσ:OKs p σ) (he:okE p e env σ.cells.length) (o8:e.op=8) {o:Ot} (ho:okO p o σ.cells.length) (hb:σ.cells.length+1≤400+13 * σ.steps) :
  ∀ l:List (Hd × Pl),(∀ a∈l,a∈e.alts)→Rs p σ 1 (chooseW ev o env l σ)
 | [],_ => .wr hσ 1
 | (hd,b)::r,hm => by
  rw [chooseW]
  split
  ·rename_i hfit
   have hl:(σ.add (.done o)).cells.length=σ.cells.length+1:=by simp [Sg.add]
   have hσ1:OKs p (σ.add (.done o)):=hσ.app (xs:=[.done o]) (fun x hx => by simp at hx;subst hx;exact ho.mono (by simp)) (by simpa using hb)
   have hml:((σ.cells.length::(if hd.op=2 then fieldsW o else [])).length:Int)=bnd hd:=by
    unfold bnd
    by_cases h2:hd.op=2
    ·rw [if_pos h2,if_pos h2]
     unfold fitsW at hfit
     rw [if_neg (by omega)] at hfit
     cases o with
     | con s l =>
      have:=of_decide_eq_true hfit
      simp only [List.length_cons,fieldsW];omega
     | int n => have:=of_decide_eq_true hfit;omega
     | act s l => simp at hfit
     | fn c env l => simp at hfit
     | thr n => simp at hfit
     | wrong => simp at hfit
    ·rw [if_neg h2,if_neg h2];rfl
   have he1:=he.alt (a:=(hd,b)) (more:=σ.cells.length::(if hd.op=2 then fieldsW o else [])) (m':=σ.cells.length+1) (by omega) (hm _ (by simp)) hml (by omega) fun c hc => by
    rcases List.mem_cons.1 hc with rfl | hc
    ·omega
    ·split at hc
     ·have:=fields_ok ho c hc;omega
     ·simp at hc
   have hr:=h b _ (σ.add (.done o)) hσ1 (by rw [hl];exact he1)
   have:=Rs.trans (a:=1) (σ:=σ) (σ1:=σ.add (.done o)) (by omega) (Nat.le_refl _) (by show (σ.add (.done o)).cells.length+13 * σ.steps≤_+13 * σ.steps+1;omega) hr
   exact this
  ·exact choose_ok h hσ he o8 ho hb r fun a ha => hm a (by simp [ha])
theorem okE.arg0 {p:List Gl} {e x:Pl} {env:List Nat} {m m':Nat} (h:okE p e env m) (o1:e.op≠1) (hi:inn e=0) (hx:x∈e.args) (hm:m≤m'):okE p x env m':=by
 have:=h.arg (more:=[]) o1 hx (by simpa using hi.symm) hm (by simp)
 simpa using this
theorem headD_mem {α:Type} {l:List α} {d:α} (h:0 < l.length):l.headD d∈l:=by cases l <;> simp_all
theorem getD1_mem {α:Type} {l:List α} {i:Nat} {d:α} (h:i < l.length):(l[i]?).getD d∈l:=by simp [h]
theorem prim_ok {p:List Gl} {ev:Evf} (h:Evok p ev) {e:Pl} {env:List Nat} {σ:Sg} (hσ:OKs p σ) (he:okE p e env σ.cells.length) (o9:e.op=9) (hb:σ.cells.length+13≤400+13 * σ.steps):Rs p σ 13 (primW ev e env σ):=by
 have hnd:=(wf_nd he.wf).1
 obtain ⟨k,hk,hkl⟩:=hnd.prm o9
 have hi:inn e=0:=by simp [inn,o9]
 have o1:e.op≠1:=by omega
 unfold primW
 simp only
 split
 ·rename_i h9
  have hl:0 < e.args.length:=by
   have:=hk
   rw [arI,h9] at this
   simp [ars] at this
   omega
  have hr:=h (e.args.headD e) env σ hσ (he.arg0 o1 hi (headD_mem hl) (Nat.le_refl _))
  generalize ev (e.args.headD e) env σ=r at hr
  obtain ⟨o,τ⟩:=r
  cases o with
  | int n => exact (Rs.weak ⟨hr.ok,hr.out,hr.len,hr.stp,hr.inc⟩ (by omega))
  | con s l => exact (Rs.weak ⟨hr.ok,trivial,hr.len,hr.stp,hr.inc⟩ (by omega))
  | fn c env l => exact (Rs.weak ⟨hr.ok,trivial,hr.len,hr.stp,hr.inc⟩ (by omega))
  | act s l => exact (Rs.weak ⟨hr.ok,trivial,hr.len,hr.stp,hr.inc⟩ (by omega))
  | thr n => exact (Rs.weak ⟨hr.ok,hr.out,hr.len,hr.stp,hr.inc⟩ (by omega))
  | wrong => exact (Rs.weak ⟨hr.ok,trivial,hr.len,hr.stp,hr.inc⟩ (by omega))
 ·split
  ·obtain ⟨h1,h2,h3,h4,h5,h6,h7⟩:=alls_ok (env:=env) (l:=e.args) hσ (fun x hx => he.arg0 o1 hi hx (Nat.le_refl _)) (by have:=hnd.len;omega)
   have:=hnd.len
   exact ⟨h1,⟨h2,by rw [h3];exact this⟩,h4,by rw [h6];exact Nat.le_refl _,by simp only [h6];omega⟩
  ·rename_i h9 h99
   have hl:e.args.length=2:=by
    have h0:=hk
    rw [arI] at h0
    split at h0
    ·cases h0
    ·rename_i hneg
     have:(primI e.s).toNat < 9:=by omega
     generalize (primI e.s).toNat=j at h0 this
     have hk2:k=2:=by
      have:∀ j < 9,ars[j]?=some 2:=by decide
      rw [this j (by omega)] at h0
      injection h0 with h0;exact h0.symm
     omega
   have hr:=h (e.args.headD e) env σ hσ (he.arg0 o1 hi (headD_mem (by omega)) (Nat.le_refl _))
   generalize ev (e.args.headD e) env σ=r at hr
   obtain ⟨o,τ⟩:=r
   split
   ·exact hr.weak (by omega)
   ·have hq:=h ((e.args[1]?).getD e) env τ hr.ok (he.arg0 o1 hi (getD1_mem (by omega)) hr.len)
    simp only
    generalize ev ((e.args[1]?).getD e) env τ=q at hq
    obtain ⟨o2,τ2⟩:=q
    have ht:=Rs.trans hr.len hr.stp hr.inc hq
    split
    ·exact ht.weak (by omega)
    ·split
     ·exact Rs.weak ⟨ht.ok,numb_ok _ _ _ _,ht.len,ht.stp,ht.inc⟩ (by omega)
     ·exact Rs.weak ⟨ht.ok,trivial,ht.len,ht.stp,ht.inc⟩ (by omega)
theorem node_ok {p:List Gl} {ev:Evf} (h:Evok p ev) {e:Pl} {env:List Nat} {σ:Sg} (hσ:OKs p σ) (he:okE p e env σ.cells.length) (hb:σ.cells.length+13≤400+13 * σ.steps):Rs p σ 13 (nodeW p ev e env σ):=by
 have hnd:=(wf_nd he.wf).1
 have hlen:=hnd.len
 unfold nodeW
 split
 ·exact (force_ok h hσ).weak (by omega)
 split
 ·exact (force_ok h hσ).weak (by omega)
 split
 ·exact .same (o:=.int e.n) hσ ((rng_eq e).1 he.rg).2.1 13
 split
 ·rename_i o1 o2 o3 o4
  have hi:inn e=0:=by simp [inn,o4]
  obtain ⟨h1,h2,h3,h4,h5,h6,h7⟩:=alls_ok (env:=env) (l:=e.args) hσ (fun x hx => he.arg0 o1 hi hx (Nat.le_refl _)) (by omega)
  exact ⟨h1,⟨h2,by rw [h3];exact hlen⟩,h4,by rw [h6];exact Nat.le_refl _,by simp only [h6];omega⟩
 split
 ·rename_i o5
  have:=hnd.lam o5
  exact .same (o:=.fn e env []) hσ ⟨o5,he,by simp,by simp;omega⟩ 13
 split
 ·rename_i o1 _ _ _ _ o6
  have hi:inn e=0:=by simp [inn,o6]
  have hl:=hnd.app o6
  have hr:=h (e.args.headD e) env σ hσ (he.arg0 o1 hi (headD_mem (by omega)) (Nat.le_refl _))
  simp only
  generalize ev (e.args.headD e) env σ=r at hr
  obtain ⟨o,τ⟩:=r
  have hinc:=hr.inc
  simp only at hinc
  have other:Rs p σ 13 (applyW ev 1 o [] τ):=(Rs.trans hr.len hr.stp hr.inc (apply_ok h 1 hr.ok hr.out (l:=[]) (by simp))).weak (by omega)
  cases o with
  | fn c env' l =>
   obtain ⟨h1,h2,h3,h4,h5,h6,h7⟩:=alls_ok (env:=env) (σ:=τ) (l:=e.args.drop 1) hr.ok (fun x hx => he.arg0 o1 hi (List.mem_of_mem_drop hx) hr.len) (by simp only [List.length_drop];omega)
   simp only [List.length_drop] at h5
   have ha:=apply_ok (σ:=(alls env (e.args.drop 1) τ).2) h (e.args.length+1) h1 (hr.out.mono h4) h2
   refine (Rs.trans (a:=13) (Nat.le_trans hr.len h4) (by rw [h6];exact hr.stp) ?_ ha).weak (by omega)
   rw [h6];omega
  | int n => exact other
  | con s l => exact other
  | act s l => exact other
  | thr n => exact other
  | wrong => exact other
 split
 ·rename_i o1 _ _ _ _ _ o7
  have hl:=hnd.lt o7
  have hi:inn e=(e.args.length:Int) - 1:=by simp [inn,o7]
  simp only
  have hil:((List.range (e.args.length - 1)).map (σ.cells.length+·)).length=e.args.length - 1:=by simp
  have himl:((((List.range (e.args.length - 1)).map (σ.cells.length+·)).length:Nat):Int)=inn e:=by rw [hil,hi];omega
  have htl:((e.args.take (e.args.length - 1)).map fun x => Ce.hold x (env++(List.range (e.args.length - 1)).map (σ.cells.length+·))).length=e.args.length - 1:=by simp
  have hme:∀ c∈(List.range (e.args.length - 1)).map (σ.cells.length+·),c < σ.cells.length+(e.args.length - 1):=fun c hc => by
   obtain ⟨j,hj,rfl⟩:=List.mem_map.1 hc
   have:=List.mem_range.1 hj
   omega
  have hσ1:=hσ.app (xs:=(e.args.take (e.args.length - 1)).map fun x => Ce.hold x (env++(List.range (e.args.length - 1)).map (σ.cells.length+·))) (fun x hx => by
   obtain ⟨y,hy,rfl⟩:=List.mem_map.1 hx
   rw [htl]
   exact he.arg o1 (List.mem_of_mem_take hy) himl (by omega) hme) (by simp;omega)
  have hr:=h ((e.args[e.args.length - 1]?).getD e) (env++(List.range (e.args.length - 1)).map (σ.cells.length+·)) _ hσ1 ((he.arg (m':=σ.cells.length+(e.args.length - 1)) o1 (getD1_mem (by omega)) himl (by omega) hme).mono (by simp))
  refine (Rs.trans (σ:=σ) (σ1:={ σ with cells:=σ.cells++_ }) (a:=13) (b:=0) ?_ ?_ ?_ hr).weak (by omega)
  ·simp
  ·exact Nat.le_refl _
  ·simp;omega
 split
 ·rename_i o1 _ _ _ _ _ _ o8
  have hi:inn e=0:=by simp [inn,o8]
  have hl:=hnd.cas o8
  have hr:=h (e.args.headD e) env σ hσ (he.arg0 o1 hi (headD_mem (by omega)) (Nat.le_refl _))
  simp only
  generalize ev (e.args.headD e) env σ=r at hr
  obtain ⟨o,τ⟩:=r
  have hinc:=hr.inc
  simp only at hinc
  split
  ·exact hr.weak (by omega)
  ·have hc:=choose_ok (σ:=τ) h hr.ok (he.mono hr.len) o8 hr.out (by have:=hr.stp;simp only at this;omega) e.alts fun a ha => ha
   exact (Rs.trans hr.len hr.stp hr.inc hc).weak (by omega)
 ·have:=hnd.op
  exact prim_ok h hσ he (by omega) hb
theorem eval_ok {p:List Gl}:∀ n,Evok p (evalW p n)
 | n,e,env,σ,hσ,he => by
  rw [evalW.eq_def]
  dsimp only
  by_cases he0:σ.err≠0
  ·rw [if_pos he0];exact .wr hσ 0
  rw [if_neg he0]
  split
  ·exact ⟨⟨hσ.ce,hσ.pl,hσ.bn,hσ.st⟩,trivial,Nat.le_refl _,Nat.le_refl _,by simp⟩
  ·rename_i hs
   have hst:=hσ.st
   have hbn:=hσ.bn
   have h13:σ.cells.length≤400+13 * (σ.steps+1):=by omega
   have h14:σ.steps+1≤20000:=by omega
   have h15:σ.cells.length+13 * σ.steps≤σ.cells.length+13 * (σ.steps+1)+0:=by omega
   have h16:σ.cells.length+13≤400+13 * (σ.steps+1):=by omega
   have hσ1:OKs p { σ with steps:=σ.steps+1 }:=⟨hσ.ce,hσ.pl,h13,h14⟩
   match n with
   | 0 => exact ⟨⟨hσ.ce,hσ.pl,h13,h14⟩,trivial,Nat.le_refl _,Nat.le_succ _,h15⟩
   | n+1 =>
    show Rs p σ 0 (nodeW p (evalW p n) e env { σ with steps:=σ.steps+1 })
    have hr:=node_ok (eval_ok (p:=p) n) hσ1 he h16
    have h1:(nodeW p (evalW p n) e env { σ with steps:=σ.steps+1 }).2.cells.length+13 * (σ.steps+1)≤σ.cells.length+13 * (nodeW p (evalW p n) e env { σ with steps:=σ.steps+1 }).2.steps+13:=hr.inc
    have h2:σ.steps+1≤(nodeW p (evalW p n) e env { σ with steps:=σ.steps+1 }).2.steps:=hr.stp
    generalize nodeW p (evalW p n) e env { σ with steps:=σ.steps+1 }=r at hr h1 h2 ⊢
    exact ⟨hr.ok,hr.out,hr.len,by omega,by omega⟩
theorem start_ok {p:List Gl} (hp:GoodP p) (hg:∀ g∈p,Gin p g.body) (hc:∀ g∈p,fv g.body 0=[]):OKs p (start p):=by
 refine ⟨fun x hx => ?_,by simp [start],by simp only [start,List.length_map];have:=hp.few;omega,by simp [start]⟩
 obtain ⟨g,hgm,rfl⟩:=List.mem_map.1 hx
 obtain ⟨h1,h2⟩:=hp.sm g hgm
 refine ⟨hp.wf g hgm,h2,hg g hgm,?_,by simp,by have:=h1.2;simp;omega⟩
 have:=cl_of_fv g.body 0 0 (by omega) (by rw [hc g hgm];simp)
 simpa using this
def MB (x:ND) (Q:Int→Prop):Prop:=x=none∨∃ l,x=some l∧∃ v∈l,Q v
theorem MB.mono {x:ND} {Q Q':Int→Prop} (h:MB x Q) (hq:∀ v,Q v→Q' v):MB x Q':=by
 rcases h with h | ⟨l,h,v,hv,q⟩
 ·exact .inl h
 ·exact .inr ⟨l,h,v,hv,hq v q⟩
theorem MB.mono' {x:ND} {Q Q':Int→Prop} (h:MB x Q) (hq:∀ l,x=some l→∀ v∈l,Q v→Q' v):MB x Q':=by
 rcases h with h | ⟨l,h,v,hv,q⟩
 ·exact .inl h
 ·exact .inr ⟨l,h,v,hv,hq l h v hv q⟩
theorem MB.no {Q:Int→Prop} (h:MB (some []) Q):False:=by
 rcases h with h | ⟨l,h,v,hv,_⟩
 ·cases h
 ·cases h;simp at hv
theorem MB.with {x y:ND} {Q:Int→Prop} (h:MB (nWith x y) Q):MB x Q∨MB y Q:=by
 cases x with
 | none => exact .inl (.inl rfl)
 | some a =>
  cases y with
  | none => exact .inr (.inl rfl)
  | some b =>
   rcases h with h | ⟨l,h,v,hv,q⟩
   ·cases h
   ·simp only [nWith,Option.some.injEq] at h
    subst h
    rcases mem_lun.1 hv with hv | hv
    ·exact .inl (.inr ⟨a,rfl,v,hv,q⟩)
    ·exact .inr (.inr ⟨b,rfl,v,hv,q⟩)
theorem MB.out {x:ND} {n:Int} {Q:Int→Prop} (h:MB (nOut n x) Q):MB x fun v => n≤v∧Q (v - n):=by
 cases x with
 | none => exact .inl rfl
 | some a =>
  rcases h with h | ⟨l,h,v,hv,q⟩
  ·cases h
  ·simp only [nOut,Option.some.injEq] at h
   subst h
   obtain ⟨h1,h2⟩:=mem_nOut.1 hv
   exact .inr ⟨a,rfl,v+n,h1,by omega,by rw [show v+n - n=v by omega];exact q⟩
theorem fold_both:∀ (l:List ND) (acc:ND),(l.foldl nBoth acc=none→acc=none∧∀ x∈l,x=none)∧(∀ m v,l.foldl nBoth acc=some m→v∈m→(acc=none∨∃ a,acc=some a∧v∈a)∧∀ x∈l,x=none∨∃ a,x=some a∧v∈a)
 | [],acc => ⟨fun h => ⟨h,by simp⟩,fun m v h hv => ⟨.inr ⟨m,h,hv⟩,by simp⟩⟩
 | x::l,acc => by
  obtain ⟨h1,h2⟩:=fold_both l (nBoth acc x)
  rw [List.foldl_cons]
  refine ⟨fun h => ?_,fun m v h hv => ?_⟩
  ·obtain ⟨h3,h4⟩:=h1 h
   cases acc <;> cases x <;> simp [nBoth] at h3
   exact ⟨rfl,by simpa using h4⟩
  ·obtain ⟨h3,h4⟩:=h2 m v h hv
   cases acc with
   | none =>
    refine ⟨.inl rfl,fun y hy => ?_⟩
    rcases List.mem_cons.1 hy with rfl | hy
    ·exact h3
    ·exact h4 y hy
   | some a =>
    cases x with
    | none =>
     refine ⟨h3,fun y hy => ?_⟩
     rcases List.mem_cons.1 hy with rfl | hy
     ·exact .inl rfl
     ·exact h4 y hy
    | some b =>
     rcases h3 with h3 | ⟨c,h3,hc⟩
     ·cases h3
     ·simp only [nBoth,Option.some.injEq] at h3
      subst h3
      simp only [nMeet,List.mem_filter,decide_eq_true_eq] at hc
      refine ⟨.inr ⟨a,rfl,hc.1⟩,fun y hy => ?_⟩
      rcases List.mem_cons.1 hy with rfl | hy
      ·exact .inr ⟨b,rfl,hc.2⟩
      ·exact h4 y hy
theorem MB.union {Q:Int→Prop}:∀ {bs:List Bool} {xs:List ND} {acc:ND} (_:MB (unionIf bs xs acc) Q),MB acc Q∨∃ (i:Nat) (x:ND),bs[i]?=some true∧xs[i]?=some x∧MB x Q
 | [],xs,acc,h => .inl (by simpa [unionIf] using h)
 | b::bs,[],acc,h => .inl (by simpa [unionIf] using h)
 | b::bs,x::xs,acc,h => by
  rw [unionIf] at h
  rcases MB.union h with h | ⟨i,y,h1,h2,h3⟩
  ·cases b with
   | false => exact .inl (by simpa using h)
   | true =>
    rw [if_pos rfl] at h
    rcases h.with with h | h
    ·exact .inl h
    ·exact .inr ⟨0,x,rfl,rfl,h⟩
  ·exact .inr ⟨i+1,y,by simpa using h1,by simpa using h2,h3⟩
theorem MB.lam {Q:Int→Prop} {fb:ND} {n:Int}:∀ {xs:List ND} {i:Int} {acc:ND} (_:MB (lamArgs fb n i xs acc) Q),MB acc Q∨∃ (j:Nat) (x:ND),xs[j]?=some x∧i+j < n∧fb.has (n - 1 - (i+j))∧MB x Q
 | [],i,acc,h => .inl (by simpa [lamArgs] using h)
 | x::xs,i,acc,h => by
  rw [lamArgs] at h
  split at h
  ·rename_i hi
   rcases MB.lam h with h | ⟨j,y,h1,h2,h3,h4⟩
   ·split at h
    ·rename_i hb
     rcases h.with with h | h
     ·exact .inl h
     ·exact .inr ⟨0,x,rfl,by simpa using hi,by simpa using hb,h⟩
    ·exact .inl h
   ·refine .inr ⟨j+1,y,by simpa using h1,by simp;omega,?_,h4⟩
    rw [show n - 1 - (i+((j+1:Nat):Int))=n - 1 - (i+1+j) by simp;omega];exact h3
  ·exact .inl h
theorem len_one {α:Type} {l:List α} (h:l.length=1):∃ x,l=[x]:=by
 match l,h with
 | [x],_ => exact ⟨x,rfl⟩
def NC (m:Int) (x:ND):Prop:=∀ k,x.has k→0≤k∧k < m
theorem nc_none (m:Int):NC m none:=fun k h => by simp [ND.has] at h
theorem nc_nil (m:Int):NC m (some []):=fun k h => by simp [ND.has] at h
theorem nc_with {m:Int} {a b:ND} (ha:NC m a) (hb:NC m b):NC m (nWith a b):=by
 cases a <;> cases b <;> try exact nc_none _
 intro k hk
 simp only [nWith,ND.has,mem_lun] at hk
 exact hk.elim (ha k) (hb k)
theorem nc_out {m n:Int} {a:ND} (ha:NC (m+n) a):NC m (nOut n a):=by
 cases a with
 | none => exact nc_none _
 | some l =>
  intro k hk
  simp only [nOut,ND.has,mem_nOut] at hk
  have:=ha (k+n) hk.1
  omega
theorem nc_both {m:Int} {a b:ND} (ha:NC m a) (hb:NC m b):NC m (nBoth a b):=by
 cases a with
 | none => exact hb
 | some l =>
  cases b with
  | none => exact ha
  | some r =>
   intro k hk
   simp only [nBoth,ND.has,nMeet,List.mem_filter] at hk
   exact ha k hk.1
theorem nc_union {m:Int}:∀ (bs:List Bool) (xs:List ND) (acc:ND),(∀ x∈xs,NC m x)→NC m acc→NC m (unionIf bs xs acc)
 | [],xs,acc,_,h => by cases xs <;> exact h
 | b::bs,[],acc,_,h => h
 | b::bs,x::xs,acc,hx,h => by
  rw [unionIf]
  refine nc_union bs xs _ (fun y hy => hx y (by simp [hy])) ?_
  split
  ·exact nc_with h (hx x (by simp))
  ·exact h
theorem nc_lam {m:Int} (fb:ND) (n:Int):∀ (xs:List ND) (i:Int) (acc:ND),(∀ x∈xs,NC m x)→NC m acc→NC m (lamArgs fb n i xs acc)
 | [],i,acc,_,h => h
 | x::xs,i,acc,hx,h => by
  rw [lamArgs]
  split
  ·refine nc_lam fb n xs _ _ (fun y hy => hx y (by simp [hy])) ?_
   split
   ·exact nc_with h (hx x (by simp))
   ·exact h
  ·exact h
theorem nc_fold {m:Int}:∀ (l:List ND) (acc:ND),(∀ x∈l,NC m x)→NC m acc→NC m (l.foldl nBoth acc)
 | [],acc,_,h => h
 | x::l,acc,hx,h => nc_fold l _ (fun y hy => hx y (by simp [hy])) (nc_both h (hx x (by simp)))
theorem nc_let {m:Int} {vs:List ND} {b:ND} (hv:∀ x∈vs,NC (m+vs.length) x) (hb:NC (m+vs.length) b):NC m (letC vs b):=by
 by_cases h:AllR vs.length (valOf vs) b
 ·rw [letC_none.2 h];exact nc_none _
 ·obtain ⟨l,e,_,hm⟩:=letC_some h
  rw [e]
  intro k hk
  obtain ⟨h1,h2⟩:=(hm k).1 hk
  have h3:=reach_in h1
  rcases List.mem_append.1 h3 with h3 | h3
  ·cases b with
   | none => simp at h3
   | some lb => have:=hb _ h3;omega
  ·obtain ⟨x,hx,hk2⟩:=List.mem_flatMap.1 h3
   cases x with
   | none => simp at hk2
   | some lx => have:=hv _ hx _ hk2;omega
end Go.AL.Dm
namespace Go.AL.Dm
open Go Go.Proofs
def eS:ByteArray:=⟨⟨[]⟩⟩
def i41:Pl:=.mk 3 41 eS [] []
def spL:Pl:=.mk 7 0 eS [.mk 1 0 eS [] [],.mk 1 0 eS [] []] []
def spA:Pl:=.mk 6 0 eS [i41,i41] []
def spD:Pl:=.mk 9 0 ⟨⟨[100,105,118]⟩⟩ [i41,.mk 3 0 eS [] []] []
def spc (e:Pl):Prop:=e=spL∨e=spA∨e=spD
theorem spc_op {e:Pl} (h:spc e):e.op=7∨e.op=6∨e.op=9:=by
 rcases h with rfl | rfl | rfl <;> decide
theorem spc_ne {e:Pl} (h:e.op≠7∧e.op≠6∧e.op≠9):¬ spc e:=fun hs => by
 rcases spc_op hs with h | h | h <;> omega
open Classical in
mutual
noncomputable def ndS (K:ByteArray→Kn):Pl→ND × ND
 | .mk op n s args alts => (if spc (.mk op n s args alts) then none else comb K op n s (ndsS K args) (ndaS K alts),((ndsS K args).head?.map (·.2.1)).getD (some []))
noncomputable def ndsS (K:ByteArray→Kn):List Pl→List (Pl × ND × ND)
 | [] => []
 | t::ts => (t,ndS K t)::ndsS K ts
noncomputable def ndaS (K:ByteArray→Kn):List (Hd × Pl)→List (Hd × ND)
 | [] => []
 | (h,t)::ts => (h,(ndS K t).1)::ndaS K ts
end
noncomputable def needS (K:ByteArray→Kn) (t:Pl):ND:=(ndS K t).1
noncomputable def needSB (K:ByteArray→Kn) (t:Pl):ND:=(ndS K t).2
theorem ndsS_eq (K:ByteArray→Kn):∀ l:List Pl,ndsS K l=l.map fun x => (x,needS K x,needSB K x)
 | [] => rfl
 | t::ts => by simp [ndsS,ndsS_eq K ts,needS,needSB]
theorem ndaS_eq (K:ByteArray→Kn):∀ l:List (Hd × Pl),ndaS K l=l.map fun a => (a.1,needS K a.2)
 | [] => rfl
 | (h,t)::ts => by simp [ndaS,ndaS_eq K ts,needS]
theorem needS_eq {K:ByteArray→Kn} {t:Pl} (h:¬ spc t):needS K t=comb K t.op t.n t.s (t.args.map fun x => (x,needS K x,needSB K x)) (t.alts.map fun a => (a.1,needS K a.2)):=by
 cases t;rw [needS,ndS,if_neg h,ndsS_eq,ndaS_eq];rfl
theorem needS_spc {K:ByteArray→Kn} {t:Pl} (h:spc t):needS K t=none:=by
 cases t;rw [needS,ndS,if_pos h]
theorem needSB_eq (K:ByteArray→Kn) (t:Pl):needSB K t=(t.args.head?.map (needS K)).getD (some []):=by
 cases t with
 | mk op n s args alts =>
  rw [needSB,ndS,ndsS_eq]
  cases args <;> rfl
theorem map_needS (K:ByteArray→Kn) (l:List Pl):(l.map fun x => (x,needS K x,needSB K x)).map (·.2.1)=l.map (needS K):=by simp
section
variable {K:ByteArray→Kn} {t:Pl}
theorem needS_var (h:t.op=1):needS K t=some [t.n]:=by rw [needS_eq (by first | assumption | exact spc_ne (by omega)),comb.eq_def,if_pos h]
theorem needS_glob (h:t.op=2):needS K t=if (K t.s).w=0∧(K t.s).fails=true then none else some []:=by rw [needS_eq (by first | assumption | exact spc_ne (by omega)),comb.eq_def,if_neg (by omega),if_pos h]
theorem needS_made (h:t.op=3∨t.op=4∨t.op=5):needS K t=some []:=by
 rw [needS_eq (by first | assumption | exact spc_ne (by omega)),comb.eq_def,if_neg (by omega),if_neg (by omega),if_neg (by omega),if_neg (by omega),if_neg (by omega),if_neg (by omega)]
theorem needS_app (hsp:¬ spc t) (h:t.op=6) {f:Pl} {l:List Pl} (ha:t.args=f::l):needS K t=(if f.op=5∧f.n≤(l.length:Int) then lamArgs (needSB K f) f.n 0 (l.map (needS K)) (nOut f.n (needSB K f)) else if f.op≠2 then needS K f else if (K f.s).w=0 then needS K f
  else if (l.length:Int) < (K f.s).w then some [] else if (K f.s).fails=true then none else unionIf (K f.s).st (l.map (needS K)) (some [])):=by
 rw [needS_eq (by first | assumption | exact spc_ne (by omega)),comb.eq_def,if_neg (by omega),if_neg (by omega),if_pos h,ha,List.map_cons]
 simp only [map_needS,List.length_map]
theorem needS_let (hsp:¬ spc t) (h:t.op=7) {vs:List Pl} {b:Pl} (ha:t.args=vs++[b]):needS K t=letC (vs.map (needS K)) (needS K b):=by
 rw [needS_eq (by first | assumption | exact spc_ne (by omega)),comb.eq_def,if_neg (by omega),if_neg (by omega),if_neg (by omega),if_pos h,ha]
 simp
 rfl
theorem needS_cas (hsp:¬ spc t) (h:t.op=8) {x:Pl} (ha:t.args=[x]):needS K t=nWith (needS K x) ((t.alts.map fun a => nOut (bnd a.1) (needS K a.2)).foldl nBoth none):=by
 rw [needS_eq (by first | assumption | exact spc_ne (by omega)),comb.eq_def,if_neg (by omega),if_neg (by omega),if_neg (by omega),if_neg (by omega),if_pos h,ha]
 simp
 rfl
theorem needS_throw (hsp:¬ spc t) (h:t.op=9) (hs:t.s=throwS):needS K t=none:=by
 rw [needS_eq (by first | assumption | exact spc_ne (by omega)),comb.eq_def,if_neg (by omega),if_neg (by omega),if_neg (by omega),if_neg (by omega),if_neg (by omega),if_pos h,if_pos hs]
theorem needS_act (hsp:¬ spc t) (h:t.op=9) (hs:t.s≠throwS) (hp:¬ primI t.s < 9):needS K t=some []:=by
 rw [needS_eq (by first | assumption | exact spc_ne (by omega)),comb.eq_def,if_neg (by omega),if_neg (by omega),if_neg (by omega),if_neg (by omega),if_neg (by omega),if_pos h,if_neg hs,if_neg hp]
theorem needS_prim (hsp:¬ spc t) (h:t.op=9) (hs:t.s≠throwS) (hp:primI t.s < 9) {x y:Pl} (ha:t.args=[x,y]):needS K t=nWith (needS K x) (needS K y):=by
 rw [needS_eq (by first | assumption | exact spc_ne (by omega)),comb.eq_def,if_neg (by omega),if_neg (by omega),if_neg (by omega),if_neg (by omega),if_neg (by omega),if_pos h,if_neg hs,if_pos hp,ha]
 simp
end
section
variable {K:ByteArray→Kn}
theorem comb_leS (op n:Int) (s:ByteArray) (args:List Pl) (alts:List (Hd × Pl)) (h1:∀ x∈args,(need K x).le (needS K x)∧(needB K x).le (needSB K x)) (h2:∀ a∈alts,(need K a.2).le (needS K a.2)) :
  (comb K op n s (args.map fun x => (x,need K x,needB K x)) (alts.map fun a => (a.1,need K a.2))).le (comb K op n s (args.map fun x => (x,needS K x,needSB K x)) (alts.map fun a => (a.1,needS K a.2))):=by
 have hl:∀ l:List Pl,(∀ x∈l,x∈args)→LLe ((l.map fun x => (x,need K x,needB K x)).map (·.2.1)) ((l.map fun x => (x,needS K x,needSB K x)).map (·.2.1)):=by
  intro l hm
  simp only [map_need,map_needS]
  exact LLe.map l fun x hx => (h1 x (hm x hx)).1
 have hk:KnLe (K s) (K s):=KnLe.refl _
 rw [comb.eq_def,comb.eq_def]
 split
 ·exact ND.le_refl _
 split
 ·exact ND.le_refl _
 split
 ·cases args with
  | nil => exact ND.le_refl _
  | cons f l =>
   have hf:=h1 f (by simp)
   have hll:=hl l (fun x hx => by simp [hx])
   have hkf:KnLe (K f.s) (K f.s):=KnLe.refl _
   simp only [List.map_cons,List.length_map]
   split
   ·exact lamArgs_le hf.2 _ _ hll (nOut_le hf.2 _) (fun e => by rw [e];rfl)
   split
   ·exact hf.1
   rw [← hkf.1]
   split
   ·exact hf.1
   split
   ·exact ND.le_refl _
   by_cases e:(K f.s).fails=true
   ·rw [if_pos e,if_pos (hkf.2.2 e)];trivial
   ·rw [if_neg e]
    split
    ·exact ND.le_top _
    ·exact unionIf_le hkf.2.1 hll (ND.le_refl _)
 split
 ·have e:∀ K:ByteArray→Kn,(((args.map fun x => (x,need K x,needB K x)).dropLast).map (·.2.1))=((args.dropLast).map fun x => (x,need K x,needB K x)).map (·.2.1):=by
   intro K;rw [← List.map_dropLast]
  have e':∀ K:ByteArray→Kn,(((args.map fun x => (x,needS K x,needSB K x)).dropLast).map (·.2.1))=((args.dropLast).map fun x => (x,needS K x,needSB K x)).map (·.2.1):=by
   intro K;rw [← List.map_dropLast]
  rw [e,e']
  refine letC_le (hl _ fun x hx => List.dropLast_subset _ hx) ?_
  rw [List.getLast?_map,List.getLast?_map]
  cases hg:args.getLast? with
  | none => exact ND.le_refl _
  | some x => exact (h1 x (List.mem_of_getLast? hg)).1
 split
 ·refine nWith_le ?_ (foldBoth_le ?_ (ND.le_refl _))
  ·rw [List.head?_map,List.head?_map]
   cases hg:args.head? with
   | none => exact ND.le_refl _
   | some x => exact (h1 x (List.mem_of_head? hg)).1
  ·rw [List.map_map,List.map_map]
   exact LLe.map alts fun a ha => nOut_le (h2 a ha) _
 split
 ·split
  ·trivial
  split
  ·refine nWith_le ?_ ?_
   ·rw [List.head?_map,List.head?_map]
    cases hg:args.head? with
    | none => exact ND.le_refl _
    | some x => exact (h1 x (List.mem_of_head? hg)).1
   ·rw [List.getElem?_map,List.getElem?_map]
    cases hg:args[1]? with
    | none => exact ND.le_refl _
    | some x => exact (h1 x (List.mem_of_getElem? hg)).1
  ·exact ND.le_refl _
 ·exact ND.le_refl _
theorem need_leS (t:Pl):(need K t).le (needS K t)∧(needB K t).le (needSB K t):=by
 induction t using Pl.ind with
 | h t ih1 ih2 =>
  refine ⟨?_,?_⟩
  ·by_cases hsp:spc t
   ·rw [needS_spc hsp];exact ND.le_top _
   rw [need_eq,needS_eq hsp]
   exact comb_leS _ _ _ _ _ ih1 fun a ha => (ih2 a ha).1
  ·rw [needB_eq,needSB_eq]
   cases h:t.args with
   | nil => exact ND.le_refl _
   | cons x l => exact (ih1 x (by rw [h];simp)).1
end
theorem MB.le {x y:ND} {Q:Int→Prop} (h:x.le y) (hx:MB x Q):MB y Q:=by
 cases y with
 | none => exact .inl rfl
 | some b =>
  cases x with
  | none => exact absurd h (by simp [ND.le])
  | some a =>
   rcases hx with hx | ⟨l,hl,v,hv,q⟩
   ·cases hx
   ·cases hl
    exact .inr ⟨b,rfl,v,h v hv,q⟩
theorem needS_cl (K:ByteArray→Kn) (t:Pl):∀ m:Int,wf t=true→cl t m=true→NC m (needS K t)∧(t.op=5→NC (m+t.n) (needSB K t)):=by
 induction t using Pl.ind with
 | h t ih1 ih2 =>
  intro m hw hc
  obtain ⟨hnd,hwa,hwb⟩:=wf_nd hw
  rw [cl_eq] at hc
  by_cases hsp:spc t
  ·refine ⟨by rw [needS_spc hsp];exact nc_none _,fun o5 => ?_⟩
   rcases spc_op hsp with h | h | h <;> omega
  by_cases o1:t.op=1
  ·rw [if_pos o1] at hc
   refine ⟨?_,fun h => by omega⟩
   rw [needS_var o1]
   intro k hk
   simp only [ND.has,List.mem_singleton] at hk
   subst hk
   exact ⟨(hnd.var o1).1,of_decide_eq_true hc⟩
  rw [if_neg o1,Bool.and_eq_true,cls_iff,cla_iff] at hc
  obtain ⟨hc1,hc2⟩:=hc
  have h1:∀ x∈t.args,NC (m+inn t) (needS K x)∧(x.op=5→NC (m+inn t+x.n) (needSB K x)):=fun x hx => ih1 x hx _ (hwa x hx) (hc1 x hx)
  have h2:∀ a∈t.alts,NC (m+bnd a.1) (needS K a.2):=fun a ha => (ih2 a ha _ (hwb a ha) (hc2 a ha)).1
  refine ⟨?_,fun o5 => ?_⟩
  ·have ho:=hnd.op
   by_cases o2:t.op=2
   ·rw [needS_glob o2];split
    ·exact nc_none _
    ·exact nc_nil _
   by_cases o3:t.op=3∨t.op=4∨t.op=5
   ·rw [needS_made o3];exact nc_nil _
   by_cases o7:t.op=7
   ·obtain ⟨vs,b,hvb⟩:=split_last (l:=t.args) (by intro h;have:=hnd.lt o7;rw [h] at this;simp at this)
    have hi:m+inn t=m+(vs.map (needS K)).length:=by simp [inn,o7,hvb]
    rw [hi] at h1
    rw [needS_let hsp o7 hvb]
    refine nc_let (fun x hx => ?_) (h1 b (by rw [hvb];simp)).1
    obtain ⟨y,hy,rfl⟩:=List.mem_map.1 hx
    exact (h1 y (by rw [hvb];simp [hy])).1
   have hi:m+inn t=m:=by simp [inn,o7,show ¬ t.op=5 by omega]
   rw [hi] at h1
   by_cases o6:t.op=6
   ·obtain ⟨f,l,hfl⟩:∃ f l,t.args=f::l:=by
     cases h:t.args with
     | nil => have:=hnd.app o6;rw [h] at this;simp at this
     | cons f l => exact ⟨f,l,rfl⟩
    have hf:=h1 f (by rw [hfl];simp)
    have hl:∀ x∈l.map (needS K),NC m x:=by
     intro x hx
     obtain ⟨y,hy,rfl⟩:=List.mem_map.1 hx
     exact (h1 y (by rw [hfl];simp [hy])).1
    rw [needS_app hsp o6 hfl]
    split
    ·rename_i hc
     exact nc_lam _ _ _ _ _ hl (nc_out (hf.2 hc.1))
    split
    ·exact hf.1
    split
    ·exact hf.1
    split
    ·exact nc_nil _
    split
    ·exact nc_none _
    ·exact nc_union _ _ _ hl (nc_nil _)
   by_cases o8:t.op=8
   ·obtain ⟨x,hx⟩:=List.length_eq_one_iff.1 (hnd.cas o8).1
    rw [needS_cas hsp o8 hx]
    refine nc_with (h1 x (by rw [hx];simp)).1 (nc_fold _ _ (fun y hy => ?_) (nc_none _))
    obtain ⟨a,ha,rfl⟩:=List.mem_map.1 hy
    exact nc_out (h2 a ha)
   ·have o9:t.op=9:=by omega
    by_cases hs:t.s=throwS
    ·rw [needS_throw hsp o9 hs];exact nc_none _
    by_cases hp:primI t.s < 9
    ·obtain ⟨k,hk,hl⟩:=hnd.prm o9
     have:=ar_two hk hp
     obtain ⟨x,y,hxy⟩:=len_two (show t.args.length=2 by omega)
     rw [needS_prim hsp o9 hs hp hxy]
     exact nc_with (h1 x (by rw [hxy];simp)).1 (h1 y (by rw [hxy];simp)).1
    ·rw [needS_act hsp o9 hs hp];exact nc_nil _
  ·obtain ⟨b,hb⟩:=len_one (hnd.lam o5).2.2
   rw [needSB_eq,hb]
   have:=(h1 b (by rw [hb];simp)).1
   rw [show inn t=t.n by simp [inn,o5]] at this
   exact this
end Go.AL.Dm
