/- Code put for a variable: what it keeps. -/
import Derived.Test.YtlledcnjfgcipaaGreatDoorJ34
import Derived.Test.YtlledcnjfgcipaaGreatDoorJ9
import Derived.Test.YtlledcnjfgcipaaGreatDoorJ2
import Derived.Test.YtlledcnjfgcipaaGreatDoorF23
set_option linter.unusedVariables false
set_option linter.unusedSimpArgs false
namespace Go.AL.Dm
open Go Go.Proofs
theorem H7 (f:Hd × Pl→Pl):∀ (l:List (Hd × Pl)) (pre:List Hd),As pre (l.map fun a=>(a.1,f a))=As pre l
 | [],pre=>rfl
 | a::l,pre=>by rw [List.map_cons,As,As,H7 f l,H7 f l,List.isEmpty_map]
theorem ON {t T:Pl} (h1:T.op=t.op) (h2:T.n=t.n) (h3:T.s=t.s) (h4:T.args.length=t.args.length) (h5:T.alts.length=t.alts.length) (h6:As [] T.alts=As [] t.alts):BI T=BI t:=by
 simp only [BI,BW,h1,h2,h3,h4,h5,h6]
theorem TI:∀ {l:List (Hd × Pl)},(∀ x∈l,wf x.2=true)→wfa l=true
 | [],_=>rfl
 | (h,y)::l,k=>by rw [wfa,k (h,y) (by simp),TI fun x hx=>k x (by simp [hx])];rfl
section
variable {b:Pl}
theorem XY (hb:wf b=true) (t:Pl):∀ n:Int,0≤n→wf t=true→wf (A4 b t n)=true:=by
 induction t using Pl.ind with
 | h t ih1 ih2 =>
  intro n hn hw
  obtain⟨hnd,hwa,hwb⟩:=A5 hw
  by_cases o1:t.op=1
  ·rw [EG o1]
   split
   ·exact hb
   split
   ·rename_i h1 h2
    obtain⟨_,h3,h4⟩:=hnd.var o1
    rw [LD]at hw ⊢
    have hw1:BI t=true:=by simp only [Bool.and_eq_true]at hw;exact hw.1.1
    generalize hT:Pl.mk t.op (t.n - 1) t.s t.args t.alts=T
    have e1:T.op=1:=by rw [← hT];exact o1
    have e2:T.n=t.n - 1:=by rw [← hT];rfl
    have e3:T.s=t.s:=by rw [← hT];rfl
    have e4:T.args=[]:=by rw [← hT];exact h3
    have e5:T.alts=[]:=by rw [← hT];exact h4
    simp only [BI,BW,o1,h3,h4]at hw1
    simp at hw1
    simp [BI,BW,e1,e2,e3,e4,e5,wfs,wfa,hw1.1]
    omega
   ·exact hw
  ·have hw1:BI t=true:=by rw [LD]at hw;simp only [Bool.and_eq_true]at hw;exact hw.1.1
   have hi:=hnd.inn
   rw [CR o1]
   generalize hT:Pl.mk t.op t.n t.s (t.args.map fun x=>A4 b x (n+inn t)) (t.alts.map fun a=>(a.1,A4 b a.2 (n+bnd a.1)))=T
   have e4:T.args=t.args.map fun x=>A4 b x (n+inn t):=by rw [← hT];rfl
   have e5:T.alts=t.alts.map fun a=>(a.1,A4 b a.2 (n+bnd a.1)):=by rw [← hT];rfl
   rw [LD,ON (T:=T) (t:=t) (by rw [← hT];rfl) (by rw [← hT];rfl) (by rw [← hT];rfl) (by rw [e4];simp) (by rw [e5];simp) (by rw [e5];exact H7 _ _ _),hw1,Bool.true_and,Bool.and_eq_true,e4,e5]
   refine⟨TJ fun x hx=>?_,TI fun x hx=>?_⟩
   ·obtain⟨y,hy,rfl⟩:=List.mem_map.1 hx
    exact ih1 y hy _ (by omega) (hwa y hy)
   ·obtain⟨a,ha,rfl⟩:=List.mem_map.1 hx
    have:=hnd.bnd ha
    exact ih2 a ha _ (by omega) (hwb a ha)
theorem Zm (hb:rng b) (t:Pl):∀ n:Int,0≤n→wf t=true→rng t→rng (A4 b t n):=by
 induction t using Pl.ind with
 | h t ih1 ih2 =>
  intro n hn hw hr
  obtain⟨hnd,hwa,hwb⟩:=A5 hw
  have hr':=(Cc t).1 hr
  by_cases o1:t.op=1
  ·rw [EG o1]
   split
   ·exact hb
   split
   ·rename_i h1 h2
    have:=hr'.2.1
    rw [Cc]
    exact⟨hr'.1,by unfold i64 at *;show -9223372036854775808≤t.n - 1∧t.n - 1≤_;omega,hr'.2.2⟩
   ·exact hr
  ·have hi:=hnd.inn
   rw [CR o1,Cc]
   refine⟨hr'.1,hr'.2.1,fun x hx=>?_,fun a ha=>?_⟩
   ·obtain⟨y,hy,rfl⟩:=List.mem_map.1 hx
    exact ih1 y hy _ (by omega) (hwa y hy) (hr'.2.2.1 y hy)
   ·obtain⟨c,hc,rfl⟩:=List.mem_map.1 ha
    have h1:=hr'.2.2.2 c hc
    have:=hnd.bnd hc
    exact⟨h1.1,h1.2.1,ih2 c hc _ (by omega) (hwb c hc) h1.2.2⟩
theorem AEm (t:Pl):∀ n:Int,dw (A4 b t n)≤dw t+dw b:=by
 have hb0:=BA b
 induction t using Pl.ind with
 | h t ih1 ih2 =>
  intro n
  have ht:=BA t
  by_cases o1:t.op=1
  ·rw [EG o1]
   split
   ·omega
   split
   ·rw [Fk (.mk t.op (t.n - 1) t.s t.args t.alts),Fk t]
    show 1+max (dws t.args) (dwa t.alts)≤_
    omega
   ·omega
  ·rw [CR o1,Fk,Fk t]
   show 1+max (dws (t.args.map _)) (dwa (t.alts.map _))≤_
   have h1:∀ l:List Pl,(∀ x∈l,x∈t.args)→dws (l.map fun x=>A4 b x (n+inn t))≤dws l+dw b:=by
    intro l
    induction l with
    | nil=>intro _;simp only [List.map_nil,dws];omega
    | cons x l ih =>
     intro hm
     have:=ih1 x (hm x (by simp)) (n+inn t)
     have:=ih fun y hy=>hm y (by simp [hy])
     simp only [List.map_cons,dws]
     omega
   have h2:∀ l:List (Hd × Pl),(∀ x∈l,x∈t.alts)→dwa (l.map fun a=>(a.1,A4 b a.2 (n+bnd a.1)))≤dwa l+dw b:=by
    intro l
    induction l with
    | nil=>intro _;simp only [List.map_nil,dwa];omega
    | cons x l ih =>
     intro hm
     have h3:=ih2 x (hm x (by simp)) (n+bnd x.1)
     have h4:=ih fun y hy=>hm y (by simp [hy])
     obtain⟨a,c⟩:=x
     simp only [List.map_cons,dwa]at *
     omega
   have h3:=h1 t.args fun x hx=>hx
   have h4:=h2 t.alts fun x hx=>hx
   omega
theorem AIk (t:Pl):∀ m m':Int,m≤m'→cl t m=true→cl t m'=true:=by
 induction t using Pl.ind with
 | h t ih1 ih2 =>
  intro m m' hm hc
  rw [Fw]at hc ⊢
  split
  ·rename_i o1
   rw [if_pos o1]at hc
   have:=of_decide_eq_true hc
   exact decide_eq_true (by omega)
  ·rename_i o1
   rw [if_neg o1,Bool.and_eq_true,Da,Db]at hc
   rw [Bool.and_eq_true,Da,Db]
   exact⟨fun x hx=>ih1 x hx _ _ (by omega) (hc.1 x hx),fun a ha=>ih2 a ha _ _ (by omega) (hc.2 a ha)⟩
theorem AEn (hb:cl b 0=true) (t:Pl):∀ n m:Int,0≤n→n≤m→wf t=true→cl t (m+1)=true→cl (A4 b t n) m=true:=by
 induction t using Pl.ind with
 | h t ih1 ih2 =>
  intro n m hn hm hw hc
  obtain⟨hnd,hwa,hwb⟩:=A5 hw
  rw [Fw]at hc
  by_cases o1:t.op=1
  ·rw [if_pos o1]at hc
   have hc:=of_decide_eq_true hc
   rw [EG o1]
   split
   ·exact AIk b 0 m (by omega) hb
   split
   ·rw [Fw]
    rw [if_pos (show (Pl.mk t.op (t.n - 1) t.s t.args t.alts).op=1 from o1)]
    exact decide_eq_true (show t.n - 1 < m by omega)
   ·rename_i h1 h2
    rw [Fw,if_pos o1]
    exact decide_eq_true (by omega)
  ·have hi:=hnd.inn
   rw [if_neg o1,Bool.and_eq_true,Da,Db]at hc
   rw [CR o1]
   generalize hT:Pl.mk t.op t.n t.s (t.args.map fun x=>A4 b x (n+inn t)) (t.alts.map fun a=>(a.1,A4 b a.2 (n+bnd a.1)))=T
   have e1:T.op=t.op:=by rw [← hT];rfl
   have e2:T.n=t.n:=by rw [← hT];rfl
   have e4:T.args=t.args.map fun x=>A4 b x (n+inn t):=by rw [← hT];rfl
   have e5:T.alts=t.alts.map fun a=>(a.1,A4 b a.2 (n+bnd a.1)):=by rw [← hT];rfl
   have e6:inn T=inn t:=by unfold inn;rw [e1,e2,e4,List.length_map]
   rw [Fw,if_neg (by rw [e1];exact o1),Bool.and_eq_true,Da,Db,e4,e5,e6]
   refine⟨fun x hx=>?_,fun x hx=>?_⟩
   ·obtain⟨y,hy,rfl⟩:=List.mem_map.1 hx
    refine ih1 y hy _ _ (by omega) (by omega) (hwa y hy) ?_
    rw [show m+inn t+1=m+1+inn t by omega];exact hc.1 y hy
   ·obtain⟨a,ha,rfl⟩:=List.mem_map.1 hx
    have:=hnd.bnd ha
    refine ih2 a ha _ _ (by omega) (by simp only;omega) (hwb a ha) ?_
    show cl a.2 (m+bnd a.1+1)=true
    rw [show m+bnd a.1+1=m+1+bnd a.1 by omega];exact hc.2 a ha
theorem Zn {p:List Gl} (hb:Gin p b) (t:Pl):∀ n:Int,Gin p t→Gin p (A4 b t n):=by
 induction t using Pl.ind with
 | h t ih1 ih2 =>
  intro n hg
  by_cases o1:t.op=1
  ·rw [EG o1]
   split
   ·exact hb
   split
   ·intro e he ho
    rw [pre]at he
    rcases List.mem_cons.1 he with rfl | he
    ·have ho:t.op=2:=ho
     omega
    ·refine hg e ?_ ho
     cases t
     rw [pre]
     exact List.mem_cons_of_mem _ he
   ·exact hg
  ·rw [CR o1]
   intro e he ho
   rw [pre]at he
   rcases List.mem_cons.1 he with rfl | he
   ·exact hg t (I0 t) ho
   ·rcases List.mem_append.1 he with he | he
    ·obtain⟨x,hx,he⟩:=P5 he
     obtain⟨y,hy,rfl⟩:=List.mem_map.1 hx
     exact ih1 y hy _ (hg.arg hy) e he ho
    ·have:∀ l:List (Hd × Pl),e∈FP l→∃ a∈l,e∈pre a.2:=by
      intro l
      induction l with
      | nil=>simp [FP]
      | cons p l ih =>
       obtain⟨k,x⟩:=p
       intro h
       rw [FP,List.mem_append]at h
       rcases h with h | h
       ·exact⟨(k,x),by simp,h⟩
       ·obtain⟨p,hp,h⟩:=ih h
        exact⟨p,by simp [hp],h⟩
     obtain⟨x,hx,he⟩:=this _ he
     obtain⟨a,ha,rfl⟩:=List.mem_map.1 hx
     exact ih2 a ha _ (hg.alt ha) e he ho
end
theorem AIl (t:Pl):∀ u k:Int,cl t (u+k)=true→∀ v∈fv t u,0≤v∧v < k:=by
 induction t using Pl.ind with
 | h t ih1 ih2 =>
  intro u k hc v hv
  rw [Fw]at hc
  rw [IW]at hv
  by_cases o1:t.op=1
  ·rw [if_pos o1]at hc hv
   have:=of_decide_eq_true hc
   split at hv
   ·simp at hv;omega
   ·simp at hv
  ·rw [if_neg o1]at hc hv
   rw [Bool.and_eq_true,Da,Db]at hc
   have h1:∀ l:List Pl,(∀ x∈l,x∈t.args)→∀ v∈fvs l (u+inn t),0≤v∧v < k:=by
    intro l
    induction l with
    | nil=>simp [fvs]
    | cons x l ih =>
     intro hm v hv
     rw [fvs,List.mem_append]at hv
     rcases hv with hv | hv
     ·exact ih1 x (hm x (by simp)) _ _ (by rw [show u+inn t+k=u+k+inn t by omega];exact hc.1 x (hm x (by simp))) v hv
     ·exact ih (fun y hy=>hm y (by simp [hy])) v hv
   have h2:∀ l:List (Hd × Pl),(∀ x∈l,x∈t.alts)→∀ v∈fva l u,0≤v∧v < k:=by
    intro l
    induction l with
    | nil=>simp [fva]
    | cons x l ih =>
     intro hm v hv
     obtain⟨a,c⟩:=x
     rw [fva,List.mem_append]at hv
     rcases hv with hv | hv
     ·exact ih2 (a,c) (hm _ (by simp)) _ _ (by rw [show u+bnd a+k=u+k+bnd a by omega];exact hc.2 (a,c) (hm _ (by simp))) v hv
     ·exact ih (fun y hy=>hm y (by simp [hy])) v hv
   rcases List.mem_append.1 hv with hv | hv
   ·exact h1 _ (fun x hx=>hx) v hv
   ·exact h2 _ (fun x hx=>hx) v hv
end Go.AL.Dm
set_option maxHeartbeats 2000000
namespace Go.AL.Dm
open Go Go.Proofs
def FW (t b:Pl):AV:=if 1 < sz b∧Int.tdiv 4000 (sz b)+1 < occ t 0 then .tup [z0.av,.int .i64 5]else if sz (A4 b t 0)≤4000∧dw (A4 b t 0)≤200 then .tup [(A4 b t 0).av,.int .i64 0]else .tup [z0.av,.int .i64 5]
theorem AKf (t b:Pl) (hw:wf t=true) (hs:small t) (hr:rng t) (hwb:wf b=true) (hsb:small b) (hcb:cl b 0=true):AF Tryz.prog 32 [t.av,.int .i64 0,b.av] (FW t b):=by
 have h45t:=p45 t hs
 have h45b:=p45 b hsb
 rw [hw]at h45t
 rw [hwb]at h45b
 have h64:=p64 t 0 hw hs (by omega) (by have:=hs.2;omega)
 have h65:=p65 b hwb hsb
 have hfar:(pre b).foldl fmx 0≤2600:=XZ _ _ (by omega) fun e he o1=>by have:=AEo b 0 hwb hcb e he o1;have:=hsb.2;omega
 have h70:=p70 b hwb hcb (by have:=hsb.2;omega) t (by have:=hs.2;omega) hw hr
 have hwp:=XY hwb t 0 (by omega) hw
 have hdp:=AEm (b:=b) t 0
 have h69:=p69 (A4 b t 0) hwp (by have:=hs.2;have:=hsb.2;omega)
 have hz:=Al b
 have hz4:=hsb.1
 have ho:=Rv t 0
 have hs4:=hs.1
 generalize hfr:(pre b).foldl fmx 0=far at h65 hfar
 have hfar':¬ IntKind.i64.wrap (IntKind.i64.wrap 9223372036854775807 - 48000) < far:=by
  rw [show IntKind.i64.wrap (IntKind.i64.wrap 9223372036854775807 - 48000)=9223372036854727807 by decide];omega
 have hle':far≤IntKind.i64.wrap (IntKind.i64.wrap 9223372036854775807 - 48000):=by omega
 refine AF.intro fun s=>AD mixed Tryz.func32 Tryz.call32 k32.2 rfl (AE _ _ _ _ ?_)
 simp -implicitDefEqProofs (disch:=first|omega|simp only[nx4]<;>omega|fail) [k32]
 refine AA h45t fun mm1 hm1=>?_
 try simp only [nx4]at hm1
 simp -implicitDefEqProofs (disch:=first|omega|simp only[nx4]<;>omega|fail)
 refine AA h45b fun mm2 hm2=>?_
 try simp only [nx4]at hm2
 simp -implicitDefEqProofs (disch:=first|omega|simp only[nx4]<;>omega|fail)
 refine AH (AB.mono (m63 b hwb hsb.1 hsb.2 _) fun r s' hn' h=>AW ?_)
 obtain⟨⟨dd,rfl⟩,hk⟩:=h
 have q1:=hk s.nx soz
 have q2:=hk (s.nx+1) soz
 have q3:=hk (s.nx+1+1) soz
 have hk2:Kept s s':=fun q hq=>(hk q soz).trans smz
 simp -implicitDefEqProofs (disch:=first|omega|simp only[nx4]<;>omega|fail)at q1 q2 q3 hn'
 have htail:∀ (Q:Ay→Env→St→Prop),True:=fun _=>trivial
 by_cases h1:1 < sz b
 ·have hd0:¬ sz b=0:=by omega
  have w1:IntKind.i64.wrap (Int.tdiv 4000 (sz b))=Int.tdiv 4000 (sz b):=w64 _ (by have:=Int.tdiv_nonneg (a:=4000) (b:=sz b) (by omega) (by omega);omega) (by have:=Int.tdiv_le_self (a:=4000) (sz b) (by omega);omega)
  have w2:IntKind.i64.wrap (Int.tdiv 4000 (sz b)+1)=Int.tdiv 4000 (sz b)+1:=w64 _ (by have:=Int.tdiv_nonneg (a:=4000) (b:=sz b) (by omega) (by omega);omega) (by have:=Int.tdiv_le_self (a:=4000) (sz b) (by omega);omega)
  simp -implicitDefEqProofs (disch:=first|omega|simp only[nx4]<;>omega|fail) [q1,q2,q3,h1]
  refine AO h64 ?_
  simp -implicitDefEqProofs (disch:=first|omega|simp only[nx4]<;>omega|fail) [hd0,w1,w2,q1,q2,q3]
  intro m hm
  by_cases htoo:Int.tdiv 4000 (sz b)+1 < occ t 0
  ·have hres:FW t b=.tup [z0.av,.int .i64 5]:=by rw [FW,if_pos ⟨h1,htoo⟩]
   rw [hres]
   have hnt:¬ occ t 0≤Int.tdiv 4000 (sz b)+1:=by omega
   simp -implicitDefEqProofs (disch:=first|omega|simp only[nx4]<;>omega|fail) [htoo,hnt,q3]
   exact⟨by simp [ACY,eS],hk2⟩
  ·have hres:FW t b=if sz (A4 b t 0)≤4000∧dw (A4 b t 0)≤200 then .tup [(A4 b t 0).av,.int .i64 0]else .tup [z0.av,.int .i64 5]:=by rw [FW,if_neg fun h=>htoo h.2]
   have hnt:occ t 0≤Int.tdiv 4000 (sz b)+1:=by omega
   simp -implicitDefEqProofs (disch:=first|omega|simp only[nx4]<;>omega|fail) [htoo,hnt]
   by_cases hlim:sz (A4 b t 0)≤4000∧dw (A4 b t 0)≤200
   ·rw [if_pos hlim]at h69 hres
    rw [hres]
    refine AA h65 fun mm3 hm3=>?_
    try simp only [nx4]at hm3
    simp -implicitDefEqProofs (disch:=first|omega|simp only[nx4]<;>omega|fail) [hfar',hle',q1,q2,q3]
    refine AA h70 fun mm4 hm4=>?_
    try simp only [nx4]at hm4
    simp -implicitDefEqProofs (disch:=first|omega|simp only[nx4]<;>omega|fail) [q1,q2,q3]
    refine AA h69 fun mm5 hm5=>?_
    try simp only [nx4]at hm5
    simp -implicitDefEqProofs (disch:=first|omega|simp only[nx4]<;>omega|fail) [q1,q2,q3]
    exact hk2
   ·rw [if_neg hlim]at h69 hres
    rw [hres]
    refine AA h65 fun mm6 hm6=>?_
    try simp only [nx4]at hm6
    simp -implicitDefEqProofs (disch:=first|omega|simp only[nx4]<;>omega|fail) [hfar',hle',q1,q2,q3]
    refine AA h70 fun mm7 hm7=>?_
    try simp only [nx4]at hm7
    simp -implicitDefEqProofs (disch:=first|omega|simp only[nx4]<;>omega|fail) [q1,q2,q3]
    refine AA h69 fun mm8 hm8=>?_
    try simp only [nx4]at hm8
    simp -implicitDefEqProofs (disch:=first|omega|simp only[nx4]<;>omega|fail) [q1,q2,q3]
    exact hk2
 ·have hres:FW t b=if sz (A4 b t 0)≤4000∧dw (A4 b t 0)≤200 then .tup [(A4 b t 0).av,.int .i64 0]else .tup [z0.av,.int .i64 5]:=by rw [FW,if_neg fun h=>h1 h.1]
  simp -implicitDefEqProofs (disch:=first|omega|simp only[nx4]<;>omega|fail) [q1,q2,q3,h1]
  intro m hm
  by_cases hlim:sz (A4 b t 0)≤4000∧dw (A4 b t 0)≤200
  ·rw [if_pos hlim]at h69 hres
   rw [hres]
   refine AA h65 fun mm9 hm9=>?_
   try simp only [nx4]at hm9
   simp -implicitDefEqProofs (disch:=first|omega|simp only[nx4]<;>omega|fail) [hfar',hle',q1,q2,q3]
   refine AA h70 fun mm10 hm10=>?_
   try simp only [nx4]at hm10
   simp -implicitDefEqProofs (disch:=first|omega|simp only[nx4]<;>omega|fail) [q1,q2,q3]
   refine AA h69 fun mm11 hm11=>?_
   try simp only [nx4]at hm11
   simp -implicitDefEqProofs (disch:=first|omega|simp only[nx4]<;>omega|fail) [q1,q2,q3]
   exact hk2
  ·rw [if_neg hlim]at h69 hres
   rw [hres]
   refine AA h65 fun mm12 hm12=>?_
   try simp only [nx4]at hm12
   simp -implicitDefEqProofs (disch:=first|omega|simp only[nx4]<;>omega|fail) [hfar',hle',q1,q2,q3]
   refine AA h70 fun mm13 hm13=>?_
   try simp only [nx4]at hm13
   simp -implicitDefEqProofs (disch:=first|omega|simp only[nx4]<;>omega|fail) [q1,q2,q3]
   refine AA h69 fun mm14 hm14=>?_
   try simp only [nx4]at hm14
   simp -implicitDefEqProofs (disch:=first|omega|simp only[nx4]<;>omega|fail) [q1,q2,q3]
   exact hk2
end Go.AL.Dm
set_option maxRecDepth 100000
namespace Go.AL.Dm
open Go Go.Proofs
-- (*damask/damaskref17.Store).node
@[simp] def AEp:Rg:=[oT 4 (.box (.g 1)),oT 6 (.alloc [i0,i0,s0,nzl,i0,i0,s0,nzl,nzl,nzl])]
@[simp] def AEq:Rg:=[oL 15 (.fa 0 (.g 4)),oT 16 (.ld (.l 15))]
@[simp] def AEr:Rg:=[oL 18 (.bin .eql (.g 16) (ci 1)),oT 17 (.mv (.l 18))]
@[simp] def AEs:Rg:=[oL 19 (.mv (.g 0)),oL 20 (.mv (.g 2)),oL 21 (.mv (.g 2)),oL 22 (.len (.l 21)),oL 23 (.bin .sub (.l 22) (ci 1)),oL 24 (.fa 1 (.g 4)),oL 25 (.ld (.l 24)),oL 26 (.bin .sub (.l 23) (.l 25)),oL 27 (.ia 1 (.l 20) (.l 26)),oL 28 (.ld (.l 27)),oL 29 (.cf 111 [(.l 19),(.l 28)]),oN (.store 10 (.g 6) (.l 29))]
@[simp] def AEt:Rg:=[oL 31 (.bin .eql (.g 16) (ci 2)),oT 30 (.mv (.l 31))]
@[simp] def AEu:Rg:=[oL 32 (.mv (.g 0)),oL 33 (.mv (.g 0)),oL 34 (.nilCheck (.l 33)),oL 35 (.fa 2 (.l 34)),oL 36 (.ld (.l 35)),oL 37 (.mv (.g 0)),oL 38 (.nilCheck (.l 37)),oL 39 (.fa 0 (.l 38)),oL 40 (.ld (.l 39)),oL 41 (.fa 2 (.g 4)),oL 42 (.ld (.l 41)),oL 43 (.ct 23 [(.l 40),(.l 42)]),oL 44 (.ia 1 (.l 36) (.l 43)),oL 45 (.ld (.l 44))]
@[simp] def AEv:Rg:=[oL 46 (.cf 111 [(.l 32),(.l 45)]),oN (.store 10 (.g 6) (.l 46))]
@[simp] def AEw:Rg:=[oL 48 (.bin .eql (.g 16) (ci 3)),oT 47 (.mv (.l 48))]
@[simp] def AEx:Rg:=[oL 49 (.fa 1 (.g 4)),oL 50 (.ld (.l 49)),oL 51 (.build [i0,i0,s0,nzl,i0,i0,s0,nzl,nzl,nzl] [(0,1,(ci 1)),(1,1,(.l 50))]),oN (.store 10 (.g 6) (.l 51))]
@[simp] def AEy:Rg:=[oL 53 (.bin .eql (.g 16) (ci 4)),oT 52 (.mv (.l 53))]
@[simp] def AEz:Rg:=[oL 54 (.fa 2 (.g 4)),oL 55 (.ld (.l 54)),oL 56 (.mv (.g 0)),oL 57 (.fa 3 (.g 4)),oL 58 (.ld (.l 57)),oL 59 (.mv (.g 2))]
@[simp] def AE0:Rg:=[]
@[simp] def AE1:Rg:=[oL 61 (.build [i0,i0,s0,nzl,i0,i0,s0,nzl,nzl,nzl] [(0,1,(ci 2)),(2,1,(.l 55)),(3,1,(.l 60))]),oN (.store 10 (.g 6) (.l 61))]
@[simp] def Zo:Rg:=[oL 63 (.bin .eql (.g 16) (ci 5)),oT 62 (.mv (.l 63))]
@[simp] def Zp:Rg:=[oL 64 (.load 5 true (.g 4)),oL 65 (.mv (.g 2)),oL 66 (.build [i0,i0,s0,nzl,i0,i0,s0,nzl,nzl,nzl] [(0,1,(ci 3)),(4,5,(.l 64)),(9,1,(.l 65))]),oN (.store 10 (.g 6) (.l 66))]
@[simp] def Zq:Rg:=[oL 68 (.bin .eql (.g 16) (ci 6)),oT 67 (.mv (.l 68))]
@[simp] def Zr:Rg:=[oL 69 (.mv (.g 0)),oL 70 (.fa 3 (.g 4)),oL 71 (.ld (.l 70)),oL 72 (.ia 5 (.l 71) (ci 0)),oL 73 (.load 5 true (.l 72)),oL 74 (.mv (.g 2)),oL 75 (.cf 79 [(.l 69),(.l 73),(.l 74)]),oT 7 (.alloc [i0,i0,s0,nzl,i0,i0,s0,nzl,nzl,nzl]),oN (.store 10 (.g 7) (.l 75))]
@[simp] def Zs:Rg:=[oL 76 (.fa 0 (.g 7)),oL 77 (.ld (.l 76)),oT 78 (.bin .neq (.l 77) (ci 3))]
@[simp] def Zt:Rg:=[oL 79 (.mv (.g 0)),oL 80 (.load 10 true (.g 7)),oL 81 (.cf 150 [(.l 79),(.l 80),(.c nzl)]),oN (.store 10 (.g 6) (.l 81))]
@[simp] def Zu:Rg:=[oL 82 (.mv (.g 0)),oL 83 (.load 10 true (.g 7)),oL 84 (.mv (.g 0)),oL 85 (.fa 3 (.g 4)),oL 86 (.ld (.l 85)),oL 87 (.slice 5 (.l 86) (some (ci 1)) none none),oL 88 (.mv (.g 2))]
@[simp] def Zv:Rg:=[]
@[simp] def Zw:Rg:=[oL 90 (.cf 150 [(.l 82),(.l 83),(.l 89)]),oN (.store 10 (.g 6) (.l 90))]
@[simp] def Zx:Rg:=[oL 92 (.bin .eql (.g 16) (ci 7)),oT 91 (.mv (.l 92))]
@[simp] def Zy:Rg:=[oL 93 (.fa 3 (.g 4)),oL 94 (.ld (.l 93)),oL 95 (.len (.l 94)),oL 96 (.bin .sub (.l 95) (ci 1)),oT 8 (.mv (.l 96))]
@[simp] def Zz:Rg:=[oL 97 (.mv (.g 0)),oL 98 (.nilCheck (.l 97)),oL 99 (.fa 1 (.l 98)),oL 100 (.ld (.l 99)),oL 101 (.len (.l 100)),oT 9 (.mv (.l 101))]
@[simp] def Z0:Rg:=[oT 10 (.mv (.c nzl))]
@[simp] def Z1:Rg:=[oT 11 (.mv (ci 0))]
@[simp] def Z2:Rg:=[oL 102 (.mv (.g 11)),oL 103 (.mv (.g 8)),oT 104 (.bin .lss (.l 102) (.l 103))]
@[simp] def Z3:Rg:=[oL 107 (.mv (.g 10)),oL 108 (.mv (.g 9)),oL 109 (.mv (.g 11)),oL 110 (.bin .add (.l 108) (.l 109)),oL 111 (.buildSlice 1 false [i0] 1 [(0,(.l 110))]),oL 112 (.append 1 8 (.l 107) (.l 111)),oT 10 (.mv (.l 112))]
@[simp] def Z4:Rg:=[oL 105 (.mv (.g 11)),oL 106 (.bin .add (.l 105) (ci 1)),oT 11 (.mv (.l 106))]
@[simp] def Z5:Ae:=(.seq (.seq (rq Z2) (.cond (.g 104) .skip (.exit 1))) (.seq (.block 2 (rq Z3)) (rq Z4)))
@[simp] def Z6:Rg:=[oL 113 (.mv (.g 2)),oL 114 (.mv (.g 10)),oL 115 (.cf 151 [(.l 113),(.l 114)]),oT 12 (.mv (.l 115))]
@[simp] def Z7:Rg:=[oT 13 (.mv (ci 0))]
@[simp] def Z8:Rg:=[oL 116 (.mv (.g 13)),oL 117 (.mv (.g 8)),oT 118 (.bin .lss (.l 116) (.l 117))]
@[simp] def Z9:Rg:=[oL 121 (.mv (.g 0)),oL 122 (.fa 3 (.g 4)),oL 123 (.ld (.l 122)),oL 124 (.mv (.g 13)),oL 125 (.ia 5 (.l 123) (.l 124)),oL 126 (.load 5 true (.l 125)),oL 127 (.mv (.g 12)),oL 128 (.cf 110 [(.l 121),(.l 126),(.l 127)])]
@[simp] def AAA:Rg:=[oL 119 (.mv (.g 13)),oL 120 (.bin .add (.l 119) (ci 1)),oT 13 (.mv (.l 120))]
@[simp] def AAB:Ae:=(.seq (.seq (rq Z8) (.cond (.g 118) .skip (.exit 3))) (.seq (.block 4 (rq Z9)) (rq AAA)))
@[simp] def AAC:Rg:=[oL 129 (.mv (.g 0)),oL 130 (.fa 3 (.g 4)),oL 131 (.ld (.l 130)),oL 132 (.mv (.g 8)),oL 133 (.ia 5 (.l 131) (.l 132)),oL 134 (.load 5 true (.l 133)),oL 135 (.mv (.g 12)),oL 136 (.cf 79 [(.l 129),(.l 134),(.l 135)]),oN (.store 10 (.g 6) (.l 136))]
@[simp] def AAD:Rg:=[oL 138 (.bin .eql (.g 16) (ci 8)),oT 137 (.mv (.l 138))]
@[simp] def AAE:Rg:=[oL 139 (.mv (.g 0)),oL 140 (.fa 3 (.g 4)),oL 141 (.ld (.l 140)),oL 142 (.ia 5 (.l 141) (ci 0)),oL 143 (.load 5 true (.l 142)),oL 144 (.mv (.g 2)),oL 145 (.cf 79 [(.l 139),(.l 143),(.l 144)]),oT 14 (.alloc [i0,i0,s0,nzl,i0,i0,s0,nzl,nzl,nzl]),oN (.store 10 (.g 14) (.l 145))]
@[simp] def AAF:Rg:=[oL 146 (.load 10 true (.g 14)),oL 147 (.cf 152 [(.l 146)]),oL 148 (.un .not (.l 147)),oL 149 (.mv (.l 148)),oLf 150 (.mv (.g 0)) 149,oLf 151 (.nilCheck (.l 150)) 149,oLf 152 (.fa 5 (.l 151)) 149,oLf 153 (.ld (.l 152)) 149,oLf 154 (.bin .neq (.l 153) (ci 0)) 149,oT 155 (.pick (.l 149) cT (.l 154))]
@[simp] def AAG:Rg:=[oL 156 (.load 10 true (.g 14)),oN (.store 10 (.g 6) (.l 156))]
@[simp] def AAH:Rg:=[oL 157 (.mv (.g 0)),oL 158 (.load 10 true (.g 14)),oL 159 (.fa 4 (.g 4)),oL 160 (.ld (.l 159)),oL 161 (.mv (.g 2)),oL 162 (.cf 153 [(.l 157),(.l 158),(.l 160),(.l 161)]),oN (.store 10 (.g 6) (.l 162))]
@[simp] def AAI:Rg:=[oL 163 (.mv (.g 0)),oL 164 (.load 5 true (.g 4)),oL 165 (.mv (.g 2)),oL 166 (.cf 154 [(.l 163),(.l 164),(.l 165)]),oN (.store 10 (.g 6) (.l 166))]
@[simp] def AIm:Ae:=(.seq (.reg false AEp) (.seq (.seq (.reg false AEq) (.block 0 (.seq (.reg false AEr) (.cond (.g 17) (.seq (.reg false AEs) .ret) (.seq (.reg false AEt) (.cond (.g 30) (.seq (.YR AEu AEv) .ret) (.seq (.reg false AEw) (.cond (.g 47) (.seq (.reg false AEx) .ret) (.seq (.reg false AEy) (.cond (.g 52) (.seq (.U1 AEz [.fieldAddr 2 (.g 4),.load 1 false (.l 54)] ⟨some (false,60),.call false (.c (.fn 149 [] [])) [(.l 56),(.l 58),(.l 59)],none,[]⟩ AE0 AE1) .ret) (.seq (.reg false Zo) (.cond (.g 62) (.seq (.reg false Zp) .ret) (.seq (.reg false Zq) (.cond (.g 67) (.seq (.reg false Zr) (.seq (.seq (.reg false Zs) (.cond (.g 78) (.seq (.reg false Zt) .ret) .skip)) (.seq (.U1 Zu [.mv (.g 0),.load 10 true (.g 7)] ⟨some (false,89),.call false (.c (.fn 149 [] [])) [(.l 84),(.l 87),(.l 88)],none,[]⟩ Zv Zw) .ret))) (.seq (.reg false Zx) (.cond (.g 91) (.seq (.reg false Zy) (.seq (.reg false Zz) (.seq (.reg false Z0) (.seq (.seq (.reg false Z1) (.block 1 (.loop Z5))) (.seq (.reg false Z6) (.seq (.seq (.reg false Z7) (.block 3 (.loop AAB))) (.seq (.reg false AAC) .ret))))))) (.seq (.reg false AAD) (.cond (.g 137) (.seq (.reg false AAE) (.seq (.seq (.reg false AAF) (.cond (.g 155) (.seq (.reg false AAG) .ret) .skip)) (.seq (.reg false AAH) .ret))) .skip)))))))))))))))))) (.seq (.reg false AAI) .ret)))
@[simp] def AIn:F7:=⟨3,167,AIm,[.cell (true,6) 10 true]⟩
theorem AKg:A7 Tryz.prog [0,1,2,4,6,7,8,9,10,11,12,13,14,16,17,30,47,52,62,67,78,91,104,118,137,155,6000000999999,10000900000006,17000900000007] Tryz.f113=some AIn:=by kernel_rfl
def Gi:CF [0,1,2,4,6,7,8,9,10,11,12,13,14,16,17,30,47,52,62,67,78,91,104,118,137,155,6000000999999,10000900000006,17000900000007] Tryz.f113:=⟨AIn,AKg⟩
end Go.AL.Dm
set_option maxHeartbeats 4000000
namespace Go.AL.Dm
open Go Go.Proofs
def E6 (p:List Gl):List Nat:=List.range p.length
def EvC (p:List Gl) (d:Int) (ev:Evf):Prop:=∀ (xo oc:Nat) (σ:Sg) (s:St) (e:Pl) (env:List Nat),Sto p (E6 p) xo oc σ d s→OKs p σ→okE p e env σ.cells.length →
 AB Tryz.prog 79 [.ptr xo 0,e.av,.list 1 .none (nl env)] s fun r s'=>r=(ev e env σ).1.av∧GX p (E6 p) xo oc (ev e env σ).2 d s s'
theorem TK (k n:Int) (s:ByteArray) (l:List Nat) (c:Pl) (env:List Nat):(ocs k n s l c env).length=10:=rfl
theorem OO:∀ (l:List Ce) (c:Nat),(flat (l.map Ce.av)).take (c * 17)=flat ((l.take c).map Ce.av)∧(flat (l.map Ce.av)).drop (c * 17)=flat ((l.drop c).map Ce.av)
 | [],c=>by simp
 | x::l,0=>by simp
 | x::l,c+1=>by
  obtain⟨h1,h2⟩:=OO l c
  have hx:=x.H8
  have e:(c+1) * 17=x.cs.length+c * 17:=by omega
  simp only [List.map_cons,CD,List.take_succ_cons,List.drop_succ_cons]
  show List.take _ (x.cs++_)=x.cs++_∧List.drop _ (x.cs++_)=_
  rw [e,List.take_length_add_append,List.drop_length_add_append,h1,h2]
  exact⟨rfl,rfl⟩
theorem AAJ {l:List Ce} {c:Nat} {x:Ce} (h:l[c]?=some x):((flat (l.map Ce.av)).drop (c * 17)).take 17=x.cs:=by
 obtain⟨hc,rfl⟩:=List.getElem?_eq_some_iff.1 h
 rw [(OO l c).2,List.drop_eq_getElem_cons hc,List.map_cons,CD]
 show List.take 17 (l[c].cs++_)=_
 rw [← l[c].H8,List.take_left]
theorem P6 {l:List Ce} {c:Nat} (x:Ce) (hc:c < l.length):flat ((l.set c x).map Ce.av)=(flat (l.map Ce.av)).take (c * 17)++(x.cs++(flat (l.map Ce.av)).drop (c * 17+17)):=by
 have e:c * 17+17=(c+1) * 17:=by omega
 rw [e,(OO l c).1,(OO l (c+1)).2,List.set_eq_take_append_cons_drop,if_pos hc,List.map_append,CH,List.map_cons,CD]
 rfl
theorem AE2 {p:List Gl} {d:Int} {ev:Evf} (hev:EvC p d ev) {xo oc:Nat} {σ:Sg} {s:St} {e:Pl} {env:List Nat} {bs:List AV} (h1:s.m xo=some (.box [.list 6 .none (p.map Gl.av),.Ag 17 oc 0 σ.cells.length,.list 1 .none (nl (E6 p)),.int .i64 σ.steps,.int .i64 d,.int .i64 σ.err]))
  (h2:s.m oc=some (.box bs)) (hw:wkL bs (flat (σ.cells.map Ce.av))) (h3:xo≠oc) (hσ:OKs p σ) (he:okE p e env σ.cells.length) :
  AB Tryz.prog 79 [.ptr xo 0,e.av,.list 1 .none (nl env)] s fun r s'=>r=(ev e env σ).1.av∧GX p (E6 p) xo oc (ev e env σ).2 d s s':=by
 refine AB.pre (s1:=s.set oc (.box (flat (σ.cells.map Ce.av)))) (Nat.le_refl _) (fun o ob ho=>?_) (fun o ob ho=>?_) (AB.mono (hev xo oc σ _ e env ⟨by rw [St.Bq _ _ _ _ h3];exact h1,St.EK _ _ _,h3⟩ hσ he) fun r s' hn ⟨hr,oc',k1,k2,k3⟩=>⟨hr,oc',k1,k2,fun q a b c=>?_⟩)
 ·by_cases e:o=oc
  ·subst e
   rw [St.EK]at ho
   cases ho
   exact .inr (.inl ⟨bs,_,h2,rfl,N0 hw⟩)
  ·rw [St.Bq _ _ _ _ e]at ho
   exact .inl ho
 ·by_cases e:o=oc
  ·subst e;exact⟨_,St.EK _ _ _⟩
  ·exact⟨ob,by rw [St.Bq _ _ _ _ e];exact ho⟩
 ·rw [k3 q a b c,St.Bq _ _ _ _ c]
theorem AIo {p:List Gl} {d:Int} {ev:Evf} (hok:EU p ev) (hev:EvC p d ev) {xo oc:Nat} {σ:Sg} {s:St} (h:Sto p (E6 p) xo oc σ d s) (hσ:OKs p σ) {c:Nat} (hc:c < σ.cells.length) :
  AB Tryz.prog 111 [.ptr xo 0,.int .i64 c] s fun r s'=>r=(CT ev c σ).1.av∧GX p (E6 p) xo oc (CT ev c σ).2 d s s':=by
 refine AB.bnd Tryz.call111 fun hbd=>?_
 have hx:=hbd _ _ h.1
 have ho:=hbd _ _ h.2.1
 obtain⟨h1,h2,h3⟩:=id h
 have hf:=Fx σ.cells
 obtain⟨x,hxc⟩:∃ x,σ.cells[c]?=some x:=⟨_,List.getElem?_eq_getElem hc⟩
 have hl:=AAJ hxc
 have hc':(c:Int) < σ.cells.length:=by omega
 cases x with
 | done o =>
  refine AB.res (AD mixed Tryz.func111 Tryz.call111 Ui.2 rfl (AE _ _ _ _ ?_))
  have e1:CT ev c σ=(o,σ):=by rw [CT,hxc]
  rw [e1]
  simp -implicitDefEqProofs (disch:=first|omega|simp only[nx4]<;>omega|fail) [Ui,h1,h2,h3,hf,hl,hc',Ce.cs,ccs]
  exact⟨_,AS _,rfl,.refl h hx ho smz⟩
 | busy =>
  refine AB.res (AD mixed Tryz.func111 Tryz.call111 Ui.2 rfl (AE _ _ _ _ ?_))
  have e1:CT ev c σ=(.thr (-3),σ):=by rw [CT,hxc]
  rw [e1]
  simp -implicitDefEqProofs (disch:=first|omega|simp only[nx4]<;>omega|fail) [Ui,h1,h2,h3,hf,hl,hc',Ce.cs,ccs,TK]
  refine AA (AE3 (-3)) fun mm1 hm1=>?_
  try simp only [nx4]at hm1
  simp -implicitDefEqProofs (disch:=first|omega|simp only[nx4]<;>omega|fail)
  exact⟨_,AS _,rfl,.refl h hx ho smz⟩
 | hold e env =>
  have hce:=hσ.ce _ (List.mem_of_getElem? hxc)
  have hpl:(σ.put c .busy).cells.length=σ.cells.length:=by simp [Sg.put]
  have e1:CT ev c σ=((ev e env (σ.put c .busy)).1,(ev e env (σ.put c .busy)).2.put c (.done (ev e env (σ.put c .busy)).1)):=by rw [CT,hxc]
  have hr:=hok e env (σ.put c .busy) (hσ.put (x:=.busy) trivial) (by rw [hpl];exact hce)
  rw [e1]
  refine Lj (AD mixed Tryz.func111 Tryz.call111 Ui.2 rfl (AE _ _ _ _ ?_)) ho
  simp -implicitDefEqProofs (disch:=first|omega|simp only[nx4]<;>omega|fail) [Ui,h1,h2,h3,hf,hl,hc',Ce.cs,ccs,TK]
  refine AH (Bh (AE2 hev (σ:=σ.put c .busy) ?_ (St.EK _ _ _) ?_ h3 (hσ.put (x:=.busy) trivial) (by rw [hpl];exact hce)) fun r s' hn hbd' h=>AW ?_)
  ·rw [St.Bq _ _ _ _ h3]
   simp -implicitDefEqProofs (disch:=first|omega|simp only[nx4]<;>omega|fail) [h1,hpl]
   exact⟨rfl,rfl⟩
  ·rw [Sg.put,P6 _ hc]
   refine I1 (b:=_::_) ?_ _
   simp [Ce.cs,ccs,ocs,z0,eS,Pl.op,Pl.n,Pl.s,Pl.args,Pl.alts]
  obtain⟨rfl,oc2,⟨j1,j2,j3⟩,k2,k3⟩:=h
  have hx2:=hbd' _ _ j1
  have ho2:=hbd' _ _ j2
  have hlen:=hr.len
  rw [hpl]at hlen
  generalize ev e env (σ.put c .busy)=r at hr j1 j2 hlen
  obtain⟨o,τ⟩:=r
  simp only at j1 j2 hlen
  have hf2:=Fx τ.cells
  have hc2:(c:Int) < τ.cells.length:=by omega
  have hc3:c < τ.cells.length:=by omega
  have q1:=k3 s.nx soz (by omega) (by omega)
  simp -implicitDefEqProofs (disch:=first|omega|simp only[nx4]<;>omega|fail)at q1
  have hn2:s.nx+1+1≤s'.nx:=by simpa using hn
  have k2':oc2=oc∨s.nx+1+1≤oc2:=by simpa using k2
  have hoc2:s.nx≠oc2:=by omega
  simp -implicitDefEqProofs (disch:=first|omega|simp only[nx4]<;>omega|fail) [j1,j2,j3,hf2,hc2,hc3]
  intro m hm
  simp -implicitDefEqProofs (disch:=first|omega|simp only[nx4]<;>omega|fail) [q1,hoc2]
  refine⟨AS _,oc2,?bs,?h1,?h2,?h3,fun e=>j3 e,by omega,fun q a b e=>?h4⟩
  case h1 =>
   rw [St.Bq _ _ _ _ (Ne.symm hoc2)]
   exact St.EK _ _ _
  case h2=>rw [j1];simp [Sg.put]
  case h3 =>
   rw [Sg.put,P6 _ hc3]
   refine I1 (b:=_::_) ?_ _
   simp [Ce.cs,ccs,ocs,z0,eS,Pl.op,Pl.n,Pl.s,Pl.args,Pl.alts]
  case h4 =>
   have e1:q≠oc2:=by omega
   have e2:=k3 q soz b e
   simp -implicitDefEqProofs (disch:=first|omega|simp only[nx4]<;>omega|fail) [e,e1]at e2
   rw [St.Bq _ _ _ _ (by omega)]
   simp -implicitDefEqProofs (disch:=first|omega|simp only[nx4]<;>omega|fail) [e,e1,e2]
end Go.AL.Dm
set_option maxRecDepth 100000
namespace Go.AL.Dm
open Go Go.Proofs
-- (*damask/damaskref17.Store).apply
def Uj:CF [0,1,2,4,6,7,8,9,19,23,35,55,11000000999998,14000000999999] Tryz.f150:=by
 refine⟨?_,?_⟩;rotate_left;cbv;rfl
-- (*damask/damaskref17.Store).choose
def AIp:CF [0,1,2,3,5,8,9,10,11,12,16,69,76,11000000999999] Tryz.f153:=by
 refine⟨?_,?_⟩;rotate_left;cbv;rfl
-- (*damask/damaskref17.Store).prim
def AAK:CF [0,1,2,4,6,7,8,9,10,14,27,32,35,63,86,95,11000900000006] Tryz.f154:=by
 refine⟨?_,?_⟩;rotate_left;cbv;rfl
end Go.AL.Dm
set_option maxHeartbeats 4000000
namespace Go.AL.Dm
open Go Go.Proofs
theorem AAL (l:List Nat) (n:Nat):(nl l).take n=nl (l.take n):=by simp [nl]
theorem AAM (l:List Nat) (n:Nat):(nl l).drop n=nl (l.drop n):=by simp [nl]
theorem AE4 {p:List Gl} {d:Int} {ev:Evf} (hok:EU p ev) (hev:EvC p d ev):∀ (m:Nat) {xo oc:Nat} {σ:Sg} {s:St} {f:Ot} {l:List Nat} (_:Sto p (E6 p) xo oc σ d s) (_:OKs p σ) (_:okO p f σ.cells.length) (_:∀ c∈l,c < σ.cells.length) (_:l.length < m) (_:l.length≤1000),
  AB Tryz.prog 150 [.ptr xo 0,f.av,.list 1 .none (nl l)] s fun r s'=>r=(BQ ev m f l σ).1.av∧GX p (E6 p) xo oc (BQ ev m f l σ).2 d s s'
 | 0,xo,oc,σ,s,f,l,h,hσ,hf,hl,hm,hln=>by omega
 | m+1,xo,oc,σ,s,f,l,h,hσ,hf,hl,hm,hln=>by
  refine AB.bnd Tryz.call150 fun hbd=>?_
  have hx:=hbd _ _ h.1
  have ho:=hbd _ _ h.2.1
  obtain⟨h1,h2,h3⟩:=id h
  have h152:=Xa f
  have h112:=AAN
  refine AB.res (AD mixed Tryz.func150 Tryz.call150 Uj.2 rfl (AE _ _ _ _ ?_))
  by_cases hend:f.val=false∨σ.err≠0
  ·have e1:BQ ev (m+1) f l σ=(f,σ):=Eh ev (m+1) f l σ hend.symm
   rw [e1]
   by_cases hv:f.val=false
   ·rw [hv]at h152
    simp -implicitDefEqProofs (disch:=first|omega|simp only[nx4]<;>omega|fail) [Uj,h1]
    refine AA h152 fun mm1 hm1=>?_
    try simp only [nx4]at hm1
    simp -implicitDefEqProofs (disch:=first|omega|simp only[nx4]<;>omega|fail) [Ot.agg]
    exact⟨_,AS _,rfl,.refl h hx ho smz⟩
   ·have hv':f.val=true:=by simpa using hv
    have he:σ.err≠0:=hend.resolve_left hv
    rw [hv']at h152
    simp -implicitDefEqProofs (disch:=first|omega|simp only[nx4]<;>omega|fail) [Uj,h1]
    refine AA h152 fun mm2 hm2=>?_
    try simp only [nx4]at hm2
    simp -implicitDefEqProofs (disch:=first|omega|simp only[nx4]<;>omega|fail) [Ot.agg,h1,he]
    exact⟨_,AS _,rfl,.refl h hx ho smz⟩
  ·simp only [not_or,Bool.not_eq_false,ne_eq,Decidable.not_not]at hend
   obtain⟨hv,he⟩:=hend
   rw [hv]at h152
   by_cases hfn:∃ c env l0,f=.fn c env l0
   ·obtain⟨c,env,l0,rfl⟩:=hfn
    obtain⟨o5,hc,hl0,hln0⟩:=id hf
    have hnd:=(A5 hc.wf).1.lam o5
    have hcn:i64 c.n:=by unfold i64;omega
    have hall:∀ x∈l0++l,x < σ.cells.length:=fun x hx=>(List.mem_append.1 hx).elim (hl0 x) (hl x)
    have h151:=Xb l0 l (by omega)
    have e0:=Jh ev m c env l0 l σ
    rw [if_neg (by simp [he])]at e0
    have hL1:(l0++l).length=l0.length+l.length:=List.length_append
    generalize hR:BQ ev (m+1) (.fn c env l0) l σ=R at e0 ⊢
    clear hR
    generalize hL:l0++l=L at e0 h151 hall hL1
    obtain⟨b,hb⟩:=GY hnd.2.2
    have hel:=hc.bd
    have hdw:=BA c
    by_cases hlt:(L.length:Int) < c.n
    ·rw [if_pos hlt]at e0
     subst e0
     simp -implicitDefEqProofs (disch:=first|omega|simp only[nx4]<;>omega|fail) [Uj,h1]
     refine AA h152 fun mm3 hm3=>?_
     try simp only [nx4]at hm3
     simp -implicitDefEqProofs (disch:=first|omega|simp only[nx4]<;>omega|fail) [h1,he,Ot.cs,ocs]
     refine AA h151 fun mm4 hm4=>?_
     try simp only [nx4]at hm4
     simp -implicitDefEqProofs (disch:=first|omega|simp only[nx4]<;>omega|fail) [hlt]
     exact⟨_,AS _,rfl,.refl h hx ho smz⟩
    ·rw [if_neg hlt,hb,List.headD_cons]at e0
     have hcl:((L.take c.n.toNat).length:Int)=inn c:=by rw [List.length_take];simp [inn,o5];omega
     have hbody:=hc.arg (more:=L.take c.n.toNat) (m':=σ.cells.length) (by omega) (x:=b) (by rw [hb];simp) hcl (Nat.le_refl _) fun x hx=>hall x (List.mem_of_mem_take hx)
     have h151b:=Xb env (L.take c.n.toNat) (by rw [List.length_take];omega)
     have hr:=hok b (env++L.take c.n.toNat) σ hσ hbody
     have hge:c.n≤(L.length:Int):=by omega
     have w1:([b.av][0]?).getD AV.any=b.av:=rfl
     simp -implicitDefEqProofs (disch:=first|omega|simp only[nx4]<;>omega|fail) [Uj,h1]
     refine AA h152 fun mm5 hm5=>?_
     try simp only [nx4]at hm5
     simp -implicitDefEqProofs (disch:=first|omega|simp only[nx4]<;>omega|fail) [h1,he,Ot.cs,ocs]
     refine AA h151 fun mm6 hm6=>?_
     try simp only [nx4]at hm6
     simp -implicitDefEqProofs (disch:=first|omega|simp only[nx4]<;>omega|fail) [hlt,hge,hb,AAL,w1]
     refine AO h151b ?_
     simp -implicitDefEqProofs (disch:=first|omega|simp only[nx4]<;>omega|fail)
     intro m5 hm5
     refine AH (Bh (hev xo oc σ _ b _ (h.mv smz smz) hσ hbody) fun r s' hn hbd' h'=>AW ?_)
     obtain⟨rfl,oc2,hS2,k2,k3⟩:=h'
     have hx2:=hbd' _ _ hS2.1
     have ho2:=hbd' _ _ hS2.2.1
     generalize ev b (env++L.take c.n.toNat) σ=r at *
     obtain⟨o,τ⟩:=r
     have q1:=k3 s.nx soz (by omega) (by omega)
     have q2:=k3 (s.nx+1) soz (by omega) (by omega)
     have q3:=k3 mm6 soz (by omega) (by omega)
     simp -implicitDefEqProofs (disch:=first|omega|simp only[nx4]<;>omega|fail)at q1 q2 q3
     simp -implicitDefEqProofs (disch:=first|omega|simp only[nx4]<;>omega|fail)at hn k2
     simp -implicitDefEqProofs (disch:=first|omega|simp only[nx4]<;>omega|fail) [q1,q2,q3]
     refine⟨fun hq=>?_,fun hq m7 hm7=>?_⟩
     ·rw [if_pos hq]at e0
      subst e0
      exact⟨_,AS _,rfl,oc2,hS2.mv smz smz,by omega,fun q a b c=>by
       have e1:=k3 q soz b c
       simp -implicitDefEqProofs (disch:=first|omega|simp only[nx4]<;>omega|fail)at e1
       simp -implicitDefEqProofs (disch:=first|omega|simp only[nx4]<;>omega|fail) [e1]⟩
     ·rw [if_neg hq]at e0
      subst e0
      rw [AAM]
      have hdl:(L.drop c.n.toNat).length=L.length - c.n.toNat:=List.length_drop
      refine AH (Bh (AE4 hok hev m (xo:=xo) (oc:=oc2) (σ:=τ) (f:=o) (l:=L.drop c.n.toNat) (hS2.mv smz smz) hr.ok hr.out (fun x hx=>Nat.lt_of_lt_of_le (hall x (List.mem_of_mem_drop hx)) hr.len) (by omega) (by omega)) fun r s3 hn3 hbd3 h3'=>AW ?_)
      obtain⟨rfl,oc3,hS3,k5,k6⟩:=h3'
      simp -implicitDefEqProofs (disch:=first|omega|simp only[nx4]<;>omega|fail)at hn3 k5
      have q4:=k6 (s.nx+1) soz (by omega) (by omega)
      simp -implicitDefEqProofs (disch:=first|omega|simp only[nx4]<;>omega|fail)at q4
      simp -implicitDefEqProofs (disch:=first|omega|simp only[nx4]<;>omega|fail) [q4,q2]
      exact⟨_,AS _,rfl,oc3,hS3.mv smz smz,by omega,fun q a b c=>by
       have e1:=k3 q soz b c
       have e2:=k6 q soz b (by omega)
       simp -implicitDefEqProofs (disch:=first|omega|simp only[nx4]<;>omega|fail)at e1 e2
       simp -implicitDefEqProofs (disch:=first|omega|simp only[nx4]<;>omega|fail) [e1,e2]⟩
   ·have e1:BQ ev (m+1) f l σ=(.Bi,σ):=by
     cases f with
     | fn c env l=>exact absurd ⟨_,_,_,rfl⟩ hfn
     | _=>rw [BQ.eq_def];simp_all [Ot.val]
    rw [e1]
    have hk:∃ k n t l c env,f.cs=ocs k n t l c env∧k≠3:=by
     cases f with
     | fn c env l=>exact absurd ⟨_,_,_,rfl⟩ hfn
     | _=>refine⟨_,_,_,_,_,_,rfl,?_⟩;decide
    obtain⟨k,n,t,l',c,env,hcs,hk⟩:=hk
    simp -implicitDefEqProofs (disch:=first|omega|simp only[nx4]<;>omega|fail) [Uj,h1]
    refine AA h152 fun mm7 hm7=>?_
    try simp only [nx4]at hm7
    simp -implicitDefEqProofs (disch:=first|omega|simp only[nx4]<;>omega|fail) [Ot.agg,h1,he,hcs,ocs,hk]
    refine AA h112 fun mm8 hm8=>?_
    try simp only [nx4]at hm8
    simp -implicitDefEqProofs (disch:=first|omega|simp only[nx4]<;>omega|fail) [Ot.agg]
    exact⟨_,AS _,rfl,.refl h hx ho smz⟩
end Go.AL.Dm
set_option maxHeartbeats 4000000
namespace Go.AL.Dm
open Go Go.Proofs
theorem Xc (n:Int):(Ot.int n).cs=ocs 1 n eS [] z0 []:=rfl
def AIq (r:Ot × Sg):Ot × Sg:=match r.1 with
 | .int n=>(.thr n,r.2)
 | o=>(if o.val then .Bi else o,r.2)
def AE5 (k:Int) (o o2:Ot) (τ:Sg):Ot × Sg:=match o,o2 with
 | .int a,.int b=>(HV k a b,τ)
 | _,_=>(.Bi,τ)
def Xd (k:Int) (r:Ot × Sg) (g:Sg→Ot × Sg):Ot × Sg :=
 if r.1.val=false∨r.2.err≠0 then r
 else if k=8∨(g r.2).1.val=false∨(g r.2).2.err≠0 then g r.2
 else AE5 k r.1 (g r.2).1 (g r.2).2
theorem TL {o:Ot} (h:∀ n,o≠.int n):∃ k:Int,k≠1∧∀ S K,GW o.cs S K=K (.int .i64 k) S:=by
 cases o with
 | int n=>exact absurd rfl (h n)
 | _=>refine⟨_,?_,fun _ _=>rfl⟩;decide
theorem P7 {k:Int} {o o2:Ot} {τ:Sg} (h:(∀ n,o≠.int n)∨∀ n,o2≠.int n):AE5 k o o2 τ=(.Bi,τ):=by
 cases o <;> cases o2 <;> first | rfl | simp at h
theorem AKh {p:List Gl} {d:Int} {ev:Evf} (hok:EU p ev) (hev:EvC p d ev) {xo oc:Nat} {σ:Sg} {s:St} {e:Pl} {env:List Nat} (h:Sto p (E6 p) xo oc σ d s) (hσ:OKs p σ) (he:okE p e env σ.cells.length) (o9:e.op=9) (hb:σ.cells.length+13≤400+13 * σ.steps) :
  AB Tryz.prog 154 [.ptr xo 0,e.av,.list 1 .none (nl env)] s fun r s'=>r=(FI ev e env σ).1.av∧GX p (E6 p) xo oc (FI ev e env σ).2 d s s':=by
 refine AB.bnd Tryz.call154 fun hbd=>?_
 have hx:=hbd _ _ h.1
 have ho:=hbd _ _ h.2.1
 obtain⟨h1,h2,h3⟩:=id h
 have hnd:=(A5 he.wf).1
 obtain⟨k,hk,hkl⟩:=hnd.prm o9
 have hi:inn e=0:=by simp [inn,o9]
 have o1:e.op≠1:=by omega
 have h56:=p56 e.s
 have h56t:=p56 BZ
 rw [H9]at h56t
 have h112:=AAN
 refine AB.res (AD mixed Tryz.func154 Tryz.call154 AAK.2 rfl (AE _ _ _ _ ?_))
 by_cases h9:Ab e.s=9
 ·have hs:e.s=⟨#[116,104,114,111,119]⟩:=Jb.2 h9
  obtain⟨x,r,hxr⟩:∃ x r,e.args=x::r:=by
   cases hc:e.args with
   | nil =>
    rw [hc]at hkl
    have:=hk
    rw [arI,h9]at this
    simp [ars]at this
    simp at hkl
    omega
   | cons x r=>exact⟨x,r,rfl⟩
  have hxo:okE p x env σ.cells.length:=he.E7 o1 hi (by rw [hxr];simp) (Nat.le_refl _)
  have hr:=hok x env σ hσ hxo
  have e1:FI ev e env σ=AIq (ev x env σ):=by
   rw [FI];simp only [h9,if_true,hxr,List.headD_cons]
   generalize ev x env σ=r
   obtain⟨o,τ⟩:=r
   cases o <;> rfl
  have w1:((x.av::List.map Pl.av r)[0]?).getD AV.any=x.av:=rfl
  rw [e1]
  simp -implicitDefEqProofs (disch:=first|omega|simp only[nx4]<;>omega|fail) [AAK]
  refine AA h56 fun mm1 hm1=>?_
  try simp only [nx4]at hm1
  simp -implicitDefEqProofs (disch:=first|omega|simp only[nx4]<;>omega|fail) [hs,hxr,w1]
  refine AH (Bh (hev xo oc σ _ x env (h.mv smz smz) hσ hxo) fun r s' hn hbd' h'=>AW ?_)
  obtain⟨rfl,oc2,hS2,k2,k3⟩:=h'
  have hx2:=hbd' _ _ hS2.1
  have ho2:=hbd' _ _ hS2.2.1
  generalize ev x env σ=r at *
  obtain⟨o,τ⟩:=r
  have q1:=k3 s.nx soz (by omega) (by omega)
  have q2:=k3 (s.nx+1) soz (by omega) (by omega)
  simp -implicitDefEqProofs (disch:=first|omega|simp only[nx4]<;>omega|fail)at q1 q2
  simp -implicitDefEqProofs (disch:=first|omega|simp only[nx4]<;>omega|fail)at hn k2
  by_cases hint:∃ n,o=.int n
  ·obtain⟨n,rfl⟩:=hint
   simp -implicitDefEqProofs (disch:=first|omega|simp only[nx4]<;>omega|fail) [q1,q2,Ot.cs,ocs]
   refine AA (AE3 n) fun mm2 hm2=>?_
   try simp only [nx4]at hm2
   simp -implicitDefEqProofs (disch:=first|omega|simp only[nx4]<;>omega|fail) [q1,q2,Ot.agg]
   exact⟨_,AS _,rfl,oc2,hS2.mv smz smz,by omega,fun q a b c=>by
    have e0:=k3 q soz (by omega) (by omega)
    simp -implicitDefEqProofs (disch:=first|omega|simp only[nx4]<;>omega|fail)at e0
    simp -implicitDefEqProofs (disch:=first|omega|simp only[nx4]<;>omega|fail) [e0]⟩
  ·obtain⟨k,n,t,l',c,en,hcs,hk⟩:∃ k n t l c env,o.cs=ocs k n t l c env∧k≠1:=by
    cases o with
    | int n=>exact absurd ⟨_,rfl⟩ hint
    | _=>refine⟨_,_,_,_,_,_,rfl,?_⟩;decide
   have hk1:∀ S K,GW o.cs S K=K (.int .i64 k) S:=fun _ _=>by rw [hcs];rfl
   have e2:AIq (o,τ)=(if o.val then .Bi else o,τ):=by
    cases o with
    | int n=>exact absurd ⟨_,rfl⟩ hint
    | _=>rfl
   rw [e2]
   simp -implicitDefEqProofs (disch:=first|omega|simp only[nx4]<;>omega|fail) [q1,q2,hk1,hk]
   refine AA (Xa o) fun mm3 hm3=>?_
   try simp only [nx4]at hm3
   simp -implicitDefEqProofs (disch:=first|omega|simp only[nx4]<;>omega|fail) [q1,q2,Ot.agg]
   refine⟨fun hv=>?_,fun hv=>?_⟩
   ·rw [if_pos hv]
    refine AA h112 fun mm4 hm4=>?_
    try simp only [nx4]at hm4
    simp -implicitDefEqProofs (disch:=first|omega|simp only[nx4]<;>omega|fail) [q1,q2,Ot.agg]
    exact⟨_,AS _,rfl,oc2,hS2.mv smz smz,by omega,fun q a b c=>by
     have e0:=k3 q soz (by omega) (by omega)
     simp -implicitDefEqProofs (disch:=first|omega|simp only[nx4]<;>omega|fail)at e0
     simp -implicitDefEqProofs (disch:=first|omega|simp only[nx4]<;>omega|fail) [e0]⟩
   ·rw [if_neg (by simp [hv])]
    exact⟨_,AS _,rfl,oc2,hS2.mv smz smz,by omega,fun q a b c=>by
     have e0:=k3 q soz (by omega) (by omega)
     simp -implicitDefEqProofs (disch:=first|omega|simp only[nx4]<;>omega|fail)at e0
     simp -implicitDefEqProofs (disch:=first|omega|simp only[nx4]<;>omega|fail) [e0]⟩
 have hns:¬ e.s=⟨#[116,104,114,111,119]⟩:=fun e2=>h9 (Jb.1 e2)
 have hbd6:=he.bd
 have hdw:=BA e
 by_cases h99:9 < Ab e.s
 ·have e1:FI ev e env σ=(.act e.s (Be env e.args σ).1,(Be env e.args σ).2):=by
   rw [FI];simp only [h9,h99,if_true,if_false]
  rw [e1]
  have hbn:=hσ.bn
  have hst:=hσ.st
  have hlen:=hnd.len
  simp -implicitDefEqProofs (disch:=first|omega|simp only[nx4]<;>omega|fail) [AAK]
  refine AA h56 fun mm5 hm5=>?_
  try simp only [nx4]at hm5
  simp -implicitDefEqProofs (disch:=first|omega|simp only[nx4]<;>omega|fail) [hns]
  refine AA h56t fun mm6 hm6=>?_
  try simp only [nx4]at hm6
  simp -implicitDefEqProofs (disch:=first|omega|simp only[nx4]<;>omega|fail) [h99]
  intro m7 hm7
  refine AH (Bh (AE6 (h.mv smz smz) env e.args (by omega) (fun c hc=>(he.E7 o1 hi hc (Nat.le_refl _)).var) (by omega)) fun r s' hn hbd' h'=>AW ?_)
  obtain⟨rfl,oc2,hS2,k2,k3⟩:=h'
  have hx2:=hbd' _ _ hS2.1
  have ho2:=hbd' _ _ hS2.2.1
  have q1:=k3 s.nx soz (by omega) (by omega)
  have q2:=k3 (s.nx+1) soz (by omega) (by omega)
  simp -implicitDefEqProofs (disch:=first|omega|simp only[nx4]<;>omega|fail)at q1 q2
  simp -implicitDefEqProofs (disch:=first|omega|simp only[nx4]<;>omega|fail)at hn k2
  simp -implicitDefEqProofs (disch:=first|omega|simp only[nx4]<;>omega|fail) [q1,q2]
  intro m8 hm8
  refine⟨_,?_,rfl,oc2,hS2.mv smz smz,by omega,fun q a b c=>by
   have e1:=k3 q soz b c
   simp -implicitDefEqProofs (disch:=first|omega|simp only[nx4]<;>omega|fail)at e1
   simp -implicitDefEqProofs (disch:=first|omega|simp only[nx4]<;>omega|fail) [e1]⟩
  simp [Ot.av,Ot.cs,ocs,z0,eS,Pl.op,Pl.n,Pl.s,Pl.args,Pl.alts]
 ·have hp9:Ab e.s < 9:=by omega
  have h2:=H0 hk hp9
  have h0:0≤Ab e.s:=by
   have hk':=hk
   rw [arI]at hk'
   split at hk'
   ·cases hk'
   ·omega
  obtain⟨x,y,hxy⟩:=HL (show e.args.length=2 by omega)
  have e1:FI ev e env σ=Xd (Ab e.s) (ev x env σ) (ev y env):=by
   rw [FI];simp only [h9,h99,if_false,hxy,List.headD_cons]
   rfl
  rw [e1]
  have hxo:okE p x env σ.cells.length:=he.E7 o1 hi (by rw [hxy];simp) (Nat.le_refl _)
  have hr:=hok x env σ hσ hxo
  have w1:([x.av,y.av][0]?).getD AV.any=x.av:=rfl
  have w2:([y.av][0]?).getD AV.any=y.av:=rfl
  simp -implicitDefEqProofs (disch:=first|omega|simp only[nx4]<;>omega|fail) [AAK]
  refine AA h56 fun mm7 hm7=>?_
  try simp only [nx4]at hm7
  simp -implicitDefEqProofs (disch:=first|omega|simp only[nx4]<;>omega|fail) [hns]
  refine AA h56t fun mm8 hm8=>?_
  try simp only [nx4]at hm8
  simp -implicitDefEqProofs (disch:=first|omega|simp only[nx4]<;>omega|fail) [h99,hxy,w1]
  refine AH (Bh (hev xo oc σ _ x env (h.mv smz smz) hσ hxo) fun r s' hn hbd' h'=>AW ?_)
  obtain⟨rfl,oc2,hS2,k2,k3⟩:=h'
  have hx2:=hbd' _ _ hS2.1
  have ho2:=hbd' _ _ hS2.2.1
  generalize ev x env σ=r at *
  obtain⟨o,τ⟩:=r
  have q1:=k3 s.nx soz (by omega) (by omega)
  have q2:=k3 (s.nx+1) soz (by omega) (by omega)
  simp -implicitDefEqProofs (disch:=first|omega|simp only[nx4]<;>omega|fail)at q1 q2
  simp -implicitDefEqProofs (disch:=first|omega|simp only[nx4]<;>omega|fail)at hn k2
  simp -implicitDefEqProofs (disch:=first|omega|simp only[nx4]<;>omega|fail) [q1,q2]
  have h152:=Xa o
  have j1:=hS2.1
  by_cases hv:o.val=false
  ·rw [Xd,if_pos (.inl hv)]
   rw [hv]at h152
   refine AA h152 fun mm9 hm9=>?_
   try simp only [nx4]at hm9
   simp -implicitDefEqProofs (disch:=first|omega|simp only[nx4]<;>omega|fail) [q1,q2,Ot.agg]
   exact⟨_,AS _,rfl,oc2,hS2.mv smz smz,by omega,fun q a b c=>by
    have e0:=k3 q soz (by omega) (by omega)
    simp -implicitDefEqProofs (disch:=first|omega|simp only[nx4]<;>omega|fail)at e0
    simp -implicitDefEqProofs (disch:=first|omega|simp only[nx4]<;>omega|fail) [e0]⟩
  have hv':o.val=true:=by simpa using hv
  rw [hv']at h152
  by_cases her:τ.err=0
  ·have hyo:okE p y env τ.cells.length:=he.E7 o1 hi (by rw [hxy];simp) hr.len
   have hq:=hok y env τ hr.ok hyo
   have e2:Xd (Ab e.s) (o,τ) (ev y env)=if Ab e.s=8∨(ev y env τ).1.val=false∨(ev y env τ).2.err≠0 then ev y env τ else AE5 (Ab e.s) o (ev y env τ).1 (ev y env τ).2:=by
    rw [Xd,if_neg (by simp [hv,her])]
   rw [e2]
   refine AA h152 fun mm10 hm10=>?_
   try simp only [nx4]at hm10
   simp -implicitDefEqProofs (disch:=first|omega|simp only[nx4]<;>omega|fail) [q1,q2,Ot.agg,j1,her,hxy,w2]
   refine AH (Bh (hev xo oc2 τ _ y env (hS2.mv smz smz) hr.ok hyo) fun r s3 hn3 hbd3 h3'=>AW ?_)
   obtain⟨rfl,oc3,hS3,k5,k6⟩:=h3'
   have hx3:=hbd3 _ _ hS3.1
   have ho3:=hbd3 _ _ hS3.2.1
   generalize ev y env τ=r2 at *
   obtain⟨o2,τ2⟩:=r2
   simp -implicitDefEqProofs (disch:=first|omega|simp only[nx4]<;>omega|fail)at hn3 k5
   have q3:=k6 s.nx soz (by omega) (by omega)
   have q4:=k6 (s.nx+1) soz (by omega) (by omega)
   have q5:=k6 s'.nx soz (by omega) (by omega)
   simp -implicitDefEqProofs (disch:=first|omega|simp only[nx4]<;>omega|fail)at q3 q4 q5
   have h152b:=Xa o2
   have j2:=hS3.1
   by_cases h8:Ab e.s=8
   ·have hs8:e.s=⟨⟨[115,101,113]⟩⟩:=CZ (b:=pS 8) (by omega) (by rw [h8];rfl)
    rw [if_pos (.inl h8)]
    simp -implicitDefEqProofs (disch:=first|omega|simp only[nx4]<;>omega|fail) [q1,q2,q3,q4,q5,hs8]
    exact⟨_,AS _,rfl,oc3,hS3.mv smz smz,by omega,fun q a b c=>by
     have e0:=k3 q soz (by omega) (by omega)
     have e1:=k6 q soz (by omega) (by omega)
     simp -implicitDefEqProofs (disch:=first|omega|simp only[nx4]<;>omega|fail)at e0 e1
     simp -implicitDefEqProofs (disch:=first|omega|simp only[nx4]<;>omega|fail) [e0,e1]⟩
   have hs8:¬ e.s=⟨⟨[115,101,113]⟩⟩:=fun e4=>h8 (by rw [e4];rfl)
   simp -implicitDefEqProofs (disch:=first|omega|simp only[nx4]<;>omega|fail) [q1,q2,q3,q4,q5,hs8]
   by_cases hv2:o2.val=false
   ·rw [if_pos (.inr (.inl hv2))]
    rw [hv2]at h152b
    refine AA h152b fun mm11 hm11=>?_
    try simp only [nx4]at hm11
    simp -implicitDefEqProofs (disch:=first|omega|simp only[nx4]<;>omega|fail) [q1,q2,q3,q4,q5,Ot.agg]
    exact⟨_,AS _,rfl,oc3,hS3.mv smz smz,by omega,fun q a b c=>by
     have e0:=k3 q soz (by omega) (by omega)
     have e1:=k6 q soz (by omega) (by omega)
     simp -implicitDefEqProofs (disch:=first|omega|simp only[nx4]<;>omega|fail)at e0 e1
     simp -implicitDefEqProofs (disch:=first|omega|simp only[nx4]<;>omega|fail) [e0,e1]⟩
   have hv2':o2.val=true:=by simpa using hv2
   rw [hv2']at h152b
   by_cases her2:τ2.err=0
   ·rw [if_neg (by simp [h8,hv2,her2])]
    refine AA h152b fun mm12 hm12=>?_
    try simp only [nx4]at hm12
    simp -implicitDefEqProofs (disch:=first|omega|simp only[nx4]<;>omega|fail) [q1,q2,q3,q4,q5,Ot.agg,j2,her2]
    by_cases ha:∀ n,o≠.int n
    ·obtain⟨k,hk,hk1⟩:=TL ha
     rw [P7 (.inl ha)]
     simp -implicitDefEqProofs (disch:=first|omega|simp only[nx4]<;>omega|fail) [hk1,hk]
     refine AA h112 fun mm13 hm13=>?_
     try simp only [nx4]at hm13
     simp -implicitDefEqProofs (disch:=first|omega|simp only[nx4]<;>omega|fail) [q1,q2,q3,q4,q5,Ot.agg]
     exact⟨_,AS _,rfl,oc3,hS3.mv smz smz,by omega,fun q a b c=>by
      have e0:=k3 q soz (by omega) (by omega)
      have e1:=k6 q soz (by omega) (by omega)
      simp -implicitDefEqProofs (disch:=first|omega|simp only[nx4]<;>omega|fail)at e0 e1
      simp -implicitDefEqProofs (disch:=first|omega|simp only[nx4]<;>omega|fail) [e0,e1]⟩
    ·obtain⟨x1,rfl⟩:∃ n,o=.int n:=by simpa using ha
     by_cases hb:∀ n,o2≠.int n
     ·obtain⟨k,hk,hk1⟩:=TL hb
      rw [P7 (.inr hb)]
      simp -implicitDefEqProofs (disch:=first|omega|simp only[nx4]<;>omega|fail) [q3,q4,q5,hk1,hk,Xc,ocs]
      refine AA h112 fun mm14 hm14=>?_
      try simp only [nx4]at hm14
      simp -implicitDefEqProofs (disch:=first|omega|simp only[nx4]<;>omega|fail) [q1,q2,q3,q4,q5,Ot.agg]
      exact⟨_,AS _,rfl,oc3,hS3.mv smz smz,by omega,fun q a b c=>by
       have e0:=k3 q soz (by omega) (by omega)
       have e1:=k6 q soz (by omega) (by omega)
       simp -implicitDefEqProofs (disch:=first|omega|simp only[nx4]<;>omega|fail)at e0 e1
       simp -implicitDefEqProofs (disch:=first|omega|simp only[nx4]<;>omega|fail) [e0,e1]⟩
     ·obtain⟨x2,rfl⟩:∃ n,o2=.int n:=by simpa using hb
      have h180:=AKi (s:=e.s) h0 (by omega) (a:=x1) (b:=x2) hr.out hq.out
      simp -implicitDefEqProofs (disch:=first|omega|simp only[nx4]<;>omega|fail) [q1,q2,q3,q4,q5,Xc,ocs]
      refine AA h180 fun mm15 hm15=>?_
      try simp only [nx4]at hm15
      simp -implicitDefEqProofs (disch:=first|omega|simp only[nx4]<;>omega|fail) [q1,q2,q3,q4,q5,Ot.agg]
      exact⟨_,AS _,rfl,oc3,hS3.mv smz smz,by omega,fun q a b c=>by
       have e0:=k3 q soz (by omega) (by omega)
       have e1:=k6 q soz (by omega) (by omega)
       simp -implicitDefEqProofs (disch:=first|omega|simp only[nx4]<;>omega|fail)at e0 e1
       simp -implicitDefEqProofs (disch:=first|omega|simp only[nx4]<;>omega|fail) [e0,e1]⟩
   ·rw [if_pos (.inr (.inr her2))]
    refine AA h152b fun mm16 hm16=>?_
    try simp only [nx4]at hm16
    simp -implicitDefEqProofs (disch:=first|omega|simp only[nx4]<;>omega|fail) [q1,q2,q3,q4,q5,Ot.agg,j2,her2]
    exact⟨_,AS _,rfl,oc3,hS3.mv smz smz,by omega,fun q a b c=>by
     have e0:=k3 q soz (by omega) (by omega)
     have e1:=k6 q soz (by omega) (by omega)
     simp -implicitDefEqProofs (disch:=first|omega|simp only[nx4]<;>omega|fail)at e0 e1
     simp -implicitDefEqProofs (disch:=first|omega|simp only[nx4]<;>omega|fail) [e0,e1]⟩
  ·rw [Xd,if_pos (.inr her)]
   refine AA h152 fun mm17 hm17=>?_
   try simp only [nx4]at hm17
   simp -implicitDefEqProofs (disch:=first|omega|simp only[nx4]<;>omega|fail) [q1,q2,Ot.agg,j1,her]
   exact⟨_,AS _,rfl,oc2,hS2.mv smz smz,by omega,fun q a b c=>by
    have e0:=k3 q soz (by omega) (by omega)
    simp -implicitDefEqProofs (disch:=first|omega|simp only[nx4]<;>omega|fail)at e0
    simp -implicitDefEqProofs (disch:=first|omega|simp only[nx4]<;>omega|fail) [e0]⟩
end Go.AL.Dm
set_option maxHeartbeats 4000000
namespace Go.AL.Dm
open Go Go.Proofs
theorem TM (o:Ot) (h:Hd):∃ k n t L c en,o.cs=ocs k n t L c en∧L=B9 o∧(Lk o h=true↔h.op=1∨h.op=3∧k=1∧n=h.n∨h.op=2∧k=2∧t=h.s∧(L.length:Int)=h.n):=by
 cases o <;> refine⟨_,_,_,_,_,_,rfl,rfl,?_⟩ <;> by_cases h1:h.op=1 <;> simp [Lk,h1]
theorem AAO {p:List Gl} {e:Pl} {env:List Nat} {m:Nat} {hd:Hd} {b:Pl} {o:Ot} (he:okE p e env m) (o8:e.op=8) (hm:(hd,b)∈e.alts) (ho:okO p o m) (hfit:Lk o hd=true) :
  okE p b (env++(m::(if hd.op=2 then B9 o else []))) (m+1):=by
 have hml:((m::(if hd.op=2 then B9 o else [])).length:Int)=bnd hd:=by
  unfold bnd
  by_cases h2:hd.op=2
  ·rw [if_pos h2,if_pos h2]
   obtain⟨k,n,t,L,c,en,hcs,hL,hf⟩:=TM o hd
   rcases hf.1 hfit with f | ⟨f,_⟩ | ⟨_,_,_,f⟩
   ·omega
   ·omega
   ·rw [← hL,List.length_cons];omega
  ·rw [if_neg h2,if_neg h2];rfl
 exact he.alt (a:=(hd,b)) (more:=m::(if hd.op=2 then B9 o else [])) (m':=m+1) (by omega) hm hml (by omega) fun c hc=>by
  rcases List.mem_cons.1 hc with rfl | hc
  ·omega
  ·split at hc
   ·have:=Ji ho c hc;omega
   ·simp at hc
def AIr (p:List Gl) (ev:Evf) (xo oc:Nat) (σ:Sg) (o:Ot) (env:List Nat) (l:List (Hd × Pl)) (s:St) (m:Nat) (g:Env) (s1:St):Prop :=
 ∃ (i:Nat),i≤l.length∧m=l.length - i∧Cg ev o env l σ=Cg ev o env (l.drop i) σ∧g.get 0=.ptr xo 0∧g.get 2=.list 8 .none (l.map Pl.BK)∧g.get 3=.list 1 .none (nl env)∧g.get 5=.ptr s.nx 0∧g.get 8=.ptr (s.nx+1) 0 ∧
  g.get 9=.int .i64 i∧s1.m s.nx=some (.box o.cs)∧(∃ bs,s1.m (s.nx+1)=some (.box bs)∧bs.length=10)∧(∀ q,q < s.nx→s1.m q=s.m q)∧s.nx+2≤s1.nx
theorem AKj {p:List Gl} {d:Int} {ev:Evf} (hok:EU p ev) (hev:EvC p d ev) {xo oc:Nat} {σ:Sg} {s:St} {o:Ot} {e:Pl} {env:List Nat} (h:Sto p (E6 p) xo oc σ d s) (hσ:OKs p σ) (he:okE p e env σ.cells.length) (o8:e.op=8) (hoo:okO p o σ.cells.length) (hb:σ.cells.length+1≤400+13 * σ.steps) (hln:e.alts.length≤1000) :
  AB Tryz.prog 153 [.ptr xo 0,o.av,.list 8 .none (e.alts.map Pl.BK),.list 1 .none (nl env)] s fun r s'=>r=(Cg ev o env e.alts σ).1.av∧GX p (E6 p) xo oc (Cg ev o env e.alts σ).2 d s s':=by
 refine AB.bnd Tryz.call153 fun hbd=>?_
 have hx:=hbd _ _ h.1
 have ho:=hbd _ _ h.2.1
 obtain⟨h1,h2,h3⟩:=id h
 have h112:=AAN
 have hst:=hσ.st
 have hbn:=hσ.bn
 have hbd6:=he.bd
 have hdw:=BA e
 refine AB.res (AD mixed Tryz.func153 Tryz.call153 AIp.2 rfl (AE _ _ _ _ ?_))
 have hnd:=(A5 he.wf).1
 have hhd:=fun a (ha:a∈e.alts)=>hnd.hd a ha
 have hae:=fun hd b (ha:(hd,b)∈e.alts) hf=>AAO (hd:=hd) (b:=b) he o8 ha hoo hf
 clear hnd
 generalize e.alts=l at *
 simp -implicitDefEqProofs (disch:=first|omega|simp only[nx4]<;>omega|fail) [AIp]
 refine AQ (AIr p ev xo oc σ o env l s) l.length ⟨0,by omega,by omega,by simp,?_,?_,?_,?_,?_,?_,?_,?_,?_,?_⟩ ?_
 iterate 6 (simp -implicitDefEqProofs (disch:=first|omega|simp only[nx4]<;>omega|fail))
 ·exact smz
 ·exact⟨_,by simp -implicitDefEqProofs (disch:=first|omega|simp only[nx4]<;>omega|fail);rfl,rfl⟩
 ·exact fun q a=>by simp -implicitDefEqProofs (disch:=first|omega|simp only[nx4]<;>omega|fail)
 ·exact smz
 rintro m g S ⟨i,hi,rfl,hw,e0,e2,e3,e5,e8,e9,b1,⟨bs,b2,b2l⟩,hk,hnx⟩
 by_cases hlt:i < l.length
 ·have hlt':(i:Int) < l.length:=by omega
  have hget:(l.map Pl.BK)[i]?=some (Pl.BK l[i]):=by simp [hlt]
  have hmem:l[i]∈l:=List.getElem_mem hlt
  have hdr:l.drop i=l[i]::l.drop (i+1):=List.drop_eq_getElem_cons hlt
  generalize l[i]=a at *
  obtain⟨hd,b⟩:=a
  obtain⟨k,n,t,L,c,en,hcs,hL,hfit⟩:=TM o hd
  rw [hdr,Cg]at hw
  by_cases hf:Lk o hd=true
  ·rw [if_pos hf]at hw
   have he1:=hae _ _ hmem hf
   have hnhd:=hhd _ hmem
   have henv:env.length≤6000:=by omega
   have hσ1:OKs p (σ.add (.done o)):=hσ.app (xs:=[.done o]) (fun x hx=>by simp at hx;subst hx;exact hoo.mono (by simp)) (by simpa using hb)
   have hl1:(σ.add (.done o)).cells.length=σ.cells.length+1:=by simp [Sg.add]
   have h151:AF Tryz.prog 151 [AV.list 1 Tok.none (nl env),AV.list 1 Tok.full [AV.int IntKind.i64 (σ.cells.length:Nat)]] (.list 1 .none (nl (env++[σ.cells.length]))):=(Xb env [σ.cells.length] (by simp;omega)).OG (by simp [nl])
   rcases hfit.1 hf with f1 | ⟨f1,rfl,rfl⟩ | ⟨f1,rfl,rfl,f4⟩
   ·rw [f1,if_neg (by decide)]at hw he1
    have hav:AV.agg (ocs k n t L c en)=o.av:=by rw [Ot.av,hcs]
    simp only [ocs]at hav
    simp -implicitDefEqProofs (disch:=first|omega|simp only[nx4]<;>omega|fail) [e0,e2,e3,e5,e8,e9,hlt',hlt,hget,b1,Pl.BK,hcs,ocs,f1]
    rw [hav]
    refine AH (Bh (AE7 (h.mv (by simp -implicitDefEqProofs (disch:=first|omega|simp only[nx4]<;>omega|fail) [hk]) (by simp -implicitDefEqProofs (disch:=first|omega|simp only[nx4]<;>omega|fail) [hk])) (by omega) o) fun r s' hn hbd' h'=>AW ?_)
    obtain⟨rfl,oc2,hS2,k2,k3⟩:=h'
    have hx2:=hbd' _ _ hS2.1
    have ho2:=hbd' _ _ hS2.2.1
    simp -implicitDefEqProofs (disch:=first|omega|simp only[nx4]<;>omega|fail)at hn k2
    have q1:=k3 s.nx soz (by omega) (by omega)
    have q2:=k3 (s.nx+1) soz (by omega) (by omega)
    have q3:=k3 S.nx smz (by omega) (by omega)
    simp -implicitDefEqProofs (disch:=first|omega|simp only[nx4]<;>omega|fail) [b1,hcs,ocs]at q1
    simp -implicitDefEqProofs (disch:=first|omega|simp only[nx4]<;>omega|fail) [b2]at q2
    simp -implicitDefEqProofs (disch:=first|omega|simp only[nx4]<;>omega|fail)at q3
    simp -implicitDefEqProofs (disch:=first|omega|simp only[nx4]<;>omega|fail) [e0,e2,e3,e5,e8,e9,q1,q2,q3,b2l,f1]
    refine AO h151 ?_
    simp -implicitDefEqProofs (disch:=first|omega|simp only[nx4]<;>omega|fail) [q3]
    intro m6 hm6
    refine AH (Bh (hev xo oc2 _ _ b _ (hS2.mv smz smz) hσ1 (by rw [hl1];exact he1)) fun r s3 hn3 hbd3 h3'=>AW ?_)
    obtain⟨rfl,oc3,hS3,k5,k6⟩:=h3'
    rw [hw]
    generalize ev b _ (σ.add (.done o))=r at *
    obtain⟨o2,τ2⟩:=r
    simp -implicitDefEqProofs (disch:=first|omega|simp only[nx4]<;>omega|fail)at hn3 k5
    have q4:=k6 (s.nx+1) soz (by omega) (by omega)
    simp -implicitDefEqProofs (disch:=first|omega|simp only[nx4]<;>omega|fail) [q2]at q4
    have hbz:List.drop 10 bs=[]:=List.drop_eq_nil_of_le (by omega)
    simp -implicitDefEqProofs (disch:=first|omega|simp only[nx4]<;>omega|fail) [e8,q4,b2l,hbz]
    refine⟨_,AS _,rfl,oc3,hS3.mv smz smz,by omega,fun q a b c=>by
     have e1:=k3 q soz b c
     have e2:=k6 q soz b (by omega)
     simp -implicitDefEqProofs (disch:=first|omega|simp only[nx4]<;>omega|fail)at e1 e2
     simp -implicitDefEqProofs (disch:=first|omega|simp only[nx4]<;>omega|fail) [e1,e2,hk q a]⟩
   ·rw [f1,if_neg (by decide)]at hw he1
    have hav:AV.agg (ocs 1 hd.n t L c en)=o.av:=by rw [Ot.av,hcs]
    simp only [ocs]at hav
    simp -implicitDefEqProofs (disch:=first|omega|simp only[nx4]<;>omega|fail) [e0,e2,e3,e5,e8,e9,hlt',hlt,hget,b1,Pl.BK,hcs,ocs,f1]
    rw [hav]
    refine AH (Bh (AE7 (h.mv (by simp -implicitDefEqProofs (disch:=first|omega|simp only[nx4]<;>omega|fail) [hk]) (by simp -implicitDefEqProofs (disch:=first|omega|simp only[nx4]<;>omega|fail) [hk])) (by omega) o) fun r s' hn hbd' h'=>AW ?_)
    obtain⟨rfl,oc2,hS2,k2,k3⟩:=h'
    have hx2:=hbd' _ _ hS2.1
    have ho2:=hbd' _ _ hS2.2.1
    simp -implicitDefEqProofs (disch:=first|omega|simp only[nx4]<;>omega|fail)at hn k2
    have q1:=k3 s.nx soz (by omega) (by omega)
    have q2:=k3 (s.nx+1) soz (by omega) (by omega)
    have q3:=k3 S.nx smz (by omega) (by omega)
    simp -implicitDefEqProofs (disch:=first|omega|simp only[nx4]<;>omega|fail) [b1,hcs,ocs]at q1
    simp -implicitDefEqProofs (disch:=first|omega|simp only[nx4]<;>omega|fail) [b2]at q2
    simp -implicitDefEqProofs (disch:=first|omega|simp only[nx4]<;>omega|fail)at q3
    simp -implicitDefEqProofs (disch:=first|omega|simp only[nx4]<;>omega|fail) [e0,e2,e3,e5,e8,e9,q1,q2,q3,b2l,f1]
    refine AO h151 ?_
    simp -implicitDefEqProofs (disch:=first|omega|simp only[nx4]<;>omega|fail) [q3]
    intro m6 hm6
    refine AH (Bh (hev xo oc2 _ _ b _ (hS2.mv smz smz) hσ1 (by rw [hl1];exact he1)) fun r s3 hn3 hbd3 h3'=>AW ?_)
    obtain⟨rfl,oc3,hS3,k5,k6⟩:=h3'
    rw [hw]
    generalize ev b _ (σ.add (.done o))=r at *
    obtain⟨o2,τ2⟩:=r
    simp -implicitDefEqProofs (disch:=first|omega|simp only[nx4]<;>omega|fail)at hn3 k5
    have q4:=k6 (s.nx+1) soz (by omega) (by omega)
    simp -implicitDefEqProofs (disch:=first|omega|simp only[nx4]<;>omega|fail) [q2]at q4
    have hbz:List.drop 10 bs=[]:=List.drop_eq_nil_of_le (by omega)
    simp -implicitDefEqProofs (disch:=first|omega|simp only[nx4]<;>omega|fail) [e8,q4,b2l,hbz]
    refine⟨_,AS _,rfl,oc3,hS3.mv smz smz,by omega,fun q a b c=>by
     have e1:=k3 q soz b c
     have e2:=k6 q soz b (by omega)
     simp -implicitDefEqProofs (disch:=first|omega|simp only[nx4]<;>omega|fail)at e1 e2
     simp -implicitDefEqProofs (disch:=first|omega|simp only[nx4]<;>omega|fail) [e1,e2,hk q a]⟩
   ·rw [f1,if_pos rfl,← hL]at hw he1
    have hav:AV.agg (ocs 2 n hd.s L c en)=o.av:=by rw [Ot.av,hcs]
    simp only [ocs]at hav
    simp -implicitDefEqProofs (disch:=first|omega|simp only[nx4]<;>omega|fail) [e0,e2,e3,e5,e8,e9,hlt',hlt,hget,b1,Pl.BK,hcs,ocs,f1,f4]
    rw [hav]
    refine AH (Bh (AE7 (h.mv (by simp -implicitDefEqProofs (disch:=first|omega|simp only[nx4]<;>omega|fail) [hk]) (by simp -implicitDefEqProofs (disch:=first|omega|simp only[nx4]<;>omega|fail) [hk])) (by omega) o) fun r s' hn hbd' h'=>AW ?_)
    obtain⟨rfl,oc2,hS2,k2,k3⟩:=h'
    have hx2:=hbd' _ _ hS2.1
    have ho2:=hbd' _ _ hS2.2.1
    simp -implicitDefEqProofs (disch:=first|omega|simp only[nx4]<;>omega|fail)at hn k2
    have q1:=k3 s.nx soz (by omega) (by omega)
    have q2:=k3 (s.nx+1) soz (by omega) (by omega)
    have q3:=k3 S.nx smz (by omega) (by omega)
    simp -implicitDefEqProofs (disch:=first|omega|simp only[nx4]<;>omega|fail) [b1,hcs,ocs]at q1
    simp -implicitDefEqProofs (disch:=first|omega|simp only[nx4]<;>omega|fail) [b2]at q2
    simp -implicitDefEqProofs (disch:=first|omega|simp only[nx4]<;>omega|fail)at q3
    have hL13:L.length≤13:=by have:=hnhd f1;simp only at this;omega
    have h151c:AF Tryz.prog 151 [AV.list 1 Tok.none (nl env),AV.list 1 (Tok.own s'.nx) (AV.int IntKind.i64 (σ.cells.length:Nat)::nl L)] (.list 1 .none (nl (env++σ.cells.length::L))):=(Xb env (σ.cells.length::L) (by simp;omega)).OG (by simp [nl])
    simp -implicitDefEqProofs (disch:=first|omega|simp only[nx4]<;>omega|fail) [e0,e2,e3,e5,e8,e9,q1,q2,q3,b2l,f1,f4]
    refine AO h151c ?_
    simp -implicitDefEqProofs (disch:=first|omega|simp only[nx4]<;>omega|fail) [q3]
    intro m6 hm6
    refine AH (Bh (hev xo oc2 _ _ b _ (hS2.mv smz smz) hσ1 (by rw [hl1];exact he1)) fun r s3 hn3 hbd3 h3'=>AW ?_)
    obtain⟨rfl,oc3,hS3,k5,k6⟩:=h3'
    rw [hw]
    generalize ev b _ (σ.add (.done o))=r at *
    obtain⟨o2,τ2⟩:=r
    simp -implicitDefEqProofs (disch:=first|omega|simp only[nx4]<;>omega|fail)at hn3 k5
    have q4:=k6 (s.nx+1) soz (by omega) (by omega)
    simp -implicitDefEqProofs (disch:=first|omega|simp only[nx4]<;>omega|fail) [q2]at q4
    have hbz:List.drop 10 bs=[]:=List.drop_eq_nil_of_le (by omega)
    simp -implicitDefEqProofs (disch:=first|omega|simp only[nx4]<;>omega|fail) [e8,q4,b2l,hbz]
    refine⟨_,AS _,rfl,oc3,hS3.mv smz smz,by omega,fun q a b c=>by
     have e1:=k3 q soz b c
     have e2:=k6 q soz b (by omega)
     simp -implicitDefEqProofs (disch:=first|omega|simp only[nx4]<;>omega|fail)at e1 e2
     simp -implicitDefEqProofs (disch:=first|omega|simp only[nx4]<;>omega|fail) [e1,e2,hk q a]⟩
  ·rw [if_neg hf]at hw
   have hnf:(hd.op≠1∧hd.op≠3∧hd.op≠2)∨(hd.op=3∧k≠1)∨(hd.op=3∧k=1∧n≠hd.n)∨(hd.op=2∧k≠2)∨(hd.op=2∧k=2∧t≠hd.s)∨(hd.op=2∧k=2∧t=hd.s∧(L.length:Int)≠hd.n):=by
    rw [hfit]at hf
    by_cases g3:hd.op=3
    ·by_cases g1:k=1
     ·exact .inr (.inr (.inl ⟨g3,g1,fun g2=>hf (.inr (.inl ⟨g3,g1,g2⟩))⟩))
     ·exact .inr (.inl ⟨g3,g1⟩)
    by_cases g2:hd.op=2
    ·by_cases g4:k=2
     ·by_cases g5:t=hd.s
      ·exact .inr (.inr (.inr (.inr (.inr ⟨g2,g4,g5,fun g6=>hf (.inr (.inr ⟨g2,g4,g5,g6⟩))⟩))))
      ·exact .inr (.inr (.inr (.inr (.inl ⟨g2,g4,g5⟩))))
     ·exact .inr (.inr (.inr (.inl ⟨g2,g4⟩)))
    exact .inl ⟨fun g1=>hf (.inl g1),g3,g2⟩
   have w1:IntKind.i64.wrap ((i:Int)+1)=(i+1:Nat):=w64 _ (by omega) (by omega)
   have fin:∀ (Q:Ay→Env→St→Prop) (g':Env) (A B:Ax),g'.get 0=.ptr xo 0→g'.get 2=.list 8 .none (l.map Pl.BK)→g'.get 3=.list 1 .none (nl env)→g'.get 5=.ptr s.nx 0→g'.get 8=.ptr (s.nx+1) 0→g'.get 9=.int .i64 (IntKind.i64.wrap ((i:Int)+1)) →
     go (Fu (l.length - i) (AIr p ev xo oc σ o env l s) Q .normal g' ((S.new A).set S.nx B)):=fun Q g' A B a0 a2 a3 a5 a8 a9=>by
    refine AK (l.length - (i+1)) (by omega) ⟨i+1,by omega,rfl,hw,a0,a2,a3,a5,a8,by rw [a9,w1],by simp -implicitDefEqProofs (disch:=first|omega|simp only[nx4]<;>omega|fail) [b1],⟨bs,by simp -implicitDefEqProofs (disch:=first|omega|simp only[nx4]<;>omega|fail) [b2],b2l⟩,fun q a=>by simp -implicitDefEqProofs (disch:=first|omega|simp only[nx4]<;>omega|fail) [hk q a],by simp -implicitDefEqProofs (disch:=first|omega|simp only[nx4]<;>omega|fail);omega⟩
   rcases hnf with ⟨f1,f2,f3⟩ | ⟨f1,f2⟩ | ⟨f1,f2,f3⟩ | ⟨f1,f2⟩ | ⟨f1,f2,f3⟩ | ⟨f1,f2,f3,f4⟩
   ·simp -implicitDefEqProofs (disch:=first|omega|simp only[nx4]<;>omega|fail) [e0,e2,e3,e5,e8,e9,hlt',hlt,hget,b1,Pl.BK,hcs,ocs,f1,f2,f3]
    exact fin _ _ _ _ (by simp -implicitDefEqProofs (disch:=first|omega|simp only[nx4]<;>omega|fail) [e0]) (by simp -implicitDefEqProofs (disch:=first|omega|simp only[nx4]<;>omega|fail) [e2]) (by simp -implicitDefEqProofs (disch:=first|omega|simp only[nx4]<;>omega|fail) [e3]) (by simp -implicitDefEqProofs (disch:=first|omega|simp only[nx4]<;>omega|fail) [e5]) (by simp -implicitDefEqProofs (disch:=first|omega|simp only[nx4]<;>omega|fail) [e8]) smz
   ·simp -implicitDefEqProofs (disch:=first|omega|simp only[nx4]<;>omega|fail) [e0,e2,e3,e5,e8,e9,hlt',hlt,hget,b1,Pl.BK,hcs,ocs,f1,f2]
    exact fin _ _ _ _ (by simp -implicitDefEqProofs (disch:=first|omega|simp only[nx4]<;>omega|fail) [e0]) (by simp -implicitDefEqProofs (disch:=first|omega|simp only[nx4]<;>omega|fail) [e2]) (by simp -implicitDefEqProofs (disch:=first|omega|simp only[nx4]<;>omega|fail) [e3]) (by simp -implicitDefEqProofs (disch:=first|omega|simp only[nx4]<;>omega|fail) [e5]) (by simp -implicitDefEqProofs (disch:=first|omega|simp only[nx4]<;>omega|fail) [e8]) smz
   ·simp -implicitDefEqProofs (disch:=first|omega|simp only[nx4]<;>omega|fail) [e0,e2,e3,e5,e8,e9,hlt',hlt,hget,b1,Pl.BK,hcs,ocs,f1,f2,f3]
    exact fin _ _ _ _ (by simp -implicitDefEqProofs (disch:=first|omega|simp only[nx4]<;>omega|fail) [e0]) (by simp -implicitDefEqProofs (disch:=first|omega|simp only[nx4]<;>omega|fail) [e2]) (by simp -implicitDefEqProofs (disch:=first|omega|simp only[nx4]<;>omega|fail) [e3]) (by simp -implicitDefEqProofs (disch:=first|omega|simp only[nx4]<;>omega|fail) [e5]) (by simp -implicitDefEqProofs (disch:=first|omega|simp only[nx4]<;>omega|fail) [e8]) smz
   ·simp -implicitDefEqProofs (disch:=first|omega|simp only[nx4]<;>omega|fail) [e0,e2,e3,e5,e8,e9,hlt',hlt,hget,b1,Pl.BK,hcs,ocs,f1,f2]
    exact fin _ _ _ _ (by simp -implicitDefEqProofs (disch:=first|omega|simp only[nx4]<;>omega|fail) [e0]) (by simp -implicitDefEqProofs (disch:=first|omega|simp only[nx4]<;>omega|fail) [e2]) (by simp -implicitDefEqProofs (disch:=first|omega|simp only[nx4]<;>omega|fail) [e3]) (by simp -implicitDefEqProofs (disch:=first|omega|simp only[nx4]<;>omega|fail) [e5]) (by simp -implicitDefEqProofs (disch:=first|omega|simp only[nx4]<;>omega|fail) [e8]) smz
   ·simp -implicitDefEqProofs (disch:=first|omega|simp only[nx4]<;>omega|fail) [e0,e2,e3,e5,e8,e9,hlt',hlt,hget,b1,Pl.BK,hcs,ocs,f1,f2,f3]
    exact fin _ _ _ _ (by simp -implicitDefEqProofs (disch:=first|omega|simp only[nx4]<;>omega|fail) [e0]) (by simp -implicitDefEqProofs (disch:=first|omega|simp only[nx4]<;>omega|fail) [e2]) (by simp -implicitDefEqProofs (disch:=first|omega|simp only[nx4]<;>omega|fail) [e3]) (by simp -implicitDefEqProofs (disch:=first|omega|simp only[nx4]<;>omega|fail) [e5]) (by simp -implicitDefEqProofs (disch:=first|omega|simp only[nx4]<;>omega|fail) [e8]) smz
   ·simp -implicitDefEqProofs (disch:=first|omega|simp only[nx4]<;>omega|fail) [e0,e2,e3,e5,e8,e9,hlt',hlt,hget,b1,Pl.BK,hcs,ocs,f1,f2,f3,f4]
    exact fin _ _ _ _ (by simp -implicitDefEqProofs (disch:=first|omega|simp only[nx4]<;>omega|fail) [e0]) (by simp -implicitDefEqProofs (disch:=first|omega|simp only[nx4]<;>omega|fail) [e2]) (by simp -implicitDefEqProofs (disch:=first|omega|simp only[nx4]<;>omega|fail) [e3]) (by simp -implicitDefEqProofs (disch:=first|omega|simp only[nx4]<;>omega|fail) [e5]) (by simp -implicitDefEqProofs (disch:=first|omega|simp only[nx4]<;>omega|fail) [e8]) smz
 ·have hge:l.length≤i:=by omega
  have hge':¬ (i:Int) < l.length:=by omega
  have e1:l.drop i=[]:=List.drop_eq_nil_of_le hge
  rw [e1,Cg]at hw
  rw [hw]
  simp -implicitDefEqProofs (disch:=first|omega|simp only[nx4]<;>omega|fail) [e0,e2,e3,e5,e8,e9,hge']
  refine AA h112 fun mm1 hm1=>?_
  try simp only [nx4]at hm1
  simp -implicitDefEqProofs (disch:=first|omega|simp only[nx4]<;>omega|fail) [b2,b2l,e8]
  refine⟨_,AS _,rfl,oc,h.mv (by simp -implicitDefEqProofs (disch:=first|omega|simp only[nx4]<;>omega|fail) [hk]) (by simp -implicitDefEqProofs (disch:=first|omega|simp only[nx4]<;>omega|fail) [hk]),.inl rfl,fun q a b c=>by simp -implicitDefEqProofs (disch:=first|omega|simp only[nx4]<;>omega|fail) [hk]⟩
end Go.AL.Dm
