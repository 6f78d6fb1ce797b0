/- Strict: the program. -/
import Derived.Test.YtlledcnjfgcipaaGreatDoorF39
import Derived.Test.YtlledcnjfgcipaaGreatDoorF23
import Derived.Test.YtlledcnjfgcipaaGreatDoorF16
import Derived.Test.YtlledcnjfgcipaaGreatDoorG8
import Derived.Test.YtlledcnjfgcipaaGreatDoorC4
set_option linter.unusedVariables false
set_option linter.unusedSimpArgs false
namespace Go.AL.Dm
open Go Go.Proofs
def I41 (p:List Gl) (n:ByteArray) (o:Nat) (s:St) (m:Nat) (g:Env) (s1:St):Prop :=
 ∃ i:Nat,i≤p.length∧m=p.length - i∧DO (fun g=>decide (g.name=n)) (p.drop i) i=Bc p n∧g.get 0=.list 6 .none (p.map Gl.av)∧g.get 1=.fn 42 [] [.ptr o 0]∧g.get 7=.int .i64 p.length∧g.get 8=.int .i64 i∧s1.m o=some (.box [.str n])∧Kept s s1∧s.nx≤s1.nx
theorem p41 (p:List Gl) (n:ByteArray) (o:Nat) (s:St) (hp:p.length≤100000) (ho:s.m o=some (.box [.str n])) (ho2:o < s.nx) :
  AB Tryz.prog 41 [.list 6 .none (p.map Gl.av),.fn 42 [] [.ptr o 0]] s fun r s'=>r=.int .i64 (Bc p n)∧Kept s s':=by
 refine AD mixed Tryz.func41 Tryz.call41 k41.2 rfl (AE _ _ _ _ ?_)
 simp -implicitDefEqProofs (disch:=first|omega|simp only[nx4]<;>omega|fail) [k41]
 refine AQ (I41 p n o s) p.length ⟨0,by omega,by omega,rfl,?_,?_,?_,?_,?_,?_,?_⟩ ?_
 iterate 7 (simp -implicitDefEqProofs (disch:=first|omega|simp only[nx4]<;>omega|fail) [ho])
 rintro m g S ⟨i,hi,rfl,hw,e0,e1,e7,e8,jo,hk,hn0⟩
 by_cases hlt:i < p.length
 ·have hlt':(i:Int) < p.length:=by omega
  have w3:=wrapS (i:=i) (by omega)
  rw [List.drop_eq_getElem_cons hlt,DO]at hw
  generalize hx:p[i]=x at hw
  simp -implicitDefEqProofs (disch:=first|omega|simp only[nx4]<;>omega|fail) [e0,e1,e7,e8,hlt',hlt,hx]
  refine AH (AB.mono (p42 x n o S jo (by omega)) fun r s' hn' h=>AW ?_)
  obtain⟨rfl,hk'⟩:=h
  have q1:s'.m o=some (.box [.str n]):=(hk' _ (by omega)).trans jo
  have q2:Kept s s':=fun q hq=>(hk' q (by omega)).trans (hk q hq)
  by_cases h:x.name=n
  ·rw [if_pos (by simp [h])]at hw
   simp -implicitDefEqProofs (disch:=first|omega|simp only[nx4]<;>omega|fail) [h,← hw,q2]
  ·rw [if_neg (by simp [h])]at hw
   simp -implicitDefEqProofs (disch:=first|omega|simp only[nx4]<;>omega|fail) [h,e8,w3]
   refine AK (p.length - (i+1)) (by omega) ⟨i+1,by omega,rfl,hw,?_,?_,?_,?_,?_,?_,?_⟩
   all_goals (try simp -implicitDefEqProofs (disch:=first|omega|simp only[nx4]<;>omega|fail) [e0,e1,e7,q1,q2])
   all_goals (try omega)
 ·have hlt':¬ (i:Int) < p.length:=by omega
  obtain rfl:i=p.length:=by omega
  rw [List.drop_length,DO]at hw
  simp -implicitDefEqProofs (disch:=first|omega|simp only[nx4]<;>omega|fail) [e7,e8,hlt',hw,hk]
theorem Rw {p:List Gl} {n:ByteArray} (h:¬ Bc p n < 0):∃ j:Nat,Bc p n=j∧j < p.length:=by
 have:∀ (l:List Gl) (i:Int),0≤i→0≤DO (fun g=>decide (g.name=n)) l i→∃ j:Nat,DO (fun g=>decide (g.name=n)) l i=i+j∧j < l.length:=by
  intro l
  induction l with
  | nil=>intro i hi h;simp [DO]at h
  | cons x l ih =>
   intro i hi h
   rw [DO]at h ⊢
   split
   ·exact⟨0,by omega,by simp⟩
   ·rename_i hq
    rw [if_neg hq]at h
    obtain⟨j,h1,h2⟩:=ih (i+1) (by omega) h
    exact⟨j+1,by omega,by simpa using h2⟩
 obtain⟨j,h1,h2⟩:=this p 0 (by omega) (by rw [Bc]at h;omega)
 exact⟨j,by rw [Bc];omega,h2⟩
noncomputable def OP (p:List Gl) (n:ByteArray) (i:Int):Bool × Int :=
 if isP p=false then(false,40)
 else if Bc p n < 0 then(false,6)
 else if i < 0∨((((p[(Bc p n).toNat]?).map (fin p).1).getD Kn.zero).st.length:Int)≤i then(false,2)
 else((((p[(Bc p n).toNat]?).map (fin p).1).getD Kn.zero).st.getD i.toNat false,0)
theorem p20 (p:List Gl) (hp:Few p) (n:ByteArray) (i:Int):AF Tryz.prog 20 [.list 6 .none (p.map Gl.av),.str n,.int .i64 i] (.tup [.bool (OP p n i).1,.int .i64 (OP p n i).2]):=by
 refine AF.intro fun s=>AD mixed Tryz.func20 Tryz.call20 c20 rfl (AE _ _ _ _ ?_)
 have h36:=p36 p hp
 unfold OP
 cases hi:isP p with
 | false =>
  rw [hi]at h36
  simp -implicitDefEqProofs (disch:=first|omega|simp only[nx4]<;>omega|fail) [a20,AC0,WJ,WK]
  refine AA h36 fun mm1 hm1=>?_
  try simp only [nx4]at hm1
  simp -implicitDefEqProofs (disch:=first|omega|simp only[nx4]<;>omega|fail) [ABL]
 | true =>
  rw [hi]at h36
  have hgp:=MT hp hi
  have h37:=p37 p hgp
  have hpl:=hgp.few
  simp -implicitDefEqProofs (disch:=first|omega|simp only[nx4]<;>omega|fail) [a20,AC0,WJ,WK]
  refine AA h36 fun mm2 hm2=>?_
  try simp only [nx4]at hm2
  simp -implicitDefEqProofs (disch:=first|omega|simp only[nx4]<;>omega|fail) [ABM]
  refine AH (AB.mono (p41 p n s.nx _ (by omega) smz soz) fun r s' hn' h=>AW ?_)
  obtain⟨rfl,hk'⟩:=h
  have hk2:Kept s s':=fun q hq=>(hk' q soz).trans smz
  simp -implicitDefEqProofs (disch:=first|omega|simp only[nx4]<;>omega|fail)at hn'
  by_cases hneg:Bc p n < 0
  ·simp -implicitDefEqProofs (disch:=first|omega|simp only[nx4]<;>omega|fail) [WL,hneg,ABN,hk2]
  ·obtain⟨j,hj,hjl⟩:=Rw hneg
   have hjl':(j:Int) < p.length:=by omega
   have hneg':¬ (j:Int) < 0:=by omega
   have hlen:(dmL p (fin p).1).length=p.length:=by simp [dmL]
   have hget:(dmL p (fin p).1)[j]?.getD AV.any=.agg [.str p[j].name,.list 1 .none (((fin p).1 p[j]).st.map AV.bool),.bool ((fin p).1 p[j]).BV]:=by simp [dmL,dm,hjl]
   have hget':∀ h:j < (dmL p (fin p).1).length,(dmL p (fin p).1)[j]'h=.agg [.str p[j].name,.list 1 .none (((fin p).1 p[j]).st.map AV.bool),.bool ((fin p).1 p[j]).BV]:=by intro h;simp [dmL,dm]
   rw [hj]
   simp -implicitDefEqProofs (disch:=first|omega|simp only[nx4]<;>omega|fail) [WL,hneg',ABO,hjl]
   generalize (fin p).1 p[j]=k at hget hget' ⊢
   refine AA h37 fun mm3 hm3=>?_
   try simp only [nx4]at hm3
   simp -implicitDefEqProofs (disch:=first|omega|simp only[nx4]<;>omega|fail) [hlen,hget,hget',hjl',hjl]
   by_cases h0:i < 0
   ·simp -implicitDefEqProofs (disch:=first|omega|simp only[nx4]<;>omega|fail) [SV,h0,WM,hk2]
   ·by_cases h1:(k.st.length:Int)≤i
    ·simp -implicitDefEqProofs (disch:=first|omega|simp only[nx4]<;>omega|fail) [SV,h0,h1,WM,hk2]
    ·obtain⟨m,rfl⟩:∃ m:Nat,i=m:=⟨i.toNat,by omega⟩
     have h2:m < k.st.length:=by omega
     have h2':(m:Int) < k.st.length:=by omega
     have h1':¬ k.st.length≤m:=by omega
     simp -implicitDefEqProofs (disch:=first|omega|simp only[nx4]<;>omega|fail) [SV,h0,h1,h1',h2,h2',ABP,hk2]
     done
end Go.AL.Dm
namespace Go.AL.Dm
def CX (x:ND):Nat:=(x.getD []).length
def Fy:List ND→Nat
 | []=>0
 | x::l=>CX x+Fy l
theorem P8 (n:Int):∀ l:List Int,(JO n l).length≤l.length+1
 | []=>by simp [JO]
 | a::r=>by
  have:=P8 n r
  unfold JO
  split
  ·simp;omega
  ·split <;> simp
theorem OQ:∀ (b a:List Int),(lun a b).length≤a.length+b.length
 | [],a=>by simp [lun]
 | n::b,a=>by
  have h1:=OQ b (JO n a)
  have h2:=P8 n a
  simp only [lun,List.foldl_cons,List.length_cons]at *
  omega
theorem Fz (x y:ND):CX (BB x y)≤CX x+CX y:=by
 cases x <;> cases y <;> simp [BB,CX]
 exact OQ _ _
theorem Uk (x y:ND):CX (BU x y)≤CX x+CX y:=by
 cases x <;> cases y <;> simp [BU,CX,He]
 have:=List.length_filter_le (fun k=>decide (k∈(‹List Int›:List Int))) ‹List Int›
 rename_i a b
 exact Nat.le_trans (List.length_filter_le _ a) (Nat.le_add_right _ _)
theorem Ll (n:Int) (x:ND):CX (B5 n x)≤CX x:=by
 cases x <;> simp [B5,CX]
 exact List.length_filter_le _ _
theorem I2:∀ (bs:List Bool) (xs:List ND) (acc:ND),CX (Av bs xs acc)≤CX acc+Fy xs
 | [],xs,acc=>by cases xs <;> simp [Av,Fy]
 | b::bs,[],acc=>by simp [Av,Fy]
 | b::bs,x::xs,acc=>by
  rw [Av,Fy]
  have h:=I2 bs xs (if b=true then BB acc x else acc)
  have h2:=Fz acc x
  split at h <;> simp_all <;> omega
theorem P9 (fb:ND) (n:Int):∀ (xs:List ND) (i:Int) (acc:ND),CX (Aw fb n i xs acc)≤CX acc+Fy xs
 | [],i,acc=>by simp [Aw,Fy]
 | x::xs,i,acc=>by
  rw [Aw,Fy]
  split
  ·have h:=P9 fb n xs (i+1) (if fb.has (n - 1 - i)then BB acc x else acc)
   have h2:=Fz acc x
   by_cases hh:fb.has (n - 1 - i)
   ·rw [if_pos hh]at h ⊢;omega
   ·rw [if_neg hh]at h ⊢;omega
  ·omega
theorem Mh:∀ (l:List ND) (acc:ND),CX (l.foldl BU acc)≤CX acc+Fy l
 | [],acc=>by simp [Fy]
 | x::l,acc=>by
  rw [List.foldl_cons,Fy]
  have h:=Mh l (BU acc x)
  have h2:=Uk acc x
  omega
theorem QA:∀ vs:List ND,(vs.flatMap fun v=>v.getD []).length=Fy vs
 | []=>rfl
 | v::vs=>by rw [List.flatMap_cons,List.length_append,QA vs,Fy,CX]
theorem Xe (vs:List ND) (b:ND):CX (DE vs b)≤CX b+Fy vs:=by
 unfold DE
 split
 ·simp [CX]
 ·refine Nat.le_trans (Ll _ _) ?_
  show (lun _ _).length≤_
  refine Nat.le_trans (OQ _ _) ?_
  simp only [List.length_nil,Nat.zero_add]
  refine Nat.le_trans (List.length_filter_le _ _) ?_
  rw [List.length_append,QA]
  exact Nat.le_refl _
theorem Ka (K:ByteArray→Kn):∀ l:List Pl,(∀ x∈l,(CX (AM K x):Int)≤sz x)→(Fy (l.map (AM K)):Int)≤szs l
 | [],_=>by simp [Fy,szs]
 | x::l,h=>by
  have h1:=h x (by simp)
  have h2:=Ka K l fun y hy=>h y (by simp [hy])
  simp only [List.map_cons,Fy,szs]
  omega
theorem TN (K:ByteArray→Kn):∀ l:List (Hd × Pl),(∀ x∈l,(CX (AM K x.2):Int)≤sz x.2)→(Fy (l.map fun a=>B5 (bnd a.1) (AM K a.2)):Int)≤sza l
 | [],_=>by simp [Fy,sza]
 | x::l,h=>by
  have h1:=h x (by simp)
  have h2:=TN K l fun y hy=>h y (by simp [hy])
  have h3:=Ll (bnd x.1) (AM K x.2)
  obtain⟨a,b⟩:=x
  simp only [List.map_cons,Fy,sza]at *
  omega
theorem QB (K:ByteArray→Kn) (t:Pl):wf t=true→(CX (AM K t):Int)≤sz t∧(CX (Bm K t):Int)≤sz t:=by
 induction t using Pl.ind with
 | h t ih1 ih2 =>
  intro hw
  obtain⟨hnd,hwa,hwb⟩:=A5 hw
  have i1:∀ x∈t.args,(CX (AM K x):Int)≤sz x:=fun x hx=>(ih1 x hx (hwa x hx)).1
  have i2:∀ x∈t.alts,(CX (AM K x.2):Int)≤sz x.2:=fun x hx=>(ih2 x hx (hwb x hx)).1
  have hs:=Ew t
  have hs1:=By t.args fun x _=>Al x
  have hs2:=Bg t.alts fun x _=>Al x.2
  have hsum:=Ka K t.args i1
  have hsa:=TN K t.alts i2
  have ho:=hnd.op
  have h0:CX (some [])=0:=rfl
  have h00:CX none=0:=rfl
  refine⟨?_,?_⟩
  ·by_cases o1:t.op=1
   ·rw [G0 o1];simp [CX];omega
   by_cases o2:t.op=2
   ·rw [JZ o2];split <;> simp [CX] <;> omega
   by_cases o3:t.op=3∨t.op=4∨t.op=5
   ·rw [HJ o3,h0];omega
   by_cases o6:t.op=6
   ·obtain⟨f,l,hfl⟩:∃ f l,t.args=f::l:=by
     cases h:t.args with
     | nil=>have:=hnd.app o6;rw [h]at this;simp at this
     | cons f l=>exact⟨f,l,rfl⟩
    have hf1:=i1 f (by simp [hfl])
    have hf2:=(ih1 f (by simp [hfl]) (hwa f (by simp [hfl]))).2
    have hl:=Ka K l fun x hx=>i1 x (by simp [hfl,hx])
    rw [hfl,szs]at hs
    have hl0:=By l fun x _=>Al x
    rw [Ip o6 hfl]
    split
    ·have h1:=P9 (Bm K f) f.n (l.map (AM K)) 0 (B5 f.n (Bm K f))
     have h2:=Ll f.n (Bm K f)
     omega
    split
    ·omega
    split
    ·omega
    split
    ·rw [h0];omega
    split
    ·rw [h00];omega
    ·have h1:=I2 (K f.s).st (l.map (AM K)) (some [])
     omega
   by_cases o7:t.op=7
   ·have hl:=hnd.lt o7
    obtain⟨vs,b,hvb⟩:=Dz (l:=t.args) (by intro h;rw [h]at hl;simp at hl)
    have h1:=Xe (vs.map (AM K)) (AM K b)
    have hb:=i1 b (by simp [hvb])
    have hv:=Ka K vs fun x hx=>i1 x (by simp [hvb,hx])
    have hap:∀ l:List Pl,szs (l++[b])=szs l+sz b:=by
     intro l
     induction l with
     | nil=>simp [szs]
     | cons x l ih=>simp only [List.cons_append,szs,ih];omega
    rw [hvb,hap]at hs
    rw [LU o7 hvb]
    omega
   by_cases o8:t.op=8
   ·obtain⟨x,hx⟩:∃ x,t.args=[x]:=List.length_eq_one_iff.1 (hnd.cas o8).1
    rw [Iq o8 hx]
    have h1:=Fz (AM K x) ((t.alts.map fun a=>B5 (bnd a.1) (AM K a.2)).foldl BU none)
    have h2:=Mh (t.alts.map fun a=>B5 (bnd a.1) (AM K a.2)) none
    have h3:=i1 x (by simp [hx])
    rw [hx]at hs
    simp only [szs]at hs
    omega
   ·have o9:t.op=9:=by omega
    by_cases ht:t.s=BZ
    ·rw [Hz o9 ht,h00];omega
    by_cases hp:Ab t.s < 9
    ·obtain⟨k,hk1,hk2⟩:=hnd.prm o9
     have hk3:=H0 hk1 hp
     obtain⟨x,y,hxy⟩:∃ x y,t.args=[x,y]:=by
      match h:t.args,(show t.args.length=2 by omega)with
      | [x,y],_=>exact⟨x,y,rfl⟩
     rw [Ja o9 ht hp hxy]
     have h1:=Fz (AM K x) (AM K y)
     have h2:=i1 x (by simp [hxy])
     have h3:=i1 y (by simp [hxy])
     rw [hxy]at hs
     simp only [szs]at hs
     omega
    ·rw [LV o9 ht hp,h0];omega
  ·rw [Ey]
   cases h:t.args with
   | nil=>simp [CX];omega
   | cons x l =>
    have h1:=i1 x (by simp [h])
    have h2:=OH (l:=t.args) (x:=x) (by simp [h])
    simp
    omega
end Go.AL.Dm
namespace Go.AL.Dm
open Go Go.Proofs
def Gj (s:St) (sz b:Nat) (v:AV) (xs:List AV):Prop:=(v=.list 0 .full []∧xs=[])∨∃ o,v=.list sz (.own o) xs∧s.m o=some (.spare (xs.length * sz))∧b≤o∧o < s.nx
theorem IA {sz bytes b:Nat} {v:AV} {xs ys:List AV} {t:Tok} {s:St} {K:KS} (h:Gj s sz b v xs) (hl:(xs.length+ys.length) * bytes≤140737488355328) (hl2:xs.length+ys.length≤9223372036854775807) (hb:b≤s.nx)
  (hk:∀ v' s',Gj s' sz b v' (xs++ys)→s.nx < s'.nx→(∀ q,q < s.nx→(q < b∨∀ n,s.m q≠some (.spare n))→s'.m q=s.m q)→go (K v' s')):go (apV sz bytes v (.list sz t ys) s K):=by
 rcases h with ⟨rfl,rfl⟩ | ⟨o,rfl,ho,h1,h2⟩
 ·rw [Pt]
  refine Ps ?_ (hk _ _ (.inr ⟨s.nx,rfl,?_,hb,?_⟩) ?_ ?_)
  ·simp [apS]at *
   omega
  ·simp [St.new]
  ·simp [St.new]
  ·simp [St.new]
  ·intro q hq _
   have:q≠s.nx:=by omega
   simp [St.new,this]
 ·rw [Rl,ho]
  refine Ps ?_ ?_
  ·simp [apS]at *
   omega
  ·show go (apO _ _ _ _ _ _ _)
   unfold apO
   refine⟨rfl,hk _ _ (.inr ⟨s.nx,rfl,?_,hb,?_⟩) ?_ ?_⟩
   ·simp [St.new,St.del]
   ·simp [St.new,St.del]
   ·simp [St.new,St.del]
   ·intro q hq hne
    have h1:q≠s.nx:=by omega
    have h2:q≠o:=by
     rintro rfl
     rcases hne with h | h
     ·omega
     ·exact h _ ho
    simp [St.new,St.del,h1,h2]
theorem Gj.wk {s:St} {sz b:Nat} {v:AV} {xs ys:List AV} (h:Gj s sz b v xs) (hw:wkL xs ys):wk v (.list sz .none ys):=by
 rcases h with ⟨rfl,rfl⟩ | ⟨o,rfl,_⟩
 ·simp [hw]
 ·simp [hw]
theorem Gj.move {s s':St} {sz b:Nat} {v:AV} {xs:List AV} (h:Gj s sz b v xs) (hn:s.nx≤s'.nx) (hk:∀ q,b≤q→q < s.nx→(∃ n,s.m q=some (.spare n))→s'.m q=s.m q):Gj s' sz b v xs:=by
 rcases h with h | ⟨o,h1,h2,h3,h4⟩
 ·exact .inl h
 ·exact .inr ⟨o,h1,(hk o h3 h4 ⟨_,h2⟩).trans h2,h3,by omega⟩
theorem Gj.val {s:St} {sz b:Nat} {v:AV} {xs:List AV} (h:Gj s sz b v xs):v.isVal=true∧v.cells=[v]:=by
 rcases h with ⟨rfl,rfl⟩ | ⟨o,rfl,_⟩ <;> exact⟨rfl,rfl⟩
theorem p98 (zs:List Int) (o:Nat) (s:St) (hlen:zs.length≤1000000) (ho:s.m o=some (.box (Af zs))) (hon:o < s.nx):AB Tryz.prog 98 [.Ag 1 o 0 zs.length] s fun r s'=>r=.tup []∧s'.m o=some (.box (Af (BX zs)))∧Ao s o s':=by
 refine AD mixed Tryz.func98 Tryz.call98 k98.2 rfl (AE _ _ _ _ ?_)
 simp -implicitDefEqProofs (disch:=first|omega|simp only[nx4]<;>omega|fail) [k98]
 refine AH (p50 zs o _ _ (by omega) (by simp -implicitDefEqProofs (disch:=first|omega|simp only[nx4]<;>omega|fail) [ho]) (AW ?_))
 simp -implicitDefEqProofs (disch:=first|omega|simp only[nx4]<;>omega|fail)
 rfl
def Gin (p:List Gl) (t:Pl):Prop:=∀ e∈pre t,e.op=2→e.s∈nms p
theorem QC:∀ {l:List Pl} {x e:Pl},x∈l→e∈pre x→e∈Gh l
 | y::l,x,e,h,he=>by
  rw [Gh,List.mem_append]
  rcases List.mem_cons.1 h with rfl | h
  ·exact .inl he
  ·exact .inr (QC h he)
theorem QD:∀ {l:List (Hd × Pl)} {x:Hd × Pl} {e:Pl},x∈l→e∈pre x.2→e∈FP l
 | (h0,y)::l,x,e,h,he=>by
  rw [FP,List.mem_append]
  rcases List.mem_cons.1 h with rfl | h
  ·exact .inl he
  ·exact .inr (QD h he)
theorem I0 (t:Pl):t∈pre t:=by cases t;simp [pre]
theorem Gin.arg {p:List Gl} {t x:Pl} (h:Gin p t) (hx:x∈t.args):Gin p x:=fun e he ho=>h e (by
 cases t
 rw [pre]
 exact List.mem_cons_of_mem _ (List.mem_append_left _ (QC hx he))) ho
theorem Gin.alt {p:List Gl} {t:Pl} {x:Hd × Pl} (h:Gin p t) (hx:x∈t.alts):Gin p x.2:=fun e he ho=>h e (by
 cases t
 rw [pre]
 exact List.mem_cons_of_mem _ (List.mem_append_right _ (QD hx he))) ho
theorem TO {α:Type} (q:α→Bool):∀ (l:List α) (i:Int) (j:Nat),0≤i→DO q l i=i+j→∃ h:j < l.length,q l[j]=true
 | [],i,j,hi,h=>by simp [DO]at h;omega
 | x::l,i,j,hi,h=>by
  rw [DO]at h
  split at h
  ·rename_i hq
   have:j=0:=by omega
   subst this
   exact⟨by simp,hq⟩
  ·cases j with
   | zero =>
    exfalso
    have:∀ (l:List α) (k:Int),0≤k→DO q l k=-1∨k≤DO q l k:=by
     intro l
     induction l with
     | nil=>intro k _;simp [DO]
     | cons y l ih =>
      intro k hk
      rw [DO]
      split
      ·exact .inr (by omega)
      ·rcases ih (k+1) (by omega)with h | h
       ·exact .inl h
       ·exact .inr (by omega)
    rcases this l (i+1) (by omega)with h' | h' <;> omega
   | succ j =>
    obtain⟨h1,h2⟩:=TO q l (i+1) j (by omega) (by omega)
    exact⟨by simpa using h1,by simpa using h2⟩
theorem HO {p:List Gl} {s:ByteArray} (h:s∈nms p):∃ j:Nat,Bc p s=j∧∃ h:j < p.length,p[j].name=s:=by
 have hn:0≤Bc p s:=(Gu _ p 0 (by omega)).2 (by
  simp only [nms,List.mem_map]at h
  obtain⟨g,hg,e⟩:=h
  exact⟨g,hg,by simp [e]⟩)
 obtain⟨j,hj⟩:∃ j:Nat,Bc p s=j:=⟨(Bc p s).toNat,by omega⟩
 obtain⟨h1,h2⟩:=TO (fun g:Gl=>decide (g.name=s)) p 0 j (by omega) (by rw [Bc]at hj;omega)
 exact⟨j,hj,h1,by simpa using h2⟩
structure RT (p:List Gl) (f:Tb):Prop where
 gp:EW p
 Wr:Jz p f
 w:∀ g∈p,(f g).w=wnt g.body
def Jj (l:List Bool):Nat:=(l.filter fun b=>!b).length
theorem Mi (b:Bool) (l:List Bool):Jj (b::l)=Jj l+(if b=true then 0 else 1):=by cases b <;> simp [Jj]
theorem QE:∀ {l:List Bool} {u:Nat} (h:u < l.length),l[u]=false→Jj (l.set u true)+1=Jj l
 | b::l,0,_,h=>by simp at h;subst h;simp [Jj]
 | b::l,u+1,hl,h=>by
  have ih:=QE (l:=l) (u:=u) (by simpa using hl) (by simpa using h)
  rw [List.set_cons_succ,Mi,Mi]
  omega
theorem QF (n i:Nat):(List.replicate n false).getD i false=false:=by
 rw [List.getD_eq_getElem?_getD,List.getElem?_replicate]
 split <;> rfl
theorem Xf (n:Nat):Jj (List.replicate n false)=n:=by simp [Jj]
structure OR (vs:List ND) (body:ND) (out:ND) (sr:List Bool):Prop where
 li:∃ seen,KI vs body out seen∧∀ u:Nat,u < vs.length→sr.getD u false=seen.getD (vs.length - 1 - u) false
 len:sr.length=vs.length
 bnd:CX out+4000 * Jj sr≤4000 * (vs.length+1)
 nb:NB out
theorem OR.start {vs:List ND} {body:ND} (hb:body.ok) (hl:CX body≤4000) (hnb:NB body):OR vs body body (List.replicate vs.length false):=by
 refine⟨⟨_,KI.start hb,fun u hu=>?_⟩,by simp,by rw [Xf];omega,hnb⟩
 rw [QF,QF]
theorem OR.step {vs:List ND} {body:ND} {S:List Int} {sr:List Bool} (h:OR vs body (some S) sr) (hv:∀ x∈vs,x.ok∧CX x≤4000∧NB x) {u:Nat} (hu:u < vs.length) (hk:(u:Int)∈S) (hs:sr.getD u false=false) (hi:vs.length - 1 - u < vs.length) :
  OR vs body (BB (some S) (vs[vs.length - 1 - u]'hi)) (sr.set u true)∧Jj (sr.set u true)+1=Jj sr:=by
 obtain⟨seen,h1,h2⟩:=h.li
 have hlen:=h.len
 have hsl:=h1.len
 have hul:u < sr.length:=by omega
 have hc:Jj (sr.set u true)+1=Jj sr:=QE hul (by simpa [hul] using hs)
 have e1:(vs.length:Int) - 1 - ((vs.length - 1 - u:Nat):Int)=u:=by omega
 refine⟨⟨⟨_,h1.step (fun x hx=>(hv x hx).1) hi (by rw [e1];exact hk),fun v hvl=>?_⟩,by simp [hlen],?_,HK h.nb (hv _ (List.getElem_mem hi)).2.2⟩,hc⟩
 ·by_cases e:u=v
  ·subst e
   simp [hul,hsl,hi]
  ·have e':vs.length - 1 - u≠vs.length - 1 - v:=by omega
   have:=h2 v hvl
   simp only [List.getD_eq_getElem?_getD]at this ⊢
   rw [List.getElem?_set_ne e,List.getElem?_set_ne e']
   exact this
 ·have h3:=Fz (some S) (vs[vs.length - 1 - u]'hi)
  have h4:=(hv _ (List.getElem_mem hi)).2.1
  have h5:=h.bnd
  omega
theorem OR.done {vs:List ND} {body:ND} {out:ND} {sr:List Bool} (h:OR vs body out sr) (hc:∀ S,out=some S→∀ u:Nat,u < vs.length→(u:Int)∈S→sr.getD u false=true):DE vs body=B5 vs.length out:=by
 obtain⟨seen,h1,h2⟩:=h.li
 have hsl:=h1.len
 refine h1.done fun S hS i hi hm=>?_
 have hu:vs.length - 1 - i < vs.length:=by omega
 have h3:=hc S hS (vs.length - 1 - i) hu (by
  have:((vs.length - 1 - i:Nat):Int)=(vs.length:Int) - 1 - i:=by omega
  rw [this];exact hm)
 rw [h2 _ hu]at h3
 have e:vs.length - 1 - (vs.length - 1 - i)=i:=by omega
 rw [e]at h3
 simpa [hi] using h3
theorem OR.ok {vs:List ND} {body:ND} {out:ND} {sr:List Bool} (h:OR vs body out sr):out.ok:=by
 obtain⟨seen,h1,_⟩:=h.li
 exact h1.ok
def J22 (p:List Gl) (f f':Tb) (i:Nat) (a b:List Bool) (n:ByteArray) (fl:Bool) (b6 b7:Nat) (s:St) (m:Nat) (g:Env) (s1:St):Prop :=
 ∃ j:Nat,j≤a.length∧m=a.length - j∧(a=b↔a.drop j=b.drop j)∧g.get 0=.list 3 .none (dmL p f)∧g.get 1=.list 3 .none (dmL p f')∧g.get 5=.int .i64 i∧g.get 6=.ptr b6 0∧g.get 7=.ptr b7 0∧g.get 8=.int .i64 j ∧
  s1.m b6=some (.box [.str n,.list 1 .none (a.map .bool),.bool fl])∧s1.m b7=some (.box [.str n,.list 1 .none (b.map .bool),.bool fl])∧Kept s s1∧s.nx≤s1.nx
def J43 (p:List Gl) (n:ByteArray) (nd:ND) (vf:Nat→Bool) (wn i:Nat) (v:AV) (b10 b11:Nat) (s S0:St) (m:Nat) (g:Env) (s1:St):Prop :=
 ∃ (j:Nat) (fv:AV),j≤wn∧m=wn - j∧Gj s1 1 (b11+1) fv (((List.range j).map vf).map AV.bool)∧g.get 0=.list 6 .none (p.map Gl.av)∧g.get 5=.ptr s.nx 0∧g.get 6=v∧g.get 7=.int .i64 i∧g.get 8=.int .i64 wn∧g.get 10=.ptr b10 0∧g.get 11=.ptr b11 0∧g.get 12=.int .i64 j ∧
  s1.m b10=some (.box [.bool nd.isNone,.list 1 .none (Af (nd.getD []))])∧s1.m b11=some (.box [.str n,fv,.bool nd.isNone])∧Kept S0 s1∧b11 < s1.nx
def nH:ByteArray:=⟨#[104]⟩
def nK:ByteArray:=⟨#[107]⟩
def e0:ByteArray:=⟨#[]⟩
def hC:Pl:=.mk 6 0 e0 [.mk 2 0 nH [] [],.mk 1 0 e0 [] []] []
def hB:Pl:=.mk 5 1 e0 [hC] []
def kC:Pl:=.mk 8 0 e0 [.mk 1 0 e0 [] []] [(⟨3,e0,1⟩,.mk 1 2 e0 [] []),(⟨1,e0,0⟩,.mk 3 0 e0 [] [])]
def kB:Pl:=.mk 5 2 e0 [kC] []
def smp:List Gl:=[⟨nH,hB⟩,⟨nK,kB⟩]
set_option maxHeartbeats 4000000 in
theorem p35:AF Tryz.prog 35 [] (.list 6 .none (smp.map Gl.av)):=by
 refine AF.intro fun s=>AD mixed Tryz.func35 Tryz.call35 k35.2 rfl (AE _ _ _ _ ?_)
 simp -implicitDefEqProofs (maxSteps:=999999) (disch:=first|omega|simp only[nx4]<;>omega|fail) [k35,BE]
 simp [smp,Gl.av,Pl.av,Pl.avs,Pl.Lb,hB,hC,kB,kC,nH,nK,e0,wkL,Pl.BK]
theorem AKk:wf hB=true:=by kernel_rfl
theorem AKl:wf kB=true:=by kernel_rfl
theorem AKm:nm nH=true:=by kernel_rfl
theorem AKn:nm nK=true:=by kernel_rfl
theorem AKo:fv hB 0=[]:=by kernel_rfl
theorem AKp:fv kB 0=[]:=by kernel_rfl
theorem AIs:pre hB=[hB,hC,.mk 2 0 nH [] [],.mk 1 0 e0 [] []]:=rfl
theorem AIt:pre kB=[kB,kC,.mk 1 0 e0 [] [],.mk 1 2 e0 [] [],.mk 3 0 e0 [] []]:=rfl
theorem Lm {x:List UInt8} {b:ByteArray} (h:b.data.toList=x):ba x=b:=by subst h;rfl
theorem ACZ:clo (nms smp) hB=true:=by
 rw [clo,AKo,Bool.and_eq_true]
 refine⟨rfl,List.all_eq_true.2 fun x hx=>?_⟩
 obtain⟨e,he,ho,hs⟩:=HI.1 hx
 rw [AIs]at he
 rw [Lm hs]
 simp only [List.mem_cons,List.not_mem_nil,or_false]at he
 rcases he with rfl | rfl | rfl | rfl
 ·exact absurd ho (by decide)
 ·exact absurd ho (by decide)
 ·simp [nms,smp]
 ·exact absurd ho (by decide)
theorem ACa:clo (nms smp) kB=true:=by
 rw [clo,AKp,Bool.and_eq_true]
 refine⟨rfl,List.all_eq_true.2 fun x hx=>?_⟩
 obtain⟨e,he,ho,hs⟩:=HI.1 hx
 rw [AIt]at he
 simp only [List.mem_cons,List.not_mem_nil,or_false]at he
 rcases he with rfl | rfl | rfl | rfl | rfl <;> exact absurd ho (by decide)
theorem HP:isP smp=true:=by
 have h:B8 [] smp=true:=by simp [B8,smp,AKk,AKl,AKm,AKn,show ¬ nK=nH from by decide]
 rw [isP,h]
 simp [smp,show clo (nms smp) hB=true from ACZ,show clo (nms smp) kB=true from ACa]
 exact⟨ACZ,ACa⟩
theorem I3:Few smp:=by
 refine⟨by decide,fun g hg=>?_⟩
 simp only [smp,List.mem_cons,List.not_mem_nil,or_false]at hg
 rcases hg with rfl | rfl
 ·exact⟨⟨by decide,by decide⟩,by simp [hB,hC,rng,OI,OJ,i64]⟩
 ·exact⟨⟨by decide,by decide⟩,by simp [kB,kC,rng,OI,OJ,i64]⟩
theorem AAP (K:ByteArray→Kn) (h1:(K nH).w=1) (h2:(K nH).BV=true):AM K hC=none:=by
 rw [Ip (t:=hC) rfl (f:=.mk 2 0 nH [] []) (l:=[.mk 1 0 e0 [] []]) rfl]
 simp [h1,h2]
theorem AAQ (K:ByteArray→Kn):AM K kC=some [0]:=by
 rw [Iq (t:=kC) rfl (x:=.mk 1 0 e0 [] []) rfl,G0 rfl]
 simp [kC,G0 (K:=K) (t:=.mk 1 2 e0 [] []) rfl,HJ (K:=K) (t:=.mk 3 0 e0 [] []) (.inl rfl)]
 decide
theorem AE8 (K:ByteArray→Kn) (h1:(K nH).w=1) (h2:(K nH).BV=true):GS K hB=⟨1,[true],true⟩:=by
 have e:AM K (cde hB)=none:=AAP K h1 h2
 have e2:wnt hB=1:=rfl
 rw [GS,e,e2];rfl
theorem AE9 (K:ByteArray→Kn):GS K kB=⟨2,[false,true],false⟩:=by
 have e:AM K (cde kB)=some [0]:=AAQ K
 have e2:wnt kB=2:=rfl
 rw [GS,e,e2];rfl
noncomputable def fS:Tb:=stp smp tb0
def gH:Gl:=⟨nH,hB⟩
def gK:Gl:=⟨nK,kB⟩
theorem Jk:smp=[gH,gK]:=rfl
theorem Rx:EW smp:=MT I3 HP
theorem ACb (f:Tb) (h1:(f gH).w=1) (h2:(f gH).BV=true):stp smp f gH=⟨1,[true],true⟩:=by
 have e:=G2 (f:=f) Rx.nd gH (by rw [Jk];simp)
 exact AE8 _ (by rw [show nH=gH.name from rfl,e];exact h1) (by rw [show nH=gH.name from rfl,e];exact h2)
theorem Xg (f:Tb):stp smp f gK=⟨2,[false,true],false⟩:=AE9 _
theorem AIu:tb0 gK=⟨2,[true,true],true⟩:=rfl
theorem AAR:fS gH=⟨1,[true],true⟩:=ACb _ rfl rfl
theorem AFA:fS gK=⟨2,[false,true],false⟩:=Xg _
theorem TP:fin smp=(fS,2):=by
 have h1:Ft smp tb0 smp=true:=by
  rw [Ft,Jk,List.any_cons,List.any_cons,← Jk,Xg,AIu]
  have:kch ⟨2,[false,true],false⟩ ⟨2,[true,true],true⟩=true:=by decide
  rw [this];simp
 obtain⟨n',_,hw⟩:=(Ws Rx).go Rx h1
 have h2:Ft smp fS smp=false:=by
  rw [Ft,Jk,List.any_cons,List.any_cons,← Jk,Xg,AFA,ACb fS (by rw [AAR]) (by rw [AAR]),AAR,La,La]
  rfl
 exact(hw.done h2).1
theorem Xh:Y3 smp=[dm nH ⟨1,[true],true⟩,dm nK ⟨2,[false,true],false⟩]:=by
 rw [Y3,if_pos HP,TP]
 show dmL smp fS=_
 rw [Jk,dmL,List.map_cons,List.map_cons,List.map_nil,AAR,AFA]
 rfl
theorem TQ:Bc smp nK=1:=by kernel_rfl
theorem AAS:Bc smp ⟨#[120]⟩=-1:=by kernel_rfl
theorem Xi:(((smp[1]?).map (fin smp).1).getD Kn.zero)=⟨2,[false,true],false⟩:=by
 rw [TP]
 show fS gK=_
 exact AFA
theorem AFB:OP smp nK 1=(true,0):=by
 rw [OP,if_neg (by rw [HP];simp),TQ,if_neg (by omega)]
 rw [show ((1:Int).toNat)=1 from rfl,Xi]
 decide
theorem AFC:OP smp nK 2=(false,2):=by
 rw [OP,if_neg (by rw [HP];simp),TQ,if_neg (by omega)]
 rw [show ((1:Int).toNat)=1 from rfl,Xi]
 decide
theorem AFD:OP smp ⟨#[120]⟩ 0=(false,6):=by
 rw [OP,if_neg (by rw [HP];simp),AAS,if_pos (by omega)]
set_option maxHeartbeats 4000000 in
theorem p10:AF Tryz.prog 10 [] (.bool true):=by
 refine AF.intro fun s=>AD mixed Tryz.func10 Tryz.call10 k10.2 rfl (AE _ _ _ _ ?_)
 have h11:=p11 smp I3
 rw [Xh,ADS,if_pos HP]at h11
 have h1:=p20 smp I3 nK 1
 have h2:=p20 smp I3 nK 2
 have h3:=p20 smp I3 ⟨#[120]⟩ 0
 rw [AFB]at h1
 rw [AFC]at h2
 rw [AFD]at h3
 simp only [nK,nH,dm,List.map_cons,List.map_nil]at h1 h2 h11
 have hc0:∀ (a:AV) (l:List AV),((a::l)[0]?).getD AV.any=a:=fun _ _=>rfl
 have hc1:∀ (a b:AV) (l:List AV),((a::b::l)[1]?).getD AV.any=b:=fun _ _ _=>rfl
 simp -implicitDefEqProofs (maxSteps:=999999) (disch:=first|omega|simp only[nx4]<;>omega|fail) [k10]
 refine AA p35 fun mm1 hm1=>?_
 try simp only [nx4]at hm1
 simp -implicitDefEqProofs (maxSteps:=999999) (disch:=first|omega|simp only[nx4]<;>omega|fail) []
 refine AA h11 fun mm2 hm2=>?_
 try simp only [nx4]at hm2
 simp -implicitDefEqProofs (maxSteps:=999999) (disch:=first|omega|simp only[nx4]<;>omega|fail) []
 refine AA p35 fun mm3 hm3=>?_
 try simp only [nx4]at hm3
 simp -implicitDefEqProofs (maxSteps:=999999) (disch:=first|omega|simp only[nx4]<;>omega|fail) []
 refine AA h1 fun mm4 hm4=>?_
 try simp only [nx4]at hm4
 simp -implicitDefEqProofs (maxSteps:=999999) (disch:=first|omega|simp only[nx4]<;>omega|fail) []
 refine AA p35 fun mm5 hm5=>?_
 try simp only [nx4]at hm5
 simp -implicitDefEqProofs (maxSteps:=999999) (disch:=first|omega|simp only[nx4]<;>omega|fail) []
 refine AA h2 fun mm6 hm6=>?_
 try simp only [nx4]at hm6
 simp -implicitDefEqProofs (maxSteps:=999999) (disch:=first|omega|simp only[nx4]<;>omega|fail) []
 refine AA p35 fun mm7 hm7=>?_
 try simp only [nx4]at hm7
 simp -implicitDefEqProofs (maxSteps:=999999) (disch:=first|omega|simp only[nx4]<;>omega|fail) []
 refine AA h3 fun mm8 hm8=>?_
 try simp only [nx4]at hm8
 simp -implicitDefEqProofs (maxSteps:=999999) (disch:=first|omega|simp only[nx4]<;>omega|fail) [hc0,hc1]
 done
theorem Xj {p:List Gl} (h:isP p=true):∀ g∈p,Gin p g.body:=by
 intro g hg e he ho
 simp only [isP,Bool.and_eq_true,decide_eq_true_eq,List.all_eq_true]at h
 have hc:=h.2.2 g hg
 simp only [clo,Bool.and_eq_true,decide_eq_true_eq,List.all_eq_true]at hc
 have hm:e.s.data.toList∈gls g.body:=HI.2 ⟨e,he,ho,rfl⟩
 have:=hc.2 _ hm
 rw [Lm rfl]at this
 simpa using this
theorem TR (most:Int) (hm:0≤most):∀ (p:List Gl) (n:Int),0≤n→wgs p most n≤most→n≤most∧∀ g∈p,wt g.body most 100≤most
 | [],n,hn,h=>by simpa [wgs] using h
 | g::p,n,hn,h=>by
  rw [wgs]at h
  split at h
  ·rename_i hle
   have hb:=Iv g.body most 100 hm (by omega)
   obtain⟨h1,h2⟩:=TR most hm p _ (by omega) h
   refine⟨hle,fun x hx=>?_⟩
   rcases List.mem_cons.1 hx with rfl | hx
   ·omega
   ·exact h2 x hx
  ·omega
theorem AFE {p:List Gl} {t:Pl} (h:Pq p t=true) (hr:∀ g∈p,rng g.body):Few p:=by
 simp only [Pq,Bool.and_eq_true,decide_eq_true_eq]at h
 obtain⟨h1,h2⟩:=TR 3000 (by omega) p p.length (by omega) h.1
 refine⟨by omega,fun g hg=>⟨?_,hr g hg⟩⟩
 have h3:=h2 g hg
 obtain⟨h4,h5⟩:=KT g.body 3000 100 (by omega) (by omega) h3
 exact⟨by omega,by omega⟩
end Go.AL.Dm
set_option maxRecDepth 100000
namespace Go.AL.Dm
open Go Go.Proofs
-- damask/plain.Reached
-- damask/plain.Check
-- slices.Clone[[]string,string]
-- damask/term.Copy
-- damask/term.Map
def k99:CF [0,1,2,4,5,6,8,9,11,22,23,24,25,40,41,42,43] Tryz.f99:=by
 refine⟨?_,?_⟩;rotate_left;cbv;rfl
-- damask/term.Copy$1
-- damask/damasklaw18.DemandOther
def k6:CF [0,1,4,5,6,7,8,9,10,11,12,26,75,79,104] Tryz.f6:=by
 refine⟨?_,?_⟩;rotate_left;cbv;rfl
-- damask/damasklaw18.mod
def k12:CF [0,1,4] Tryz.f12:=by
 refine⟨?_,?_⟩;rotate_left;cbv;rfl
end Go.AL.Dm
set_option maxRecDepth 100000
namespace Go.AL.Dm
open Go Go.Proofs
-- damask/plain.Put
def k32:CF [0,1,2,3,5,6,7,8,18,25,43,55,60] Tryz.f32:=by
 refine⟨?_,?_⟩;rotate_left;cbv;rfl
-- damask/damaskref15.collect
def AAT:CF [0,1,2,3,6,7,8,11,15,28,46,9000000999999,13000000999999] Tryz.f102:=by
 refine⟨?_,?_⟩;rotate_left;cbv;rfl
-- damask/damaskref15.Term
def AFF:CF [0,1,2,4,5,6,7,10,12,23,31] Tryz.f31:=by
 refine⟨?_,?_⟩;rotate_left;cbv;rfl
-- damask/damasklaw18.DemandFree
def k7:CF [0,1,2,3,5,8,9,10,11,12,13,14,15,16,17,42,52,55,68,72,81,92,101] Tryz.f7:=by
 refine⟨?_,?_⟩;rotate_left;cbv;rfl
def L82 (t:Pl) (d nn:Int):Prop:=nn+sz t≤4000∧d+dw t≤201
def G82 (t:Pl) (d nn:Int) (o:Nat) (s:St) (r:AV) (s':St):Prop:=∃ nn' dd',s'.m o=some (cnt nn' dd')∧Ao s o s'∧((r=.bool true∧L82 t d nn∧nn'=nn+sz t)∨(r=.bool false∧¬ L82 t d nn))
def D82 (t:Pl):Prop:=∀ (d nn dd:Int) (o:Nat) (s:St),1≤d→d+dw t≤900→0≤nn→nn≤4000→s.m o=some (cnt nn dd)→o < s.nx→AB Tryz.prog 82 [.ptr o 0,t.av,.int .i64 d] s (G82 t d nn o s)
theorem G82.no {t:Pl} {d nn:Int} {o:Nat} {s s':St} {a b:Int} (h1:s'.m o=some (cnt a b)) (h2:Ao s o s') (h3:¬ L82 t d nn):G82 t d nn o s (.bool false) s':=⟨a,b,h1,h2,.inr ⟨rfl,h3⟩⟩
def AIv (t:Pl) (d nn:Int) (o:Nat) (s:St) (m:Nat) (g:Env) (s1:St):Prop :=
 ∃ (i:Nat) (nb db:Int),i≤t.alts.length∧m=t.alts.length - i∧0≤nb∧nb≤4000∧nb+sza (t.alts.drop i)=nn+sz t∧(d+dw t≤201↔d+1+dwa (t.alts.drop i)≤201)∧d+1+dwa (t.alts.drop i)≤900 ∧
  g.get 0=.ptr o 0∧g.get 2=.int .i64 d∧g.get 138=.list 8 .none (t.alts.map Pl.BK)∧g.get 139=.int .i64 t.alts.length∧g.get 140=.int .i64 i∧s1.m o=some (cnt nb db)∧Ao s o s1∧s.nx≤s1.nx
set_option maxHeartbeats 1000000 in
theorem Xk (t:Pl) (ih2:∀ a∈t.alts,D82 a.2) (d nn:Int) (o:Nat) (s:St) (hd:1≤d) (hd0:d≤200) (hd2:d+1+dwa t.alts≤900) (nb db:Int) (hb0:0≤nb) (hb1:nb≤4000) (hb2:nb+sza t.alts=nn+sz t) (hL:d+dw t≤201↔d+1+dwa t.alts≤201)
  (G:Env) (S:St) (g0:G.get 0=.ptr o 0) (g2:G.get 2=.int .i64 d) (g4:G.get 4=.ptr s.nx 0) (hbx:S.m s.nx=some (.box t.av.cells)) (hm:S.m o=some (cnt nb db)) (hk:Ao s o S) (hnx:s.nx < S.nx) (ho:o < s.nx) (hlen:t.alts.length≤4000) :
  go (awp Tryz.prog (.seq (.seq (.reg false EN) (.block 3 (.loop DY))) (.seq (.reg false EO) .ret)) (Dd [.tmp (true,6)] (G82 t d nn o s)) G S):=by
 simp -implicitDefEqProofs (disch:=first|omega|simp only[nx4]<;>omega|fail) [EN,g4,hbx]
 refine AQ (AIv t d nn o s) t.alts.length ⟨0,nb,db,by omega,by omega,hb0,hb1,by simpa using hb2,by simpa using hL,by simpa using hd2,?_,?_,?_,?_,?_,hm,hk,by omega⟩ ?_
 iterate 5 (simp -implicitDefEqProofs (disch:=first|omega|simp only[nx4]<;>omega|fail) [g0,g2])
 clear hb0 hb1 hb2 hL hd2 hm hk
 rintro m g s1 ⟨i,nb,db,hi,rfl,hb0,hb1,hb2,hL,hd2,e0,e2,e138,e139,e140,hm,hk,hnx⟩
 by_cases hlt:i < t.alts.length
 ·have hlt':(i:Int) < t.alts.length:=by omega
  have w3:=wrapS (i:=i) (by omega)
  have w1:IntKind.i64.wrap (d+1)=d+1:=wrap64 (by omega) (by omega)
  have w2:IntKind.i64.wrap (d+2)=d+2:=wrap64 (by omega) (by omega)
  rw [List.drop_eq_getElem_cons hlt]at hb2 hd2 hL
  have ihx:=ih2 _ (List.getElem_mem hlt)
  generalize hx:t.alts[i]=x at hb2 hd2 hL ihx
  obtain⟨xh,xb⟩:=x
  simp only [sza]at hb2
  simp only [dwa]at hd2 hL
  simp only at ihx
  have z1:=Al xb
  have z2:=Bg (t.alts.drop (i+1)) fun x _=>Al x.2
  have z3:=BA xb
  have z4:=FD (t.alts.drop (i+1))
  simp -implicitDefEqProofs (disch:=first|omega|simp only[nx4]<;>omega|fail) [DY,LF,RO,RP,e0,e2,e138,e139,e140,hlt',hx,w1,w2]
  refine AH (Yq (d+1) nb db o _ _ (by omega) (by omega) (by omega) (by omega) (by simp -implicitDefEqProofs (disch:=first|omega|simp only[nx4]<;>omega|fail) [hm]) soz fun m1 hm1=>AW ?_)
  try simp only [St.Dr,St.Ec,St.GF,St.GG]at hm1
  by_cases tt:nb+1≤4000∧d+1≤200
  ·obtain⟨t1,t2⟩:=tt
   simp -implicitDefEqProofs (disch:=first|omega|simp only[nx4]<;>omega|fail) [t1,t2,e0,e2,w2]
   refine AH (AB.mono (ihx (d+2) (nb+1) (max db (d+1)) o _ (by omega) (by omega) (by omega) (by omega) smz soz) fun r s' hn' h=>AW ?_)
   try simp only [St.Dr,St.Ec,St.GF,St.GG]at hn'
   obtain⟨nn',dd',q3,q4,q5⟩:=h
   have hk':Ao s o s':=DL (by simp -implicitDefEqProofs (disch:=first|omega|simp only[nx4]<;>omega|fail) [hk]) q4 soz
   rcases q5 with ⟨rfl,⟨l1,l2⟩,rfl⟩ | ⟨rfl,hl⟩
   ·simp -implicitDefEqProofs (disch:=first|omega|simp only[nx4]<;>omega|fail) [RQ,e140,w3]
    refine AK (t.alts.length - (i+1)) (by omega) ⟨i+1,_,dd',by omega,rfl,by omega,by omega,by omega,by omega,by omega,?_,?_,?_,?_,rfl,q3,hk',by omega⟩
    all_goals simp -implicitDefEqProofs (disch:=first|omega|simp only[nx4]<;>omega|fail) [e0,e2,e138,e139]
   ·simp -implicitDefEqProofs (disch:=first|omega|simp only[nx4]<;>omega|fail) [Nu]
    exact .no q3 hk' fun h=>hl ⟨by have:=h.1;omega,by have:=hL.1 h.2;omega⟩
  ·have t3:(decide (nb+1≤4000) && decide (d+1≤200))=false:=by
    rw [Bool.and_eq_false_iff]
    by_cases h1:nb+1≤4000
    ·exact .inr (decide_eq_false fun h2=>tt ⟨h1,h2⟩)
    ·exact .inl (decide_eq_false h1)
   rw [t3]
   simp -implicitDefEqProofs (disch:=first|omega|simp only[nx4]<;>omega|fail) [Nu]
   exact .no (a:=nb+1) (b:=max db (d+1)) smz (by simp -implicitDefEqProofs (disch:=first|omega|simp only[nx4]<;>omega|fail) [hk]) fun h=>tt ⟨by have:=h.1;omega,by have:=hL.1 h.2;omega⟩
 ·have hlt':¬ (i:Int) < t.alts.length:=by omega
  rw [List.drop_eq_nil_of_le (by omega)]at hb2 hL
  simp only [sza]at hb2
  simp only [dwa]at hL
  simp -implicitDefEqProofs (disch:=first|omega|simp only[nx4]<;>omega|fail) [DY,LF,EO,e0,e2,e138,e139,e140,hlt']
  exact⟨nb,db,hm,hk,.inl ⟨rfl,⟨by omega,hL.2 (by omega)⟩,by omega⟩⟩
def AIw (t:Pl) (d nn:Int) (o:Nat) (s:St) (m:Nat) (g:Env) (s1:St):Prop :=
 ∃ (i:Nat) (nb db:Int),i≤t.args.length∧m=t.args.length - i∧0≤nb∧nb≤4000∧nb+szs (t.args.drop i)+sza t.alts=nn+sz t∧(d+dw t≤201↔d+dws (t.args.drop i)≤200∧d+1+dwa t.alts≤201)∧d+dws (t.args.drop i)≤899 ∧
  g.get 0=.ptr o 0∧g.get 2=.int .i64 d∧g.get 4=.ptr s.nx 0∧g.get 124=.list 5 .none (t.args.map Pl.av)∧g.get 125=.int .i64 t.args.length∧g.get 126=.int .i64 i∧s1.m s.nx=some (.box t.av.cells)∧s1.m o=some (cnt nb db)∧Ao s o s1∧s.nx < s1.nx
set_option maxHeartbeats 1000000 in
theorem Xl (t:Pl) (ih1:∀ x∈t.args,D82 x) (ih2:∀ a∈t.alts,D82 a.2) (d nn:Int) (o:Nat) (s:St) (hd:1≤d) (hd0:d≤200) (hd2:d+dw t≤900) (nb db:Int) (hb0:0≤nb) (hb1:nb≤4000) (hb2:nb+szs t.args+sza t.alts=nn+sz t)
  (G:Env) (S:St) (g0:G.get 0=.ptr o 0) (g2:G.get 2=.int .i64 d) (g4:G.get 4=.ptr s.nx 0) (hbx:S.m s.nx=some (.box t.av.cells)) (hm:S.m o=some (cnt nb db)) (hk:Ao s o S) (hnx:s.nx < S.nx) (ho:o < s.nx) (hla:t.args.length≤4000) (hlen:t.alts.length≤4000) :
  go (awp Tryz.prog (.seq (.seq (.reg false FR) (.block 1 (.loop EP))) (.seq (.seq (.reg false EN) (.block 3 (.loop DY))) (.seq (.reg false EO) .ret))) (Dd [.tmp (true,6)] (G82 t d nn o s)) G S):=by
 have hde:=Fk t
 have hda:=FD t.alts
 have hza:=Bg t.alts fun x _=>Al x.2
 simp -implicitDefEqProofs (disch:=first|omega|simp only[nx4]<;>omega|fail) [FR,g4,hbx]
 refine AQ (AIw t d nn o s) t.args.length ⟨0,nb,db,by omega,by omega,hb0,hb1,by simpa using hb2,by simp only [List.drop_zero];omega,by simp only [List.drop_zero];omega,?_,?_,?_,?_,?_,?_,hbx,hm,hk,hnx⟩ ?_
 iterate 6 (simp -implicitDefEqProofs (disch:=first|omega|simp only[nx4]<;>omega|fail) [g0,g2,g4])
 clear hb0 hb1 hb2 hm hk hnx hbx
 rintro m g s1 ⟨i,nb,db,hi,rfl,hb0,hb1,hb2,hL,hd3,e0,e2,e4,e124,e125,e126,hbx,hm,hk,hnx⟩
 by_cases hlt:i < t.args.length
 ·have hlt':(i:Int) < t.args.length:=by omega
  have w3:=wrapS (i:=i) (by omega)
  have w1:IntKind.i64.wrap (d+1)=d+1:=wrap64 (by omega) (by omega)
  rw [List.drop_eq_getElem_cons hlt]at hb2 hd3 hL
  have ihx:=ih1 _ (List.getElem_mem hlt)
  generalize hx:t.args[i]=x at hb2 hd3 hL ihx
  simp only [szs]at hb2
  simp only [dws]at hd3 hL
  have z1:=Al x
  have z2:=By (t.args.drop (i+1)) fun x _=>Al x
  have z3:=BA x
  have z4:=Ic (t.args.drop (i+1))
  simp -implicitDefEqProofs (disch:=first|omega|simp only[nx4]<;>omega|fail) [EP,LG,RR,RS,e0,e2,e124,e125,e126,hlt',hx,w1]
  refine AH (AB.mono (ihx (d+1) nb db o _ (by omega) (by omega) (by omega) (by omega) (by simp -implicitDefEqProofs (disch:=first|omega|simp only[nx4]<;>omega|fail) [hm]) soz) fun r s' hn' h=>AW ?_)
  try simp only [St.Dr,St.Ec,St.GF,St.GG]at hn'
  obtain⟨nn',dd',q3,q4,q5⟩:=h
  have hk':Ao s o s':=DL (by simp -implicitDefEqProofs (disch:=first|omega|simp only[nx4]<;>omega|fail) [hk]) q4 soz
  rcases q5 with ⟨rfl,⟨l1,l2⟩,rfl⟩ | ⟨rfl,hl⟩
  ·simp -implicitDefEqProofs (disch:=first|omega|simp only[nx4]<;>omega|fail) [RV,e126,w3]
   refine AK (t.args.length - (i+1)) (by omega) ⟨i+1,_,dd',by omega,rfl,by omega,by omega,by omega,by omega,by omega,?_,?_,?_,?_,?_,rfl,?_,q3,hk',by omega⟩
   iterate 5 (simp -implicitDefEqProofs (disch:=first|omega|simp only[nx4]<;>omega|fail) [e0,e2,e4,e124,e125])
   rw [q4 s.nx soz (by omega)]
   simp -implicitDefEqProofs (disch:=first|omega|simp only[nx4]<;>omega|fail) [hbx]
  ·simp -implicitDefEqProofs (disch:=first|omega|simp only[nx4]<;>omega|fail) [RU]
   exact .no q3 hk' fun h=>hl ⟨by have:=h.1;omega,by have:=(hL.1 h.2).1;omega⟩
 ·have hlt':¬ (i:Int) < t.args.length:=by omega
  rw [List.drop_eq_nil_of_le (by omega)]at hb2 hL
  simp only [szs]at hb2
  simp only [dws]at hL
  simp -implicitDefEqProofs (disch:=first|omega|simp only[nx4]<;>omega|fail) [EP,LG,e0,e2,e4,e124,e125,e126,hlt']
  refine Xk t ih2 d nn o s hd hd0 (by omega) nb db hb0 hb1 (by omega) (by omega) _ _ ?_ ?_ ?_ hbx hm hk hnx ho hlen
  all_goals simp -implicitDefEqProofs (disch:=first|omega|simp only[nx4]<;>omega|fail) [e0,e2,e4]
set_option maxHeartbeats 2000000 in
theorem TS (t:Pl) (ih1:∀ x∈t.args,D82 x) (ih2:∀ a∈t.alts,D82 a.2) (d nn dd:Int) (o:Nat) (s:St) (hd:1≤d) (hd0:d≤200) (hd2:d+dw t≤900) (hn:0≤nn) (hn2:nn+1≤4000) (hla:t.args.length≤4000) (hlb:t.alts.length≤4000) (lo hi:Int) (bn bs al:Bool)
  (hwf:CQ t bs=true∧(t.op=1→0≤t.n)∧(t.op=5→1≤t.n∧t.n≤8)∧As [] t.alts=true)
  (G:Env) (S:St) (g0:G.get 0=.ptr o 0) (g2:G.get 2=.int .i64 d) (g4:G.get 4=.ptr s.nx 0) (g7:G.get 7=.ptr (s.nx+1) 0) (g8:G.get 8=.bool true) (hbx:S.m s.nx=some (.box t.av.cells)) (hb7:S.m (s.nx+1)=some (.box [.int .i64 lo,.int .i64 hi,.bool bn,.bool bs,.bool al]))
  (hm:S.m o=some (cnt (nn+1) dd)) (hk:Ao s o S) (hnx:s.nx+1 < S.nx) (ho:o < s.nx) :
  go (awp Tryz.prog GO (Dd [.tmp (true,6)] (G82 t d nn o s)) G S):=by
 have hse:=Ew t
 have hari:=LH t.s
 obtain⟨hw1,hw2,hw3,hw4⟩:=hwf
 have hafter:∀ (G:Env) (S:St),G.get 0=.ptr o 0→G.get 2=.int .i64 d→G.get 4=.ptr s.nx 0→G.get 8=.bool true→S.m s.nx=some (.box t.av.cells)→S.m o=some (cnt (nn+1) dd)→Ao s o S→s.nx+1 < S.nx →
   go (awp Tryz.prog (.seq (.seq (.reg false Dw) (.cond (.g 122) (.seq (.reg false FT) .ret) .skip)) (.seq (.seq (.reg false FR) (.block 1 (.loop EP))) (.seq (.seq (.reg false EN) (.block 3 (.loop DY))) (.seq (.reg false EO) .ret)))) (Dd [.tmp (true,6)] (G82 t d nn o s)) G S):=by
  intro G S g0 g2 g4 g8 hbx hm hk hnx
  have h116:=WN t.n 1 8
  have h117:=AHs t.alts (by omega)
  rw [hw4]at h117
  have hfin:∀ (G:Env) (S:St),G.get 0=.ptr o 0→G.get 2=.int .i64 d→G.get 4=.ptr s.nx 0→S.m s.nx=some (.box t.av.cells)→S.m o=some (cnt (nn+1) dd)→Ao s o S→s.nx+1 < S.nx →
    go (awp Tryz.prog (.seq (.seq (.reg false FR) (.block 1 (.loop EP))) (.seq (.seq (.reg false EN) (.block 3 (.loop DY))) (.seq (.reg false EO) .ret))) (Dd [.tmp (true,6)] (G82 t d nn o s)) G S) :=
   fun G S a0 a2 a4 a5 a6 a7 a8=>Xl t ih1 ih2 d nn o s hd hd0 hd2 (nn+1) dd (by omega) (by omega) (by omega) G S a0 a2 a4 a5 a6 a7 (by omega) ho hla hlb
  by_cases o5:t.op=5
  ·have q1:=hw3 o5
   rw [decide_eq_true q1.1,decide_eq_true q1.2]at h116
   simp -implicitDefEqProofs (disch:=first|omega|simp only[nx4]<;>omega|fail) [Dw,g0,g2,g4,g8,hbx,o5]
   refine AA h116 fun mm1 hm1=>?_
   try simp only [nx4]at hm1
   simp -implicitDefEqProofs (disch:=first|omega|simp only[nx4]<;>omega|fail) [g4,hbx]
   refine AA h117 fun mm2 hm2=>?_
   try simp only [nx4]at hm2
   simp -implicitDefEqProofs (disch:=first|omega|simp only[nx4]<;>omega|fail)
   refine hfin _ _ ?_ ?_ ?_ hbx hm hk ?_
   all_goals (try simp -implicitDefEqProofs (disch:=first|omega|simp only[nx4]<;>omega|fail) [g0,g2,g4])
   all_goals omega
  ·by_cases q1:t.op=1
   ·have q2:¬ t.n < 0:=by have:=hw2 q1;omega
    simp -implicitDefEqProofs (disch:=first|omega|simp only[nx4]<;>omega|fail) [Dw,g0,g2,g4,g8,hbx,q1,q2]
    refine AA h117 fun mm3 hm3=>?_
    try simp only [nx4]at hm3
    simp -implicitDefEqProofs (disch:=first|omega|simp only[nx4]<;>omega|fail)
    refine hfin _ _ ?_ ?_ ?_ hbx hm hk ?_
    all_goals (try simp -implicitDefEqProofs (disch:=first|omega|simp only[nx4]<;>omega|fail) [g0,g2,g4])
    all_goals omega
   ·simp -implicitDefEqProofs (disch:=first|omega|simp only[nx4]<;>omega|fail) [Dw,g0,g2,g4,g8,hbx,q1,o5]
    refine AA h117 fun mm4 hm4=>?_
    try simp only [nx4]at hm4
    simp -implicitDefEqProofs (disch:=first|omega|simp only[nx4]<;>omega|fail)
    refine hfin _ _ ?_ ?_ ?_ hbx hm hk ?_
    all_goals (try simp -implicitDefEqProofs (disch:=first|omega|simp only[nx4]<;>omega|fail) [g0,g2,g4])
    all_goals omega
 by_cases o9:t.op=9
 ·have har:arI t.s=some (t.args.length:Int):=by
   rw [CQ,if_pos o9]at hw1
   exact of_decide_eq_true hw1
  rw [har]at hari
  simp only [Option.map_some]at hari
  simp -implicitDefEqProofs (disch:=first|omega|simp only[nx4]<;>omega|fail) [GO,Ie,Ig,PQ,EM,g0,g2,g4,g7,g8,hbx,hb7,hari,A2,o9]
  refine hafter _ _ ?_ ?_ ?_ ?_ hbx hm hk hnx
  all_goals simp -implicitDefEqProofs (disch:=first|omega|simp only[nx4]<;>omega|fail) [g0,g2,g4]
 ·have hlk:∃ a b,A2 true [.int .i64 0] false ((arI t.s).map (AV.int .i64))=.tup [a,.bool b]:=by
   cases arI t.s with
   | none=>exact⟨_,_,rfl⟩
   | some k=>exact⟨_,_,rfl⟩
  obtain⟨ra,rb,hlk⟩:=hlk
  rw [CQ,if_neg o9]at hw1
  cases bs with
  | true =>
   have h74:=p74 t.s
   rw [if_pos rfl]at hw1
   rw [hw1]at h74
   simp -implicitDefEqProofs (disch:=first|omega|simp only[nx4]<;>omega|fail) [GO,Ie,Ig,MN,SX,EM,g0,g2,g4,g7,g8,hbx,hb7,hari,hlk,o9]
   refine AA h74 fun mm5 hm5=>?_
   try simp only [nx4]at hm5
   simp -implicitDefEqProofs (disch:=first|omega|simp only[nx4]<;>omega|fail)
   refine hafter _ _ ?_ ?_ ?_ ?_ hbx hm hk ?_
   all_goals (try simp -implicitDefEqProofs (disch:=first|omega|simp only[nx4]<;>omega|fail) [g0,g2,g4])
   all_goals omega
  | false =>
   have he:t.s=emp:=by simpa using hw1
   simp -implicitDefEqProofs (disch:=first|omega|simp only[nx4]<;>omega|fail) [GO,Ie,Ig,MN,SY,EM,g0,g2,g4,g7,g8,hbx,hb7,hari,hlk,o9,Az]
   refine hafter _ _ ?_ ?_ ?_ ?_ hbx hm hk hnx
   all_goals simp -implicitDefEqProofs (disch:=first|omega|simp only[nx4]<;>omega|fail) [g0,g2,g4,he,Az]
set_option maxHeartbeats 4000000 in
theorem AIx (t:Pl):wf t=true→D82 t:=by
 induction t using Pl.ind with
 | h t ih1 ih2 =>
  intro hw d nn dd o s hd hd2 hn hn2 hm ho
  obtain⟨hnd,hwa,hwb⟩:=A5 hw
  have ih1:=fun x hx=>ih1 x hx (hwa x hx)
  have ih2:=fun a ha=>ih2 a ha (hwb a ha)
  have hal:t.alts.length≤40:=by
   by_cases o8:t.op=8
   ·exact(hnd.cas o8).2.2
   ·rw [hnd.GJ o8];simp
  have hlena:=hnd.len
  have hps:=By t.args fun x _=>Al x
  have hpa:=Bg t.alts fun x _=>Al x.2
  have hse:=Ew t
  have hdp:=BA t
  refine AD mixed Tryz.func82 Tryz.call82 c82 rfl (AE _ _ _ _ ?_)
  have hwf:(Dv t && wfs t.args && wfa t.alts)=true:=by rw [← hw,LD,MM]
  simp only [Bool.and_eq_true]at hwf
  replace hwf:=hwf.1.1
  have hsf:=PR t.op
  unfold Dv at hwf
  cases hsh:shp t.op with
  | none=>rw [hsh]at hwf;simp at hwf
  | some x =>
   obtain⟨lo,hi,bn,bs,al⟩:=x
   rw [hsh]at hwf hsf
   simp only at hwf
   simp only [Option.map_some,AC4]at hsf
   have h116:=WN t.args.length lo hi
   generalize hc1:(decide (lo≤(t.args.length:Int)) && decide ((t.args.length:Int)≤hi))=q1 at hwf h116
   simp only [Bool.and_eq_true,Bool.not_eq_true',Bool.and_eq_false_iff,decide_eq_false_iff_not,beq_iff_eq]at hwf
   obtain⟨⟨⟨⟨⟨⟨⟨rfl,w2⟩,c3⟩,w4⟩,w5⟩,w6⟩,w7⟩,w8⟩:=hwf
   have hW:CQ t bs=true∧(t.op=1→0≤t.n)∧(t.op=5→1≤t.n∧t.n≤8)∧As [] t.alts=true:=by
    refine⟨w5,fun h=>?_,fun h=>?_,w8⟩
    ·rcases w6 with w6 | w6
     ·exact absurd h w6
     ·omega
    ·simp at w7
     exact w7.resolve_left fun k=>k h
   have hN:bn=true∨(bn=false∧t.n=0):=by
    cases bn with
    | true=>exact .inl rfl
    | false=>exact .inr ⟨rfl,by simpa using w2⟩
   have hne:0 < (t.alts.length:Int)↔0 < t.alts.length:=by omega
   have c4':¬ (40:Int) < t.alts.length:=by omega
   simp -implicitDefEqProofs (disch:=first|omega|simp only[nx4]<;>omega|fail) [a82,Yt,SZ,Sa,Sb,JR,hsf,A2]
   refine AH (Yq d nn dd o _ _ (by omega) (by omega) hn (by omega) (by simp -implicitDefEqProofs (disch:=first|omega|simp only[nx4]<;>omega|fail) [hm]) soz fun m1 hm1=>AW ?_)
   try simp only [St.Dr,St.Ec,St.GF,St.GG]at hm1
   by_cases tt:nn+1≤4000∧d≤200
   ·obtain⟨t1,t2⟩:=tt
    rcases hN with hbn | ⟨hbn,hn0⟩
    ·subst hbn
     simp -implicitDefEqProofs (disch:=first|omega|simp only[nx4]<;>omega|fail) [t1,t2]
     refine AA h116 fun mm6 hm6=>?_
     try simp only [nx4]at hm6
     simp -implicitDefEqProofs (disch:=first|omega|simp only[nx4]<;>omega|fail) [← c3,c4']
     refine TS t ih1 ih2 d nn (max dd d) o s hd t2 hd2 hn t1 (by omega) (by omega) lo hi true bs al hW _ _ ?_ ?_ ?_ ?_ ?_ ?_ ?_ ?_ ?_ ?_ ho
     all_goals (try simp -implicitDefEqProofs (disch:=first|omega|simp only[nx4]<;>omega|fail))
     all_goals omega
    ·subst hbn
     simp -implicitDefEqProofs (disch:=first|omega|simp only[nx4]<;>omega|fail) [t1,t2]
     refine AA h116 fun mm7 hm7=>?_
     try simp only [nx4]at hm7
     simp -implicitDefEqProofs (disch:=first|omega|simp only[nx4]<;>omega|fail) [← c3,c4',hn0]
     refine TS t ih1 ih2 d nn (max dd d) o s hd t2 hd2 hn t1 (by omega) (by omega) lo hi false bs al hW _ _ ?_ ?_ ?_ ?_ ?_ ?_ ?_ ?_ ?_ ?_ ho
     all_goals (try simp -implicitDefEqProofs (disch:=first|omega|simp only[nx4]<;>omega|fail) [hn0])
     all_goals omega
   ·have t3:(decide (nn+1≤4000) && decide (d≤200))=false:=by
     rw [Bool.and_eq_false_iff]
     by_cases h1:nn+1≤4000
     ·exact .inr (decide_eq_false fun h2=>tt ⟨h1,h2⟩)
     ·exact .inl (decide_eq_false h1)
    rw [t3]
    simp -implicitDefEqProofs (disch:=first|omega|simp only[nx4]<;>omega|fail) [Ih]
    exact .no (a:=nn+1) (b:=max dd d) smz smz fun h=>tt ⟨by have:=h.1;omega,by have:=h.2;omega⟩
end Go.AL.Dm
set_option maxRecDepth 100000
namespace Go.AL.Dm
open Go Go.Proofs
-- damask/term.Measure
def k63:CF [0,1,2,3,4,5,6] Tryz.f63:=by
 refine⟨?_,?_⟩;rotate_left;cbv;rfl
-- damask/plain.occurrences
def k64:CF [0,1,2,3,4,5,6,7,10,14,16,17,18,1000000000003] Tryz.f64:=by
 refine⟨?_,?_⟩;rotate_left;cbv;rfl
-- damask/plain.farthest
def k65:CF [0,1,2,3,4,6,7,10] Tryz.f65:=by
 refine⟨?_,?_⟩;rotate_left;cbv;rfl
-- damask/plain.fits
def k69:CF [0,1,2,3,6] Tryz.f69:=by
 refine⟨?_,?_⟩;rotate_left;cbv;rfl
-- damask/term.Put
def k70:CF [0,1,2,3,5,6] Tryz.f70:=by
 refine⟨?_,?_⟩;rotate_left;cbv;rfl
-- damask/term.put
def Xm:CF [0,1,2,3,4,5,6,7,8,11,12,20,1000000000005,1000000000006,1000000000007] Tryz.f105:=by
 refine⟨?_,?_⟩;rotate_left;cbv;rfl
-- damask/term.Shift
def AFG:CF [0,1,2,3,4,5,6,9,13,1000000000004,1000000000005] Tryz.f145:=by
 refine⟨?_,?_⟩;rotate_left;cbv;rfl
-- damask/term.put$1
def AIy:CF [0,1,2,3,4,6,7] Tryz.f146:=by
 refine⟨?_,?_⟩;rotate_left;cbv;rfl
-- damask/term.Shift$1
def AIz:CF [0,1,2,3,5,6] Tryz.f177:=by
 refine⟨?_,?_⟩;rotate_left;cbv;rfl
end Go.AL.Dm
set_option maxRecDepth 100000
namespace Go.AL.Dm
open Go Go.Proofs
-- damask/damaskref17.New
def k77:CF [0,2,3,4,5,12] Tryz.f77:=by
 refine⟨?_,?_⟩;rotate_left;cbv;rfl
-- (*damask/damaskref17.Store).Show
def k78:CF [0,1,2,4,6,7,8,9,10,22,33,40,47,52,56,63,91] Tryz.f78:=by
 refine⟨?_,?_⟩;rotate_left;cbv;rfl
-- (*damask/damaskref17.Store).Eval
def k79:CF [0,1,2,4,6,7,12,18,34] Tryz.f79:=by
 refine⟨?_,?_⟩;rotate_left;cbv;rfl
-- (*damask/damaskref17.Store).hold
def AAU:CF [0,1,2,4,6] Tryz.f110:=by
 refine⟨?_,?_⟩;rotate_left;cbv;rfl
-- (*damask/damaskref17.Store).Force
def Ui:CF [0,1,4,5,6,15,16,20] Tryz.f111:=by
 refine⟨?_,?_⟩;rotate_left;cbv;rfl
-- damask/damaskref17.wrong
def AI0:CF [0] Tryz.f112:=by
 refine⟨?_,?_⟩;rotate_left;cbv;rfl
-- damask/damaskref17.throw
def AI1:CF [0,2] Tryz.f148:=by
 refine⟨?_,?_⟩;rotate_left;cbv;rfl
-- (*damask/damaskref17.Store).all
def AI2:CF [0,1,2,6,7,8,9,13] Tryz.f149:=by
 refine⟨?_,?_⟩;rotate_left;cbv;rfl
-- damask/damaskref17.with
def AI3:CF [0,1,4,5] Tryz.f151:=by
 refine⟨?_,?_⟩;rotate_left;cbv;rfl
-- damask/damaskref17.Value
def AI4:CF [0,1,2] Tryz.f152:=by
 refine⟨?_,?_⟩;rotate_left;cbv;rfl
-- (*damask/damaskref17.Store).fresh
def AFH:CF [0,1,2,4,6,9] Tryz.f178:=by
 refine⟨?_,?_⟩;rotate_left;cbv;rfl
-- (*damask/damaskref17.Store).value
def AI5:CF [0,1,3,4] Tryz.f179:=by
 refine⟨?_,?_⟩;rotate_left;cbv;rfl
-- damask/damaskref17.Number
def Ln:CF [0,1,2,6,7,8,9,10,16,22,28,34,40,47,63,70] Tryz.f180:=by
 refine⟨?_,?_⟩;rotate_left;cbv;rfl
-- damask/damaskref17.truth
def AI6:CF [0,2,3] Tryz.f186:=by
 refine⟨?_,?_⟩;rotate_left;cbv;rfl
inductive Ot where
 | int (n:Int)
 | con (s:ByteArray) (l:List Nat)
 | fn (c:Pl) (env l:List Nat)
 | act (s:ByteArray) (l:List Nat)
 | thr (n:Int)
 | Bi
def Ot.val:Ot→Bool
 | .thr _ | .Bi=>false
 | _=>true
inductive Ce where
 | hold (c:Pl) (env:List Nat)
 | busy
 | done (o:Ot)
structure Sg where
 cells:List Ce
 steps:Nat
 err:Int
def Sg.put (σ:Sg) (c:Nat) (x:Ce):Sg:={ σ with cells:=σ.cells.set c x }
def Sg.add (σ:Sg) (x:Ce):Sg:={ σ with cells:=σ.cells++[x] }
def CK (env:List Nat) (v:Int):Nat:=env.getD ((env.length:Int) - 1 - v).toNat 0
def Be (env:List Nat):List Pl→Sg→List Nat × Sg
 | [],σ=>([],σ)
 | e::r,σ =>
  if e.op=1 then((CK env e.n)::(Be env r σ).1,(Be env r σ).2)
  else(σ.cells.length::(Be env r (σ.add (.hold e env))).1,(Be env r (σ.add (.hold e env))).2)
def boo (b:Bool):Ot:=.con (if b then⟨⟨[84,114,117,101]⟩⟩else⟨⟨[70,97,108,115,101]⟩⟩) []
def HV (k a b:Int):Ot :=
 if k=0 then .int (IntKind.i64.wrap (a+b))else if k=1 then .int (IntKind.i64.wrap (a - b))else if k=2 then .int (IntKind.i64.wrap (a * b))
 else if k=5 then boo (decide (a=b))else if k=6 then boo (decide (a < b))else if k=7 then boo (decide (a≤b))
 else if b=0 then .thr (-2)
 else if k=3 then .int (IntKind.i64.wrap (a.fdiv b))else .int (IntKind.i64.wrap (a.fmod b))
abbrev Evf:=Pl→List Nat→Sg→Ot × Sg
def CT (ev:Evf) (c:Nat) (σ:Sg):Ot × Sg :=
 match σ.cells[c]? with
 | some (.done o)=>(o,σ)
 | some (.hold e env)=>((ev e env (σ.put c .busy)).1,(ev e env (σ.put c .busy)).2.put c (.done (ev e env (σ.put c .busy)).1))
 | _=>(.thr (-3),σ)
def BQ (ev:Evf):Nat→Ot→List Nat→Sg→Ot × Sg
 | 0,f,_,σ=>(f,σ)
 | m+1,f,l,σ =>
  if f.val=false∨σ.err≠0 then(f,σ)
  else match f with
   | .fn c env l0 =>
    if ((l0++l).length:Int) < c.n then(.fn c env (l0++l),σ)
    else
     let r:=ev (c.args.headD c) (env++(l0++l).take c.n.toNat) σ
     if ((l0++l).length:Int)=c.n then r else BQ ev m r.1 ((l0++l).drop c.n.toNat) r.2
   | _=>(.Bi,σ)
def Lk (o:Ot) (h:Hd):Bool :=
 if h.op=1 then true else
 match o with
 | .int n=>decide (h.op=3∧n=h.n)
 | .con s l=>decide (h.op=2∧s=h.s∧(l.length:Int)=h.n)
 | _=>false
def B9:Ot→List Nat
 | .con _ l=>l
 | .act _ l=>l
 | .fn _ _ l=>l
 | _=>[]
def Cg (ev:Evf) (o:Ot) (env:List Nat):List (Hd × Pl)→Sg→Ot × Sg
 | [],σ=>(.Bi,σ)
 | (h,b)::r,σ=>if Lk o h then ev b (env++(σ.cells.length::(if h.op=2 then B9 o else []))) (σ.add (.done o))else Cg ev o env r σ
def FI (ev:Evf) (e:Pl) (env:List Nat) (σ:Sg):Ot × Sg :=
 let k:=Ab e.s
 let x:=e.args.headD e
 if k=9 then
  let r:=ev x env σ
  match r.1 with
  | .int n=>(.thr n,r.2)
  | o=>(if o.val then .Bi else o,r.2)
 else if 9 < k then(.act e.s (Be env e.args σ).1,(Be env e.args σ).2)
 else
  let r:=ev x env σ
  if r.1.val=false∨r.2.err≠0 then r
  else
   let q:=ev ((e.args[1]?).getD e) env r.2
   if k=8∨q.1.val=false∨q.2.err≠0 then q
   else match r.1,q.1 with
    | .int a,.int b=>(HV k a b,q.2)
    | _,_=>(.Bi,q.2)
def BR (p:List Gl) (ev:Evf) (e:Pl) (env:List Nat) (σ:Sg):Ot × Sg :=
 if e.op=1 then CT ev (CK env e.n) σ
 else if e.op=2 then CT ev (Bc p e.s).toNat σ
 else if e.op=3 then(.int e.n,σ)
 else if e.op=4 then(.con e.s (Be env e.args σ).1,(Be env e.args σ).2)
 else if e.op=5 then(.fn e env [],σ)
 else if e.op=6 then
  let r:=ev (e.args.headD e) env σ
  match r.1 with
  | .fn c env' l=>BQ ev (e.args.length+1) (.fn c env' l) (Be env (e.args.drop 1) r.2).1 (Be env (e.args.drop 1) r.2).2
  | o=>BQ ev 1 o [] r.2
 else if e.op=7 then
  let n:=e.args.length - 1
  let inner:=env++(List.range n).map (σ.cells.length+·)
  ev ((e.args[n]?).getD e) inner { σ with cells:=σ.cells++(e.args.take n).map fun x=>.hold x inner }
 else if e.op=8 then
  let r:=ev (e.args.headD e) env σ
  if r.1.val=false∨r.2.err≠0 then r else Cg ev r.1 env e.alts r.2
 else FI ev e env σ
def evalW (p:List Gl):Nat→Evf
 | n,e,env,σ =>
  if σ.err≠0 then(.Bi,σ)
  else if σ.steps=20000 then(.Bi,{ σ with err:=7 })
  else match n with
   | 0=>(.Bi,{ σ with steps:=σ.steps+1,err:=5 })
   | n+1=>BR p (evalW p n) e env { σ with steps:=σ.steps+1 }
def start (p:List Gl):Sg:=⟨p.map fun g=>.hold g.body [],0,0⟩
mutual
def cl:Pl→Int→Bool
 | .mk op n s args alts,m=>if op=1 then decide (n < m)else cls args (m+inn (.mk op n s args alts)) && cla alts m
def cls:List Pl→Int→Bool
 | [],_=>true
 | t::ts,m=>cl t m && cls ts m
def cla:List (Hd × Pl)→Int→Bool
 | [],_=>true
 | (h,b)::ts,m=>cl b (m+bnd h) && cla ts m
end
theorem Fw (t:Pl) (m:Int):cl t m=if t.op=1 then decide (t.n < m)else cls t.args (m+inn t) && cla t.alts m:=by cases t;rw [cl];rfl
theorem Da:∀ (l:List Pl) (m:Int),cls l m=true↔∀ x∈l,cl x m=true
 | [],m=>by simp [cls]
 | t::ts,m=>by simp [cls,Da ts m]
theorem Db:∀ (l:List (Hd × Pl)) (m:Int),cla l m=true↔∀ a∈l,cl a.2 (m+bnd a.1)=true
 | [],m=>by simp [cla]
 | (h,b)::ts,m=>by simp [cla,Db ts m]
theorem TT:∀ {l:List Pl} {x:Pl} {u v:Int},x∈l→v∈fv x u→v∈fvs l u
 | y::l,x,u,v,h,hv=>by
  rw [fvs,List.mem_append]
  rcases List.mem_cons.1 h with rfl | h
  ·exact .inl hv
  ·exact .inr (TT h hv)
theorem TU:∀ {l:List (Hd × Pl)} {a:Hd × Pl} {u v:Int},a∈l→v∈fv a.2 (u+bnd a.1)→v∈fva l u
 | (y,b)::l,a,u,v,h,hv=>by
  rw [fva,List.mem_append]
  rcases List.mem_cons.1 h with rfl | h
  ·exact .inl hv
  ·exact .inr (TU h hv)
theorem Lo (t:Pl):∀ u k:Int,0≤k→(∀ v∈fv t u,v < k)→cl t (u+k)=true:=by
 induction t using Pl.ind with
 | h t ih1 ih2 =>
  intro u k hk h
  rw [Fw]
  rw [IW]at h
  split
  ·rename_i o1
   rw [if_pos o1]at h
   apply decide_eq_true
   split at h
   ·have:=h _ (List.mem_singleton.2 rfl);omega
   ·omega
  ·rename_i o1
   rw [if_neg o1]at h
   rw [Bool.and_eq_true,Da,Db]
   refine⟨fun x hx=>?_,fun a ha=>?_⟩
   ·have:=ih1 x hx (u+inn t) k hk fun v hv=>h v (List.mem_append_left _ (TT hx hv))
    rw [show u+k+inn t=u+inn t+k by omega];exact this
   ·have:=ih2 a ha (u+bnd a.1) k hk fun v hv=>h v (List.mem_append_right _ (TU ha hv))
    rw [show u+k+bnd a.1=u+bnd a.1+k by omega];exact this
structure okE (p:List Gl) (e:Pl) (env:List Nat) (m:Nat):Prop where
 wf:wf e=true
 rg:rng e
 gi:Gin p e
 cl:cl e env.length=true
 lt:∀ c∈env,c < m
 bd:(env.length:Int)+14 * dw e≤6000
theorem okE.mono {p:List Gl} {e:Pl} {env:List Nat} {m m':Nat} (h:okE p e env m) (hm:m≤m'):okE p e env m' :=
 ⟨h.wf,h.rg,h.gi,h.cl,fun c hc=>Nat.lt_of_lt_of_le (h.lt c hc) hm,h.bd⟩
theorem okE.arg {p:List Gl} {e x:Pl} {env more:List Nat} {m m':Nat} (h:okE p e env m) (o1:e.op≠1) (hx:x∈e.args) (hl:(more.length:Int)=inn e) (hm:m≤m') (hmore:∀ c∈more,c < m'):okE p x (env++more) m':=by
 obtain⟨hnd,hwa,hwb⟩:=A5 h.wf
 have hcl:=h.cl
 rw [Fw,if_neg o1,Bool.and_eq_true,Da]at hcl
 have hi:=hnd.inn
 have hd:=(Du hx).2
 have hb:=h.bd
 refine⟨hwa x hx,((Cc e).1 h.rg).2.2.1 x hx,h.gi.arg hx,?_,fun c hc=>?_,?_⟩
 ·have:=hcl.1 x hx
  rw [List.length_append,Int.natCast_add,hl];exact this
 ·rcases List.mem_append.1 hc with hc | hc
  ·exact Nat.lt_of_lt_of_le (h.lt c hc) hm
  ·exact hmore c hc
 ·rw [List.length_append,Int.natCast_add];omega
theorem okE.alt {p:List Gl} {e:Pl} {a:Hd × Pl} {env more:List Nat} {m m':Nat} (h:okE p e env m) (o1:e.op≠1) (ha:a∈e.alts) (hl:(more.length:Int)=bnd a.1) (hm:m≤m') (hmore:∀ c∈more,c < m'):okE p a.2 (env++more) m':=by
 obtain⟨hnd,hwa,hwb⟩:=A5 h.wf
 have hcl:=h.cl
 rw [Fw,if_neg o1,Bool.and_eq_true,Db]at hcl
 have hi:bnd a.1≤13:=by
  unfold bnd
  split
  ·rename_i h2;have:=hnd.hd a ha h2;omega
  ·omega
 have hd:=(GK ha).2
 have hb:=h.bd
 refine⟨hwb a ha,(((Cc e).1 h.rg).2.2.2 a ha).2.2,h.gi.alt ha,?_,fun c hc=>?_,?_⟩
 ·have:=hcl.2 a ha
  rw [List.length_append,Int.natCast_add,hl];exact this
 ·rcases List.mem_append.1 hc with hc | hc
  ·exact Nat.lt_of_lt_of_le (h.lt c hc) hm
  ·exact hmore c hc
 ·rw [List.length_append,Int.natCast_add];omega
def okO (p:List Gl):Ot→Nat→Prop
 | .int n,_=>i64 n
 | .con _ l,m=>(∀ c∈l,c < m)∧l.length≤13
 | .fn c env l,m=>c.op=5∧okE p c env m∧(∀ c∈l,c < m)∧(l.length:Int) < c.n
 | .act _ l,m=>(∀ c∈l,c < m)∧l.length≤13
 | .thr n,_=>i64 n
 | .Bi,_=>True
theorem okO.mono {p:List Gl} {o:Ot} {m m':Nat} (h:okO p o m) (hm:m≤m'):okO p o m':=by
 cases o with
 | int n=>exact h
 | con s l=>exact⟨fun c hc=>Nat.lt_of_lt_of_le (h.1 c hc) hm,h.2⟩
 | fn c env l=>exact⟨h.1,h.2.1.mono hm,fun c hc=>Nat.lt_of_lt_of_le (h.2.2.1 c hc) hm,h.2.2.2⟩
 | act s l=>exact⟨fun c hc=>Nat.lt_of_lt_of_le (h.1 c hc) hm,h.2⟩
 | thr n=>exact h
 | Bi=>trivial
def okC (p:List Gl):Ce→Nat→Prop
 | .hold e env,m=>okE p e env m
 | .busy,_=>True
 | .done o,m=>okO p o m
theorem okC.mono {p:List Gl} {x:Ce} {m m':Nat} (h:okC p x m) (hm:m≤m'):okC p x m':=by
 cases x with
 | hold e env=>exact okE.mono h hm
 | busy=>trivial
 | done o=>exact okO.mono h hm
structure OKs (p:List Gl) (σ:Sg):Prop where
 ce:∀ x∈σ.cells,okC p x σ.cells.length
 pl:p.length≤σ.cells.length
 bn:σ.cells.length≤400+13 * σ.steps
 st:σ.steps≤20000
structure Rs (p:List Gl) (σ:Sg) (b:Nat) (r:Ot × Sg):Prop where
 ok:OKs p r.2
 out:okO p r.1 r.2.cells.length
 len:σ.cells.length≤r.2.cells.length
 stp:σ.steps≤r.2.steps
 inc:r.2.cells.length+13 * σ.steps≤σ.cells.length+13 * r.2.steps+b
def EU (p:List Gl) (ev:Evf):Prop:=∀ e env σ,OKs p σ→okE p e env σ.cells.length→Rs p σ 0 (ev e env σ)
theorem Rs.same {p:List Gl} {σ:Sg} {o:Ot} (h:OKs p σ) (ho:okO p o σ.cells.length) (b:Nat):Rs p σ b (o,σ):=⟨h,ho,Nat.le_refl _,Nat.le_refl _,by simp⟩
theorem Rs.trans {p:List Gl} {σ σ1:Sg} {a b:Nat} {r:Ot × Sg} (h1:σ.cells.length≤σ1.cells.length) (h2:σ.steps≤σ1.steps) (h3:σ1.cells.length+13 * σ.steps≤σ.cells.length+13 * σ1.steps+a) (h:Rs p σ1 b r):Rs p σ (a+b) r :=
 ⟨h.ok,h.out,Nat.le_trans h1 h.len,Nat.le_trans h2 h.stp,by have:=h.inc;omega⟩
theorem Rs.G6 {p:List Gl} {σ:Sg} {a b:Nat} {r:Ot × Sg} (h:Rs p σ a r) (hab:a≤b):Rs p σ b r:=⟨h.ok,h.out,h.len,h.stp,by have:=h.inc;omega⟩
theorem OKs.put {p:List Gl} {σ:Sg} (h:OKs p σ) {c:Nat} {x:Ce} (hx:okC p x σ.cells.length):OKs p (σ.put c x):=by
 have hl:(σ.put c x).cells.length=σ.cells.length:=by simp [Sg.put]
 refine⟨fun y hy=>?_,by rw [hl];exact h.pl,by rw [hl];exact h.bn,h.st⟩
 rw [hl]
 rcases List.mem_or_eq_of_mem_set hy with hy | rfl
 ·exact h.ce y hy
 ·exact hx
theorem OKs.app {p:List Gl} {σ:Sg} (h:OKs p σ) {xs:List Ce} (hx:∀ x∈xs,okC p x (σ.cells.length+xs.length)) (hb:σ.cells.length+xs.length≤400+13 * σ.steps):OKs p { σ with cells:=σ.cells++xs }:=by
 refine⟨fun y hy=>?_,by simp;have:=h.pl;omega,by simpa using hb,h.st⟩
 simp only [List.length_append]
 rcases List.mem_append.1 hy with hy | hy
 ·exact(h.ce y hy).mono (by omega)
 ·exact hx y hy
theorem Mj {env:List Nat} {v:Int} (h0:0≤v) (h1:v < env.length):CK env v∈env:=by
 unfold CK
 have:((env.length:Int) - 1 - v).toNat < env.length:=by omega
 rw [List.getD_eq_getElem?_getD,List.getElem?_eq_getElem this]
 exact List.getElem_mem this
theorem okE.var {p:List Gl} {e:Pl} {env:List Nat} {m:Nat} (h:okE p e env m) (o1:e.op=1):0≤e.n∧e.n < env.length:=by
 have h1:=((A5 h.wf).1.var o1).1
 have h2:=h.cl
 rw [Fw,if_pos o1]at h2
 exact⟨h1,of_decide_eq_true h2⟩
theorem QG {p:List Gl} {ev:Evf} (h:EU p ev) {σ:Sg} (hσ:OKs p σ) {c:Nat}:Rs p σ 0 (CT ev c σ):=by
 unfold CT
 split
 ·rename_i o hc
  exact .same hσ (hσ.ce _ (List.mem_of_getElem? hc)) 0
 ·rename_i e env hc
  have he:=hσ.ce _ (List.mem_of_getElem? hc)
  have hl:(σ.put c .busy).cells.length=σ.cells.length:=by simp [Sg.put]
  have hr:=h e env (σ.put c .busy) (hσ.put (x:=.busy) trivial) (by rw [hl];exact he)
  have h1:=hr.len
  have h2:=hr.stp
  have h3:=hr.inc
  rw [hl]at h1 h3
  refine⟨hr.ok.put hr.out,?_,?_,h2,?_⟩
  ·show okO p _ (Sg.put _ _ _).cells.length
   simp only [Sg.put,List.length_set];exact hr.out
  ·show _≤(Sg.put _ _ _).cells.length
   simp only [Sg.put,List.length_set];exact h1
  ·show (Sg.put _ _ _).cells.length+_≤_
   simp only [Sg.put,List.length_set];exact h3
 ·exact .same hσ (by simp [okO,i64]) 0
theorem GZ {p:List Gl} {env:List Nat}:∀ {l:List Pl} {σ:Sg} (_:OKs p σ) (_:∀ e∈l,okE p e env σ.cells.length) (_:σ.cells.length+l.length≤400+13 * σ.steps),
  OKs p (Be env l σ).2∧(∀ c∈(Be env l σ).1,c < (Be env l σ).2.cells.length)∧(Be env l σ).1.length=l.length∧σ.cells.length≤(Be env l σ).2.cells.length∧(Be env l σ).2.cells.length≤σ.cells.length+l.length ∧
   (Be env l σ).2.steps=σ.steps∧(Be env l σ).2.err=σ.err
 | [],σ,h,_,_=>by simp [Be,h]
 | e::r,σ,h,he,hb=>by
  simp only [List.length_cons]at hb
  rw [Be]
  split
  ·rename_i o1
   obtain⟨h1,h2,h3,h4,h5,h6,h7⟩:=GZ (l:=r) h (fun x hx=>he x (by simp [hx])) (by omega)
   have hv:=(he e (by simp)).var o1
   refine⟨h1,fun c hc=>?_,by simp [h3],h4,by simp;omega,h6,h7⟩
   rcases List.mem_cons.1 hc with rfl | hc
   ·exact Nat.lt_of_lt_of_le ((he e (by simp)).lt _ (Mj hv.1 hv.2)) h4
   ·exact h2 c hc
  ·have hl:(σ.add (.hold e env)).cells.length=σ.cells.length+1:=by simp [Sg.add]
   have hσ1:OKs p (σ.add (.hold e env)):=h.app (xs:=[.hold e env]) (fun x hx=>by simp at hx;subst hx;exact(he e (by simp)).mono (by simp)) (by simp;omega)
   obtain⟨h1,h2,h3,h4,h5,h6,h7⟩:=GZ (l:=r) hσ1 (fun x hx=>(he x (by simp [hx])).mono (by omega)) (by rw [hl];show _≤400+13 * σ.steps;omega)
   rw [hl]at h4 h5
   refine⟨h1,fun c hc=>?_,by simp [h3],by show _≤(Be env r _).2.cells.length;omega,by simp;omega,h6,h7⟩
   rcases List.mem_cons.1 hc with rfl | hc
   ·show _ < (Be env r _).2.cells.length;omega
   ·exact h2 c hc
end Go.AL.Dm
