/- The need of an application, and of code: the program. -/
import Derived.Test.YtlledcnjfgcipaaGreatDoorF32
import Derived.Test.YtlledcnjfgcipaaGreatDoorC4
set_option linter.unusedVariables false
set_option linter.unusedSimpArgs false
namespace Go.AL.Dm
open Go Go.Proofs
theorem AKD (D:List (ByteArray × Kn)) (t:Pl) (hw:wf t=true) (hs:small t) (hr:rng t) (o7:t.op=7) (ih:∀ x∈t.args,C49 D x):AF Tryz.prog 125 [t.av,.Ai [ana D]] (ndv (AM (AJ D) t)):=by
 refine AF.intro fun s=>AD mixed Tryz.func125 Tryz.call125 k125.2 rfl (AE _ _ _ _ ?_)
 obtain⟨hnd,hwa,hwb⟩:=A5 hw
 have hr':=(Cc t).1 hr
 have hl:=hnd.lt o7
 obtain⟨vs,b,hvb⟩:=Dz (l:=t.args) (by intro h;rw [h]at hl;simp at hl)
 have hlen:t.args.length=vs.length+1:=by rw [hvb];simp
 have hbm:b∈t.args:=by rw [hvb];simp
 have hvm:∀ x∈vs,x∈t.args:=fun x hx=>by rw [hvb];simp [hx]
 have h126:=AKC D vs b (by omega) (ih b hbm (hwa b hbm) (BS hs hbm) (hr'.2.2.1 b hbm)) (fun x hx=>ih x (hvm x hx) (hwa x (hvm x hx)) (BS hs (hvm x hx)) (hr'.2.2.1 x (hvm x hx)))
  (Ir _ b (hwa b hbm) (hr'.2.2.1 b hbm)).1 (fun x hx=>(Ir _ x (hwa x (hvm x hx)) (hr'.2.2.1 x (hvm x hx))).1)
 rw [LU o7 hvb]
 generalize DE (vs.map (AM (AJ D))) (AM (AJ D) b)=nn at h126 ⊢
 have w1:IntKind.i64.wrap (vs.length:Int)=(vs.length:Int):=wrap64 (by omega) (by omega)
 have hlt:(vs.length:Int)≤t.args.length:=by omega
 have hg:t.args[vs.length]'(by omega)=b:=by simp [hvb]
 have htk:(t.args.map Pl.av).take vs.length=vs.map Pl.av:=by rw [hvb];simp
 have htk2:t.args.take vs.length=vs:=by rw [hvb];simp
 simp -implicitDefEqProofs (disch:=first|omega|simp only[nx4]<;>omega|fail) [k125,w1,hlen,hg,htk,htk2]
 refine AO h126 ?_
 simp -implicitDefEqProofs (disch:=first|omega|simp only[nx4]<;>omega|fail) [A3]
theorem Pj (xs:List ND) (acc:ND):Av [] xs acc=acc:=by cases xs <;> rfl
def AH6 (D:List (ByteArray × Kn)) (k:Kn) (wn:Nat) (l:List Pl) (fin:ND) (b7 b8:Nat) (s:St) (m:Nat) (g:Env) (s1:St):Prop :=
 ∃ (i:Nat) (acc:ND),i≤wn∧m=wn - i∧Av (k.st.drop i) ((l.drop i).map (AM (AJ D))) acc=fin∧acc.ok∧g.get 0=ana D∧g.get 4=.ptr (s.nx+1) 0∧g.get 7=.ptr b7 0∧g.get 8=.ptr b8 0∧g.get 57=.list 5 .none ((l.take wn).map Pl.av)∧g.get 58=.int .i64 wn∧g.get 59=.int .i64 i ∧
  s1.m (s.nx+1)=some (.box [.bool false,.Ad])∧s1.m b7=some (.box (.int .i64 k.w::kr k))∧s1.m b8=some (.box [.bool acc.isNone,ndm acc])∧Kept s s1∧b7 < s1.nx∧b8 < s1.nx
theorem AH7 (D:List (ByteArray × Kn)) (k:Kn) (l:List Pl) (hll:l.length≤8) (hw0:0≤k.w∧k.w≤8) (hk0:¬ k.w=0) (hst:(k.st.length:Int)=k.w) (ihl:∀ x∈l,AF Tryz.prog 49 [ana D,x.av] (ndv (AM (AJ D) x))) (s:St) (fin:ND)
  (hfin:(if (l.length:Int) < k.w then some []else if k.BV=true then none else Av k.st (l.map (AM (AJ D))) (some []))=fin) (g:Env) (S:St) (b7:Nat) (e0:g.get 0=ana D) (e4:g.get 4=.ptr (s.nx+1) 0) (e6:g.get 6=.list 5 .none (l.map Pl.av)) (e7:g.get 7=.ptr b7 0)
  (j4:S.m (s.nx+1)=some (.box [.bool false,.Ad])) (j7:S.m b7=some (.box (.int .i64 k.w::kr k))) (hk:Kept s S) (hb:s.nx+1 < b7) (hb2:b7 < S.nx) :
  go (Cr Tryz.prog RD (Hr (FQ Tryz.prog (.seq (.seq (.reg false RE) (.cond (.g 49) (.seq (.reg false RF) .ret) .skip)) (.seq (.seq (.reg false Nb) (.cond (.g 52) (.seq (.reg false RG) .ret) .skip)) (.seq (.seq (.reg false RH) (.block 1 (.loop KP))) (.seq (.reg false Ng) .ret))))
   (DZ 0 (FQ Tryz.prog (.seq (.reg false Ib) .ret) (Dd [.cell (true,4) 2 true] fun r' s'=>wk r' (ndv fin)∧Kept s s'))))) g [] S):=by
 obtain⟨wn,hwn⟩:∃ wn:Nat,k.w=wn:=⟨k.w.toNat,by omega⟩
 rw [hwn]at hfin hw0 hk0 hst j7
 simp -implicitDefEqProofs (disch:=first|omega|simp only[nx4]<;>omega|fail) [RD]
 refine AA p87 fun mm1 hm1=>?_
 try simp only [nx4]at hm1
 simp -implicitDefEqProofs (disch:=first|omega|simp only[nx4]<;>omega|fail) [A3,RE,e6,e7,j7]
 by_cases hlw:l.length < wn
 ·have hlw':(l.length:Int) < wn:=by omega
  rw [if_pos hlw']at hfin
  subst hfin
  simp -implicitDefEqProofs (disch:=first|omega|simp only[nx4]<;>omega|fail) [hlw,RF,e4,j4,hk]
  intro h;omega
 have hlw':¬ (l.length:Int) < wn:=by omega
 rw [if_neg hlw']at hfin
 cases hkf:k.BV with
 | true =>
  rw [if_pos hkf]at hfin
  subst hfin
  simp -implicitDefEqProofs (disch:=first|omega|simp only[nx4]<;>omega|fail) [hlw,Nb,e7,j7,hkf,RG]
  intro _
  refine AA UQ fun mm2 hm2=>?_
  try simp only [nx4]at hm2
  simp -implicitDefEqProofs (disch:=first|omega|simp only[nx4]<;>omega|fail) [A3,e4,j4,hk]
 | false =>
  rw [if_neg (by rw [hkf];simp)]at hfin
  simp -implicitDefEqProofs (disch:=first|omega|simp only[nx4]<;>omega|fail) [hlw,Nb,e7,j7,hkf,RH,e6]
  intro hle
  refine AQ (AH6 D k wn l fin b7 mm1 s) wn ?h0 ?_
  case h0 =>
   refine⟨0,some [],by omega,by omega,by simpa using hfin,KN,?_,?_,?_,?_,?_,?_,?_,?_,?_,?_,?_,?_,?_⟩
   all_goals (try simp -implicitDefEqProofs (disch:=first|omega|simp only[nx4]<;>omega|fail) [e0,e4,e7,j4,hwn,j7,hk,hb])
   all_goals (try omega)
  have hb7:b7 < mm1:=by omega
  clear e0 e4 e6 e7 j4 j7 hk hb2
  rintro m g S ⟨i,acc,hi,rfl,hu,hao,e0,e4,e7,e8,e57,e58,e59,j4,j7,j8,hk,hb2,hb3⟩
  by_cases hlt:i < wn
  ·have hlt':(i:Int) < wn:=by omega
   have hil:i < l.length:=by omega
   have his:i < k.st.length:=by omega
   have h8:i < 8:=by omega
   have w3:=wrapS (i:=i) (by omega)
   rw [List.drop_eq_getElem_cons hil,List.drop_eq_getElem_cons his,List.map_cons,Av]at hu
   have hxl:=ihl _ (List.getElem_mem hil)
   have hxo:=DX (AJ D) l[i]
   have hkd:=Yy (k:=k) h8
   have hsg:k.st.getD i false=k.st[i]:=by simp [his]
   rw [hsg]at hkd
   have hkd':(AV.int .i64 k.w::kr k).drop (1+i)=.bool k.st[i]::(kr k).drop (i+1):=by rw [Nat.add_comm,List.drop_succ_cons,hkd]
   generalize hxx:l[i]=x at hu hxl hxo
   generalize AM (AJ D) x=nx at hu hxl hxo
   have h165:=Wh acc nx hao hxo
   simp -implicitDefEqProofs (disch:=first|omega|simp only[nx4]<;>omega|fail) [KP,Nc,SM,SN,e0,e7,e57,e58,e59,hlt',hlt,hil,hxx,j7,hkd']
   cases hb1:k.st[i]with
   | true =>
    rw [if_pos hb1]at hu
    simp -implicitDefEqProofs (disch:=first|omega|simp only[nx4]<;>omega|fail) [SO,e0,e8,j8]
    refine AO hxl ?_
    simp -implicitDefEqProofs (disch:=first|omega|simp only[nx4]<;>omega|fail) [A3]
    refine AO h165 ?_
    simp -implicitDefEqProofs (disch:=first|omega|simp only[nx4]<;>omega|fail) [A3,e8,j8]
    intro m hm
    simp -implicitDefEqProofs (disch:=first|omega|simp only[nx4]<;>omega|fail) [Nf,e59,w3]
    refine AK (wn - (i+1)) (by omega) ⟨i+1,BB acc nx,by omega,rfl,hu,Ex hao hxo,?_,?_,?_,?_,?_,?_,?_,?_,?_,?_,?_,?_,?_⟩
    all_goals (try simp -implicitDefEqProofs (disch:=first|omega|simp only[nx4]<;>omega|fail) [e0,e4,e7,e8,e57,e58,j4,j7,hk])
    all_goals (try omega)
   | false =>
    rw [if_neg (by rw [hb1];simp)]at hu
    simp -implicitDefEqProofs (disch:=first|omega|simp only[nx4]<;>omega|fail) [Nf,e59,w3]
    refine AK (wn - (i+1)) (by omega) ⟨i+1,acc,by omega,rfl,hu,hao,?_,?_,?_,?_,?_,?_,?_,?_,?_,?_,?_,?_,?_⟩
    all_goals (try simp -implicitDefEqProofs (disch:=first|omega|simp only[nx4]<;>omega|fail) [e0,e4,e7,e8,e57,e58,j4,j7,j8,hk])
    all_goals (try omega)
  ·have hlt':¬ (i:Int) < wn:=by omega
   obtain rfl:i=wn:=by omega
   rw [List.drop_eq_nil_of_le (by omega),Pj]at hu
   subst hu
   simp -implicitDefEqProofs (disch:=first|omega|simp only[nx4]<;>omega|fail) [KP,Nc,e58,e59,hlt',Ng,e4,e8,j4,j8,hk]
def AH8 (D:List (ByteArray × Kn)) (fb:ND) (n:Nat) (l:List Pl) (f:Pl) (fin:ND) (b11 b12:Nat) (s:St) (m:Nat) (g:Env) (s1:St):Prop :=
 ∃ (i:Nat) (acc:ND),i≤n∧m=n - i∧Aw fb n i ((l.drop i).map (AM (AJ D))) acc=fin∧acc.ok∧g.get 0=ana D∧g.get 4=.ptr (s.nx+1) 0∧g.get 5=.ptr (s.nx+1+1) 0∧g.get 11=.ptr b11 0∧g.get 12=.ptr b12 0∧g.get 99=.list 5 .none ((l.take n).map Pl.av)∧g.get 100=.int .i64 n∧g.get 101=.int .i64 i ∧
  s1.m (s.nx+1)=some (.box [.bool false,.Ad])∧s1.m (s.nx+1+1)=some (.box f.av.cells)∧s1.m b11=some (.box [.bool fb.isNone,ndm fb])∧s1.m b12=some (.box [.bool acc.isNone,ndm acc])∧Kept s s1∧b12 < s1.nx
theorem Pk (fb:ND) (n:Int) (xs:List ND) (acc:ND):Aw fb n n xs acc=acc:=by
 cases xs with
 | nil=>rfl
 | cons x xs=>rw [Aw,if_neg (by omega)]
theorem AH9 (D:List (ByteArray × Kn)) (f:Pl) (l:List Pl) (n:Nat) (hfn:f.n=n) (hn1:1≤n) (hn8:n≤8) (hll:l.length≤8) (hle:n≤l.length) (fx:Pl) (hfx:f.args=[fx]) (fb:ND) (hfo:fb.ok) (hfb:NB fb) (ihf:AF Tryz.prog 49 [ana D,fx.av] (ndv fb)) (ihl:∀ x∈l,AF Tryz.prog 49 [ana D,x.av] (ndv (AM (AJ D) x))) (s:St) (fin:ND)
  (hfin:Aw fb n 0 (l.map (AM (AJ D))) (B5 n fb)=fin) (g:Env) (S:St) (e0:g.get 0=ana D) (e4:g.get 4=.ptr (s.nx+1) 0) (e5:g.get 5=.ptr (s.nx+1+1) 0) (e6:g.get 6=.list 5 .none (l.map Pl.av))
  (j4:S.m (s.nx+1)=some (.box [.bool false,.Ad])) (j5:S.m (s.nx+1+1)=some (.box f.av.cells)) (hk:Kept s S) (hb2:s.nx+1+1 < S.nx) :
  go (Cr Tryz.prog Nh (Hr (FQ Tryz.prog (.seq (.reg false Ni) (.seq (.seq (.reg false Nj) (.block 3 (.loop KQ))) (.seq (.reg false Nn) .ret)))
   (DZ 0 (FQ Tryz.prog (.seq (.reg false Ib) .ret) (Dd [.cell (true,4) 2 true] fun r' s'=>wk r' (ndv fin)∧Kept s s'))))) g [] S):=by
 rw [Pl.Am,hfn]at j5
 have gl:f.args.length=1:=by rw [hfx];rfl
 have g0:f.args[0]'(by omega)=fx:=by simp [hfx]
 have h166:=ADJ fb n (by omega) hfo (fun k hk=>by have:=hfb k hk;unfold i64;omega)
 have hoo:=IY hfo (n:Int)
 generalize B5 (n:Int) fb=ob at hfin h166 hoo
 rw [A3]at h166
 simp -implicitDefEqProofs (disch:=first|omega|simp only[nx4]<;>omega|fail) [Nh,e0,e5,j5,gl,g0]
 refine AA ihf fun mm3 hm3=>?_
 try simp only [nx4]at hm3
 simp -implicitDefEqProofs (disch:=first|omega|simp only[nx4]<;>omega|fail) [A3,Ni,e5,j5]
 refine AA h166 fun mm4 hm4=>?_
 try simp only [nx4]at hm4
 simp -implicitDefEqProofs (disch:=first|omega|simp only[nx4]<;>omega|fail) [A3,Nj,e5,j5,e6]
 refine AQ (AH8 D fb n l f fin mm3 mm4 s) n ?h0 ?_
 case h0 =>
  refine⟨0,ob,by omega,by omega,by simpa using hfin,hoo,?_,?_,?_,?_,?_,?_,?_,?_,?_,?_,?_,?_,?_,?_⟩
  all_goals (try simp -implicitDefEqProofs (disch:=first|omega|simp only[nx4]<;>omega|fail) [e0,e4,e5,j4,j5,hfn,hk])
  all_goals (try omega)
 have hm1':s.nx+1+1 < mm3:=by omega
 clear e0 e4 e5 e6 j4 j5 hk hb2
 rintro m g S ⟨i,acc,hi,rfl,hu,hao,e0,e4,e5,e11,e12,e99,e100,e101,j4,j5,j11,j12,hk,hb3⟩
 rw [Pl.Am,hfn]at j5
 by_cases hlt:i < n
 ·have hlt':(i:Int) < n:=by omega
  have hil:i < l.length:=by omega
  have w3:=wrapS (i:=i) (by omega)
  have w1:IntKind.i64.wrap ((n:Int) - 1)=(n:Int) - 1:=wrap64 (by omega) (by omega)
  have w2:IntKind.i64.wrap ((n:Int) - 1 - i)=(n:Int) - 1 - i:=wrap64 (by omega) (by omega)
  have hlk:=fun s K=>Rb fb ((n:Int) - 1 - i) s K
  rw [List.drop_eq_getElem_cons hil,List.map_cons,Aw,if_pos hlt']at hu
  have hxl:=ihl _ (List.getElem_mem hil)
  have hxo:=DX (AJ D) l[i]
  generalize hxx:l[i]=x at hu hxl hxo
  generalize AM (AJ D) x=nx at hu hxl hxo
  have h165:=Wh acc nx hao hxo
  have hi1:(i:Int)+1=((i+1:Nat):Int):=by omega
  rw [hi1]at hu
  simp -implicitDefEqProofs (disch:=first|omega|simp only[nx4]<;>omega|fail) [KQ,Nk,SP,SQ,e0,e5,e11,e99,e100,e101,hlt',hlt,hil,hxx,j5,j11,w1,w2,hlk]
  refine⟨fun hb1=>?_,fun hb1=>?_⟩
  ·rw [if_pos hb1]at hu
   simp -implicitDefEqProofs (disch:=first|omega|simp only[nx4]<;>omega|fail) [SR,e0,e12,j12]
   refine AO hxl ?_
   simp -implicitDefEqProofs (disch:=first|omega|simp only[nx4]<;>omega|fail) [A3]
   refine AO h165 ?_
   simp -implicitDefEqProofs (disch:=first|omega|simp only[nx4]<;>omega|fail) [A3,e12,j12]
   intro m hm
   simp -implicitDefEqProofs (disch:=first|omega|simp only[nx4]<;>omega|fail) [Nl,e101,w3]
   refine AK (n - (i+1)) (by omega) ⟨i+1,BB acc nx,by omega,rfl,hu,Ex hao hxo,?_,?_,?_,?_,?_,?_,?_,?_,?_,?_,?_,?_,?_,?_⟩
   all_goals (try simp -implicitDefEqProofs (disch:=first|omega|simp only[nx4]<;>omega|fail) [e0,e4,e5,e11,e12,e99,e100,j4,j5,j11,hk,hfn])
   all_goals (try omega)
  ·rw [if_neg hb1]at hu
   simp -implicitDefEqProofs (disch:=first|omega|simp only[nx4]<;>omega|fail) [Nl,e101,w3]
   refine AK (n - (i+1)) (by omega) ⟨i+1,acc,by omega,rfl,hu,hao,?_,?_,?_,?_,?_,?_,?_,?_,?_,?_,?_,?_,?_,?_⟩
   all_goals (try simp -implicitDefEqProofs (disch:=first|omega|simp only[nx4]<;>omega|fail) [e0,e4,e5,e11,e12,e99,e100,j4,j5,j11,j12,hk,hfn])
   all_goals (try omega)
 ·have hlt':¬ (i:Int) < n:=by omega
  obtain rfl:i=n:=by omega
  rw [Pk]at hu
  subst hu
  simp -implicitDefEqProofs (disch:=first|omega|simp only[nx4]<;>omega|fail) [KQ,Nk,e100,e101,hlt',Nn,e4,e12,j4,j12,hk]
set_option maxHeartbeats 4000000 in
theorem AKE (D:List (ByteArray × Kn)) (hD:Ph D) (t:Pl) (hw:wf t=true) (hs:small t) (hr:rng t) (o6:t.op=6) (ih:∀ x,wf x=true→small x→rng x→sz x < sz t→C49 D x):AF Tryz.prog 124 [ana D,t.av] (ndv (AM (AJ D) t)):=by
 refine AF.intro fun s=>AD mixed Tryz.func124 Tryz.call124 AJa rfl (AE _ _ _ _ ?_)
 obtain⟨hnd,hwa,hwb⟩:=A5 hw
 have hr':=(Cc t).1 hr
 have hla:=hnd.app o6
 obtain⟨f,l,hfl⟩:∃ f l,t.args=f::l:=by
  cases h:t.args with
  | nil=>rw [h]at hla;simp at hla
  | cons f l=>exact⟨f,l,rfl⟩
 have hll:l.length≤8:=by rw [hfl]at hla;simp at hla;omega
 have hfm:f∈t.args:=by rw [hfl];simp
 have hlm:∀ x∈l,x∈t.args:=fun x hx=>by rw [hfl];simp [hx]
 have hwf:=hwa f hfm
 have hsf:=BS hs hfm
 have hrf:=hr'.2.2.1 f hfm
 have ihf:=ih f hwf hsf hrf (Du hfm).1 hwf hsf hrf
 have ihl:∀ x∈l,AF Tryz.prog 49 [ana D,x.av] (ndv (AM (AJ D) x)):=fun x hx =>
  ih x (hwa x (hlm x hx)) (BS hs (hlm x hx)) (hr'.2.2.1 x (hlm x hx)) (Du (hlm x hx)).1 (hwa x (hlm x hx)) (BS hs (hlm x hx)) (hr'.2.2.1 x (hlm x hx))
 rw [Ip o6 hfl]
 have gl:t.args.length=l.length+1:=by rw [hfl];rfl
 have g0:t.args[0]'(by omega)=f:=by simp [hfl]
 have gd:(t.args.map Pl.av).drop 1=l.map Pl.av:=by rw [hfl];rfl
 have gt:(t.args.map Pl.av).tail=l.map Pl.av:=by rw [hfl];rfl
 have hko:=fun s K=>Wg D f.s s K
 have hw0:=hD.w f.s
 have hst:=hD.st f.s
 have hfb:=(Ir (AJ D) f hwf hrf).2
 have hfo:=(PL (AJ D) f).2
 have hfB:∀ fx,f.args=[fx]→AF Tryz.prog 49 [ana D,fx.av] (ndv (Bm (AJ D) f)):=by
  intro fx hfx
  have hxm:fx∈f.args:=by rw [hfx];simp
  have hw':=(A5 hwf).2.1 fx hxm
  have hr2:=((Cc f).1 hrf).2.2.1 fx hxm
  rw [Ey,hfx]
  exact ih fx hw' (BS hsf hxm) hr2 (by have:=(Du hxm).1;have:=(Du hfm).1;omega) hw' (BS hsf hxm) hr2
 generalize Bm (AJ D) f=fb at hfb hfo hfB ⊢
 generalize AJ D f.s=k at hko hw0 hst ⊢
 have hkz:kz=[.int .i64 0,.bool false,.bool false,.bool false,.bool false,.bool false,.bool false,.bool false,.bool false,.bool false]:=rfl
 have hka:kAV k=.agg (.int .i64 k.w::kr k):=rfl
 rw [hkz]at hko
 have hrest:∀ (g:Env) (S:St),g.get 0=ana D→g.get 4=.ptr (s.nx+1) 0→g.get 5=.ptr (s.nx+1+1) 0→S.m (s.nx+1)=some (.box [.bool false,.Ad])→S.m (s.nx+1+1)=some (.box f.av.cells)→Kept s S →
   go (Cr Tryz.prog Ib (Hr (FQ Tryz.prog .ret (Dd [.cell (true,4) 2 true] fun r' s'=>wk r' (ndv (AM (AJ D) f))∧Kept s s'))) g [] S):=by
  intro g S e0 e4 e5 j4 j5 hk
  rw [Pl.Am]at j5
  simp -implicitDefEqProofs (disch:=first|omega|simp only[nx4]<;>omega|fail) [Ib,e0,e5,j5]
  refine AA ihf fun mm5 hm5=>?_
  try simp only [nx4]at hm5
  simp -implicitDefEqProofs (disch:=first|omega|simp only[nx4]<;>omega|fail) [A3,e4,j4,hk]
 simp -implicitDefEqProofs (disch:=first|omega|simp only[nx4]<;>omega|fail) [a124,ABJ,V6,V7,g0,gl,gd,gt]
 intro m0 hm0
 by_cases o2:f.op=2
 ·have n5:¬ f.op=5:=by omega
  have hfe:(if f.op=5∧f.n≤(l.length:Int)then Aw fb f.n 0 (l.map (AM (AJ D))) (B5 f.n fb)else if f.op=2 then if k.w=0 then AM (AJ D) f else if (l.length:Int) < k.w then some []else if k.BV=true then none else Av k.st (l.map (AM (AJ D))) (some [])else AM (AJ D) f) =
    (if k.w=0 then AM (AJ D) f else if (l.length:Int) < k.w then some []else if k.BV=true then none else Av k.st (l.map (AM (AJ D))) (some [])):=by
   rw [if_neg (by omega),if_pos o2]
  rw [hfe]
  by_cases hk0:k.w=0
  ·have hng:¬ 0 < k.w:=by omega
   rw [if_pos hk0]
   simp -implicitDefEqProofs (disch:=first|omega|simp only[nx4]<;>omega|fail) [JQ,o2,ana,hko,hka,hng]
   intro m1 hm1
   simp -implicitDefEqProofs (disch:=first|omega|simp only[nx4]<;>omega|fail) [Ia,o2]
   refine hrest _ _ ?_ ?_ ?_ ?_ ?_ ?_
   all_goals (try simp -implicitDefEqProofs (disch:=first|omega|simp only[nx4]<;>omega|fail) [o2])
   rfl
  ·have hpg:0 < k.w:=by omega
   rw [if_neg hk0]
   generalize hfin:(if (l.length:Int) < k.w then some []else if k.BV=true then none else Av k.st (l.map (AM (AJ D))) (some []))=fin
   simp -implicitDefEqProofs (disch:=first|omega|simp only[nx4]<;>omega|fail) [JQ,o2,ana,hko,hka,hpg]
   intro m1 hm1
   simp -implicitDefEqProofs (disch:=first|omega|simp only[nx4]<;>omega|fail) [V8,o2,ana,hko,hka]
   intro m2 hm2
   refine AH7 D k l hll hw0 hk0 hst ihl s fin hfin _ _ m1 ?_ ?_ ?_ ?_ ?_ ?_ ?_ ?_ ?_
   all_goals (try simp -implicitDefEqProofs (disch:=first|omega|simp only[nx4]<;>omega|fail))
   ·rfl
   ·omega
   ·omega
 ·by_cases o5:f.op=5
  ·by_cases hle:f.n≤l.length
   ·simp -implicitDefEqProofs (disch:=first|omega|simp only[nx4]<;>omega|fail) [JQ,o5,Ia,hle]
    intro m1 hm1
    have hlam:=(A5 hwf).1.lam o5
    obtain⟨n,hn⟩:∃ n:Nat,f.n=n:=⟨f.n.toNat,by omega⟩
    obtain⟨fx,hfx⟩:=List.length_eq_one_iff.1 hlam.2.2
    have hfin:Aw fb f.n 0 (l.map (AM (AJ D))) (B5 f.n fb)=Aw fb n 0 (l.map (AM (AJ D))) (B5 n fb):=by rw [hn]
    rw [hfin]
    refine AH9 D f l n hn (by omega) (by omega) hll (by omega) fx hfx fb hfo hfb (hfB fx hfx) ihl s _ rfl _ _ ?_ ?_ ?_ ?_ ?_ ?_ ?_ ?_
    all_goals (try simp -implicitDefEqProofs (disch:=first|omega|simp only[nx4]<;>omega|fail) [o5])
    all_goals (try omega)
   ·simp -implicitDefEqProofs (disch:=first|omega|simp only[nx4]<;>omega|fail) [JQ,o5,Ia,hle]
    intro m1 hm1
    refine hrest _ _ ?_ ?_ ?_ ?_ ?_ ?_
    all_goals (try simp -implicitDefEqProofs (disch:=first|omega|simp only[nx4]<;>omega|fail) [o5])
  ·simp -implicitDefEqProofs (disch:=first|omega|simp only[nx4]<;>omega|fail) [JQ,o2,o5,Ia]
   intro m1 hm1
   refine hrest _ _ ?_ ?_ ?_ ?_ ?_ ?_
   all_goals (try simp -implicitDefEqProofs (disch:=first|omega|simp only[nx4]<;>omega|fail))
def Re (D:List (ByteArray × Kn)):List (AV × AV):=[(.int .i64 1,.fn 122 [] []),(.int .i64 2,.fn 123 [ana D] []),(.int .i64 3,.fn 121 [] []),(.int .i64 4,.fn 121 [] []),(.int .i64 5,.fn 121 [] []),
  (.int .i64 6,.fn 124 [ana D] []),(.int .i64 7,.fn 125 [] [.Ai [ana D]]),(.int .i64 8,.fn 127 [ana D] []),(.int .i64 9,.fn 128 [ana D] [])]
theorem AKF (D:List (ByteArray × Kn)):AF Tryz.prog 88 [ana D] (.Bp (Re D)):=p88 D
set_option maxHeartbeats 4000000 in
theorem ADM (D:List (ByteArray × Kn)) (hD:Ph D) (t:Pl) (hw:wf t=true) (hs:small t) (hr:rng t) (ih:∀ x,wf x=true→small x→rng x→sz x < sz t→C49 D x):AF Tryz.prog 49 [ana D,t.av] (ndv (AM (AJ D) t)):=by
 obtain⟨hnd,hwa,hwb⟩:=A5 hw
 have hr':=(Cc t).1 hr
 have iha:∀ x∈t.args,C49 D x:=fun x hx=>ih x (hwa x hx) (BS hs hx) (hr'.2.2.1 x hx) (Du hx).1
 have ihb:∀ a∈t.alts,C49 D a.2:=fun a ha=>ih a.2 (hwb a ha) (Eg hs ha) (hr'.2.2.2 a ha).2.2 (by have:=(GK ha).1;omega)
 have ho:=hnd.op
 by_cases om:t.op=3∨t.op=4∨t.op=5
 ·rw [HJ om]
  refine AF.intro fun s=>AD mixed Tryz.func49 Tryz.call49 k49.2 rfl (AE _ _ _ _ ?_)
  rcases om with o | o | o
  ·simp -implicitDefEqProofs (disch:=first|omega|simp only[nx4]<;>omega|fail) [k49,o]
   refine AA p87 fun mm1 hm1=>?_
   try simp only [nx4]at hm1
   simp -implicitDefEqProofs (disch:=first|omega|simp only[nx4]<;>omega|fail) [A3]
  ·simp -implicitDefEqProofs (disch:=first|omega|simp only[nx4]<;>omega|fail) [k49,o]
   refine AA p87 fun mm2 hm2=>?_
   try simp only [nx4]at hm2
   simp -implicitDefEqProofs (disch:=first|omega|simp only[nx4]<;>omega|fail) [A3]
  ·simp -implicitDefEqProofs (disch:=first|omega|simp only[nx4]<;>omega|fail) [k49,o]
   refine AA p87 fun mm3 hm3=>?_
   try simp only [nx4]at hm3
   simp -implicitDefEqProofs (disch:=first|omega|simp only[nx4]<;>omega|fail) [A3]
 have h88:=AKF D
 have n3:¬ t.op=3:=by omega
 have n4:¬ t.op=4:=by omega
 have n5:¬ t.op=5:=by omega
 refine AF.intro fun s=>AD mixed Tryz.func49 Tryz.call49 k49.2 rfl (AE _ _ _ _ ?_)
 simp -implicitDefEqProofs (disch:=first|omega|simp only[nx4]<;>omega|fail) [k49,n3,n4,n5]
 by_cases o1:t.op=1
 ·rw [G0 o1]
  have hkf:DV (.int .i64 t.op) (Re D)=some (some (.fn 122 [] [])):=by rw [o1];rfl
  refine AO h88 ?_
  simp -implicitDefEqProofs (disch:=first|omega|simp only[nx4]<;>omega|fail) [hkf,A2]
  refine AO (AJx t) ?_
  simp -implicitDefEqProofs (disch:=first|omega|simp only[nx4]<;>omega|fail) [A3]
 by_cases o2:t.op=2
 ·rw [JZ o2]
  have hkf:DV (.int .i64 t.op) (Re D)=some (some (.fn 123 [ana D] [])):=by rw [o2];rfl
  refine AO h88 ?_
  simp -implicitDefEqProofs (disch:=first|omega|simp only[nx4]<;>omega|fail) [hkf,A2]
  refine AO (AJ8 D t) ?_
  simp -implicitDefEqProofs (disch:=first|omega|simp only[nx4]<;>omega|fail) [A3]
 by_cases o6:t.op=6
 ·have hkf:DV (.int .i64 t.op) (Re D)=some (some (.fn 124 [ana D] [])):=by rw [o6];rfl
  refine AO h88 ?_
  simp -implicitDefEqProofs (disch:=first|omega|simp only[nx4]<;>omega|fail) [hkf,A2]
  refine AO (AKE D hD t hw hs hr o6 ih) ?_
  simp -implicitDefEqProofs (disch:=first|omega|simp only[nx4]<;>omega|fail) [A3]
 by_cases o7:t.op=7
 ·have hkf:DV (.int .i64 t.op) (Re D)=some (some (.fn 125 [] [.Ai [ana D]])):=by rw [o7];rfl
  refine AO h88 ?_
  simp -implicitDefEqProofs (disch:=first|omega|simp only[nx4]<;>omega|fail) [hkf,A2]
  refine AO (AKD D t hw hs hr o7 iha) ?_
  simp -implicitDefEqProofs (disch:=first|omega|simp only[nx4]<;>omega|fail) [A3]
 by_cases o8:t.op=8
 ·have hkf:DV (.int .i64 t.op) (Re D)=some (some (.fn 127 [ana D] [])):=by rw [o8];rfl
  refine AO h88 ?_
  simp -implicitDefEqProofs (disch:=first|omega|simp only[nx4]<;>omega|fail) [hkf,A2]
  refine AO (AKB D t hw hs hr o8 iha ihb) ?_
  simp -implicitDefEqProofs (disch:=first|omega|simp only[nx4]<;>omega|fail) [A3]
 ·have o9:t.op=9:=by omega
  have hkf:DV (.int .i64 t.op) (Re D)=some (some (.fn 128 [ana D] [])):=by rw [o9];rfl
  refine AO h88 ?_
  simp -implicitDefEqProofs (disch:=first|omega|simp only[nx4]<;>omega|fail) [hkf,A2]
  refine AO (AJ9 D t hw hs hr o9 iha) ?_
  simp -implicitDefEqProofs (disch:=first|omega|simp only[nx4]<;>omega|fail) [A3]
theorem p49 (D:List (ByteArray × Kn)) (hD:Ph D) (t:Pl) (hw:wf t=true) (hs:small t) (hr:rng t):AF Tryz.prog 49 [ana D,t.av] (ndv (AM (AJ D) t)):=by
 obtain⟨n,hn⟩:∃ n:Nat,sz t≤n:=⟨(sz t).toNat,by omega⟩
 induction n generalizing t with
 | zero=>have:=Al t;omega
 | succ n ih=>exact ADM D hD t hw hs hr fun x h1 h2 h3 h4 h5 h6 h7=>ih x h1 h2 h3 (by omega)
end Go.AL.Dm
namespace Go.AL.Dm
def ND.le:ND→ND→Prop
 | _,none=>True
 | none,some _=>False
 | some a,some b=>∀ k∈a,k∈b
theorem ND.le_refl (x:ND):x.le x:=by cases x <;> simp [ND.le]
theorem ND.le_top (x:ND):x.le none:=by cases x <;> trivial
theorem ND.le_trans {x y z:ND} (h:x.le y) (k:y.le z):x.le z:=by
 cases x <;> cases y <;> cases z <;> simp only [ND.le]at * <;> try trivial
 exact fun i hi=>k _ (h _ hi)
theorem Fs {x x' y y':ND} (h:x.le x') (k:y.le y'):(BB x y).le (BB x' y'):=by
 cases x <;> cases x' <;> cases y <;> cases y' <;> simp only [ND.le,BB]at * <;> try trivial
 intro i hi
 rw [Cf]at hi ⊢
 exact hi.imp (h i) (k i)
theorem Pm {x y:ND}:x.le (BB x y):=by
 cases x <;> cases y <;> simp only [ND.le,BB]
 intro i hi
 rw [Cf]
 exact .inl hi
theorem Wj {x x' y y':ND} (h:x.le x') (k:y.le y'):(BU x y).le (BU x' y'):=by
 cases x <;> cases x' <;> cases y <;> cases y' <;> simp only [ND.le,BU,He]at * <;> try trivial
 all_goals (intro i hi;simp only [List.mem_filter,decide_eq_true_eq]at *)
 ·exact k i hi.2
 ·exact h i hi.1
 ·exact⟨h i hi.1,k i hi.2⟩
theorem KV {x x':ND} (h:x.le x') (n:Int):(B5 n x).le (B5 n x'):=by
 cases x <;> cases x' <;> simp only [ND.le,B5]at * <;> try trivial
 intro i hi
 rw [EC]at hi ⊢
 exact⟨h _ hi.1,hi.2⟩
def LLe:List ND→List ND→Prop
 | [],[]=>True
 | x::l,y::m=>x.le y∧LLe l m
 | _,_=>False
def BLe:List Bool→List Bool→Prop
 | [],[]=>True
 | x::l,y::m=>(x=true→y=true)∧BLe l m
 | _,_=>False
theorem LLe.len:∀ {l m:List ND},LLe l m→l.length=m.length
 | [],[],_=>rfl
 | _::_,_::_,h=>by simp [LLe.len h.2]
 | [],_::_,h=>h.elim
 | _::_,[],h=>h.elim
theorem LLe.get:∀ {l m:List ND},LLe l m→∀ i:Nat,((l[i]?).getD (some [])).le ((m[i]?).getD (some []))
 | [],[],_,i=>by simp [ND.le]
 | _::_,_::_,h,0=>by simpa using h.1
 | _::_,_::_,h,i+1=>by simpa using LLe.get h.2 i
 | [],_::_,h,_=>h.elim
 | _::_,[],h,_=>h.elim
theorem LLe.map {α:Type} {f g:α→ND}:∀ (l:List α),(∀ x∈l,(f x).le (g x))→LLe (l.map f) (l.map g)
 | [],_=>trivial
 | x::l,h=>⟨h x (by simp),LLe.map l fun y hy=>h y (by simp [hy])⟩
theorem BLe.refl:∀ l:List Bool,BLe l l
 | []=>trivial
 | _::l=>⟨id,BLe.refl l⟩
theorem BLe.len:∀ {l m:List Bool},BLe l m→l.length=m.length
 | [],[],_=>rfl
 | _::_,_::_,h=>by simp [BLe.len h.2]
 | [],_::_,h=>h.elim
 | _::_,[],h=>h.elim
theorem BLe.map {α:Type} {f g:α→Bool}:∀ (l:List α),(∀ x∈l,f x=true→g x=true)→BLe (l.map f) (l.map g)
 | [],_=>trivial
 | x::l,h=>⟨h x (by simp),BLe.map l fun y hy=>h y (by simp [hy])⟩
theorem H2:∀ {bs bs':List Bool} {xs xs':List ND} {acc Em:ND},BLe bs bs'→LLe xs xs'→acc.le Em→(Av bs xs acc).le (Av bs' xs' Em)
 | [],[],[],[],_,_,_,_,h=>h
 | [],[],_::_,_::_,_,_,_,_,h=>h
 | _::_,_::_,[],[],_,_,_,_,h=>h
 | b::bs,b'::bs',x::xs,x'::xs',acc,Em,hb,hx,h=>by
  rw [Av,Av]
  refine H2 hb.2 hx.2 ?_
  by_cases e:b=true
  ·rw [if_pos e,if_pos (hb.1 e)]
   exact Fs h hx.1
  ·rw [if_neg e]
   split
   ·exact ND.le_trans h Pm
   ·exact h
 | [],_::_,_,_,_,_,h,_,_=>h.elim
 | _::_,[],_,_,_,_,h,_,_=>h.elim
 | _,_,[],_::_,_,_,_,h,_=>h.elim
 | _,_,_::_,[],_,_,_,h,_=>h.elim
theorem Jy (fb:ND) (n:Int):∀ (xs:List ND) (i:Int),Aw fb n i xs none=none
 | [],i=>rfl
 | x::xs,i=>by
  have e:(if fb.has (n - 1 - i)then BB none x else none)=none:=by split <;> rfl
  rw [Aw,e,Jy fb n xs]
  split <;> rfl
theorem H3 {fb fb':ND} (hf:fb.le fb') (n:Int):∀ {xs xs':List ND} (i:Int) {acc Em:ND},LLe xs xs'→acc.le Em→(fb'=none→Em=none)→(Aw fb n i xs acc).le (Aw fb' n i xs' Em)
 | [],[],i,_,_,_,h,_=>h
 | x::xs,x'::xs',i,acc,Em,hx,h,ht=>by
  cases fb' with
  | none =>
   rw [ht rfl,Jy]
   exact ND.le_top _
  | some b =>
   rw [Aw,Aw]
   by_cases hi:i < n
   ·rw [if_pos hi,if_pos hi]
    refine H3 hf n (i+1) hx.2 ?_ (fun e=>by cases e)
    cases fb with
    | none=>exact hf.elim
    | some a =>
     by_cases e:ND.has (some a) (n - 1 - i)
     ·have e':ND.has (some b) (n - 1 - i):=hf _ e
      rw [if_pos e,if_pos e']
      exact Fs h hx.1
     ·rw [if_neg e]
      split
      ·exact ND.le_trans h Pm
      ·exact h
   ·rw [if_neg hi,if_neg hi]
    exact h
 | [],_::_,_,_,_,h,_,_=>h.elim
 | _::_,[],_,_,_,h,_,_=>h.elim
theorem G1:∀ {l m:List ND} {acc Em:ND},LLe l m→acc.le Em→(l.foldl BU acc).le (m.foldl BU Em)
 | [],[],_,_,_,h=>h
 | x::l,y::m,acc,Em,hl,h=>by
  rw [List.foldl_cons,List.foldl_cons]
  exact G1 hl.2 (Wj h hl.1)
 | [],_::_,_,_,h,_=>h.elim
 | _::_,[],_,_,h,_=>h.elim
theorem LY {vs vs':List ND} (h:LLe vs vs') (u:Int):(valOf vs u).le (valOf vs' u):=by
 unfold valOf
 rw [← h.len]
 split
 ·exact h.get _
 ·exact ND.le_refl _
theorem Pn {n:Int} {v v':Int→ND} {b b':ND} (hv:∀ u,(v u).le (v' u)) (hb:b.le b') (hn:¬ JP n v' b') {k:Int} (h:Reach n v b k):Reach n v' b' k:=by
 induction h with
 | body e hm =>
  subst e
  cases b' with
  | none=>exact absurd (.inl rfl) hn
  | some l'=>exact .body rfl (hb _ hm)
 | @val u l k hu h0 h1 e hm ih =>
  have:=hv u
  rw [e]at this
  cases e':v' u with
  | none=>exact absurd (.inr ⟨u,ih,h0,h1,e'⟩) hn
  | some l' =>
   rw [e']at this
   exact .val ih h0 h1 e' (this _ hm)
theorem Sm {vs vs':List ND} {b b':ND} (hv:LLe vs vs') (hb:b.le b'):(DE vs b).le (DE vs' b'):=by
 by_cases h':JP vs'.length (valOf vs') b'
 ·rw [DJ.2 h']
  exact ND.le_top _
 ·have hlen:=hv.len
  have h:¬ JP vs.length (valOf vs) b:=by
   rintro(e | ⟨u,hu,h0,h1,e⟩)
   ·subst e
    cases b' with
    | none=>exact h' (.inl rfl)
    | some _=>exact hb.elim
   ·rw [hlen]at hu h1
    refine h' (.inr ⟨u,Pn (LY hv) hb h' hu,h0,h1,?_⟩)
    have:=LY hv u
    rw [e]at this
    cases e':valOf vs' u with
    | none=>rfl
    | some _=>rw [e']at this;exact this.elim
  obtain⟨l,e,_,hm⟩:=DK h
  obtain⟨l',e',_,hm'⟩:=DK h'
  rw [e,e']
  intro k hk
  rw [hm]at hk
  rw [hm']
  refine⟨Pn (LY hv) hb h' (by rw [← hlen];exact hk.1),hk.2⟩
def Is (a b:Kn):Prop:=a.w=b.w∧BLe a.st b.st∧(a.BV=true→b.BV=true)
theorem Is.refl (a:Kn):Is a a:=⟨rfl,BLe.refl _,id⟩
def KLe (K K':ByteArray→Kn):Prop:=∀ s,Is (K s) (K' s)
section
variable {K K':ByteArray→Kn}
theorem Yz (hK:KLe K K') (op n:Int) (s:ByteArray) (args:List Pl) (alts:List (Hd × Pl)) (h1:∀ x∈args,(AM K x).le (AM K' x)∧(Bm K x).le (Bm K' x)) (h2:∀ a∈alts,(AM K a.2).le (AM K' a.2)) :
  (comb K op n s (args.map fun x=>(x,AM K x,Bm K x)) (alts.map fun a=>(a.1,AM K a.2))).le (comb K' op n s (args.map fun x=>(x,AM K' x,Bm K' x)) (alts.map fun a=>(a.1,AM K' a.2))):=by
 have hl:∀ l:List Pl,(∀ x∈l,x∈args)→LLe ((l.map fun x=>(x,AM K x,Bm K x)).map (·.2.1)) ((l.map fun x=>(x,AM K' x,Bm K' x)).map (·.2.1)):=by
  intro l hm
  simp only [LS]
  exact LLe.map l fun x hx=>(h1 x (hm x hx)).1
 have hk:=hK s
 rw [comb.eq_def,comb.eq_def]
 split
 ·exact ND.le_refl _
 split
 ·rw [hk.1]
  by_cases hw:(K' s).w=0
  ·simp only [hw,true_and]
   by_cases e:(K s).BV=true
   ·rw [if_pos e,if_pos (hk.2.2 e)];trivial
   ·rw [if_neg e]
    split
    ·exact ND.le_top _
    ·exact ND.le_refl _
  ·rw [if_neg (fun h=>hw h.1),if_neg (fun h=>hw h.1)]
   exact ND.le_refl _
 split
 ·cases args with
  | nil=>exact ND.le_refl _
  | cons f l =>
   have hf:=h1 f (by simp)
   have hll:=hl l (fun x hx=>by simp [hx])
   have hkf:=hK f.s
   simp only [List.map_cons,List.length_map]
   split
   ·exact H3 hf.2 _ _ hll (KV hf.2 _) (fun e=>by rw [e];rfl)
   split
   ·exact hf.1
   rw [← hkf.1]
   split
   ·exact hf.1
   split
   ·exact ND.le_refl _
   by_cases e:(K f.s).BV=true
   ·rw [if_pos e,if_pos (hkf.2.2 e)];trivial
   ·rw [if_neg e]
    split
    ·exact ND.le_top _
    ·exact H2 hkf.2.1 hll (ND.le_refl _)
 split
 ·have e:∀ K:ByteArray→Kn,(((args.map fun x=>(x,AM K x,Bm K x)).dropLast).map (·.2.1))=((args.dropLast).map fun x=>(x,AM K x,Bm K x)).map (·.2.1):=by
   intro K;rw [← List.map_dropLast]
  rw [e,e]
  refine Sm (hl _ fun x hx=>List.dropLast_subset _ hx) ?_
  rw [List.getLast?_map,List.getLast?_map]
  cases hg:args.getLast? with
  | none=>exact ND.le_refl _
  | some x=>exact(h1 x (List.mem_of_getLast? hg)).1
 split
 ·refine Fs ?_ (G1 ?_ (ND.le_refl _))
  ·rw [List.head?_map,List.head?_map]
   cases hg:args.head? with
   | none=>exact ND.le_refl _
   | some x=>exact(h1 x (List.mem_of_head? hg)).1
  ·rw [List.map_map,List.map_map]
   exact LLe.map alts fun a ha=>KV (h2 a ha) _
 split
 ·split
  ·trivial
  split
  ·refine Fs ?_ ?_
   ·rw [List.head?_map,List.head?_map]
    cases hg:args.head? with
    | none=>exact ND.le_refl _
    | some x=>exact(h1 x (List.mem_of_head? hg)).1
   ·rw [List.getElem?_map,List.getElem?_map]
    cases hg:args[1]? with
    | none=>exact ND.le_refl _
    | some x=>exact(h1 x (List.mem_of_getElem? hg)).1
  ·exact ND.le_refl _
 ·exact ND.le_refl _
theorem Wk (hK:KLe K K') (t:Pl):(AM K t).le (AM K' t)∧(Bm K t).le (Bm K' t):=by
 induction t using Pl.ind with
 | h t ih1 ih2 =>
  refine⟨?_,?_⟩
  ·rw [Cv,Cv]
   exact Yz hK _ _ _ _ _ ih1 fun a ha=>(ih2 a ha).1
  ·rw [Ey,Ey]
   cases h:t.args with
   | nil=>exact ND.le_refl _
   | cons x l=>exact(ih1 x (by rw [h];simp)).1
theorem Y0 (hK:KLe K K') (t:Pl):(AM K t).le (AM K' t):=(Wk hK t).1
end
def wnt (b:Pl):Int:=if b.op=5 then b.n else 0
def cde (b:Pl):Pl:=if b.op=5 then b.args.headD b else b
noncomputable def GS (K:ByteArray→Kn) (b:Pl):Kn :=
 ⟨wnt b,(List.range (wnt b).toNat).map fun i:Nat=>(AM K (cde b)).isNone || decide ((AM K (cde b)).has (wnt b - 1 - (i:Int))),(AM K (cde b)).isNone⟩
theorem Y1 {K K':ByteArray→Kn} (hK:KLe K K') (b:Pl):Is (GS K b) (GS K' b):=by
 have h:=Y0 hK (cde b)
 refine⟨rfl,BLe.map _ fun i _=>?_,?_⟩
 ·generalize AM K (cde b)=x at h
  generalize AM K' (cde b)=y at h
  cases x <;> cases y <;> simp [ND.le,ND.has]at *
  exact fun hm=>decide_eq_true (h _ (of_decide_eq_true hm))
 ·simp only [GS]
  generalize AM K (cde b)=x at h
  generalize AM K' (cde b)=y at h
  cases x <;> cases y <;> simp [ND.le]at *
abbrev Tb:=Gl→Kn
def tbD (p:List Gl) (f:Tb):List (ByteArray × Kn):=p.map fun g=>(g.name,f g)
def top (b:Pl):Kn:=⟨wnt b,List.replicate (wnt b).toNat true,true⟩
def tb0:Tb:=fun g=>top g.body
noncomputable def stp (p:List Gl) (f:Tb):Tb:=fun g=>GS (AJ (tbD p f)) g.body
end Go.AL.Dm
namespace Go.AL.Dm
open Go Go.Proofs
theorem p76 (t:Tok) (l:List Bool) (hl:l.length≤8):AF Tryz.prog 76 [.list 1 t (l.map .bool)] (.list 1 .none (l.map .bool)):=by
 refine AF.intro fun s=>AD mixed Tryz.func76 Tryz.call76 k76.2 rfl (AE _ _ _ _ ?_)
 simp -implicitDefEqProofs (disch:=first|omega|simp only[nx4]<;>omega|fail) [k76]
 rintro rfl
 simp [wkL]
def cR (v:Nat→Bool) (fl:Bool) (i:Nat):List AV:=[.bool (if 0 < i then v 0 else false),.bool (if 1 < i then v 1 else false),.bool (if 2 < i then v 2 else false),.bool (if 3 < i then v 3 else false),.bool (if 4 < i then v 4 else false),
 .bool (if 5 < i then v 5 else false),.bool (if 6 < i then v 6 else false),.bool (if 7 < i then v 7 else false),.bool fl]
@[simp] theorem AKG (v:Nat→Bool) (fl:Bool) (i:Nat):(cR v fl i).length=9:=rfl
theorem Sn {v:Nat→Bool} {fl:Bool} {i:Nat} (h:i < 8):(cR v fl i).take i++.bool (v i)::(cR v fl i).drop (i+1)=cR v fl (i+1):=by
 match i,h with
 | 0,_ | 1,_ | 2,_ | 3,_ | 4,_ | 5,_ | 6,_ | 7,_=>rfl
theorem Wl {v:Nat→Bool} {fl:Bool} {n:Nat} {w:Int}:cR v fl n=kr ⟨w,(List.range n).map v,fl⟩:=by
 have e:∀ i:Nat,((List.range n).map v).getD i false=if i < n then v i else false:=by
  intro i
  rw [List.getD_eq_getElem?_getD,List.getElem?_map]
  by_cases h:i < n
  ·simp [h]
  ·simp [h,Nat.not_lt.1 h]
 simp only [kr,cR,e]
def b10:List AV:=[.bool false,.bool false,.bool false,.bool false,.bool false,.bool false,.bool false,.bool false,.bool false]
def AKH (D:List (ByteArray × Kn)) (x:ND) (v:Nat→Bool) (wn:Nat) (b7:Nat) (s:St) (m:Nat) (g:Env) (s1:St):Prop :=
 ∃ i:Nat,i≤wn∧m=wn - i∧g.get 0=ana D∧g.get 4=.ptr (s.nx+1) 0∧g.get 5=.ptr (s.nx+1+1) 0∧g.get 7=.ptr b7 0∧g.get 27=.int .i64 wn∧g.get 28=.int .i64 i ∧
  s1.m (s.nx+1)=some (.box (.int .i64 0::b10))∧s1.m (s.nx+1+1)=some (.box (.int .i64 wn::cR v x.isNone i))∧s1.m b7=some (.box [.bool x.isNone,ndm x])∧Kept s s1∧b7 < s1.nx
theorem ADN (v:Nat→Bool) (fl:Bool):cR v fl 0=[.bool false,.bool false,.bool false,.bool false,.bool false,.bool false,.bool false,.bool false,.bool fl]:=rfl
set_option maxHeartbeats 4000000 in
theorem t114 (D:List (ByteArray × Kn)) (c:Pl) (x:ND) (h49:AF Tryz.prog 49 [ana D,c.av] (ndv x)) (wn:Nat) (hw8:wn≤8) (v:Nat→Bool) (hv:∀ i,v i=(x.isNone || decide (x.has ((wn:Int) - 1 - (i:Int))))) (r:AV) (hr:r=.agg (.int .i64 wn::cR v x.isNone wn)) (s:St)
  (g:Env) (S:St) (e0:g.get 0=ana D) (e4:g.get 4=.ptr (s.nx+1) 0) (e5:g.get 5=.ptr (s.nx+1+1) 0) (e6:g.get 6=.ptr (s.nx+1+1+1) 0)
  (j4:S.m (s.nx+1)=some (.box (.int .i64 0::b10))) (j5:S.m (s.nx+1+1)=some (.box (.int .i64 wn::b10))) (j6:S.m (s.nx+1+1+1)=some (.box c.av.cells)) (hk:Kept s S) (hb2:s.nx+1+1+1 < S.nx) :
  go (Cr Tryz.prog RA
   (Hr
    (FQ Tryz.prog
     ((Ae.reg false RB).seq
      (((Ae.reg false RC).seq (Ae.block 0 IZ.loop)).seq ((Ae.reg false Na).seq Ae.ret)))
     (Dd [JB.cell (true,4) 10 true] fun r' s'=>wk r' r∧Kept s s'))) g [] S):=by
 simp -implicitDefEqProofs (disch:=first|omega|simp only[nx4]<;>omega|fail) [RA,e0,e6,j6]
 refine AA h49 fun mm1 hm1=>?_
 try simp only [nx4]at hm1
 simp -implicitDefEqProofs (disch:=first|omega|simp only[nx4]<;>omega|fail) [A3,RB,e5,j5,RC,b10]
 refine AQ (AKH D x v wn mm1 s) wn ?h0 ?_
 case h0 =>
  refine⟨0,by omega,by omega,?_,?_,?_,?_,?_,?_,?_,?_,?_,?_,?_⟩
  all_goals (try simp -implicitDefEqProofs (disch:=first|omega|simp only[nx4]<;>omega|fail) [e0,e4,e5,j4,j5,hk,ADN])
  all_goals (try omega)
 have hb7:s.nx+1+1 < mm1:=by omega
 clear e0 e4 e5 e6 j4 j5 j6 hk hb2
 rintro m g S ⟨i,hi,rfl,e0,e4,e5,e7,e27,e28,j4,j5,j7,hk,hb2⟩
 by_cases hlt:i < wn
 ·have hlt':(i:Int) < wn:=by omega
  have h8:i < 8:=by omega
  have h8':(i:Int) < 8:=by omega
  have w1:IntKind.i64.wrap ((wn:Int) - 1)=(wn:Int) - 1:=wrap64 (by omega) (by omega)
  have w2:IntKind.i64.wrap ((wn:Int) - 1 - i)=(wn:Int) - 1 - i:=wrap64 (by omega) (by omega)
  have w3:=wrapS (i:=i) (by omega)
  have hlk:=fun s K=>Rb x ((wn:Int) - 1 - i) s K
  have hvi:=hv i
  have hst:=Sn (v:=v) (fl:=x.isNone) h8
  cases hxn:x.isNone with
  | true =>
   rw [hxn]at hvi j5 j7 hst
   simp only [Bool.true_or]at hvi
   rw [hvi]at hst
   have hst':List.take (1+i) (AV.int .i64 wn::cR v true i)++.bool true::List.drop (1+i) (cR v true i)=.int .i64 wn::cR v true (i+1):=by
    rw [Nat.add_comm 1 i,List.take_succ_cons]
    exact congrArg (AV.int .i64 wn::·) hst
   simp -implicitDefEqProofs (disch:=first|omega|simp only[nx4]<;>omega|fail) [IZ,NW,NX,NY,e7,e5,j5,j7,e27,e28,hlt',h8',NZ,w3]
   refine AK (wn - (i+1)) (by omega) ⟨i+1,by omega,rfl,?_,?_,?_,?_,?_,?_,?_,?_,?_,?_,?_⟩
   all_goals (try simp -implicitDefEqProofs (disch:=first|omega|simp only[nx4]<;>omega|fail) [e0,e4,e5,e7,e27,hst',j4,j7,hxn,hk])
   all_goals (try omega)
  | false =>
   rw [hxn]at hvi j5 j7 hst
   simp only [Bool.false_or]at hvi
   rw [hvi]at hst
   have hst':List.take (1+i) (AV.int .i64 wn::cR v false i)++.bool (decide (x.has ((wn:Int) - 1 - i)))::List.drop (1+i) (cR v false i)=.int .i64 wn::cR v false (i+1):=by
    rw [Nat.add_comm 1 i,List.take_succ_cons]
    exact congrArg (AV.int .i64 wn::·) hst
   simp -implicitDefEqProofs (disch:=first|omega|simp only[nx4]<;>omega|fail) [IZ,NW,NX,NY,e7,e5,j5,j7,e27,e28,hlt',h8',NZ,w1,w2,w3,hlk]
   refine AK (wn - (i+1)) (by omega) ⟨i+1,by omega,rfl,?_,?_,?_,?_,?_,?_,?_,?_,?_,?_,?_⟩
   all_goals (try simp -implicitDefEqProofs (disch:=first|omega|simp only[nx4]<;>omega|fail) [e0,e4,e5,e7,e27,hst',j4,j7,hxn,hk])
   all_goals (try omega)
 ·have hlt':¬ (i:Int) < wn:=by omega
  obtain rfl:i=wn:=by omega
  have ht:(cR v x.isNone i).take 9=cR v x.isNone i:=List.take_of_length_le (by simp)
  subst hr
  simp -implicitDefEqProofs (disch:=first|omega|simp only[nx4]<;>omega|fail) [IZ,NW,e27,e28,hlt',Na,e5,e4,j4,j5,b10,ht,hk]
set_option maxHeartbeats 4000000 in
theorem AKI (D:List (ByteArray × Kn)) (hD:Ph D) (b:Pl) (hw:wf b=true) (hs:small b) (hr:rng b):AF Tryz.prog 114 [ana D,b.av] (kAV (GS (AJ D) b)):=by
 refine AF.intro fun s=>AD mixed Tryz.func114 Tryz.call114 AJZ rfl (AE _ _ _ _ ?_)
 obtain⟨hnd,hwa,hwb⟩:=A5 hw
 have hr':=(Cc b).1 hr
 by_cases o5:b.op=5
 ·obtain⟨n1,n8,nl⟩:=hnd.lam o5
  obtain⟨x,hx⟩:∃ x,b.args=[x]:=List.length_eq_one_iff.1 nl
  have hxm:x∈b.args:=by simp [hx]
  have h49:=p49 D hD x (hwa x hxm) (BS hs hxm) (hr'.2.2.1 x hxm)
  obtain⟨wn,hwn⟩:∃ wn:Nat,b.n=wn:=⟨b.n.toNat,by omega⟩
  have hg0:([x.av][0]?).getD AV.any=x.av:=rfl
  simp -implicitDefEqProofs (disch:=first|omega|simp only[nx4]<;>omega|fail) [ACz,V5,Q6,Q7,Q8,Q9,o5,V3,V4,hx,hg0]
  refine t114 D x _ h49 wn (by omega) (fun i=>(AM (AJ D) x).isNone || decide ((AM (AJ D) x).has ((wn:Int) - 1 - (i:Int)))) (fun _=>rfl) _ ?hr s _ _ ?_ ?_ ?_ ?_ ?_ ?_ ?_ ?_ ?_
  case hr =>
   rw [Wl (w:=(wn:Int)),kAV]
   simp [GS,wnt,cde,o5,hx,hwn]
  all_goals (try simp -implicitDefEqProofs (disch:=first|omega|simp only[nx4]<;>omega|fail) [b10,hwn])
 ·have h49:=p49 D hD b hw hs hr
  simp -implicitDefEqProofs (disch:=first|omega|simp only[nx4]<;>omega|fail) [ACz,V5,Q6,Q7,Q8,Q9,o5]
  refine t114 D b _ h49 0 (by omega) (fun i=>(AM (AJ D) b).isNone || decide ((AM (AJ D) b).has (((0:Nat):Int) - 1 - (i:Int)))) (fun _=>rfl) _ ?hr s _ _ ?_ ?_ ?_ ?_ ?_ ?_ ?_ ?_ ?_
  case hr =>
   rw [Wl (w:=((0:Nat):Int)),kAV]
   simp [GS,wnt,cde,o5]
  all_goals (try simp -implicitDefEqProofs (disch:=first|omega|simp only[nx4]<;>omega|fail) [b10])
end Go.AL.Dm
namespace Go.AL.Dm
open Go Go.Proofs
def FA (D:List (ByteArray × Kn)):Ax:=.map (DM (kes D)) D.length
theorem MS (l:List (AV × AV)):(DM l).map (·.2)=l:=by
 apply List.ext_getElem?
 intro j
 rw [List.getElem?_map,HG]
 cases l[j]? <;> rfl
theorem Rf (l:List (AV × AV)) (x:AV × AV):DM (l++[x])=DM l++[(l.length,x)]:=by simp [DM]
theorem Je (n:ByteArray):∀ {es:List (Nat × AV × AV)} {D:List (ByteArray × Kn)} (_:es.map (·.2)=kes D) (i:Nat),
  ∃ r,BL (.str n) es i=some r∧(n ∉ D.map (·.1)→r=none)∧A2 false kz true (r.bind fun j=>(es[j - i]?).map (·.2.2))=kAV (AJ D n)∧(∀ j,r=some j→i≤j)
 | [],D,h,i=>by
  have:D=[]:=by simpa [kes] using h.symm
  subst this
  exact⟨none,rfl,fun _=>rfl,rfl,by simp⟩
 | e::es,[],h,i=>by simp [kes]at h
 | e::es,p::D,h,i=>by
  simp only [kes,List.map_cons,List.cons.injEq]at h
  obtain⟨h1,h2⟩:=h
  by_cases hx:n=p.1
  ·refine⟨some i,?_,fun hn=>absurd (by simp [hx]) hn,?_,by simp⟩
   ·rw [BL,h1];simp [keq,hx]
   ·simp only [Option.bind_some,Nat.sub_self,List.getElem?_cons_zero,Option.map_some,h1,AJ,hx]
    simp [A2]
  ·obtain⟨r,k1,k2,k3,k4⟩:=Je n (es:=es) (D:=D) h2 (i+1)
   refine⟨r,?_,fun hn=>k2 fun hm=>hn (by rw [List.map_cons];exact List.mem_cons_of_mem _ hm),?_,fun j hj=>by have:=k4 j hj;omega⟩
   ·rw [BL,h1];simp [keq,hx,k1]
   ·have hx':¬ p.1=n:=fun e=>hx e.symm
    have e:AJ (p::D) n=AJ D n:=by simp [AJ,hx']
    rw [e,← k3]
    cases r with
    | none=>rfl
    | some j =>
     have:=k4 j rfl
     have e2:j - i=(j - (i+1))+1:=by omega
     simp only [Option.bind_some,e2,List.getElem?_cons_succ]
theorem Sp {D:List (ByteArray × Kn)} (n:ByteArray) (s:St) (K:KS):go (lkO false kz true (.str n) (some (FA D)) s K)=go (K (kAV (AJ D n)) s):=by
 obtain⟨r,h1,_,h3,_⟩:=Je n (MS (kes D)) 0
 rw [FA,Sq,h1]
 rw [← h3]
 cases r with
 | none=>rfl
 | some j=>rfl
theorem Sr {D:List (ByteArray × Kn)} (o:Nat) (n:ByteArray) (k:Kn) (hn:n ∉ D.map (·.1)) (s:St) (K:KS):go (upO o (.str n) (kAV k) (some (FA D)) s K)=go (K (.tup []) (s.set o (FA (D++[(n,k)])))):=by
 obtain⟨r,h1,h2,_⟩:=Je n (MS (kes D)) 0
 rw [h2 hn]at h1
 rw [FA,Ss,h1,Po,FA]
 have e:kes (D++[(n,k)])=kes D++[(.str n,kAV k)]:=by simp [kes]
 have e2:(kes D).length=D.length:=by simp [kes]
 rw [e,Rf,e2]
 simp
theorem UT (k:Kn):Plain (kAV k):=by
 refine UP fun x hx=>?_
 simp only [kr,List.mem_cons,List.not_mem_nil,or_false]at hx
 rcases hx with rfl | rfl | rfl | rfl | rfl | rfl | rfl | rfl | rfl | rfl
 ·exact Fo _ _
 all_goals exact Co _
theorem Hf:∀ {p:List Gl} {pre:List ByteArray},B8 pre p=true→(nms p).Nodup∧∀ n∈nms p,n ∉ pre
 | [],_,_=>by simp [nms]
 | g::r,pre,h=>by
  rw [B8]at h
  simp only [Bool.and_eq_true,Bool.not_eq_true',decide_eq_false_iff_not]at h
  obtain⟨h1,h2⟩:=Hf h.2
  simp only [nms,List.map_cons,List.nodup_cons,List.mem_cons]at *
  refine⟨⟨fun hm=>?_,h1⟩,?_⟩
  ·exact h2 _ hm (by simp)
  ·rintro n (rfl | hn)
   ·exact h.1.1.2
   ·exact fun hp=>h2 n hn (by simp [hp])
structure EW (p:List Gl):Prop where
 few:p.length≤400
 nd:(nms p).Nodup
 wf:∀ g∈p,wf g.body=true
 sm:∀ g∈p,small g.body∧rng g.body
theorem MT {p:List Gl} (hp:Few p) (h:isP p=true):EW p:=by
 simp only [isP,Bool.and_eq_true,decide_eq_true_eq]at h
 exact⟨h.1,(Hf h.2.1).1,Hw h.2.1,hp.2⟩
theorem MU (p:List Gl) (f:Tb):(tbD p f).map (·.1)=nms p:=by simp [tbD,nms]
theorem G2 {f:Tb}:∀ {p:List Gl},(nms p).Nodup→∀ g∈p,AJ (tbD p f) g.name=f g
 | [],_,g,hg=>by simp at hg
 | a::p,h,g,hg=>by
  simp only [nms,List.map_cons,List.nodup_cons]at h
  rcases List.mem_cons.1 hg with rfl | hg
  ·simp [AJ,tbD]
  ·have hne:¬ a.name=g.name:=fun e=>h.1 (by rw [e];exact List.mem_map_of_mem hg)
   have ih:=G2 (f:=f) (p:=p) h.2 g hg
   simp only [AJ,tbD,List.map_cons,List.find?_cons,hne,decide_false]at ih ⊢
   exact ih
theorem LZ (f:Tb) (n:ByteArray):∀ p:List Gl,(∃ g∈p,AJ (tbD p f) n=f g)∨AJ (tbD p f) n=Kn.zero
 | []=>.inr rfl
 | a::p=>by
  by_cases h:a.name=n
  ·exact .inl ⟨a,by simp,by simp [AJ,tbD,h]⟩
  ·have e:AJ (tbD (a::p) f) n=AJ (tbD p f) n:=by simp [AJ,tbD,h]
   rw [e]
   rcases LZ f n p with ⟨g,hg,e⟩ | e
   ·exact .inl ⟨g,by simp [hg],e⟩
   ·exact .inr e
def Jz (p:List Gl) (f:Tb):Prop:=∀ g∈p,(0≤(f g).w∧(f g).w≤8)∧((f g).st.length:Int)=(f g).w
theorem Jz.D {p:List Gl} {f:Tb} (h:Jz p f):Ph (tbD p f):=by
 constructor
 ·intro n
  rcases LZ f n p with ⟨g,hg,e⟩ | e
  ·rw [e];exact(h g hg).1
  ·rw [e];simp [Kn.zero]
 ·intro n
  rcases LZ f n p with ⟨g,hg,e⟩ | e
  ·rw [e];exact(h g hg).2
  ·rw [e];simp [Kn.zero]
theorem N6 {b:Pl} (h:wf b=true):0≤wnt b∧wnt b≤8:=by
 unfold wnt
 split
 ·rename_i o;have:=(A5 h).1.lam o;omega
 ·omega
theorem UU {p:List Gl} (hp:EW p) (f:Tb):Jz p (stp p f):=fun g hg=>by
 have:=N6 (hp.wf g hg)
 refine⟨this,?_⟩
 simp only [stp,GS,List.length_map,List.length_range]
 omega
theorem Su {p:List Gl} (hp:EW p):Jz p tb0:=fun g hg=>by
 have:=N6 (hp.wf g hg)
 refine⟨this,?_⟩
 simp only [tb0,top,List.length_replicate]
 omega
def st8 (k:Kn):List Bool:=[k.st.getD 0 false,k.st.getD 1 false,k.st.getD 2 false,k.st.getD 3 false,k.st.getD 4 false,k.st.getD 5 false,k.st.getD 6 false,k.st.getD 7 false]
theorem MV (k:Kn):(kr k).take 8=(st8 k).map .bool:=rfl
@[simp] theorem AJI (k:Kn):(st8 k).length=8:=rfl
def kch (a b:Kn):Bool:=!decide (a.BV=b.BV) || !decide (st8 a=st8 b)
noncomputable def Ft (p:List Gl) (f:Tb) (l:List Gl):Bool:=l.any fun g=>kch (stp p f g) (f g)
theorem Pp {p:List Gl} {f:Tb} {i:Nat} (h:i < p.length):tbD (p.take (i+1)) f=tbD (p.take i) f++[(p[i].name,f p[i])]:=by
 rw [List.take_succ_eq_append_getElem h];simp only [tbD,List.map_append,List.map_cons,List.map_nil]
def I80 (p:List Gl) (f:Tb) (oa og:Nat) (s:St) (m:Nat) (g:Env) (s1:St):Prop :=
 ∃ i:Nat,i≤p.length∧m=p.length - i∧g.get 0=.ptr oa 0∧g.get 5=.map s.nx∧g.get 6=.bool (Ft p f (p.take i))∧g.get 12=.list 6 .none (p.map Gl.av)∧g.get 13=.int .i64 p.length∧g.get 14=.int .i64 i ∧
  s1.m s.nx=some (FA (tbD (p.take i) (stp p f)))∧s1.m oa=some (.box [.map og])∧s1.m og=some (FA (tbD p f))∧Kept s s1∧s.nx < s1.nx
set_option maxHeartbeats 4000000 in
theorem p80 (p:List Gl) (hp:EW p) (f:Tb) (hf:Jz p f) (oa og:Nat) (s:St) (hoa:s.m oa=some (.box [.map og])) (hog:s.m og=some (FA (tbD p f))) (hoa2:oa < s.nx) (hog2:og < s.nx) :
  AB Tryz.prog 80 [.ptr oa 0,.list 6 .none (p.map Gl.av)] s fun r s'=>r=.bool (Ft p f p)∧∃ og',s.nx≤og'∧og' < s'.nx∧s'.m oa=some (.box [.map og'])∧s'.m og'=some (FA (tbD p (stp p f)))∧Ao s oa s':=by
 refine AD mixed Tryz.func80 Tryz.call80 k80.2 rfl (AE _ _ _ _ ?_)
 simp -implicitDefEqProofs (disch:=first|omega|simp only[nx4]<;>omega|fail) [k80]
 refine AQ (I80 p f oa og s) p.length ?h0 ?_
 case h0 =>
  refine⟨0,by omega,by omega,?_,?_,?_,?_,?_,?_,?_,?_,?_,?_,?_⟩
  all_goals (try simp -implicitDefEqProofs (disch:=first|omega|simp only[nx4]<;>omega|fail) [Ft,hoa,hog,FA,tbD,kes,DM])
 rintro m g S ⟨i,hi,rfl,e0,e5,e6,e12,e13,e14,jn,joa,jog,hk,hb⟩
 by_cases hlt:i < p.length
 ·have hlt':(i:Int) < p.length:=by omega
  have hpl:=hp.few
  have w3:=wrapS (i:=i) (by omega)
  have hmem:=List.getElem_mem hlt
  have htt:=Pp (f:=stp p f) hlt
  have hct:Ft p f (p.take (i+1))=(Ft p f (p.take i) || kch (stp p f p[i]) (f p[i])):=by
   rw [Ft,List.take_succ_eq_append_getElem hlt,List.any_append]
   simp [Ft]
  have hnot:p[i].name ∉ (tbD (p.take i) (stp p f)).map (·.1):=by
   rw [MU]
   intro hm
   have:=hp.nd
   rw [← List.take_append_drop i p,nms,List.map_append,List.drop_eq_getElem_cons hlt,List.map_cons]at this
   exact(List.nodup_append.1 this).2.2 _ hm _ (by simp) rfl
  have hlk:=G2 (f:=f) hp.nd _ hmem
  have hwf:=hp.wf _ hmem
  obtain⟨hsm,hrg⟩:=hp.sm _ hmem
  have hst:stp p f p[i]=GS (AJ (tbD p f)) p[i].body:=rfl
  generalize hx:p[i]=x at htt hct hnot hlk hwf hsm hrg hst
  have h114:=AKI (tbD p f) hf.D x.body hwf hsm hrg
  have hv1:=fun s K=>Sp (D:=tbD p f) x.name s K
  rw [hlk]at hv1
  have hu1:=fun S1 K=>Sr (D:=tbD (p.take i) (stp p f)) s.nx x.name (stp p f x) hnot S1 K
  rw [← hst]at h114
  simp -implicitDefEqProofs (disch:=first|omega|simp only[nx4]<;>omega|fail) [e0,e12,e13,e14,hlt',hlt,hx]
  refine AH (AB.mono (borrow h114 (UT _) (oa:=oa) (og:=og) ?_ ?_ ?_ ?_) fun r s' hn' h=>AW ?_)
  ·simp -implicitDefEqProofs (disch:=first|omega|simp only[nx4]<;>omega|fail) [joa]
  ·simp -implicitDefEqProofs (disch:=first|omega|simp only[nx4]<;>omega|fail) [jog]
   simp [FA,kes]
  ·intro q hq
   obtain⟨d,_,rfl⟩:=List.mem_map.1 hq
   trivial
  ·have:(kes (tbD p f)).map (·.1)=(nms p).map AV.str:=by simp [kes,tbD,nms]
   rw [this]
   exact List.Pairwise.map _ (fun a b h e=>h (by injection e)) hp.nd
  obtain⟨rfl,hk'⟩:=h
  have q1:s'.m oa=some (.box [.map og]):=(hk' _ soz).trans (by simp -implicitDefEqProofs (disch:=first|omega|simp only[nx4]<;>omega|fail) [joa])
  have q2:s'.m og=some (FA (tbD p f)):=(hk' _ soz).trans (by simp -implicitDefEqProofs (disch:=first|omega|simp only[nx4]<;>omega|fail) [jog])
  have q3:s'.m s.nx=some (FA (tbD (p.take i) (stp p f))):=(hk' _ soz).trans (by simp -implicitDefEqProofs (disch:=first|omega|simp only[nx4]<;>omega|fail) [jn])
  have q8:s'.m S.nx=some (.box x.av.cells):=(hk' _ smz).trans smz
  have q9:Kept s s':=fun q hq=>(hk' q soz).trans (by simp -implicitDefEqProofs (disch:=first|omega|simp only[nx4]<;>omega|fail) [hk q hq])
  have q10:S.nx < s'.nx:=by simp -implicitDefEqProofs (disch:=first|omega|simp only[nx4]<;>omega|fail)at hn';omega
  clear hk' hk joa jog jn h114 hst
  generalize stp p f x=kn at htt hct hu1
  generalize f x=ko at hv1 hct hlk
  have hka:∀ k,kAV k=.agg (.int .i64 k.w::kr k):=fun _=>rfl
  have ht9:∀ k,(kr k).take 9=kr k:=fun _=>rfl
  simp only [kz,hka]at hv1 hu1
  generalize Ft p f (p.take i)=c at e6 hct
  cases c with
  | true =>
   simp -implicitDefEqProofs (disch:=first|omega|simp only[nx4]<;>omega|fail) [hka,e0,e5,e6,q1,q2,q3,q8,hv1,MV,ht9]
   intro m hm
   simp -implicitDefEqProofs (disch:=first|omega|simp only[nx4]<;>omega|fail) [e5,q3,q8,ht9,hu1,e14,w3]
   refine AK (p.length - (i+1)) (by omega) ⟨i+1,by omega,rfl,?_,?_,?_,?_,?_,?_,?_,?_,?_,?_,?_⟩
   all_goals (try simp -implicitDefEqProofs (disch:=first|omega|simp only[nx4]<;>omega|fail) [e0,e5,e12,e13,hct,kch,htt,q1,q2,q9])
   all_goals (try omega)
  | false =>
   by_cases hff:kn.BV=ko.BV
   ·simp -implicitDefEqProofs (disch:=first|omega|simp only[nx4]<;>omega|fail) [hka,e0,e5,e6,q1,q2,q3,q8,hv1,MV,ht9]
    intro m hm
    simp -implicitDefEqProofs (disch:=first|omega|simp only[nx4]<;>omega|fail) [e5,q3,q8,ht9,hu1,e14,w3,hff,MV]
    refine AK (p.length - (i+1)) (by omega) ⟨i+1,by omega,rfl,?_,?_,?_,?_,?_,?_,?_,?_,?_,?_,?_⟩
    all_goals (try simp -implicitDefEqProofs (disch:=first|omega|simp only[nx4]<;>omega|fail) [e0,e5,e12,e13,hct,kch,htt,q1,q2,q9,hff])
    all_goals (try omega)
   ·simp -implicitDefEqProofs (disch:=first|omega|simp only[nx4]<;>omega|fail) [hka,e0,e5,e6,q1,q2,q3,q8,hv1,MV,ht9]
    intro m hm
    simp -implicitDefEqProofs (disch:=first|omega|simp only[nx4]<;>omega|fail) [e5,q3,q8,ht9,hu1,e14,w3,hff,MV]
    refine AK (p.length - (i+1)) (by omega) ⟨i+1,by omega,rfl,?_,?_,?_,?_,?_,?_,?_,?_,?_,?_,?_⟩
    all_goals (try simp -implicitDefEqProofs (disch:=first|omega|simp only[nx4]<;>omega|fail) [e0,e5,e12,e13,hct,kch,htt,q1,q2,q9,hff])
    all_goals (try omega)
 ·have hlt':¬ (i:Int) < p.length:=by omega
  obtain rfl:i=p.length:=by omega
  rw [List.take_length]at jn e6
  simp -implicitDefEqProofs (disch:=first|omega|simp only[nx4]<;>omega|fail) [e13,e14,hlt',e0,e5,joa,e6]
  refine⟨s.nx,by omega,by omega,rfl,by simp -implicitDefEqProofs (disch:=first|omega|simp only[nx4]<;>omega|fail) [jn],?_⟩
  intro q hq hne
  exact hk q hq
end Go.AL.Dm
namespace Go.AL.Dm
def TLe (f f':Tb):Prop:=∀ g,Is (f g) (f' g)
theorem Wm {f f':Tb} (h:TLe f f') (p:List Gl):KLe (AJ (tbD p f)) (AJ (tbD p f')):=by
 intro n
 induction p with
 | nil=>exact Is.refl _
 | cons a p ih =>
  by_cases e:a.name=n
  ·have e1:∀ f:Tb,AJ (tbD (a::p) f) n=f a:=fun f=>by simp [AJ,tbD,e]
   rw [e1,e1];exact h a
  ·have e1:∀ f:Tb,AJ (tbD (a::p) f) n=AJ (tbD p f) n:=fun f=>by simp [AJ,tbD,e]
   rw [e1,e1];exact ih
theorem ADO {f f':Tb} (h:TLe f f') (p:List Gl):TLe (stp p f) (stp p f'):=fun g=>Y1 (Wm h p) g.body
theorem Sv:∀ l:List Bool,BLe l (List.replicate l.length true)
 | []=>trivial
 | _::l=>⟨fun _=>rfl,Sv l⟩
theorem Wn (K:ByteArray→Kn) (b:Pl):Is (GS K b) (top b):=by
 refine⟨rfl,?_,fun _=>rfl⟩
 have:=Sv (GS K b).st
 rw [show (GS K b).st.length=(wnt b).toNat by simp [GS]]at this
 exact this
def Wo (p:List Gl) (f:Tb):Prop:=TLe (stp p f) f
theorem ADP (p:List Gl):Wo p tb0:=fun g=>Wn _ _
theorem Wo.stp {p:List Gl} {f:Tb} (h:Wo p f):Wo p (stp p f):=ADO h p
def Rh (l:List Bool):Nat:=(l.filter id).length
def L8 (k:Kn):Nat:=Rh k.st+(if k.BV=true then 1 else 0)
theorem BLe.cnt:∀ {a b:List Bool},BLe a b→Rh a≤Rh b∧(Rh a=Rh b→a=b)
 | [],[],_=>⟨Nat.le_refl _,fun _=>rfl⟩
 | x::a,y::b,h=>by
  obtain⟨h1,h2⟩:=BLe.cnt h.2
  have hx:=h.1
  cases x <;> cases y <;> simp [Rh]at *
  ·exact⟨h1,h2⟩
  ·exact⟨by omega,by omega⟩
  ·exact⟨h1,h2⟩
 | [],_::_,h=>h.elim
 | _::_,[],h=>h.elim
theorem Is.cnt {a b:Kn} (h:Is a b):L8 a≤L8 b∧(L8 a=L8 b→a=b):=by
 obtain⟨h1,h2,h3⟩:=h
 obtain⟨c1,c2⟩:=h2.cnt
 obtain⟨w,st,fl⟩:=a
 obtain⟨w',st',fl'⟩:=b
 simp only at *
 unfold L8
 simp only
 cases fl <;> cases fl' <;> simp at *
 ·exact⟨c1,fun e=>⟨h1,c2 e⟩⟩
 ·omega
 ·exact⟨c1,fun e=>⟨h1,c2 e⟩⟩
theorem La (a:Kn):kch a a=false:=by simp [kch]
theorem ADQ {a b:Kn} (h:Is a b) (h8:b.st.length≤8) (hk:kch a b=false):a=b:=by
 have hl:=h.2.1.len
 obtain⟨w,st,fl⟩:=a
 obtain⟨w',st',fl'⟩:=b
 simp only [kch,Bool.or_eq_false_iff,Bool.not_eq_false',decide_eq_true_eq]at hk hl h8
 obtain⟨h1,h2⟩:=hk
 have hw:=h.1
 simp only at hw
 have:st=st':=by
  apply List.ext_getElem hl
  intro i hi hi'
  have hi8:i < 8:=by omega
  have hg:st.getD i false=st'.getD i false:=by
   simp only [st8,List.cons.injEq,and_true]at h2
   obtain⟨a0,a1,a2,a3,a4,a5,a6,a7⟩:=h2
   match i,hi8 with
   | 0,_=>exact a0
   | 1,_=>exact a1
   | 2,_=>exact a2
   | 3,_=>exact a3
   | 4,_=>exact a4
   | 5,_=>exact a5
   | 6,_=>exact a6
   | 7,_=>exact a7
  simpa [hi,hi'] using hg
 rw [hw,this,h1]
def ms (p:List Gl) (f:Tb):Nat:=(p.map fun g=>L8 (f g)).sum
theorem ABU (f' f:Tb) (h:TLe f' f):∀ p:List Gl,ms p f'≤ms p f∧((p.any fun g=>kch (f' g) (f g))=true→ms p f' < ms p f)
 | []=>by simp [ms]
 | g::p=>by
  obtain⟨h1,h2⟩:=ABU f' f h p
  obtain⟨c1,c2⟩:=(h g).cnt
  simp only [ms,List.map_cons,List.sum_cons,List.any_cons,Bool.or_eq_true]at *
  refine⟨by omega,?_⟩
  rintro(e | e)
  ·have:L8 (f' g)≠L8 (f g):=fun e'=>by rw [c2 e',La]at e;cases e
   omega
  ·have:=h2 e;omega
theorem Y2 (l:List Bool):Rh l≤l.length:=List.length_filter_le _ _
theorem Wp {f:Tb}:∀ {p:List Gl},Jz p f→ms p f≤9 * p.length
 | [],_=>by simp [ms]
 | g::p,h=>by
  have ih:=Wp (f:=f) (p:=p) fun x hx=>h x (by simp [hx])
  have hg:=h g (by simp)
  have hc:=Y2 (f g).st
  simp only [ms,List.map_cons,List.sum_cons,List.length_cons]at *
  have:L8 (f g)≤9:=by
   unfold L8
   split <;> omega
  omega
noncomputable def Wq (p:List Gl):Nat→Tb→Nat→Tb × Nat
 | 0,f,c=>(f,c)
 | n+1,f,c=>if Ft p f p=true then Wq p n (stp p f) (c+1)else(f,c)
noncomputable def fin (p:List Gl):Tb × Nat:=Wq p (ms p tb0+1) tb0 1
structure Way (p:List Gl) (n:Nat) (f:Tb) (c:Nat):Prop where
 fin:Wq p n f c=fin p
 desc:Wo p f
 Wr:Jz p f
 lt:ms p f < n
 bnd:c+ms p f≤3601
theorem Ws {p:List Gl} (hp:EW p):Way p (ms p tb0+1) tb0 1 :=
 ⟨rfl,ADP p,Su hp,by omega,by have:=Wp (Su hp);have:=hp.few;omega⟩
theorem Way.go {p:List Gl} {n:Nat} {f:Tb} {c:Nat} (hp:EW p) (h:Way p n f c) (hc:Ft p f p=true):∃ n',n=n'+1∧Way p n' (stp p f) (c+1):=by
 have hlt:=(ABU _ _ h.desc p).2 hc
 have hn:=h.lt
 cases n with
 | zero=>omega
 | succ n =>
  refine⟨n,rfl,?_,h.desc.stp,UU hp f,by omega,by have:=h.bnd;omega⟩
  have:=h.fin
  rw [Wq,if_pos hc]at this
  exact this
theorem Way.done {p:List Gl} {n:Nat} {f:Tb} {c:Nat} (h:Way p n f c) (hc:Ft p f p=false):Dm.fin p=(f,c)∧∀ g∈p,stp p f g=f g:=by
 have hn:=h.lt
 cases n with
 | zero=>omega
 | succ n =>
  refine⟨?_,fun g hg=>?_⟩
  ·have:=h.fin
   rw [Wq,if_neg (by rw [hc];simp)]at this
   exact this.symm
  ·simp only [Ft,List.any_eq_false]at hc
   have hg8:=h.Wr g hg
   exact ADQ (h.desc g) (by omega) (by simpa using hc g hg)
theorem N7 {p:List Gl} (hp:EW p):∃ n,Way p n (fin p).1 (fin p).2∧Ft p (fin p).1 p=false:=by
 have:∀ n f c,Way p n f c→∃ n,Way p n (fin p).1 (fin p).2∧Ft p (fin p).1 p=false:=by
  intro n
  induction n with
  | zero=>intro f c h;have:=h.lt;omega
  | succ n ih =>
   intro f c h
   cases hc:Ft p f p with
   | true =>
    obtain⟨n',e,h'⟩:=h.go hp hc
    cases e
    exact ih _ _ h'
   | false =>
    rw [(h.done hc).1]
    exact⟨_,h,hc⟩
 exact this _ _ _ (Ws hp)
theorem Wt {p:List Gl} {f f':Tb} (h:∀ g∈p,f' g=f g):tbD p f'=tbD p f:=List.map_congr_left fun g hg=>by rw [h g hg]
end Go.AL.Dm
namespace Go.AL.Dm
open Go Go.Proofs
theorem ADR (b:Pl) (n:Nat) (h:wnt b=n):kr (top b)=cR (fun _=>true) true n:=by
 have e:top b=⟨wnt b,(List.range n).map fun _=>true,true⟩:=by
  rw [top,h]
  simp [List.map_const']
 rw [e,Wl (w:=wnt b)]
def AIA (p:List Gl) (s:St) (m:Nat) (g:Env) (s1:St):Prop :=
 ∃ i:Nat,i≤p.length∧m=p.length - i∧g.get 0=.list 6 .none (p.map Gl.av)∧g.get 4=.ptr (s.nx+1) 0∧g.get 13=.list 6 .none (p.map Gl.av)∧g.get 14=.int .i64 p.length∧g.get 15=.int .i64 i ∧
  s1.m s.nx=some (FA (tbD (p.take i) tb0))∧s1.m (s.nx+1)=some (.box [.map s.nx])∧Kept s s1∧s.nx+1 < s1.nx
def AKJ (p:List Gl) (i:Nat) (x:Gl) (wn:Nat) (b6 b7:Nat) (s:St) (m:Nat) (g:Env) (s1:St):Prop :=
 ∃ j:Nat,j≤wn∧m=wn - j∧g.get 0=.list 6 .none (p.map Gl.av)∧g.get 4=.ptr (s.nx+1) 0∧g.get 6=.ptr b6 0∧g.get 7=.ptr b7 0∧g.get 13=.list 6 .none (p.map Gl.av)∧g.get 14=.int .i64 p.length∧g.get 15=.int .i64 i∧g.get 29=.int .i64 wn∧g.get 30=.int .i64 j ∧
  s1.m s.nx=some (FA (tbD (p.take i) tb0))∧s1.m (s.nx+1)=some (.box [.map s.nx])∧s1.m b6=some (.box x.av.cells)∧s1.m b7=some (.box (.int .i64 wn::cR (fun _=>true) true j))∧Kept s s1∧b7 < s1.nx
def AKK (p:List Gl) (s:St) (m:Nat) (g:Env) (s1:St):Prop :=
 ∃ (f:Tb) (c og:Nat),Way p m f c∧g.get 0=.list 6 .none (p.map Gl.av)∧g.get 4=.ptr (s.nx+1) 0∧g.get 9=.int .i64 c∧s.nx≤og∧og < s1.nx ∧
  s1.m (s.nx+1)=some (.box [.map og])∧s1.m og=some (FA (tbD p f))∧Kept s s1∧s.nx+1 < s1.nx
set_option maxHeartbeats 4000000 in
theorem t40 (p:List Gl) (i:Nat) (x:Gl) (wn:Nat) (s:St) (b6 b7:Nat) (hlt:i < p.length) (hpl:p.length≤400) (htt:tbD (p.take (i+1)) tb0=tbD (p.take i) tb0++[(x.name,tb0 x)]) (hnot:x.name ∉ (tbD (p.take i) tb0).map (·.1)) (hwn:wnt x.body=wn) (hw8:wn≤8)
  (Q:Ay→Env→St→Prop) (g:Env) (S:St) (e0:g.get 0=.list 6 .none (p.map Gl.av)) (e4:g.get 4=.ptr (s.nx+1) 0) (e6:g.get 6=.ptr b6 0) (e7:g.get 7=.ptr b7 0) (e13:g.get 13=.list 6 .none (p.map Gl.av)) (e14:g.get 14=.int .i64 p.length) (e15:g.get 15=.int .i64 i)
  (jn:S.m s.nx=some (FA (tbD (p.take i) tb0))) (ja:S.m (s.nx+1)=some (.box [.map s.nx])) (j6:S.m b6=some (.box x.av.cells)) (j7:S.m b7=some (.box (.int .i64 wn::cR (fun _=>true) true 0))) (hk:Kept s S) (hb:b7 < S.nx) (hb2:s.nx+1 < b7) (hb3:b6 < b7) (hb4:s.nx+1 < b6) :
  go (Cr Tryz.prog Vt (Hr (FQ Tryz.prog (Ae.block 2 NU.loop) (FQ Tryz.prog (Ae.reg true Q4) (DZ 1 (FQ Tryz.prog (Ae.reg false Q5) (Fu (p.length - i) (AIA p s) Q)))))) g [] S):=by
 have w3:=wrapS (i:=i) (by omega)
 simp -implicitDefEqProofs (disch:=first|omega|simp only[nx4]<;>omega|fail) [Vt,e7,j7]
 refine AQ (AKJ p i x wn b6 b7 s) wn ?h0 ?_
 case h0 =>
  refine⟨0,by omega,by omega,?_,?_,?_,?_,?_,?_,?_,?_,?_,?_,?_,?_,?_,?_,?_⟩
  all_goals (try simp -implicitDefEqProofs (disch:=first|omega|simp only[nx4]<;>omega|fail) [e0,e4,e6,e7,e13,e14,e15,jn,ja,j6,j7,hk])
  all_goals (try omega)
 clear e0 e4 e6 e7 e13 e14 e15 jn ja j6 j7 hk hb
 rintro m g S ⟨j,hj,rfl,e0,e4,e6,e7,e13,e14,e15,e29,e30,jn,ja,j6,j7,hk,hb⟩
 by_cases hjl:j < wn
 ·have hjl':(j:Int) < wn:=by omega
  have h8:j < 8:=by omega
  have h8':(j:Int) < 8:=by omega
  have w4:=wrapS (i:=j) (by omega)
  have hst:=Sn (v:=fun _=>true) (fl:=true) h8
  have hst':List.take (1+j) (AV.int .i64 wn::cR (fun _=>true) true j)++.bool true::List.drop (1+j) (cR (fun _=>true) true j)=.int .i64 wn::cR (fun _=>true) true (j+1):=by
   rw [Nat.add_comm 1 j,List.take_succ_cons]
   exact congrArg (AV.int .i64 wn::·) hst
  simp -implicitDefEqProofs (disch:=first|omega|simp only[nx4]<;>omega|fail) [NU,Vu,Vv,Vw,Vx,e7,e29,e30,j7,hjl',h8',w4]
  refine AK (wn - (j+1)) (by omega) ⟨j+1,by omega,rfl,?_,?_,?_,?_,?_,?_,?_,?_,?_,?_,?_,?_,?_,?_,?_⟩
  all_goals (try simp -implicitDefEqProofs (disch:=first|omega|simp only[nx4]<;>omega|fail) [e0,e4,e6,e7,e13,e14,e15,e29,jn,ja,j6,hst',hk])
  all_goals (try omega)
 ·have hjl':¬ (j:Int) < wn:=by omega
  obtain rfl:j=wn:=by omega
  have hkr:=ADR x.body j hwn
  have hu1:=fun S1 K=>Sr (D:=tbD (p.take i) tb0) s.nx x.name (tb0 x) hnot S1 K
  have hka:kAV (tb0 x)=.agg (.int .i64 j::cR (fun _=>true) true j):=by rw [tb0,kAV,hkr,top,hwn]
  have ht9:(cR (fun _=>true) true j).take 9=cR (fun _=>true) true j:=rfl
  rw [hka]at hu1
  simp -implicitDefEqProofs (disch:=first|omega|simp only[nx4]<;>omega|fail) [NU,Vu,e29,e30,hjl',Q4,e4,e6,e7,ja,j6,j7,jn,ht9,hu1]
  intro m hm
  simp -implicitDefEqProofs (disch:=first|omega|simp only[nx4]<;>omega|fail) [Q5,e15,w3]
  refine AK (p.length - (i+1)) (by omega) ⟨i+1,by omega,rfl,?_,?_,?_,?_,?_,?_,?_,?_,?_⟩
  all_goals (try simp -implicitDefEqProofs (disch:=first|omega|simp only[nx4]<;>omega|fail) [e0,e4,e13,e14,htt,ja,hk])
  all_goals (try omega)
set_option maxHeartbeats 4000000 in
theorem p40 (p:List Gl) (hp:EW p) (s:St) :
  AB Tryz.prog 40 [.list 6 .none (p.map Gl.av)] s fun r s'=>∃ oa og,r=.tup [.ptr oa 0,.int .i64 (fin p).2]∧s.nx≤oa∧oa < s'.nx∧s.nx≤og∧og < s'.nx∧s'.m oa=some (.box [.map og])∧s'.m og=some (FA (tbD p (fin p).1))∧Kept s s':=by
 refine AD mixed Tryz.func40 Tryz.call40 c40 rfl (AE _ _ _ _ ?_)
 have hpl:=hp.few
 simp -implicitDefEqProofs (disch:=first|omega|simp only[nx4]<;>omega|fail) [a40,AHp,ABF,ABG,ABH]
 refine AQ (AIA p s) p.length ?h0 ?_
 case h0 =>
  refine⟨0,by omega,by omega,?_,?_,?_,?_,?_,?_,?_,?_,?_⟩
  all_goals (try simp -implicitDefEqProofs (disch:=first|omega|simp only[nx4]<;>omega|fail) [FA,tbD,kes,DM])
 rintro m g S ⟨i,hi,rfl,e0,e4,e13,e14,e15,jn,ja,hk,hb⟩
 by_cases hlt:i < p.length
 ·have hlt':(i:Int) < p.length:=by omega
  have w3:=wrapS (i:=i) (by omega)
  have hmem:=List.getElem_mem hlt
  have htt:=Pp (f:=tb0) hlt
  have hnot:p[i].name ∉ (tbD (p.take i) tb0).map (·.1):=by
   rw [MU]
   intro hm
   have:=hp.nd
   rw [← List.take_append_drop i p,nms,List.map_append,List.drop_eq_getElem_cons hlt,List.map_cons]at this
   exact(List.nodup_append.1 this).2.2 _ hm _ (by simp) rfl
  have hwf:=hp.wf _ hmem
  generalize hx:p[i]=x at htt hnot hwf
  have hwb:=N6 hwf
  obtain⟨wn,hwn⟩:∃ wn:Nat,wnt x.body=wn:=⟨(wnt x.body).toNat,by omega⟩
  have hw8:wn≤8:=by omega
  by_cases o5:x.body.op=5
  ·have hn5:x.body.n=wn:=by rw [← hwn,wnt,if_pos o5]
   simp -implicitDefEqProofs (disch:=first|omega|simp only[nx4]<;>omega|fail) [NV,SK,Vq,Vr,Vs,ABI,e13,e14,e15,hlt',hlt,hx,o5]
   refine t40 p i x wn s S.nx (S.nx+1) hlt hpl htt hnot hwn hw8 _ _ _ ?_ ?_ ?_ ?_ ?_ ?_ ?_ ?_ ?_ ?_ ?_ ?_ ?_ ?_ ?_ ?_
   all_goals (try simp -implicitDefEqProofs (disch:=first|omega|simp only[nx4]<;>omega|fail) [e0,e4,e13,e14,e15,jn,ja,hk,ADN,hn5])
   all_goals (try omega)
  ·have h0:wn=0:=by rw [← Int.natCast_inj,← hwn,wnt,if_neg o5];rfl
   subst h0
   simp -implicitDefEqProofs (disch:=first|omega|simp only[nx4]<;>omega|fail) [NV,SK,Vq,Vr,Vs,e13,e14,e15,hlt',hlt,hx,o5]
   refine t40 p i x 0 s S.nx (S.nx+1) hlt hpl htt hnot hwn hw8 _ _ _ ?_ ?_ ?_ ?_ ?_ ?_ ?_ ?_ ?_ ?_ ?_ ?_ ?_ ?_ ?_ ?_
   all_goals (try simp -implicitDefEqProofs (disch:=first|omega|simp only[nx4]<;>omega|fail) [e0,e4,e13,e14,e15,jn,ja,hk,ADN])
   all_goals (try omega)
 ·have hlt':¬ (i:Int) < p.length:=by omega
  obtain rfl:i=p.length:=by omega
  rw [List.take_length]at jn
  simp -implicitDefEqProofs (disch:=first|omega|simp only[nx4]<;>omega|fail) [NV,SK,e14,e15,hlt',Vy]
  refine AQ (AKK p s) (ms p tb0+1) ?h0 ?_
  case h0 =>
   refine⟨tb0,1,s.nx,Ws hp,?_,?_,?_,?_,?_,?_,?_,?_,?_⟩
   all_goals (try simp -implicitDefEqProofs (disch:=first|omega|simp only[nx4]<;>omega|fail) [e0,e4,jn,ja,hk])
   all_goals (try omega)
  clear e0 e4 e13 e14 e15 jn ja hk hb
  rintro m g S ⟨f,c,og,hway,e0,e4,e9,ho1,ho2,ja,jo,hk,hb⟩
  simp -implicitDefEqProofs (disch:=first|omega|simp only[nx4]<;>omega|fail) [V1,Vz,e0,e4]
  refine AH (AB.mono (p80 p hp f hway.Wr (s.nx+1) og S ja jo hb ho2) fun r s' hn' h=>AW ?_)
  obtain⟨rfl,og',h1,h2,h3,h4,h5⟩:=h
  have hk':Kept s s':=fun q hq=>(h5 q (by omega) (by omega)).trans (hk q hq)
  cases hc:Ft p f p with
  | true =>
   obtain⟨n',rfl,hw'⟩:=hway.go hp hc
   have hcb:=hw'.bnd
   have w3:=wrapS (i:=c) (by omega)
   simp -implicitDefEqProofs (disch:=first|omega|simp only[nx4]<;>omega|fail) [V0,e9,w3]
   refine AK n' (by omega) ⟨stp p f,c+1,og',hw',?_,?_,?_,?_,?_,?_,?_,?_,?_⟩
   all_goals (try simp -implicitDefEqProofs (disch:=first|omega|simp only[nx4]<;>omega|fail) [e0,e4,h3,h4,hk'])
   all_goals (try omega)
  | false =>
   obtain⟨d1,d2⟩:=hway.done hc
   have hsame:=Wt d2
   rw [hsame]at h4
   simp -implicitDefEqProofs (disch:=first|omega|simp only[nx4]<;>omega|fail) [V2,e4,e9,d1]
   exact⟨by omega,og',by omega,by omega,h3,h4,hk'⟩
end Go.AL.Dm
namespace Go.AL.Dm
open Go Go.Proofs
def dm (n:ByteArray) (k:Kn):AV:=.agg [.str n,.list 1 .none (k.st.map .bool),.bool k.BV]
def dmL (p:List Gl) (f:Tb):List AV:=p.map fun g=>dm g.name (f g)
theorem Wu {p:List Gl} {f:Tb} {i:Nat} (h:i < p.length):dmL (p.take (i+1)) f=dmL (p.take i) f++[dm p[i].name (f p[i])]:=by
 rw [List.take_succ_eq_append_getElem h];simp only [dmL,List.map_append,List.map_cons,List.map_nil]
theorem MW {p:List Gl} {f:Tb}:∀ x∈dmL p f,x.cells.length=3:=by
 intro x hx
 simp only [dmL,List.mem_map]at hx
 obtain⟨g,_,rfl⟩:=hx
 rfl
theorem Wv {k:Kn} {n:Nat} (h:k.st.length=n) (h8:n≤8):(st8 k).take n=k.st:=by
 apply List.ext_getElem?
 intro i
 by_cases hi:i < n
 ·have hi8:i < 8:=by omega
  rw [List.getElem?_take,if_pos hi]
  have hs:(st8 k)[i]?=some (k.st.getD i false):=by
   match i,hi8 with
   | 0,_ | 1,_ | 2,_ | 3,_ | 4,_ | 5,_ | 6,_ | 7,_=>rfl
  rw [hs]
  have:i < k.st.length:=by omega
  simp [this]
 ·rw [List.getElem?_take,if_neg hi,List.getElem?_eq_none (by omega)]
def I37 (p:List Gl) (f:Tb) (oa og:Nat) (s:St) (m:Nat) (g:Env) (s1:St):Prop :=
 ∃ (i o:Nat),i≤p.length∧m=p.length - i∧g.get 3=.ptr oa 0∧g.get 5=.Ag 3 o 0 i∧g.get 14=.list 6 .none (p.map Gl.av)∧g.get 15=.int .i64 p.length∧g.get 16=.int .i64 i ∧
  s1.m o=some (.box (flat (dmL (p.take i) f)))∧s1.m oa=some (.box [.map og])∧s1.m og=some (FA (tbD p f))∧s.nx≤o∧o < s1.nx∧o≠oa∧o≠og∧Kept s s1∧oa < s1.nx∧og < s1.nx
set_option maxHeartbeats 4000000 in
theorem p37 (p:List Gl) (hp:EW p):AF Tryz.prog 37 [.list 6 .none (p.map Gl.av)] (.list 3 .none (dmL p (fin p).1)):=by
 refine AF.intro fun s=>KM (AD mixed Tryz.func37 Tryz.call37 k37.2 rfl (AE _ _ _ _ ?_))
 have hpl:=hp.few
 obtain⟨n0,hway,_⟩:=N7 hp
 have hf:=hway.Wr
 simp -implicitDefEqProofs (disch:=first|omega|simp only[nx4]<;>omega|fail) [k37]
 refine AH (AB.mono (p40 p hp s) fun r s' hn' h=>AW ?_)
 obtain⟨oa,og,rfl,h1,h2,h3,h4,ja,jo,hk⟩:=h
 generalize (fin p).1=f at jo hf ⊢
 simp -implicitDefEqProofs (disch:=first|omega|simp only[nx4]<;>omega|fail) []
 refine AQ (I37 p f oa og s) p.length ?h0 ?_
 case h0 =>
  refine⟨0,s'.nx,by omega,by omega,?_,?_,?_,?_,?_,?_,?_,?_,?_,?_,?_,?_,?_,?_,?_⟩
  all_goals (try simp -implicitDefEqProofs (disch:=first|omega|simp only[nx4]<;>omega|fail) [ja,jo,hk,dmL])
  all_goals (try omega)
 clear ja jo hk h1 h2 h3 h4 hn'
 rintro m g S ⟨i,o,hi,rfl,e3,e5,e14,e15,e16,jO,ja,jo,ho1,ho2,ho3,ho4,hk,hb1,hb2⟩
 by_cases hlt:i < p.length
 ·have hlt':(i:Int) < p.length:=by omega
  have w3:=wrapS (i:=i) (by omega)
  have hmem:=List.getElem_mem hlt
  have htk:=Wu (f:=f) hlt
  have hlk:=G2 (f:=f) hp.nd _ hmem
  have hgood:=hf _ hmem
  generalize hx:p[i]=x at htk hlk hgood
  have hv1:=fun s K=>Sp (D:=tbD p f) x.name s K
  rw [hlk]at hv1
  generalize f x=k at htk hgood hv1
  obtain⟨⟨hw0,hw8⟩,hst⟩:=hgood
  obtain⟨wn,hwn⟩:∃ wn:Nat,k.w=wn:=⟨k.w.toNat,by omega⟩
  have hka:∀ k,kAV k=.agg (.int .i64 k.w::kr k):=fun _=>rfl
  have hw8':(wn:Int)≤8:=by omega
  have h76:=p76 .none k.st (by omega)
  have hst8:List.take wn ((st8 k).map AV.bool)=k.st.map AV.bool:=by rw [← List.map_take,Wv (by omega) (by omega)]
  have hdl:(dmL (p.take i) f).length=i:=by simp [dmL];omega
  have hfl:(flat (dmL (p.take i) f)).length=i * 3:=by rw [BT (sz:=3) MW,hdl]
  simp only [kz,hka,hwn]at hv1
  simp -implicitDefEqProofs (disch:=first|omega|simp only[nx4]<;>omega|fail) [e3,e5,e14,e15,e16,hlt',hlt,hx,ja,jo,hv1]
  intro m hm
  have hcell:∀ y:AV,false∈st8 k∧AV.bool false=y∨true∈st8 k∧AV.bool true=y→y.cells=[y]:=by
   rintro y (⟨_,rfl⟩ | ⟨_,rfl⟩) <;> rfl
  simp -implicitDefEqProofs (disch:=first|omega|simp only[nx4]<;>omega|fail) [e5,MV,hst8,hw8',jO,hfl]
  refine AO h76 ?_
  simp -implicitDefEqProofs (disch:=first|omega|simp only[nx4]<;>omega|fail) [e5,jO,hfl]
  intro m1 hm1
  have hfl2:flat (dmL (p.take (i+1)) f)=flat (dmL (p.take i) f)++[AV.str x.name,AV.list 1 .none (k.st.map AV.bool),AV.bool k.BV]:=by
   rw [htk];simp [flat,dm]
  simp -implicitDefEqProofs (disch:=first|omega|simp only[nx4]<;>omega|fail) [e16,w3]
  refine AK (p.length - (i+1)) (by omega) ⟨i+1,m,by omega,rfl,?_,?_,?_,?_,?_,?_,?_,?_,?_,?_,?_,?_,?_,?_,?_⟩
  all_goals (try simp -implicitDefEqProofs (disch:=first|omega|simp only[nx4]<;>omega|fail) [e3,e14,e15,hfl2,ja,jo,hk])
  all_goals (try omega)
 ·have hlt':¬ (i:Int) < p.length:=by omega
  obtain rfl:i=p.length:=by omega
  rw [List.take_length]at jO
  simp -implicitDefEqProofs (disch:=first|omega|simp only[nx4]<;>omega|fail) [e15,e16,hlt',e5]
  refine⟨3,o,p.length,⟨rfl,rfl,rfl⟩,dmL p f,jO,MW,by simp [dmL],by simp,?_⟩
  simp -implicitDefEqProofs (disch:=first|omega|simp only[nx4]<;>omega|fail) [hk]
end Go.AL.Dm
namespace Go.AL.Dm
open Go Go.Proofs
noncomputable def Y3 (p:List Gl):List AV:=if isP p=true then dmL p (fin p).1 else []
def ADS (p:List Gl):Int:=if isP p=true then 0 else 40
theorem p11 (p:List Gl) (hp:Few p):AF Tryz.prog 11 [.list 6 .none (p.map Gl.av)] (.tup [.list 3 .none (Y3 p),.int .i64 (ADS p)]):=by
 refine AF.intro fun s=>AD mixed Tryz.func11 Tryz.call11 k11.2 rfl (AE _ _ _ _ ?_)
 have h36:=p36 p hp
 unfold Y3 ADS
 cases hi:isP p with
 | false =>
  rw [hi]at h36
  simp -implicitDefEqProofs (disch:=first|omega|simp only[nx4]<;>omega|fail) [k11]
  refine AA h36 fun mm1 hm1=>?_
  try simp only [nx4]at hm1
  simp -implicitDefEqProofs (disch:=first|omega|simp only[nx4]<;>omega|fail) [wkL]
  done
 | true =>
  rw [hi]at h36
  have h37:=p37 p (MT hp hi)
  simp -implicitDefEqProofs (disch:=first|omega|simp only[nx4]<;>omega|fail) [k11]
  refine AA h36 fun mm2 hm2=>?_
  try simp only [nx4]at hm2
  simp -implicitDefEqProofs (disch:=first|omega|simp only[nx4]<;>omega|fail) []
  refine AA h37 fun mm3 hm3=>?_
  try simp only [nx4]at hm3
  simp -implicitDefEqProofs (disch:=first|omega|simp only[nx4]<;>omega|fail) []
  done
theorem p42 (x:Gl) (n:ByteArray) (o:Nat) (s:St) (ho:s.m o=some (.box [.str n])) (ho2:o < s.nx):AB Tryz.prog 42 [x.av,.ptr o 0] s fun r s'=>r=.bool (decide (x.name=n))∧Kept s s':=by
 refine AD mixed Tryz.func42 Tryz.call42 k42.2 rfl (AE _ _ _ _ ?_)
 simp -implicitDefEqProofs (disch:=first|omega|simp only[nx4]<;>omega|fail) [k42,ho]
 done
end Go.AL.Dm
