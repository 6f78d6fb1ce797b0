/- The need of an application, and of code: the program. -/
import Derived.Test.YtlledcnjfgcipaaGreatDoorF32
import Derived.Test.YtlledcnjfgcipaaGreatDoorC4
set_option linter.unusedVariables false
set_option linter.unusedSimpArgs false
namespace Go.AL.Dm
open Go Go.Proofs
theorem p125 (D:List (ByteArray × Kn)) (t:Pl) (hw:wf t=true) (hs:small t) (hr:rng t) (o7:t.op=7) (ih:∀ x∈t.args,C49 D x):PureC Tryz.prog 125 [t.av,.cptr [ana D]] (ndv (need (lookK D) t)):=by
 refine PureC.intro fun s => fun_sound mixed Tryz.func125 Tryz.call125 k125.2 rfl (awpFun_go _ _ _ _ ?_)
 obtain ⟨hnd,hwa,hwb⟩:=wf_nd hw
 have hr':=(rng_eq t).1 hr
 have hl:=hnd.lt o7
 obtain ⟨vs,b,hvb⟩:=split_last (l:=t.args) (by intro h;rw [h] at hl;simp at hl)
 have hlen:t.args.length=vs.length+1:=by rw [hvb];simp
 have hbm:b∈t.args:=by rw [hvb];simp
 have hvm:∀ x∈vs,x∈t.args:=fun x hx => by rw [hvb];simp [hx]
 have h126:=p126 D vs b (by omega) (ih b hbm (hwa b hbm) (small_arg hs hbm) (hr'.2.2.1 b hbm)) (fun x hx => ih x (hvm x hx) (hwa x (hvm x hx)) (small_arg hs (hvm x hx)) (hr'.2.2.1 x (hvm x hx)))
  (need_bnd _ b (hwa b hbm) (hr'.2.2.1 b hbm)).1 (fun x hx => (need_bnd _ x (hwa x (hvm x hx)) (hr'.2.2.1 x (hvm x hx))).1)
 rw [need_let o7 hvb]
 generalize letC (vs.map (need (lookK D))) (need (lookK D) b)=nn at h126 ⊢
 have w1:IntKind.i64.wrap (vs.length:Int)=(vs.length:Int):=wrap64 (by omega) (by omega)
 have hlt:(vs.length:Int)≤t.args.length:=by omega
 have hg:t.args[vs.length]'(by omega)=b:=by simp [hvb]
 have htk:(t.args.map Pl.av).take vs.length=vs.map Pl.av:=by rw [hvb];simp
 have htk2:t.args.take vs.length=vs:=by rw [hvb];simp
 simp -implicitDefEqProofs (disch:=first|omega|simp only[nx4]<;>omega|fail) [k125,w1,hlen,hg,htk,htk2]
 refine pcV_intro h126 ?_
 simp -implicitDefEqProofs (disch:=first|omega|simp only[nx4]<;>omega|fail) [ndv_eq]
theorem unionIf_nil (xs:List ND) (acc:ND):unionIf [] xs acc=acc:=by cases xs <;> rfl
def IA124 (D:List (ByteArray × Kn)) (k:Kn) (wn:Nat) (l:List Pl) (fin:ND) (b7 b8:Nat) (s:St) (m:Nat) (g:Env) (s1:St):Prop :=
 ∃ (i:Nat) (acc:ND),i≤wn∧m=wn - i∧unionIf (k.st.drop i) ((l.drop i).map (need (lookK D))) acc=fin∧acc.ok∧g.get 0=ana D∧g.get 4=.ptr (s.nx+1) 0∧g.get 7=.ptr b7 0∧g.get 8=.ptr b8 0∧g.get 57=.list 5 .none ((l.take wn).map Pl.av)∧g.get 58=.int .i64 wn∧g.get 59=.int .i64 i ∧
  s1.m (s.nx+1)=some (.box [.bool false,.nilmap])∧s1.m b7=some (.box (.int .i64 k.w::kr k))∧s1.m b8=some (.box [.bool acc.isNone,ndm acc])∧Kept s s1∧b7 < s1.nx∧b8 < s1.nx
theorem tailG (D:List (ByteArray × Kn)) (k:Kn) (l:List Pl) (hll:l.length≤8) (hw0:0≤k.w∧k.w≤8) (hk0:¬ k.w=0) (hst:(k.st.length:Int)=k.w) (ihl:∀ x∈l,PureC Tryz.prog 49 [ana D,x.av] (ndv (need (lookK D) x))) (s:St) (fin:ND)
  (hfin:(if (l.length:Int) < k.w then some [] else if k.fails=true then none else unionIf k.st (l.map (need (lookK D))) (some []))=fin) (g:Env) (S:St) (b7:Nat) (e0:g.get 0=ana D) (e4:g.get 4=.ptr (s.nx+1) 0) (e6:g.get 6=.list 5 .none (l.map Pl.av)) (e7:g.get 7=.ptr b7 0)
  (j4:S.m (s.nx+1)=some (.box [.bool false,.nilmap])) (j7:S.m b7=some (.box (.int .i64 k.w::kr k))) (hk:Kept s S) (hb:s.nx+1 < b7) (hb2:b7 < S.nx) :
  go (aops Tryz.prog a124r4 (regQ (seqQ Tryz.prog (.seq (.seq (.reg false a124r5) (.cond (.g 49) (.seq (.reg false a124r6) .ret) .skip)) (.seq (.seq (.reg false a124r7) (.cond (.g 52) (.seq (.reg false a124r8) .ret) .skip)) (.seq (.seq (.reg false a124r9) (.block 1 (.loop a124l15))) (.seq (.reg false a124r16) .ret))))
   (blockQ 0 (seqQ Tryz.prog (.seq (.reg false a124r28) .ret) (finQ [.cell (true,4) 2 true] fun r' s' => wk r' (ndv fin)∧Kept s s'))))) g [] S):=by
 obtain ⟨wn,hwn⟩:∃ wn:Nat,k.w=wn:=⟨k.w.toNat,by omega⟩
 rw [hwn] at hfin hw0 hk0 hst j7
 simp -implicitDefEqProofs (disch:=first|omega|simp only[nx4]<;>omega|fail) [a124r4]
 refine go_pure p87 fun mm1 hm1 => ?_
 try simp only [nx4] at hm1
 simp -implicitDefEqProofs (disch:=first|omega|simp only[nx4]<;>omega|fail) [ndv_eq,a124r5,e6,e7,j7]
 by_cases hlw:l.length < wn
 ·have hlw':(l.length:Int) < wn:=by omega
  rw [if_pos hlw'] at hfin
  subst hfin
  simp -implicitDefEqProofs (disch:=first|omega|simp only[nx4]<;>omega|fail) [hlw,a124r6,e4,j4,hk]
  intro h;omega
 have hlw':¬ (l.length:Int) < wn:=by omega
 rw [if_neg hlw'] at hfin
 cases hkf:k.fails with
 | true =>
  rw [if_pos hkf] at hfin
  subst hfin
  simp -implicitDefEqProofs (disch:=first|omega|simp only[nx4]<;>omega|fail) [hlw,a124r7,e7,j7,hkf,a124r8]
  intro _
  refine go_pure p164 fun mm2 hm2 => ?_
  try simp only [nx4] at hm2
  simp -implicitDefEqProofs (disch:=first|omega|simp only[nx4]<;>omega|fail) [ndv_eq,e4,j4,hk]
 | false =>
  rw [if_neg (by rw [hkf];simp)] at hfin
  simp -implicitDefEqProofs (disch:=first|omega|simp only[nx4]<;>omega|fail) [hlw,a124r7,e7,j7,hkf,a124r9,e6]
  intro hle
  refine go_loop (IA124 D k wn l fin b7 mm1 s) wn ?h0 ?_
  case h0 =>
   refine ⟨0,some [],by omega,by omega,by simpa using hfin,asc_nil,?_,?_,?_,?_,?_,?_,?_,?_,?_,?_,?_,?_,?_⟩
   all_goals (try simp -implicitDefEqProofs (disch:=first|omega|simp only[nx4]<;>omega|fail) [e0,e4,e7,j4,hwn,j7,hk,hb])
   all_goals (try omega)
  have hb7:b7 < mm1:=by omega
  clear e0 e4 e6 e7 j4 j7 hk hb2
  rintro m g S ⟨i,acc,hi,rfl,hu,hao,e0,e4,e7,e8,e57,e58,e59,j4,j7,j8,hk,hb2,hb3⟩
  by_cases hlt:i < wn
  ·have hlt':(i:Int) < wn:=by omega
   have hil:i < l.length:=by omega
   have his:i < k.st.length:=by omega
   have h8:i < 8:=by omega
   have w3:=wrapS (i:=i) (by omega)
   rw [List.drop_eq_getElem_cons hil,List.drop_eq_getElem_cons his,List.map_cons,unionIf] at hu
   have hxl:=ihl _ (List.getElem_mem hil)
   have hxo:=need_ok (lookK D) l[i]
   have hkd:=kr_drop (k:=k) h8
   have hsg:k.st.getD i false=k.st[i]:=by simp [his]
   rw [hsg] at hkd
   have hkd':(AV.int .i64 k.w::kr k).drop (1+i)=.bool k.st[i]::(kr k).drop (i+1):=by rw [Nat.add_comm,List.drop_succ_cons,hkd]
   generalize hxx:l[i]=x at hu hxl hxo
   generalize need (lookK D) x=nx at hu hxl hxo
   have h165:=p165' acc nx hao hxo
   simp -implicitDefEqProofs (disch:=first|omega|simp only[nx4]<;>omega|fail) [a124l15,a124r10,a124r11,a124r12,e0,e7,e57,e58,e59,hlt',hlt,hil,hxx,j7,hkd']
   cases hb1:k.st[i] with
   | true =>
    rw [if_pos hb1] at hu
    simp -implicitDefEqProofs (disch:=first|omega|simp only[nx4]<;>omega|fail) [a124r13,e0,e8,j8]
    refine pcV_intro hxl ?_
    simp -implicitDefEqProofs (disch:=first|omega|simp only[nx4]<;>omega|fail) [ndv_eq]
    refine pcV_intro h165 ?_
    simp -implicitDefEqProofs (disch:=first|omega|simp only[nx4]<;>omega|fail) [ndv_eq,e8,j8]
    intro m hm
    simp -implicitDefEqProofs (disch:=first|omega|simp only[nx4]<;>omega|fail) [a124r14,e59,w3]
    refine go_next (wn - (i+1)) (by omega) ⟨i+1,nWith acc nx,by omega,rfl,hu,nWith_ok hao hxo,?_,?_,?_,?_,?_,?_,?_,?_,?_,?_,?_,?_,?_⟩
    all_goals (try simp -implicitDefEqProofs (disch:=first|omega|simp only[nx4]<;>omega|fail) [e0,e4,e7,e8,e57,e58,j4,j7,hk])
    all_goals (try omega)
   | false =>
    rw [if_neg (by rw [hb1];simp)] at hu
    simp -implicitDefEqProofs (disch:=first|omega|simp only[nx4]<;>omega|fail) [a124r14,e59,w3]
    refine go_next (wn - (i+1)) (by omega) ⟨i+1,acc,by omega,rfl,hu,hao,?_,?_,?_,?_,?_,?_,?_,?_,?_,?_,?_,?_,?_⟩
    all_goals (try simp -implicitDefEqProofs (disch:=first|omega|simp only[nx4]<;>omega|fail) [e0,e4,e7,e8,e57,e58,j4,j7,j8,hk])
    all_goals (try omega)
  ·have hlt':¬ (i:Int) < wn:=by omega
   obtain rfl:i=wn:=by omega
   rw [List.drop_eq_nil_of_le (by omega),unionIf_nil] at hu
   subst hu
   simp -implicitDefEqProofs (disch:=first|omega|simp only[nx4]<;>omega|fail) [a124l15,a124r10,e58,e59,hlt',a124r16,e4,e8,j4,j8,hk]
def IL124 (D:List (ByteArray × Kn)) (fb:ND) (n:Nat) (l:List Pl) (f:Pl) (fin:ND) (b11 b12:Nat) (s:St) (m:Nat) (g:Env) (s1:St):Prop :=
 ∃ (i:Nat) (acc:ND),i≤n∧m=n - i∧lamArgs fb n i ((l.drop i).map (need (lookK D))) acc=fin∧acc.ok∧g.get 0=ana D∧g.get 4=.ptr (s.nx+1) 0∧g.get 5=.ptr (s.nx+1+1) 0∧g.get 11=.ptr b11 0∧g.get 12=.ptr b12 0∧g.get 99=.list 5 .none ((l.take n).map Pl.av)∧g.get 100=.int .i64 n∧g.get 101=.int .i64 i ∧
  s1.m (s.nx+1)=some (.box [.bool false,.nilmap])∧s1.m (s.nx+1+1)=some (.box f.av.cells)∧s1.m b11=some (.box [.bool fb.isNone,ndm fb])∧s1.m b12=some (.box [.bool acc.isNone,ndm acc])∧Kept s s1∧b12 < s1.nx
theorem lamArgs_end (fb:ND) (n:Int) (xs:List ND) (acc:ND):lamArgs fb n n xs acc=acc:=by
 cases xs with
 | nil => rfl
 | cons x xs => rw [lamArgs,if_neg (by omega)]
theorem tailL (D:List (ByteArray × Kn)) (f:Pl) (l:List Pl) (n:Nat) (hfn:f.n=n) (hn1:1≤n) (hn8:n≤8) (hll:l.length≤8) (hle:n≤l.length) (fx:Pl) (hfx:f.args=[fx]) (fb:ND) (hfo:fb.ok) (hfb:NB fb) (ihf:PureC Tryz.prog 49 [ana D,fx.av] (ndv fb)) (ihl:∀ x∈l,PureC Tryz.prog 49 [ana D,x.av] (ndv (need (lookK D) x))) (s:St) (fin:ND)
  (hfin:lamArgs fb n 0 (l.map (need (lookK D))) (nOut n fb)=fin) (g:Env) (S:St) (e0:g.get 0=ana D) (e4:g.get 4=.ptr (s.nx+1) 0) (e5:g.get 5=.ptr (s.nx+1+1) 0) (e6:g.get 6=.list 5 .none (l.map Pl.av))
  (j4:S.m (s.nx+1)=some (.box [.bool false,.nilmap])) (j5:S.m (s.nx+1+1)=some (.box f.av.cells)) (hk:Kept s S) (hb2:s.nx+1+1 < S.nx) :
  go (aops Tryz.prog a124r18 (regQ (seqQ Tryz.prog (.seq (.reg false a124r19) (.seq (.seq (.reg false a124r20) (.block 3 (.loop a124l26))) (.seq (.reg false a124r27) .ret)))
   (blockQ 0 (seqQ Tryz.prog (.seq (.reg false a124r28) .ret) (finQ [.cell (true,4) 2 true] fun r' s' => wk r' (ndv fin)∧Kept s s'))))) g [] S):=by
 rw [Pl.av_cells,hfn] at j5
 have gl:f.args.length=1:=by rw [hfx];rfl
 have g0:f.args[0]'(by omega)=fx:=by simp [hfx]
 have h166:=p166 fb n (by omega) hfo (fun k hk => by have:=hfb k hk;unfold i64;omega)
 have hoo:=nOut_ok hfo (n:Int)
 generalize nOut (n:Int) fb=ob at hfin h166 hoo
 rw [ndv_eq] at h166
 simp -implicitDefEqProofs (disch:=first|omega|simp only[nx4]<;>omega|fail) [a124r18,e0,e5,j5,gl,g0]
 refine go_pure ihf fun mm3 hm3 => ?_
 try simp only [nx4] at hm3
 simp -implicitDefEqProofs (disch:=first|omega|simp only[nx4]<;>omega|fail) [ndv_eq,a124r19,e5,j5]
 refine go_pure h166 fun mm4 hm4 => ?_
 try simp only [nx4] at hm4
 simp -implicitDefEqProofs (disch:=first|omega|simp only[nx4]<;>omega|fail) [ndv_eq,a124r20,e5,j5,e6]
 refine go_loop (IL124 D fb n l f fin mm3 mm4 s) n ?h0 ?_
 case h0 =>
  refine ⟨0,ob,by omega,by omega,by simpa using hfin,hoo,?_,?_,?_,?_,?_,?_,?_,?_,?_,?_,?_,?_,?_,?_⟩
  all_goals (try simp -implicitDefEqProofs (disch:=first|omega|simp only[nx4]<;>omega|fail) [e0,e4,e5,j4,j5,hfn,hk])
  all_goals (try omega)
 have hm1':s.nx+1+1 < mm3:=by omega
 clear e0 e4 e5 e6 j4 j5 hk hb2
 rintro m g S ⟨i,acc,hi,rfl,hu,hao,e0,e4,e5,e11,e12,e99,e100,e101,j4,j5,j11,j12,hk,hb3⟩
 rw [Pl.av_cells,hfn] at j5
 by_cases hlt:i < n
 ·have hlt':(i:Int) < n:=by omega
  have hil:i < l.length:=by omega
  have w3:=wrapS (i:=i) (by omega)
  have w1:IntKind.i64.wrap ((n:Int) - 1)=(n:Int) - 1:=wrap64 (by omega) (by omega)
  have w2:IntKind.i64.wrap ((n:Int) - 1 - i)=(n:Int) - 1 - i:=wrap64 (by omega) (by omega)
  have hlk:=fun s K => lk_ndm fb ((n:Int) - 1 - i) s K
  rw [List.drop_eq_getElem_cons hil,List.map_cons,lamArgs,if_pos hlt'] at hu
  have hxl:=ihl _ (List.getElem_mem hil)
  have hxo:=need_ok (lookK D) l[i]
  generalize hxx:l[i]=x at hu hxl hxo
  generalize need (lookK D) x=nx at hu hxl hxo
  have h165:=p165' acc nx hao hxo
  have hi1:(i:Int)+1=((i+1:Nat):Int):=by omega
  rw [hi1] at hu
  simp -implicitDefEqProofs (disch:=first|omega|simp only[nx4]<;>omega|fail) [a124l26,a124r21,a124r22,a124r23,e0,e5,e11,e99,e100,e101,hlt',hlt,hil,hxx,j5,j11,w1,w2,hlk]
  refine ⟨fun hb1 => ?_,fun hb1 => ?_⟩
  ·rw [if_pos hb1] at hu
   simp -implicitDefEqProofs (disch:=first|omega|simp only[nx4]<;>omega|fail) [a124r24,e0,e12,j12]
   refine pcV_intro hxl ?_
   simp -implicitDefEqProofs (disch:=first|omega|simp only[nx4]<;>omega|fail) [ndv_eq]
   refine pcV_intro h165 ?_
   simp -implicitDefEqProofs (disch:=first|omega|simp only[nx4]<;>omega|fail) [ndv_eq,e12,j12]
   intro m hm
   simp -implicitDefEqProofs (disch:=first|omega|simp only[nx4]<;>omega|fail) [a124r25,e101,w3]
   refine go_next (n - (i+1)) (by omega) ⟨i+1,nWith acc nx,by omega,rfl,hu,nWith_ok hao hxo,?_,?_,?_,?_,?_,?_,?_,?_,?_,?_,?_,?_,?_,?_⟩
   all_goals (try simp -implicitDefEqProofs (disch:=first|omega|simp only[nx4]<;>omega|fail) [e0,e4,e5,e11,e12,e99,e100,j4,j5,j11,hk,hfn])
   all_goals (try omega)
  ·rw [if_neg hb1] at hu
   simp -implicitDefEqProofs (disch:=first|omega|simp only[nx4]<;>omega|fail) [a124r25,e101,w3]
   refine go_next (n - (i+1)) (by omega) ⟨i+1,acc,by omega,rfl,hu,hao,?_,?_,?_,?_,?_,?_,?_,?_,?_,?_,?_,?_,?_,?_⟩
   all_goals (try simp -implicitDefEqProofs (disch:=first|omega|simp only[nx4]<;>omega|fail) [e0,e4,e5,e11,e12,e99,e100,j4,j5,j11,j12,hk,hfn])
   all_goals (try omega)
 ·have hlt':¬ (i:Int) < n:=by omega
  obtain rfl:i=n:=by omega
  rw [lamArgs_end] at hu
  subst hu
  simp -implicitDefEqProofs (disch:=first|omega|simp only[nx4]<;>omega|fail) [a124l26,a124r21,e100,e101,hlt',a124r27,e4,e12,j4,j12,hk]
set_option maxHeartbeats 4000000 in
theorem p124 (D:List (ByteArray × Kn)) (hD:GoodD D) (t:Pl) (hw:wf t=true) (hs:small t) (hr:rng t) (o6:t.op=6) (ih:∀ x,wf x=true→small x→rng x→sz x < sz t→C49 D x):PureC Tryz.prog 124 [ana D,t.av] (ndv (need (lookK D) t)):=by
 refine PureC.intro fun s => fun_sound mixed Tryz.func124 Tryz.call124 c124 rfl (awpFun_go _ _ _ _ ?_)
 obtain ⟨hnd,hwa,hwb⟩:=wf_nd hw
 have hr':=(rng_eq t).1 hr
 have hla:=hnd.app o6
 obtain ⟨f,l,hfl⟩:∃ f l,t.args=f::l:=by
  cases h:t.args with
  | nil => rw [h] at hla;simp at hla
  | cons f l => exact ⟨f,l,rfl⟩
 have hll:l.length≤8:=by rw [hfl] at hla;simp at hla;omega
 have hfm:f∈t.args:=by rw [hfl];simp
 have hlm:∀ x∈l,x∈t.args:=fun x hx => by rw [hfl];simp [hx]
 have hwf:=hwa f hfm
 have hsf:=small_arg hs hfm
 have hrf:=hr'.2.2.1 f hfm
 have ihf:=ih f hwf hsf hrf (arg_lt hfm).1 hwf hsf hrf
 have ihl:∀ x∈l,PureC Tryz.prog 49 [ana D,x.av] (ndv (need (lookK D) x)):=fun x hx =>
  ih x (hwa x (hlm x hx)) (small_arg hs (hlm x hx)) (hr'.2.2.1 x (hlm x hx)) (arg_lt (hlm x hx)).1 (hwa x (hlm x hx)) (small_arg hs (hlm x hx)) (hr'.2.2.1 x (hlm x hx))
 rw [need_app o6 hfl]
 have gl:t.args.length=l.length+1:=by rw [hfl];rfl
 have g0:t.args[0]'(by omega)=f:=by simp [hfl]
 have gd:(t.args.map Pl.av).drop 1=l.map Pl.av:=by rw [hfl];rfl
 have gt:(t.args.map Pl.av).tail=l.map Pl.av:=by rw [hfl];rfl
 have hko:=fun s K => lk_kes D f.s s K
 have hw0:=hD.w f.s
 have hst:=hD.st f.s
 have hfb:=(need_bnd (lookK D) f hwf hrf).2
 have hfo:=(need_ok2 (lookK D) f).2
 have hfB:∀ fx,f.args=[fx]→PureC Tryz.prog 49 [ana D,fx.av] (ndv (needB (lookK D) f)):=by
  intro fx hfx
  have hxm:fx∈f.args:=by rw [hfx];simp
  have hw':=(wf_nd hwf).2.1 fx hxm
  have hr2:=((rng_eq f).1 hrf).2.2.1 fx hxm
  rw [needB_eq,hfx]
  exact ih fx hw' (small_arg hsf hxm) hr2 (by have:=(arg_lt hxm).1;have:=(arg_lt hfm).1;omega) hw' (small_arg hsf hxm) hr2
 generalize needB (lookK D) f=fb at hfb hfo hfB ⊢
 generalize lookK D f.s=k at hko hw0 hst ⊢
 have hkz:kz=[.int .i64 0,.bool false,.bool false,.bool false,.bool false,.bool false,.bool false,.bool false,.bool false,.bool false]:=rfl
 have hka:kAV k=.agg (.int .i64 k.w::kr k):=rfl
 rw [hkz] at hko
 have hrest:∀ (g:Env) (S:St),g.get 0=ana D→g.get 4=.ptr (s.nx+1) 0→g.get 5=.ptr (s.nx+1+1) 0→S.m (s.nx+1)=some (.box [.bool false,.nilmap])→S.m (s.nx+1+1)=some (.box f.av.cells)→Kept s S →
   go (aops Tryz.prog a124r28 (regQ (seqQ Tryz.prog .ret (finQ [.cell (true,4) 2 true] fun r' s' => wk r' (ndv (need (lookK D) f))∧Kept s s'))) g [] S):=by
  intro g S e0 e4 e5 j4 j5 hk
  rw [Pl.av_cells] at j5
  simp -implicitDefEqProofs (disch:=first|omega|simp only[nx4]<;>omega|fail) [a124r28,e0,e5,j5]
  refine go_pure ihf fun mm5 hm5 => ?_
  try simp only [nx4] at hm5
  simp -implicitDefEqProofs (disch:=first|omega|simp only[nx4]<;>omega|fail) [ndv_eq,e4,j4,hk]
 simp -implicitDefEqProofs (disch:=first|omega|simp only[nx4]<;>omega|fail) [a124,a124b,a124r0,a124r1,g0,gl,gd,gt]
 intro m0 hm0
 by_cases o2:f.op=2
 ·have n5:¬ f.op=5:=by omega
  have hfe:(if f.op=5∧f.n≤(l.length:Int) then lamArgs fb f.n 0 (l.map (need (lookK D))) (nOut f.n fb) else if f.op=2 then if k.w=0 then need (lookK D) f else if (l.length:Int) < k.w then some [] else if k.fails=true then none else unionIf k.st (l.map (need (lookK D))) (some []) else need (lookK D) f) =
    (if k.w=0 then need (lookK D) f else if (l.length:Int) < k.w then some [] else if k.fails=true then none else unionIf k.st (l.map (need (lookK D))) (some [])):=by
   rw [if_neg (by omega),if_pos o2]
  rw [hfe]
  by_cases hk0:k.w=0
  ·have hng:¬ 0 < k.w:=by omega
   rw [if_pos hk0]
   simp -implicitDefEqProofs (disch:=first|omega|simp only[nx4]<;>omega|fail) [a124r2,o2,ana,hko,hka,hng]
   intro m1 hm1
   simp -implicitDefEqProofs (disch:=first|omega|simp only[nx4]<;>omega|fail) [a124r17,o2]
   refine hrest _ _ ?_ ?_ ?_ ?_ ?_ ?_
   all_goals (try simp -implicitDefEqProofs (disch:=first|omega|simp only[nx4]<;>omega|fail) [o2])
   rfl
  ·have hpg:0 < k.w:=by omega
   rw [if_neg hk0]
   generalize hfin:(if (l.length:Int) < k.w then some [] else if k.fails=true then none else unionIf k.st (l.map (need (lookK D))) (some []))=fin
   simp -implicitDefEqProofs (disch:=first|omega|simp only[nx4]<;>omega|fail) [a124r2,o2,ana,hko,hka,hpg]
   intro m1 hm1
   simp -implicitDefEqProofs (disch:=first|omega|simp only[nx4]<;>omega|fail) [a124r3,o2,ana,hko,hka]
   intro m2 hm2
   refine tailG D k l hll hw0 hk0 hst ihl s fin hfin _ _ m1 ?_ ?_ ?_ ?_ ?_ ?_ ?_ ?_ ?_
   all_goals (try simp -implicitDefEqProofs (disch:=first|omega|simp only[nx4]<;>omega|fail))
   ·rfl
   ·omega
   ·omega
 ·by_cases o5:f.op=5
  ·by_cases hle:f.n≤l.length
   ·simp -implicitDefEqProofs (disch:=first|omega|simp only[nx4]<;>omega|fail) [a124r2,o5,a124r17,hle]
    intro m1 hm1
    have hlam:=(wf_nd hwf).1.lam o5
    obtain ⟨n,hn⟩:∃ n:Nat,f.n=n:=⟨f.n.toNat,by omega⟩
    obtain ⟨fx,hfx⟩:=List.length_eq_one_iff.1 hlam.2.2
    have hfin:lamArgs fb f.n 0 (l.map (need (lookK D))) (nOut f.n fb)=lamArgs fb n 0 (l.map (need (lookK D))) (nOut n fb):=by rw [hn]
    rw [hfin]
    refine tailL D f l n hn (by omega) (by omega) hll (by omega) fx hfx fb hfo hfb (hfB fx hfx) ihl s _ rfl _ _ ?_ ?_ ?_ ?_ ?_ ?_ ?_ ?_
    all_goals (try simp -implicitDefEqProofs (disch:=first|omega|simp only[nx4]<;>omega|fail) [o5])
    all_goals (try omega)
   ·simp -implicitDefEqProofs (disch:=first|omega|simp only[nx4]<;>omega|fail) [a124r2,o5,a124r17,hle]
    intro m1 hm1
    refine hrest _ _ ?_ ?_ ?_ ?_ ?_ ?_
    all_goals (try simp -implicitDefEqProofs (disch:=first|omega|simp only[nx4]<;>omega|fail) [o5])
  ·simp -implicitDefEqProofs (disch:=first|omega|simp only[nx4]<;>omega|fail) [a124r2,o2,o5,a124r17]
   intro m1 hm1
   refine hrest _ _ ?_ ?_ ?_ ?_ ?_ ?_
   all_goals (try simp -implicitDefEqProofs (disch:=first|omega|simp only[nx4]<;>omega|fail))
def nmap (D:List (ByteArray × Kn)):List (AV × AV):=[(.int .i64 1,.fn 122 [] []),(.int .i64 2,.fn 123 [ana D] []),(.int .i64 3,.fn 121 [] []),(.int .i64 4,.fn 121 [] []),(.int .i64 5,.fn 121 [] []),
  (.int .i64 6,.fn 124 [ana D] []),(.int .i64 7,.fn 125 [] [.cptr [ana D]]),(.int .i64 8,.fn 127 [ana D] []),(.int .i64 9,.fn 128 [ana D] [])]
theorem p88' (D:List (ByteArray × Kn)):PureC Tryz.prog 88 [ana D] (.kmap (nmap D)):=p88 D
set_option maxHeartbeats 4000000 in
theorem step49 (D:List (ByteArray × Kn)) (hD:GoodD D) (t:Pl) (hw:wf t=true) (hs:small t) (hr:rng t) (ih:∀ x,wf x=true→small x→rng x→sz x < sz t→C49 D x):PureC Tryz.prog 49 [ana D,t.av] (ndv (need (lookK D) t)):=by
 obtain ⟨hnd,hwa,hwb⟩:=wf_nd hw
 have hr':=(rng_eq t).1 hr
 have iha:∀ x∈t.args,C49 D x:=fun x hx => ih x (hwa x hx) (small_arg hs hx) (hr'.2.2.1 x hx) (arg_lt hx).1
 have ihb:∀ a∈t.alts,C49 D a.2:=fun a ha => ih a.2 (hwb a ha) (small_alt hs ha) (hr'.2.2.2 a ha).2.2 (by have:=(alt_lt ha).1;omega)
 have ho:=hnd.op
 by_cases om:t.op=3∨t.op=4∨t.op=5
 ·rw [need_made om]
  refine PureC.intro fun s => fun_sound mixed Tryz.func49 Tryz.call49 k49.2 rfl (awpFun_go _ _ _ _ ?_)
  rcases om with o | o | o
  ·simp -implicitDefEqProofs (disch:=first|omega|simp only[nx4]<;>omega|fail) [k49,o]
   refine go_pure p87 fun mm1 hm1 => ?_
   try simp only [nx4] at hm1
   simp -implicitDefEqProofs (disch:=first|omega|simp only[nx4]<;>omega|fail) [ndv_eq]
  ·simp -implicitDefEqProofs (disch:=first|omega|simp only[nx4]<;>omega|fail) [k49,o]
   refine go_pure p87 fun mm2 hm2 => ?_
   try simp only [nx4] at hm2
   simp -implicitDefEqProofs (disch:=first|omega|simp only[nx4]<;>omega|fail) [ndv_eq]
  ·simp -implicitDefEqProofs (disch:=first|omega|simp only[nx4]<;>omega|fail) [k49,o]
   refine go_pure p87 fun mm3 hm3 => ?_
   try simp only [nx4] at hm3
   simp -implicitDefEqProofs (disch:=first|omega|simp only[nx4]<;>omega|fail) [ndv_eq]
 have h88:=p88' D
 have n3:¬ t.op=3:=by omega
 have n4:¬ t.op=4:=by omega
 have n5:¬ t.op=5:=by omega
 refine PureC.intro fun s => fun_sound mixed Tryz.func49 Tryz.call49 k49.2 rfl (awpFun_go _ _ _ _ ?_)
 simp -implicitDefEqProofs (disch:=first|omega|simp only[nx4]<;>omega|fail) [k49,n3,n4,n5]
 by_cases o1:t.op=1
 ·rw [need_var o1]
  have hkf:kfind (.int .i64 t.op) (nmap D)=some (some (.fn 122 [] [])):=by rw [o1];rfl
  refine pcV_intro h88 ?_
  simp -implicitDefEqProofs (disch:=first|omega|simp only[nx4]<;>omega|fail) [hkf,lookAV]
  refine pcV_intro (p122 t) ?_
  simp -implicitDefEqProofs (disch:=first|omega|simp only[nx4]<;>omega|fail) [ndv_eq]
 by_cases o2:t.op=2
 ·rw [need_glob o2]
  have hkf:kfind (.int .i64 t.op) (nmap D)=some (some (.fn 123 [ana D] [])):=by rw [o2];rfl
  refine pcV_intro h88 ?_
  simp -implicitDefEqProofs (disch:=first|omega|simp only[nx4]<;>omega|fail) [hkf,lookAV]
  refine pcV_intro (p123 D t) ?_
  simp -implicitDefEqProofs (disch:=first|omega|simp only[nx4]<;>omega|fail) [ndv_eq]
 by_cases o6:t.op=6
 ·have hkf:kfind (.int .i64 t.op) (nmap D)=some (some (.fn 124 [ana D] [])):=by rw [o6];rfl
  refine pcV_intro h88 ?_
  simp -implicitDefEqProofs (disch:=first|omega|simp only[nx4]<;>omega|fail) [hkf,lookAV]
  refine pcV_intro (p124 D hD t hw hs hr o6 ih) ?_
  simp -implicitDefEqProofs (disch:=first|omega|simp only[nx4]<;>omega|fail) [ndv_eq]
 by_cases o7:t.op=7
 ·have hkf:kfind (.int .i64 t.op) (nmap D)=some (some (.fn 125 [] [.cptr [ana D]])):=by rw [o7];rfl
  refine pcV_intro h88 ?_
  simp -implicitDefEqProofs (disch:=first|omega|simp only[nx4]<;>omega|fail) [hkf,lookAV]
  refine pcV_intro (p125 D t hw hs hr o7 iha) ?_
  simp -implicitDefEqProofs (disch:=first|omega|simp only[nx4]<;>omega|fail) [ndv_eq]
 by_cases o8:t.op=8
 ·have hkf:kfind (.int .i64 t.op) (nmap D)=some (some (.fn 127 [ana D] [])):=by rw [o8];rfl
  refine pcV_intro h88 ?_
  simp -implicitDefEqProofs (disch:=first|omega|simp only[nx4]<;>omega|fail) [hkf,lookAV]
  refine pcV_intro (p127 D t hw hs hr o8 iha ihb) ?_
  simp -implicitDefEqProofs (disch:=first|omega|simp only[nx4]<;>omega|fail) [ndv_eq]
 ·have o9:t.op=9:=by omega
  have hkf:kfind (.int .i64 t.op) (nmap D)=some (some (.fn 128 [ana D] [])):=by rw [o9];rfl
  refine pcV_intro h88 ?_
  simp -implicitDefEqProofs (disch:=first|omega|simp only[nx4]<;>omega|fail) [hkf,lookAV]
  refine pcV_intro (p128 D t hw hs hr o9 iha) ?_
  simp -implicitDefEqProofs (disch:=first|omega|simp only[nx4]<;>omega|fail) [ndv_eq]
theorem p49 (D:List (ByteArray × Kn)) (hD:GoodD D) (t:Pl) (hw:wf t=true) (hs:small t) (hr:rng t):PureC Tryz.prog 49 [ana D,t.av] (ndv (need (lookK D) t)):=by
 obtain ⟨n,hn⟩:∃ n:Nat,sz t≤n:=⟨(sz t).toNat,by omega⟩
 induction n generalizing t with
 | zero => have:=sz_pos t;omega
 | succ n ih => exact step49 D hD t hw hs hr fun x h1 h2 h3 h4 h5 h6 h7 => ih x h1 h2 h3 (by omega)
end Go.AL.Dm
namespace Go.AL.Dm
def ND.le:ND→ND→Prop
 | _,none => True
 | none,some _ => False
 | some a,some b => ∀ k∈a,k∈b
theorem ND.le_refl (x:ND):x.le x:=by cases x <;> simp [ND.le]
theorem ND.le_top (x:ND):x.le none:=by cases x <;> trivial
theorem ND.le_trans {x y z:ND} (h:x.le y) (k:y.le z):x.le z:=by
 cases x <;> cases y <;> cases z <;> simp only [ND.le] at * <;> try trivial
 exact fun i hi => k _ (h _ hi)
theorem nWith_le {x x' y y':ND} (h:x.le x') (k:y.le y'):(nWith x y).le (nWith x' y'):=by
 cases x <;> cases x' <;> cases y <;> cases y' <;> simp only [ND.le,nWith] at * <;> try trivial
 intro i hi
 rw [mem_lun] at hi ⊢
 exact hi.imp (h i) (k i)
theorem le_nWith {x y:ND}:x.le (nWith x y):=by
 cases x <;> cases y <;> simp only [ND.le,nWith]
 intro i hi
 rw [mem_lun]
 exact .inl hi
theorem nBoth_le {x x' y y':ND} (h:x.le x') (k:y.le y'):(nBoth x y).le (nBoth x' y'):=by
 cases x <;> cases x' <;> cases y <;> cases y' <;> simp only [ND.le,nBoth,nMeet] at * <;> try trivial
 all_goals (intro i hi;simp only [List.mem_filter,decide_eq_true_eq] at *)
 ·exact k i hi.2
 ·exact h i hi.1
 ·exact ⟨h i hi.1,k i hi.2⟩
theorem nOut_le {x x':ND} (h:x.le x') (n:Int):(nOut n x).le (nOut n x'):=by
 cases x <;> cases x' <;> simp only [ND.le,nOut] at * <;> try trivial
 intro i hi
 rw [mem_nOut] at hi ⊢
 exact ⟨h _ hi.1,hi.2⟩
def LLe:List ND→List ND→Prop
 | [],[] => True
 | x::l,y::m => x.le y∧LLe l m
 | _,_ => False
def BLe:List Bool→List Bool→Prop
 | [],[] => True
 | x::l,y::m => (x=true→y=true)∧BLe l m
 | _,_ => False
theorem LLe.len:∀ {l m:List ND},LLe l m→l.length=m.length
 | [],[],_ => rfl
 | _::_,_::_,h => by simp [LLe.len h.2]
 | [],_::_,h => h.elim
 | _::_,[],h => h.elim
theorem LLe.get:∀ {l m:List ND},LLe l m→∀ i:Nat,((l[i]?).getD (some [])).le ((m[i]?).getD (some []))
 | [],[],_,i => by simp [ND.le]
 | _::_,_::_,h,0 => by simpa using h.1
 | _::_,_::_,h,i+1 => by simpa using LLe.get h.2 i
 | [],_::_,h,_ => h.elim
 | _::_,[],h,_ => h.elim
theorem LLe.map {α:Type} {f g:α→ND}:∀ (l:List α),(∀ x∈l,(f x).le (g x))→LLe (l.map f) (l.map g)
 | [],_ => trivial
 | x::l,h => ⟨h x (by simp),LLe.map l fun y hy => h y (by simp [hy])⟩
theorem BLe.refl:∀ l:List Bool,BLe l l
 | [] => trivial
 | _::l => ⟨id,BLe.refl l⟩
theorem BLe.len:∀ {l m:List Bool},BLe l m→l.length=m.length
 | [],[],_ => rfl
 | _::_,_::_,h => by simp [BLe.len h.2]
 | [],_::_,h => h.elim
 | _::_,[],h => h.elim
theorem BLe.map {α:Type} {f g:α→Bool}:∀ (l:List α),(∀ x∈l,f x=true→g x=true)→BLe (l.map f) (l.map g)
 | [],_ => trivial
 | x::l,h => ⟨h x (by simp),BLe.map l fun y hy => h y (by simp [hy])⟩
theorem unionIf_le:∀ {bs bs':List Bool} {xs xs':List ND} {acc acc':ND},BLe bs bs'→LLe xs xs'→acc.le acc'→(unionIf bs xs acc).le (unionIf bs' xs' acc')
 | [],[],[],[],_,_,_,_,h => h
 | [],[],_::_,_::_,_,_,_,_,h => h
 | _::_,_::_,[],[],_,_,_,_,h => h
 | b::bs,b'::bs',x::xs,x'::xs',acc,acc',hb,hx,h => by
  rw [unionIf,unionIf]
  refine unionIf_le hb.2 hx.2 ?_
  by_cases e:b=true
  ·rw [if_pos e,if_pos (hb.1 e)]
   exact nWith_le h hx.1
  ·rw [if_neg e]
   split
   ·exact ND.le_trans h le_nWith
   ·exact h
 | [],_::_,_,_,_,_,h,_,_ => h.elim
 | _::_,[],_,_,_,_,h,_,_ => h.elim
 | _,_,[],_::_,_,_,_,h,_ => h.elim
 | _,_,_::_,[],_,_,_,h,_ => h.elim
theorem lamArgs_top (fb:ND) (n:Int):∀ (xs:List ND) (i:Int),lamArgs fb n i xs none=none
 | [],i => rfl
 | x::xs,i => by
  have e:(if fb.has (n - 1 - i) then nWith none x else none)=none:=by split <;> rfl
  rw [lamArgs,e,lamArgs_top fb n xs]
  split <;> rfl
theorem lamArgs_le {fb fb':ND} (hf:fb.le fb') (n:Int):∀ {xs xs':List ND} (i:Int) {acc acc':ND},LLe xs xs'→acc.le acc'→(fb'=none→acc'=none)→(lamArgs fb n i xs acc).le (lamArgs fb' n i xs' acc')
 | [],[],i,_,_,_,h,_ => h
 | x::xs,x'::xs',i,acc,acc',hx,h,ht => by
  cases fb' with
  | none =>
   rw [ht rfl,lamArgs_top]
   exact ND.le_top _
  | some b =>
   rw [lamArgs,lamArgs]
   by_cases hi:i < n
   ·rw [if_pos hi,if_pos hi]
    refine lamArgs_le hf n (i+1) hx.2 ?_ (fun e => by cases e)
    cases fb with
    | none => exact hf.elim
    | some a =>
     by_cases e:ND.has (some a) (n - 1 - i)
     ·have e':ND.has (some b) (n - 1 - i):=hf _ e
      rw [if_pos e,if_pos e']
      exact nWith_le h hx.1
     ·rw [if_neg e]
      split
      ·exact ND.le_trans h le_nWith
      ·exact h
   ·rw [if_neg hi,if_neg hi]
    exact h
 | [],_::_,_,_,_,h,_,_ => h.elim
 | _::_,[],_,_,_,h,_,_ => h.elim
theorem foldBoth_le:∀ {l m:List ND} {acc acc':ND},LLe l m→acc.le acc'→(l.foldl nBoth acc).le (m.foldl nBoth acc')
 | [],[],_,_,_,h => h
 | x::l,y::m,acc,acc',hl,h => by
  rw [List.foldl_cons,List.foldl_cons]
  exact foldBoth_le hl.2 (nBoth_le h hl.1)
 | [],_::_,_,_,h,_ => h.elim
 | _::_,[],_,_,h,_ => h.elim
theorem valOf_le {vs vs':List ND} (h:LLe vs vs') (u:Int):(valOf vs u).le (valOf vs' u):=by
 unfold valOf
 rw [← h.len]
 split
 ·exact h.get _
 ·exact ND.le_refl _
theorem reach_le {n:Int} {v v':Int→ND} {b b':ND} (hv:∀ u,(v u).le (v' u)) (hb:b.le b') (hn:¬ AllR n v' b') {k:Int} (h:Reach n v b k):Reach n v' b' k:=by
 induction h with
 | body e hm =>
  subst e
  cases b' with
  | none => exact absurd (.inl rfl) hn
  | some l' => exact .body rfl (hb _ hm)
 | @val u l k hu h0 h1 e hm ih =>
  have:=hv u
  rw [e] at this
  cases e':v' u with
  | none => exact absurd (.inr ⟨u,ih,h0,h1,e'⟩) hn
  | some l' =>
   rw [e'] at this
   exact .val ih h0 h1 e' (this _ hm)
theorem letC_le {vs vs':List ND} {b b':ND} (hv:LLe vs vs') (hb:b.le b'):(letC vs b).le (letC vs' b'):=by
 by_cases h':AllR vs'.length (valOf vs') b'
 ·rw [letC_none.2 h']
  exact ND.le_top _
 ·have hlen:=hv.len
  have h:¬ AllR vs.length (valOf vs) b:=by
   rintro (e | ⟨u,hu,h0,h1,e⟩)
   ·subst e
    cases b' with
    | none => exact h' (.inl rfl)
    | some _ => exact hb.elim
   ·rw [hlen] at hu h1
    refine h' (.inr ⟨u,reach_le (valOf_le hv) hb h' hu,h0,h1,?_⟩)
    have:=valOf_le hv u
    rw [e] at this
    cases e':valOf vs' u with
    | none => rfl
    | some _ => rw [e'] at this;exact this.elim
  obtain ⟨l,e,_,hm⟩:=letC_some h
  obtain ⟨l',e',_,hm'⟩:=letC_some h'
  rw [e,e']
  intro k hk
  rw [hm] at hk
  rw [hm']
  refine ⟨reach_le (valOf_le hv) hb h' (by rw [← hlen];exact hk.1),hk.2⟩
def KnLe (a b:Kn):Prop:=a.w=b.w∧BLe a.st b.st∧(a.fails=true→b.fails=true)
theorem KnLe.refl (a:Kn):KnLe a a:=⟨rfl,BLe.refl _,id⟩
def KLe (K K':ByteArray→Kn):Prop:=∀ s,KnLe (K s) (K' s)
section
variable {K K':ByteArray→Kn}
theorem comb_le (hK:KLe K K') (op n:Int) (s:ByteArray) (args:List Pl) (alts:List (Hd × Pl)) (h1:∀ x∈args,(need K x).le (need K' x)∧(needB K x).le (needB K' x)) (h2:∀ a∈alts,(need K a.2).le (need K' a.2)) :
  (comb K op n s (args.map fun x => (x,need K x,needB K x)) (alts.map fun a => (a.1,need K a.2))).le (comb K' op n s (args.map fun x => (x,need K' x,needB K' x)) (alts.map fun a => (a.1,need K' a.2))):=by
 have hl:∀ l:List Pl,(∀ x∈l,x∈args)→LLe ((l.map fun x => (x,need K x,needB K x)).map (·.2.1)) ((l.map fun x => (x,need K' x,needB K' x)).map (·.2.1)):=by
  intro l hm
  simp only [map_need]
  exact LLe.map l fun x hx => (h1 x (hm x hx)).1
 have hk:=hK s
 rw [comb.eq_def,comb.eq_def]
 split
 ·exact ND.le_refl _
 split
 ·rw [hk.1]
  by_cases hw:(K' s).w=0
  ·simp only [hw,true_and]
   by_cases e:(K s).fails=true
   ·rw [if_pos e,if_pos (hk.2.2 e)];trivial
   ·rw [if_neg e]
    split
    ·exact ND.le_top _
    ·exact ND.le_refl _
  ·rw [if_neg (fun h => hw h.1),if_neg (fun h => hw h.1)]
   exact ND.le_refl _
 split
 ·cases args with
  | nil => exact ND.le_refl _
  | cons f l =>
   have hf:=h1 f (by simp)
   have hll:=hl l (fun x hx => by simp [hx])
   have hkf:=hK f.s
   simp only [List.map_cons,List.length_map]
   split
   ·exact lamArgs_le hf.2 _ _ hll (nOut_le hf.2 _) (fun e => by rw [e];rfl)
   split
   ·exact hf.1
   rw [← hkf.1]
   split
   ·exact hf.1
   split
   ·exact ND.le_refl _
   by_cases e:(K f.s).fails=true
   ·rw [if_pos e,if_pos (hkf.2.2 e)];trivial
   ·rw [if_neg e]
    split
    ·exact ND.le_top _
    ·exact unionIf_le hkf.2.1 hll (ND.le_refl _)
 split
 ·have e:∀ K:ByteArray→Kn,(((args.map fun x => (x,need K x,needB K x)).dropLast).map (·.2.1))=((args.dropLast).map fun x => (x,need K x,needB K x)).map (·.2.1):=by
   intro K;rw [← List.map_dropLast]
  rw [e,e]
  refine letC_le (hl _ fun x hx => List.dropLast_subset _ hx) ?_
  rw [List.getLast?_map,List.getLast?_map]
  cases hg:args.getLast? with
  | none => exact ND.le_refl _
  | some x => exact (h1 x (List.mem_of_getLast? hg)).1
 split
 ·refine nWith_le ?_ (foldBoth_le ?_ (ND.le_refl _))
  ·rw [List.head?_map,List.head?_map]
   cases hg:args.head? with
   | none => exact ND.le_refl _
   | some x => exact (h1 x (List.mem_of_head? hg)).1
  ·rw [List.map_map,List.map_map]
   exact LLe.map alts fun a ha => nOut_le (h2 a ha) _
 split
 ·split
  ·trivial
  split
  ·refine nWith_le ?_ ?_
   ·rw [List.head?_map,List.head?_map]
    cases hg:args.head? with
    | none => exact ND.le_refl _
    | some x => exact (h1 x (List.mem_of_head? hg)).1
   ·rw [List.getElem?_map,List.getElem?_map]
    cases hg:args[1]? with
    | none => exact ND.le_refl _
    | some x => exact (h1 x (List.mem_of_getElem? hg)).1
  ·exact ND.le_refl _
 ·exact ND.le_refl _
theorem need_le2 (hK:KLe K K') (t:Pl):(need K t).le (need K' t)∧(needB K t).le (needB K' t):=by
 induction t using Pl.ind with
 | h t ih1 ih2 =>
  refine ⟨?_,?_⟩
  ·rw [need_eq,need_eq]
   exact comb_le hK _ _ _ _ _ ih1 fun a ha => (ih2 a ha).1
  ·rw [needB_eq,needB_eq]
   cases h:t.args with
   | nil => exact ND.le_refl _
   | cons x l => exact (ih1 x (by rw [h];simp)).1
theorem need_le (hK:KLe K K') (t:Pl):(need K t).le (need K' t):=(need_le2 hK t).1
end
def wnt (b:Pl):Int:=if b.op=5 then b.n else 0
def cde (b:Pl):Pl:=if b.op=5 then b.args.headD b else b
noncomputable def knOf (K:ByteArray→Kn) (b:Pl):Kn :=
 ⟨wnt b,(List.range (wnt b).toNat).map fun i:Nat => (need K (cde b)).isNone || decide ((need K (cde b)).has (wnt b - 1 - (i:Int))),(need K (cde b)).isNone⟩
theorem knOf_le {K K':ByteArray→Kn} (hK:KLe K K') (b:Pl):KnLe (knOf K b) (knOf K' b):=by
 have h:=need_le hK (cde b)
 refine ⟨rfl,BLe.map _ fun i _ => ?_,?_⟩
 ·generalize need K (cde b)=x at h
  generalize need K' (cde b)=y at h
  cases x <;> cases y <;> simp [ND.le,ND.has] at *
  exact fun hm => decide_eq_true (h _ (of_decide_eq_true hm))
 ·simp only [knOf]
  generalize need K (cde b)=x at h
  generalize need K' (cde b)=y at h
  cases x <;> cases y <;> simp [ND.le] at *
abbrev Tb:=Gl→Kn
def tbD (p:List Gl) (f:Tb):List (ByteArray × Kn):=p.map fun g => (g.name,f g)
def top (b:Pl):Kn:=⟨wnt b,List.replicate (wnt b).toNat true,true⟩
def tb0:Tb:=fun g => top g.body
noncomputable def stp (p:List Gl) (f:Tb):Tb:=fun g => knOf (lookK (tbD p f)) g.body
end Go.AL.Dm
namespace Go.AL.Dm
open Go Go.Proofs
theorem p76 (t:Tok) (l:List Bool) (hl:l.length≤8):PureC Tryz.prog 76 [.list 1 t (l.map .bool)] (.list 1 .none (l.map .bool)):=by
 refine PureC.intro fun s => fun_sound mixed Tryz.func76 Tryz.call76 k76.2 rfl (awpFun_go _ _ _ _ ?_)
 simp -implicitDefEqProofs (disch:=first|omega|simp only[nx4]<;>omega|fail) [k76]
 rintro rfl
 simp [wkL]
def cR (v:Nat→Bool) (fl:Bool) (i:Nat):List AV:=[.bool (if 0 < i then v 0 else false),.bool (if 1 < i then v 1 else false),.bool (if 2 < i then v 2 else false),.bool (if 3 < i then v 3 else false),.bool (if 4 < i then v 4 else false),
 .bool (if 5 < i then v 5 else false),.bool (if 6 < i then v 6 else false),.bool (if 7 < i then v 7 else false),.bool fl]
@[simp] theorem cR_len (v:Nat→Bool) (fl:Bool) (i:Nat):(cR v fl i).length=9:=rfl
theorem cR_step {v:Nat→Bool} {fl:Bool} {i:Nat} (h:i < 8):(cR v fl i).take i++.bool (v i)::(cR v fl i).drop (i+1)=cR v fl (i+1):=by
 match i,h with
 | 0,_ | 1,_ | 2,_ | 3,_ | 4,_ | 5,_ | 6,_ | 7,_ => rfl
theorem cR_kr {v:Nat→Bool} {fl:Bool} {n:Nat} {w:Int}:cR v fl n=kr ⟨w,(List.range n).map v,fl⟩:=by
 have e:∀ i:Nat,((List.range n).map v).getD i false=if i < n then v i else false:=by
  intro i
  rw [List.getD_eq_getElem?_getD,List.getElem?_map]
  by_cases h:i < n
  ·simp [h]
  ·simp [h,Nat.not_lt.1 h]
 simp only [kr,cR,e]
def b10:List AV:=[.bool false,.bool false,.bool false,.bool false,.bool false,.bool false,.bool false,.bool false,.bool false]
def I114 (D:List (ByteArray × Kn)) (x:ND) (v:Nat→Bool) (wn:Nat) (b7:Nat) (s:St) (m:Nat) (g:Env) (s1:St):Prop :=
 ∃ i:Nat,i≤wn∧m=wn - i∧g.get 0=ana D∧g.get 4=.ptr (s.nx+1) 0∧g.get 5=.ptr (s.nx+1+1) 0∧g.get 7=.ptr b7 0∧g.get 27=.int .i64 wn∧g.get 28=.int .i64 i ∧
  s1.m (s.nx+1)=some (.box (.int .i64 0::b10))∧s1.m (s.nx+1+1)=some (.box (.int .i64 wn::cR v x.isNone i))∧s1.m b7=some (.box [.bool x.isNone,ndm x])∧Kept s s1∧b7 < s1.nx
theorem cR_0 (v:Nat→Bool) (fl:Bool):cR v fl 0=[.bool false,.bool false,.bool false,.bool false,.bool false,.bool false,.bool false,.bool false,.bool fl]:=rfl
set_option maxHeartbeats 4000000 in
theorem t114 (D:List (ByteArray × Kn)) (c:Pl) (x:ND) (h49:PureC Tryz.prog 49 [ana D,c.av] (ndv x)) (wn:Nat) (hw8:wn≤8) (v:Nat→Bool) (hv:∀ i,v i=(x.isNone || decide (x.has ((wn:Int) - 1 - (i:Int))))) (r:AV) (hr:r=.agg (.int .i64 wn::cR v x.isNone wn)) (s:St)
  (g:Env) (S:St) (e0:g.get 0=ana D) (e4:g.get 4=.ptr (s.nx+1) 0) (e5:g.get 5=.ptr (s.nx+1+1) 0) (e6:g.get 6=.ptr (s.nx+1+1+1) 0)
  (j4:S.m (s.nx+1)=some (.box (.int .i64 0::b10))) (j5:S.m (s.nx+1+1)=some (.box (.int .i64 wn::b10))) (j6:S.m (s.nx+1+1+1)=some (.box c.av.cells)) (hk:Kept s S) (hb2:s.nx+1+1+1 < S.nx) :
  go (aops Tryz.prog a114r6
   (regQ
    (seqQ Tryz.prog
     ((ACode.reg false a114r7).seq
      (((ACode.reg false a114r8).seq (ACode.block 0 a114l13.loop)).seq ((ACode.reg false a114r14).seq ACode.ret)))
     (finQ [ARes.cell (true,4) 10 true] fun r' s' => wk r' r∧Kept s s'))) g [] S):=by
 simp -implicitDefEqProofs (disch:=first|omega|simp only[nx4]<;>omega|fail) [a114r6,e0,e6,j6]
 refine go_pure h49 fun mm1 hm1 => ?_
 try simp only [nx4] at hm1
 simp -implicitDefEqProofs (disch:=first|omega|simp only[nx4]<;>omega|fail) [ndv_eq,a114r7,e5,j5,a114r8,b10]
 refine go_loop (I114 D x v wn mm1 s) wn ?h0 ?_
 case h0 =>
  refine ⟨0,by omega,by omega,?_,?_,?_,?_,?_,?_,?_,?_,?_,?_,?_⟩
  all_goals (try simp -implicitDefEqProofs (disch:=first|omega|simp only[nx4]<;>omega|fail) [e0,e4,e5,j4,j5,hk,cR_0])
  all_goals (try omega)
 have hb7:s.nx+1+1 < mm1:=by omega
 clear e0 e4 e5 e6 j4 j5 j6 hk hb2
 rintro m g S ⟨i,hi,rfl,e0,e4,e5,e7,e27,e28,j4,j5,j7,hk,hb2⟩
 by_cases hlt:i < wn
 ·have hlt':(i:Int) < wn:=by omega
  have h8:i < 8:=by omega
  have h8':(i:Int) < 8:=by omega
  have w1:IntKind.i64.wrap ((wn:Int) - 1)=(wn:Int) - 1:=wrap64 (by omega) (by omega)
  have w2:IntKind.i64.wrap ((wn:Int) - 1 - i)=(wn:Int) - 1 - i:=wrap64 (by omega) (by omega)
  have w3:=wrapS (i:=i) (by omega)
  have hlk:=fun s K => lk_ndm x ((wn:Int) - 1 - i) s K
  have hvi:=hv i
  have hst:=cR_step (v:=v) (fl:=x.isNone) h8
  cases hxn:x.isNone with
  | true =>
   rw [hxn] at hvi j5 j7 hst
   simp only [Bool.true_or] at hvi
   rw [hvi] at hst
   have hst':List.take (1+i) (AV.int .i64 wn::cR v true i)++.bool true::List.drop (1+i) (cR v true i)=.int .i64 wn::cR v true (i+1):=by
    rw [Nat.add_comm 1 i,List.take_succ_cons]
    exact congrArg (AV.int .i64 wn::·) hst
   simp -implicitDefEqProofs (disch:=first|omega|simp only[nx4]<;>omega|fail) [a114l13,a114r9,a114r10,a114r11,e7,e5,j5,j7,e27,e28,hlt',h8',a114r12,w3]
   refine go_next (wn - (i+1)) (by omega) ⟨i+1,by omega,rfl,?_,?_,?_,?_,?_,?_,?_,?_,?_,?_,?_⟩
   all_goals (try simp -implicitDefEqProofs (disch:=first|omega|simp only[nx4]<;>omega|fail) [e0,e4,e5,e7,e27,hst',j4,j7,hxn,hk])
   all_goals (try omega)
  | false =>
   rw [hxn] at hvi j5 j7 hst
   simp only [Bool.false_or] at hvi
   rw [hvi] at hst
   have hst':List.take (1+i) (AV.int .i64 wn::cR v false i)++.bool (decide (x.has ((wn:Int) - 1 - i)))::List.drop (1+i) (cR v false i)=.int .i64 wn::cR v false (i+1):=by
    rw [Nat.add_comm 1 i,List.take_succ_cons]
    exact congrArg (AV.int .i64 wn::·) hst
   simp -implicitDefEqProofs (disch:=first|omega|simp only[nx4]<;>omega|fail) [a114l13,a114r9,a114r10,a114r11,e7,e5,j5,j7,e27,e28,hlt',h8',a114r12,w1,w2,w3,hlk]
   refine go_next (wn - (i+1)) (by omega) ⟨i+1,by omega,rfl,?_,?_,?_,?_,?_,?_,?_,?_,?_,?_,?_⟩
   all_goals (try simp -implicitDefEqProofs (disch:=first|omega|simp only[nx4]<;>omega|fail) [e0,e4,e5,e7,e27,hst',j4,j7,hxn,hk])
   all_goals (try omega)
 ·have hlt':¬ (i:Int) < wn:=by omega
  obtain rfl:i=wn:=by omega
  have ht:(cR v x.isNone i).take 9=cR v x.isNone i:=List.take_of_length_le (by simp)
  subst hr
  simp -implicitDefEqProofs (disch:=first|omega|simp only[nx4]<;>omega|fail) [a114l13,a114r9,e27,e28,hlt',a114r14,e5,e4,j4,j5,b10,ht,hk]
set_option maxHeartbeats 4000000 in
theorem p114 (D:List (ByteArray × Kn)) (hD:GoodD D) (b:Pl) (hw:wf b=true) (hs:small b) (hr:rng b):PureC Tryz.prog 114 [ana D,b.av] (kAV (knOf (lookK D) b)):=by
 refine PureC.intro fun s => fun_sound mixed Tryz.func114 Tryz.call114 c114 rfl (awpFun_go _ _ _ _ ?_)
 obtain ⟨hnd,hwa,hwb⟩:=wf_nd hw
 have hr':=(rng_eq b).1 hr
 by_cases o5:b.op=5
 ·obtain ⟨n1,n8,nl⟩:=hnd.lam o5
  obtain ⟨x,hx⟩:∃ x,b.args=[x]:=List.length_eq_one_iff.1 nl
  have hxm:x∈b.args:=by simp [hx]
  have h49:=p49 D hD x (hwa x hxm) (small_arg hs hxm) (hr'.2.2.1 x hxm)
  obtain ⟨wn,hwn⟩:∃ wn:Nat,b.n=wn:=⟨b.n.toNat,by omega⟩
  have hg0:([x.av][0]?).getD AV.any=x.av:=rfl
  simp -implicitDefEqProofs (disch:=first|omega|simp only[nx4]<;>omega|fail) [a114,a114b,a114r0,a114r1,a114r2,a114r3,o5,a114r4,a114r5,hx,hg0]
  refine t114 D x _ h49 wn (by omega) (fun i => (need (lookK D) x).isNone || decide ((need (lookK D) x).has ((wn:Int) - 1 - (i:Int)))) (fun _ => rfl) _ ?hr s _ _ ?_ ?_ ?_ ?_ ?_ ?_ ?_ ?_ ?_
  case hr =>
   rw [cR_kr (w:=(wn:Int)),kAV]
   simp [knOf,wnt,cde,o5,hx,hwn]
  all_goals (try simp -implicitDefEqProofs (disch:=first|omega|simp only[nx4]<;>omega|fail) [b10,hwn])
 ·have h49:=p49 D hD b hw hs hr
  simp -implicitDefEqProofs (disch:=first|omega|simp only[nx4]<;>omega|fail) [a114,a114b,a114r0,a114r1,a114r2,a114r3,o5]
  refine t114 D b _ h49 0 (by omega) (fun i => (need (lookK D) b).isNone || decide ((need (lookK D) b).has (((0:Nat):Int) - 1 - (i:Int)))) (fun _ => rfl) _ ?hr s _ _ ?_ ?_ ?_ ?_ ?_ ?_ ?_ ?_ ?_
  case hr =>
   rw [cR_kr (w:=((0:Nat):Int)),kAV]
   simp [knOf,wnt,cde,o5]
  all_goals (try simp -implicitDefEqProofs (disch:=first|omega|simp only[nx4]<;>omega|fail) [b10])
end Go.AL.Dm
namespace Go.AL.Dm
open Go Go.Proofs
def kobj (D:List (ByteArray × Kn)):AObj:=.map (inord (kes D)) D.length
theorem inord_snd (l:List (AV × AV)):(inord l).map (·.2)=l:=by
 apply List.ext_getElem?
 intro j
 rw [List.getElem?_map,inord_get]
 cases l[j]? <;> rfl
theorem inord_snoc (l:List (AV × AV)) (x:AV × AV):inord (l++[x])=inord l++[(l.length,x)]:=by simp [inord]
theorem mfind_kes (n:ByteArray):∀ {es:List (Nat × AV × AV)} {D:List (ByteArray × Kn)} (_:es.map (·.2)=kes D) (i:Nat),
  ∃ r,mfind (.str n) es i=some r∧(n ∉ D.map (·.1)→r=none)∧lookAV false kz true (r.bind fun j => (es[j - i]?).map (·.2.2))=kAV (lookK D n)∧(∀ j,r=some j→i≤j)
 | [],D,h,i => by
  have:D=[]:=by simpa [kes] using h.symm
  subst this
  exact ⟨none,rfl,fun _ => rfl,rfl,by simp⟩
 | e::es,[],h,i => by simp [kes] at h
 | e::es,p::D,h,i => by
  simp only [kes,List.map_cons,List.cons.injEq] at h
  obtain ⟨h1,h2⟩:=h
  by_cases hx:n=p.1
  ·refine ⟨some i,?_,fun hn => absurd (by simp [hx]) hn,?_,by simp⟩
   ·rw [mfind,h1];simp [keq,hx]
   ·simp only [Option.bind_some,Nat.sub_self,List.getElem?_cons_zero,Option.map_some,h1,lookK,hx]
    simp [lookAV]
  ·obtain ⟨r,k1,k2,k3,k4⟩:=mfind_kes n (es:=es) (D:=D) h2 (i+1)
   refine ⟨r,?_,fun hn => k2 fun hm => hn (by rw [List.map_cons];exact List.mem_cons_of_mem _ hm),?_,fun j hj => by have:=k4 j hj;omega⟩
   ·rw [mfind,h1];simp [keq,hx,k1]
   ·have hx':¬ p.1=n:=fun e => hx e.symm
    have e:lookK (p::D) n=lookK D n:=by simp [lookK,hx']
    rw [e,← k3]
    cases r with
    | none => rfl
    | some j =>
     have:=k4 j rfl
     have e2:j - i=(j - (i+1))+1:=by omega
     simp only [Option.bind_some,e2,List.getElem?_cons_succ]
theorem lk_kobj {D:List (ByteArray × Kn)} (n:ByteArray) (s:St) (K:KS):go (lkO false kz true (.str n) (some (kobj D)) s K)=go (K (kAV (lookK D n)) s):=by
 obtain ⟨r,h1,_,h3,_⟩:=mfind_kes n (inord_snd (kes D)) 0
 rw [kobj,lkO_map,h1]
 rw [← h3]
 cases r with
 | none => rfl
 | some j => rfl
theorem up_kobj {D:List (ByteArray × Kn)} (o:Nat) (n:ByteArray) (k:Kn) (hn:n ∉ D.map (·.1)) (s:St) (K:KS):go (upO o (.str n) (kAV k) (some (kobj D)) s K)=go (K (.tup []) (s.set o (kobj (D++[(n,k)])))):=by
 obtain ⟨r,h1,h2,_⟩:=mfind_kes n (inord_snd (kes D)) 0
 rw [h2 hn] at h1
 rw [kobj,upO_map,h1,upR_none,kobj]
 have e:kes (D++[(n,k)])=kes D++[(.str n,kAV k)]:=by simp [kes]
 have e2:(kes D).length=D.length:=by simp [kes]
 rw [e,inord_snoc,e2]
 simp
theorem plain_kAV (k:Kn):Plain (kAV k):=by
 refine plain_agg fun x hx => ?_
 simp only [kr,List.mem_cons,List.not_mem_nil,or_false] at hx
 rcases hx with rfl | rfl | rfl | rfl | rfl | rfl | rfl | rfl | rfl | rfl
 ·exact plain_int _ _
 all_goals exact plain_bool _
theorem namesOK_nodup:∀ {p:List Gl} {pre:List ByteArray},namesOK pre p=true→(nms p).Nodup∧∀ n∈nms p,n ∉ pre
 | [],_,_ => by simp [nms]
 | g::r,pre,h => by
  rw [namesOK] at h
  simp only [Bool.and_eq_true,Bool.not_eq_true',decide_eq_false_iff_not] at h
  obtain ⟨h1,h2⟩:=namesOK_nodup h.2
  simp only [nms,List.map_cons,List.nodup_cons,List.mem_cons] at *
  refine ⟨⟨fun hm => ?_,h1⟩,?_⟩
  ·exact h2 _ hm (by simp)
  ·rintro n (rfl | hn)
   ·exact h.1.1.2
   ·exact fun hp => h2 n hn (by simp [hp])
structure GoodP (p:List Gl):Prop where
 few:p.length≤400
 nd:(nms p).Nodup
 wf:∀ g∈p,wf g.body=true
 sm:∀ g∈p,small g.body∧rng g.body
theorem goodP {p:List Gl} (hp:Few p) (h:isP p=true):GoodP p:=by
 simp only [isP,Bool.and_eq_true,decide_eq_true_eq] at h
 exact ⟨h.1,(namesOK_nodup h.2.1).1,namesOK_wf h.2.1,hp.2⟩
theorem tbD_names (p:List Gl) (f:Tb):(tbD p f).map (·.1)=nms p:=by simp [tbD,nms]
theorem lookK_tb {f:Tb}:∀ {p:List Gl},(nms p).Nodup→∀ g∈p,lookK (tbD p f) g.name=f g
 | [],_,g,hg => by simp at hg
 | a::p,h,g,hg => by
  simp only [nms,List.map_cons,List.nodup_cons] at h
  rcases List.mem_cons.1 hg with rfl | hg
  ·simp [lookK,tbD]
  ·have hne:¬ a.name=g.name:=fun e => h.1 (by rw [e];exact List.mem_map_of_mem hg)
   have ih:=lookK_tb (f:=f) (p:=p) h.2 g hg
   simp only [lookK,tbD,List.map_cons,List.find?_cons,hne,decide_false] at ih ⊢
   exact ih
theorem lookK_or (f:Tb) (n:ByteArray):∀ p:List Gl,(∃ g∈p,lookK (tbD p f) n=f g)∨lookK (tbD p f) n=Kn.zero
 | [] => .inr rfl
 | a::p => by
  by_cases h:a.name=n
  ·exact .inl ⟨a,by simp,by simp [lookK,tbD,h]⟩
  ·have e:lookK (tbD (a::p) f) n=lookK (tbD p f) n:=by simp [lookK,tbD,h]
   rw [e]
   rcases lookK_or f n p with ⟨g,hg,e⟩ | e
   ·exact .inl ⟨g,by simp [hg],e⟩
   ·exact .inr e
def GoodT (p:List Gl) (f:Tb):Prop:=∀ g∈p,(0≤(f g).w∧(f g).w≤8)∧((f g).st.length:Int)=(f g).w
theorem GoodT.D {p:List Gl} {f:Tb} (h:GoodT p f):GoodD (tbD p f):=by
 constructor
 ·intro n
  rcases lookK_or f n p with ⟨g,hg,e⟩ | e
  ·rw [e];exact (h g hg).1
  ·rw [e];simp [Kn.zero]
 ·intro n
  rcases lookK_or f n p with ⟨g,hg,e⟩ | e
  ·rw [e];exact (h g hg).2
  ·rw [e];simp [Kn.zero]
theorem wnt_bnd {b:Pl} (h:wf b=true):0≤wnt b∧wnt b≤8:=by
 unfold wnt
 split
 ·rename_i o;have:=(wf_nd h).1.lam o;omega
 ·omega
theorem goodT_stp {p:List Gl} (hp:GoodP p) (f:Tb):GoodT p (stp p f):=fun g hg => by
 have:=wnt_bnd (hp.wf g hg)
 refine ⟨this,?_⟩
 simp only [stp,knOf,List.length_map,List.length_range]
 omega
theorem goodT_0 {p:List Gl} (hp:GoodP p):GoodT p tb0:=fun g hg => by
 have:=wnt_bnd (hp.wf g hg)
 refine ⟨this,?_⟩
 simp only [tb0,top,List.length_replicate]
 omega
def st8 (k:Kn):List Bool:=[k.st.getD 0 false,k.st.getD 1 false,k.st.getD 2 false,k.st.getD 3 false,k.st.getD 4 false,k.st.getD 5 false,k.st.getD 6 false,k.st.getD 7 false]
theorem kr_8' (k:Kn):(kr k).take 8=(st8 k).map .bool:=rfl
@[simp] theorem st8_len (k:Kn):(st8 k).length=8:=rfl
def kch (a b:Kn):Bool:=!decide (a.fails=b.fails) || !decide (st8 a=st8 b)
noncomputable def chgs (p:List Gl) (f:Tb) (l:List Gl):Bool:=l.any fun g => kch (stp p f g) (f g)
theorem tbD_take {p:List Gl} {f:Tb} {i:Nat} (h:i < p.length):tbD (p.take (i+1)) f=tbD (p.take i) f++[(p[i].name,f p[i])]:=by
 rw [List.take_succ_eq_append_getElem h];simp only [tbD,List.map_append,List.map_cons,List.map_nil]
def I80 (p:List Gl) (f:Tb) (oa og:Nat) (s:St) (m:Nat) (g:Env) (s1:St):Prop :=
 ∃ i:Nat,i≤p.length∧m=p.length - i∧g.get 0=.ptr oa 0∧g.get 5=.map s.nx∧g.get 6=.bool (chgs p f (p.take i))∧g.get 12=.list 6 .none (p.map Gl.av)∧g.get 13=.int .i64 p.length∧g.get 14=.int .i64 i ∧
  s1.m s.nx=some (kobj (tbD (p.take i) (stp p f)))∧s1.m oa=some (.box [.map og])∧s1.m og=some (kobj (tbD p f))∧Kept s s1∧s.nx < s1.nx
set_option maxHeartbeats 4000000 in
theorem p80 (p:List Gl) (hp:GoodP p) (f:Tb) (hf:GoodT p f) (oa og:Nat) (s:St) (hoa:s.m oa=some (.box [.map og])) (hog:s.m og=some (kobj (tbD p f))) (hoa2:oa < s.nx) (hog2:og < s.nx) :
  ACalls Tryz.prog 80 [.ptr oa 0,.list 6 .none (p.map Gl.av)] s fun r s' => r=.bool (chgs p f p)∧∃ og',s.nx≤og'∧og' < s'.nx∧s'.m oa=some (.box [.map og'])∧s'.m og'=some (kobj (tbD p (stp p f)))∧KeptX s oa s':=by
 refine fun_sound mixed Tryz.func80 Tryz.call80 k80.2 rfl (awpFun_go _ _ _ _ ?_)
 simp -implicitDefEqProofs (disch:=first|omega|simp only[nx4]<;>omega|fail) [k80]
 refine go_loop (I80 p f oa og s) p.length ?h0 ?_
 case h0 =>
  refine ⟨0,by omega,by omega,?_,?_,?_,?_,?_,?_,?_,?_,?_,?_,?_⟩
  all_goals (try simp -implicitDefEqProofs (disch:=first|omega|simp only[nx4]<;>omega|fail) [chgs,hoa,hog,kobj,tbD,kes,inord])
 rintro m g S ⟨i,hi,rfl,e0,e5,e6,e12,e13,e14,jn,joa,jog,hk,hb⟩
 by_cases hlt:i < p.length
 ·have hlt':(i:Int) < p.length:=by omega
  have hpl:=hp.few
  have w3:=wrapS (i:=i) (by omega)
  have hmem:=List.getElem_mem hlt
  have htt:=tbD_take (f:=stp p f) hlt
  have hct:chgs p f (p.take (i+1))=(chgs p f (p.take i) || kch (stp p f p[i]) (f p[i])):=by
   rw [chgs,List.take_succ_eq_append_getElem hlt,List.any_append]
   simp [chgs]
  have hnot:p[i].name ∉ (tbD (p.take i) (stp p f)).map (·.1):=by
   rw [tbD_names]
   intro hm
   have:=hp.nd
   rw [← List.take_append_drop i p,nms,List.map_append,List.drop_eq_getElem_cons hlt,List.map_cons] at this
   exact (List.nodup_append.1 this).2.2 _ hm _ (by simp) rfl
  have hlk:=lookK_tb (f:=f) hp.nd _ hmem
  have hwf:=hp.wf _ hmem
  obtain ⟨hsm,hrg⟩:=hp.sm _ hmem
  have hst:stp p f p[i]=knOf (lookK (tbD p f)) p[i].body:=rfl
  generalize hx:p[i]=x at htt hct hnot hlk hwf hsm hrg hst
  have h114:=p114 (tbD p f) hf.D x.body hwf hsm hrg
  have hv1:=fun s K => lk_kobj (D:=tbD p f) x.name s K
  rw [hlk] at hv1
  have hu1:=fun S1 K => up_kobj (D:=tbD (p.take i) (stp p f)) s.nx x.name (stp p f x) hnot S1 K
  rw [← hst] at h114
  simp -implicitDefEqProofs (disch:=first|omega|simp only[nx4]<;>omega|fail) [e0,e12,e13,e14,hlt',hlt,hx]
  refine go_calls (ACalls.mono (borrow h114 (plain_kAV _) (oa:=oa) (og:=og) ?_ ?_ ?_ ?_) fun r s' hn' h => go_of ?_)
  ·simp -implicitDefEqProofs (disch:=first|omega|simp only[nx4]<;>omega|fail) [joa]
  ·simp -implicitDefEqProofs (disch:=first|omega|simp only[nx4]<;>omega|fail) [jog]
   simp [kobj,kes]
  ·intro q hq
   obtain ⟨d,_,rfl⟩:=List.mem_map.1 hq
   trivial
  ·have:(kes (tbD p f)).map (·.1)=(nms p).map AV.str:=by simp [kes,tbD,nms]
   rw [this]
   exact List.Pairwise.map _ (fun a b h e => h (by injection e)) hp.nd
  obtain ⟨rfl,hk'⟩:=h
  have q1:s'.m oa=some (.box [.map og]):=(hk' _ (by simp -implicitDefEqProofs (disch:=first|omega|simp only[nx4]<;>omega|fail);omega)).trans (by simp -implicitDefEqProofs (disch:=first|omega|simp only[nx4]<;>omega|fail) [joa])
  have q2:s'.m og=some (kobj (tbD p f)):=(hk' _ (by simp -implicitDefEqProofs (disch:=first|omega|simp only[nx4]<;>omega|fail);omega)).trans (by simp -implicitDefEqProofs (disch:=first|omega|simp only[nx4]<;>omega|fail) [jog])
  have q3:s'.m s.nx=some (kobj (tbD (p.take i) (stp p f))):=(hk' _ (by simp -implicitDefEqProofs (disch:=first|omega|simp only[nx4]<;>omega|fail);omega)).trans (by simp -implicitDefEqProofs (disch:=first|omega|simp only[nx4]<;>omega|fail) [jn])
  have q8:s'.m S.nx=some (.box x.av.cells):=(hk' _ (by simp -implicitDefEqProofs (disch:=first|omega|simp only[nx4]<;>omega|fail))).trans (by simp -implicitDefEqProofs (disch:=first|omega|simp only[nx4]<;>omega|fail))
  have q9:Kept s s':=fun q hq => (hk' q (by simp -implicitDefEqProofs (disch:=first|omega|simp only[nx4]<;>omega|fail);omega)).trans (by simp -implicitDefEqProofs (disch:=first|omega|simp only[nx4]<;>omega|fail) [hk q hq])
  have q10:S.nx < s'.nx:=by simp -implicitDefEqProofs (disch:=first|omega|simp only[nx4]<;>omega|fail) at hn';omega
  clear hk' hk joa jog jn h114 hst
  generalize stp p f x=kn at htt hct hu1
  generalize f x=ko at hv1 hct hlk
  have hka:∀ k,kAV k=.agg (.int .i64 k.w::kr k):=fun _ => rfl
  have ht9:∀ k,(kr k).take 9=kr k:=fun _ => rfl
  simp only [kz,hka] at hv1 hu1
  generalize chgs p f (p.take i)=c at e6 hct
  cases c with
  | true =>
   simp -implicitDefEqProofs (disch:=first|omega|simp only[nx4]<;>omega|fail) [hka,e0,e5,e6,q1,q2,q3,q8,hv1,kr_8',ht9]
   intro m hm
   simp -implicitDefEqProofs (disch:=first|omega|simp only[nx4]<;>omega|fail) [e5,q3,q8,ht9,hu1,e14,w3]
   refine go_next (p.length - (i+1)) (by omega) ⟨i+1,by omega,rfl,?_,?_,?_,?_,?_,?_,?_,?_,?_,?_,?_⟩
   all_goals (try simp -implicitDefEqProofs (disch:=first|omega|simp only[nx4]<;>omega|fail) [e0,e5,e12,e13,hct,kch,htt,q1,q2,q9])
   all_goals (try omega)
  | false =>
   by_cases hff:kn.fails=ko.fails
   ·simp -implicitDefEqProofs (disch:=first|omega|simp only[nx4]<;>omega|fail) [hka,e0,e5,e6,q1,q2,q3,q8,hv1,kr_8',ht9]
    intro m hm
    simp -implicitDefEqProofs (disch:=first|omega|simp only[nx4]<;>omega|fail) [e5,q3,q8,ht9,hu1,e14,w3,hff,kr_8']
    refine go_next (p.length - (i+1)) (by omega) ⟨i+1,by omega,rfl,?_,?_,?_,?_,?_,?_,?_,?_,?_,?_,?_⟩
    all_goals (try simp -implicitDefEqProofs (disch:=first|omega|simp only[nx4]<;>omega|fail) [e0,e5,e12,e13,hct,kch,htt,q1,q2,q9,hff])
    all_goals (try omega)
   ·simp -implicitDefEqProofs (disch:=first|omega|simp only[nx4]<;>omega|fail) [hka,e0,e5,e6,q1,q2,q3,q8,hv1,kr_8',ht9]
    intro m hm
    simp -implicitDefEqProofs (disch:=first|omega|simp only[nx4]<;>omega|fail) [e5,q3,q8,ht9,hu1,e14,w3,hff,kr_8']
    refine go_next (p.length - (i+1)) (by omega) ⟨i+1,by omega,rfl,?_,?_,?_,?_,?_,?_,?_,?_,?_,?_,?_⟩
    all_goals (try simp -implicitDefEqProofs (disch:=first|omega|simp only[nx4]<;>omega|fail) [e0,e5,e12,e13,hct,kch,htt,q1,q2,q9,hff])
    all_goals (try omega)
 ·have hlt':¬ (i:Int) < p.length:=by omega
  obtain rfl:i=p.length:=by omega
  rw [List.take_length] at jn e6
  simp -implicitDefEqProofs (disch:=first|omega|simp only[nx4]<;>omega|fail) [e13,e14,hlt',e0,e5,joa,e6]
  refine ⟨s.nx,by omega,by omega,rfl,by simp -implicitDefEqProofs (disch:=first|omega|simp only[nx4]<;>omega|fail) [jn],?_⟩
  intro q hq hne
  exact hk q hq
end Go.AL.Dm
namespace Go.AL.Dm
def TLe (f f':Tb):Prop:=∀ g,KnLe (f g) (f' g)
theorem lookK_le {f f':Tb} (h:TLe f f') (p:List Gl):KLe (lookK (tbD p f)) (lookK (tbD p f')):=by
 intro n
 induction p with
 | nil => exact KnLe.refl _
 | cons a p ih =>
  by_cases e:a.name=n
  ·have e1:∀ f:Tb,lookK (tbD (a::p) f) n=f a:=fun f => by simp [lookK,tbD,e]
   rw [e1,e1];exact h a
  ·have e1:∀ f:Tb,lookK (tbD (a::p) f) n=lookK (tbD p f) n:=fun f => by simp [lookK,tbD,e]
   rw [e1,e1];exact ih
theorem stp_le {f f':Tb} (h:TLe f f') (p:List Gl):TLe (stp p f) (stp p f'):=fun g => knOf_le (lookK_le h p) g.body
theorem BLe_top:∀ l:List Bool,BLe l (List.replicate l.length true)
 | [] => trivial
 | _::l => ⟨fun _ => rfl,BLe_top l⟩
theorem knOf_top (K:ByteArray→Kn) (b:Pl):KnLe (knOf K b) (top b):=by
 refine ⟨rfl,?_,fun _ => rfl⟩
 have:=BLe_top (knOf K b).st
 rw [show (knOf K b).st.length=(wnt b).toNat by simp [knOf]] at this
 exact this
def Desc (p:List Gl) (f:Tb):Prop:=TLe (stp p f) f
theorem desc_0 (p:List Gl):Desc p tb0:=fun g => knOf_top _ _
theorem Desc.stp {p:List Gl} {f:Tb} (h:Desc p f):Desc p (stp p f):=stp_le h p
def cntB (l:List Bool):Nat:=(l.filter id).length
def cnt1 (k:Kn):Nat:=cntB k.st+(if k.fails=true then 1 else 0)
theorem BLe.cnt:∀ {a b:List Bool},BLe a b→cntB a≤cntB b∧(cntB a=cntB b→a=b)
 | [],[],_ => ⟨Nat.le_refl _,fun _ => rfl⟩
 | x::a,y::b,h => by
  obtain ⟨h1,h2⟩:=BLe.cnt h.2
  have hx:=h.1
  cases x <;> cases y <;> simp [cntB] at *
  ·exact ⟨h1,h2⟩
  ·exact ⟨by omega,by omega⟩
  ·exact ⟨h1,h2⟩
 | [],_::_,h => h.elim
 | _::_,[],h => h.elim
theorem KnLe.cnt {a b:Kn} (h:KnLe a b):cnt1 a≤cnt1 b∧(cnt1 a=cnt1 b→a=b):=by
 obtain ⟨h1,h2,h3⟩:=h
 obtain ⟨c1,c2⟩:=h2.cnt
 obtain ⟨w,st,fl⟩:=a
 obtain ⟨w',st',fl'⟩:=b
 simp only at *
 unfold cnt1
 simp only
 cases fl <;> cases fl' <;> simp at *
 ·exact ⟨c1,fun e => ⟨h1,c2 e⟩⟩
 ·omega
 ·exact ⟨c1,fun e => ⟨h1,c2 e⟩⟩
theorem kch_same (a:Kn):kch a a=false:=by simp [kch]
theorem kch_eq {a b:Kn} (h:KnLe a b) (h8:b.st.length≤8) (hk:kch a b=false):a=b:=by
 have hl:=h.2.1.len
 obtain ⟨w,st,fl⟩:=a
 obtain ⟨w',st',fl'⟩:=b
 simp only [kch,Bool.or_eq_false_iff,Bool.not_eq_false',decide_eq_true_eq] at hk hl h8
 obtain ⟨h1,h2⟩:=hk
 have hw:=h.1
 simp only at hw
 have:st=st':=by
  apply List.ext_getElem hl
  intro i hi hi'
  have hi8:i < 8:=by omega
  have hg:st.getD i false=st'.getD i false:=by
   simp only [st8,List.cons.injEq,and_true] at h2
   obtain ⟨a0,a1,a2,a3,a4,a5,a6,a7⟩:=h2
   match i,hi8 with
   | 0,_ => exact a0
   | 1,_ => exact a1
   | 2,_ => exact a2
   | 3,_ => exact a3
   | 4,_ => exact a4
   | 5,_ => exact a5
   | 6,_ => exact a6
   | 7,_ => exact a7
  simpa [hi,hi'] using hg
 rw [hw,this,h1]
def ms (p:List Gl) (f:Tb):Nat:=(p.map fun g => cnt1 (f g)).sum
theorem ms_lt (f' f:Tb) (h:TLe f' f):∀ p:List Gl,ms p f'≤ms p f∧((p.any fun g => kch (f' g) (f g))=true→ms p f' < ms p f)
 | [] => by simp [ms]
 | g::p => by
  obtain ⟨h1,h2⟩:=ms_lt f' f h p
  obtain ⟨c1,c2⟩:=(h g).cnt
  simp only [ms,List.map_cons,List.sum_cons,List.any_cons,Bool.or_eq_true] at *
  refine ⟨by omega,?_⟩
  rintro (e | e)
  ·have:cnt1 (f' g)≠cnt1 (f g):=fun e' => by rw [c2 e',kch_same] at e;cases e
   omega
  ·have:=h2 e;omega
theorem cntB_le (l:List Bool):cntB l≤l.length:=List.length_filter_le _ _
theorem ms_bnd {f:Tb}:∀ {p:List Gl},GoodT p f→ms p f≤9 * p.length
 | [],_ => by simp [ms]
 | g::p,h => by
  have ih:=ms_bnd (f:=f) (p:=p) fun x hx => h x (by simp [hx])
  have hg:=h g (by simp)
  have hc:=cntB_le (f g).st
  simp only [ms,List.map_cons,List.sum_cons,List.length_cons] at *
  have:cnt1 (f g)≤9:=by
   unfold cnt1
   split <;> omega
  omega
noncomputable def rnds (p:List Gl):Nat→Tb→Nat→Tb × Nat
 | 0,f,c => (f,c)
 | n+1,f,c => if chgs p f p=true then rnds p n (stp p f) (c+1) else (f,c)
noncomputable def fin (p:List Gl):Tb × Nat:=rnds p (ms p tb0+1) tb0 1
structure Way (p:List Gl) (n:Nat) (f:Tb) (c:Nat):Prop where
 fin:rnds p n f c=fin p
 desc:Desc p f
 good:GoodT p f
 lt:ms p f < n
 bnd:c+ms p f≤3601
theorem way_0 {p:List Gl} (hp:GoodP p):Way p (ms p tb0+1) tb0 1 :=
 ⟨rfl,desc_0 p,goodT_0 hp,by omega,by have:=ms_bnd (goodT_0 hp);have:=hp.few;omega⟩
theorem Way.go {p:List Gl} {n:Nat} {f:Tb} {c:Nat} (hp:GoodP p) (h:Way p n f c) (hc:chgs p f p=true):∃ n',n=n'+1∧Way p n' (stp p f) (c+1):=by
 have hlt:=(ms_lt _ _ h.desc p).2 hc
 have hn:=h.lt
 cases n with
 | zero => omega
 | succ n =>
  refine ⟨n,rfl,?_,h.desc.stp,goodT_stp hp f,by omega,by have:=h.bnd;omega⟩
  have:=h.fin
  rw [rnds,if_pos hc] at this
  exact this
theorem Way.done {p:List Gl} {n:Nat} {f:Tb} {c:Nat} (h:Way p n f c) (hc:chgs p f p=false):Dm.fin p=(f,c)∧∀ g∈p,stp p f g=f g:=by
 have hn:=h.lt
 cases n with
 | zero => omega
 | succ n =>
  refine ⟨?_,fun g hg => ?_⟩
  ·have:=h.fin
   rw [rnds,if_neg (by rw [hc];simp)] at this
   exact this.symm
  ·simp only [chgs,List.any_eq_false] at hc
   have hg8:=h.good g hg
   exact kch_eq (h.desc g) (by omega) (by simpa using hc g hg)
theorem fin_way {p:List Gl} (hp:GoodP p):∃ n,Way p n (fin p).1 (fin p).2∧chgs p (fin p).1 p=false:=by
 have:∀ n f c,Way p n f c→∃ n,Way p n (fin p).1 (fin p).2∧chgs p (fin p).1 p=false:=by
  intro n
  induction n with
  | zero => intro f c h;have:=h.lt;omega
  | succ n ih =>
   intro f c h
   cases hc:chgs p f p with
   | true =>
    obtain ⟨n',e,h'⟩:=h.go hp hc
    cases e
    exact ih _ _ h'
   | false =>
    rw [(h.done hc).1]
    exact ⟨_,h,hc⟩
 exact this _ _ _ (way_0 hp)
theorem tbD_same {p:List Gl} {f f':Tb} (h:∀ g∈p,f' g=f g):tbD p f'=tbD p f:=List.map_congr_left fun g hg => by rw [h g hg]
end Go.AL.Dm
namespace Go.AL.Dm
open Go Go.Proofs
theorem kr_top (b:Pl) (n:Nat) (h:wnt b=n):kr (top b)=cR (fun _ => true) true n:=by
 have e:top b=⟨wnt b,(List.range n).map fun _ => true,true⟩:=by
  rw [top,h]
  simp [List.map_const']
 rw [e,cR_kr (w:=wnt b)]
def IA40 (p:List Gl) (s:St) (m:Nat) (g:Env) (s1:St):Prop :=
 ∃ i:Nat,i≤p.length∧m=p.length - i∧g.get 0=.list 6 .none (p.map Gl.av)∧g.get 4=.ptr (s.nx+1) 0∧g.get 13=.list 6 .none (p.map Gl.av)∧g.get 14=.int .i64 p.length∧g.get 15=.int .i64 i ∧
  s1.m s.nx=some (kobj (tbD (p.take i) tb0))∧s1.m (s.nx+1)=some (.box [.map s.nx])∧Kept s s1∧s.nx+1 < s1.nx
def IB40 (p:List Gl) (i:Nat) (x:Gl) (wn:Nat) (b6 b7:Nat) (s:St) (m:Nat) (g:Env) (s1:St):Prop :=
 ∃ j:Nat,j≤wn∧m=wn - j∧g.get 0=.list 6 .none (p.map Gl.av)∧g.get 4=.ptr (s.nx+1) 0∧g.get 6=.ptr b6 0∧g.get 7=.ptr b7 0∧g.get 13=.list 6 .none (p.map Gl.av)∧g.get 14=.int .i64 p.length∧g.get 15=.int .i64 i∧g.get 29=.int .i64 wn∧g.get 30=.int .i64 j ∧
  s1.m s.nx=some (kobj (tbD (p.take i) tb0))∧s1.m (s.nx+1)=some (.box [.map s.nx])∧s1.m b6=some (.box x.av.cells)∧s1.m b7=some (.box (.int .i64 wn::cR (fun _ => true) true j))∧Kept s s1∧b7 < s1.nx
def IC40 (p:List Gl) (s:St) (m:Nat) (g:Env) (s1:St):Prop :=
 ∃ (f:Tb) (c og:Nat),Way p m f c∧g.get 0=.list 6 .none (p.map Gl.av)∧g.get 4=.ptr (s.nx+1) 0∧g.get 9=.int .i64 c∧s.nx≤og∧og < s1.nx ∧
  s1.m (s.nx+1)=some (.box [.map og])∧s1.m og=some (kobj (tbD p f))∧Kept s s1∧s.nx+1 < s1.nx
set_option maxHeartbeats 4000000 in
theorem t40 (p:List Gl) (i:Nat) (x:Gl) (wn:Nat) (s:St) (b6 b7:Nat) (hlt:i < p.length) (hpl:p.length≤400) (htt:tbD (p.take (i+1)) tb0=tbD (p.take i) tb0++[(x.name,tb0 x)]) (hnot:x.name ∉ (tbD (p.take i) tb0).map (·.1)) (hwn:wnt x.body=wn) (hw8:wn≤8)
  (Q:AExit→Env→St→Prop) (g:Env) (S:St) (e0:g.get 0=.list 6 .none (p.map Gl.av)) (e4:g.get 4=.ptr (s.nx+1) 0) (e6:g.get 6=.ptr b6 0) (e7:g.get 7=.ptr b7 0) (e13:g.get 13=.list 6 .none (p.map Gl.av)) (e14:g.get 14=.int .i64 p.length) (e15:g.get 15=.int .i64 i)
  (jn:S.m s.nx=some (kobj (tbD (p.take i) tb0))) (ja:S.m (s.nx+1)=some (.box [.map s.nx])) (j6:S.m b6=some (.box x.av.cells)) (j7:S.m b7=some (.box (.int .i64 wn::cR (fun _ => true) true 0))) (hk:Kept s S) (hb:b7 < S.nx) (hb2:s.nx+1 < b7) (hb3:b6 < b7) (hb4:s.nx+1 < b6) :
  go (aops Tryz.prog a40r8 (regQ (seqQ Tryz.prog (ACode.block 2 a40l13.loop) (seqQ Tryz.prog (ACode.reg true a40r14) (blockQ 1 (seqQ Tryz.prog (ACode.reg false a40r15) (loopQ (p.length - i) (IA40 p s) Q)))))) g [] S):=by
 have w3:=wrapS (i:=i) (by omega)
 simp -implicitDefEqProofs (disch:=first|omega|simp only[nx4]<;>omega|fail) [a40r8,e7,j7]
 refine go_loop (IB40 p i x wn b6 b7 s) wn ?h0 ?_
 case h0 =>
  refine ⟨0,by omega,by omega,?_,?_,?_,?_,?_,?_,?_,?_,?_,?_,?_,?_,?_,?_,?_⟩
  all_goals (try simp -implicitDefEqProofs (disch:=first|omega|simp only[nx4]<;>omega|fail) [e0,e4,e6,e7,e13,e14,e15,jn,ja,j6,j7,hk])
  all_goals (try omega)
 clear e0 e4 e6 e7 e13 e14 e15 jn ja j6 j7 hk hb
 rintro m g S ⟨j,hj,rfl,e0,e4,e6,e7,e13,e14,e15,e29,e30,jn,ja,j6,j7,hk,hb⟩
 by_cases hjl:j < wn
 ·have hjl':(j:Int) < wn:=by omega
  have h8:j < 8:=by omega
  have h8':(j:Int) < 8:=by omega
  have w4:=wrapS (i:=j) (by omega)
  have hst:=cR_step (v:=fun _ => true) (fl:=true) h8
  have hst':List.take (1+j) (AV.int .i64 wn::cR (fun _ => true) true j)++.bool true::List.drop (1+j) (cR (fun _ => true) true j)=.int .i64 wn::cR (fun _ => true) true (j+1):=by
   rw [Nat.add_comm 1 j,List.take_succ_cons]
   exact congrArg (AV.int .i64 wn::·) hst
  simp -implicitDefEqProofs (disch:=first|omega|simp only[nx4]<;>omega|fail) [a40l13,a40r9,a40r10,a40r11,a40r12,e7,e29,e30,j7,hjl',h8',w4]
  refine go_next (wn - (j+1)) (by omega) ⟨j+1,by omega,rfl,?_,?_,?_,?_,?_,?_,?_,?_,?_,?_,?_,?_,?_,?_,?_⟩
  all_goals (try simp -implicitDefEqProofs (disch:=first|omega|simp only[nx4]<;>omega|fail) [e0,e4,e6,e7,e13,e14,e15,e29,jn,ja,j6,hst',hk])
  all_goals (try omega)
 ·have hjl':¬ (j:Int) < wn:=by omega
  obtain rfl:j=wn:=by omega
  have hkr:=kr_top x.body j hwn
  have hu1:=fun S1 K => up_kobj (D:=tbD (p.take i) tb0) s.nx x.name (tb0 x) hnot S1 K
  have hka:kAV (tb0 x)=.agg (.int .i64 j::cR (fun _ => true) true j):=by rw [tb0,kAV,hkr,top,hwn]
  have ht9:(cR (fun _ => true) true j).take 9=cR (fun _ => true) true j:=rfl
  rw [hka] at hu1
  simp -implicitDefEqProofs (disch:=first|omega|simp only[nx4]<;>omega|fail) [a40l13,a40r9,e29,e30,hjl',a40r14,e4,e6,e7,ja,j6,j7,jn,ht9,hu1]
  intro m hm
  simp -implicitDefEqProofs (disch:=first|omega|simp only[nx4]<;>omega|fail) [a40r15,e15,w3]
  refine go_next (p.length - (i+1)) (by omega) ⟨i+1,by omega,rfl,?_,?_,?_,?_,?_,?_,?_,?_,?_⟩
  all_goals (try simp -implicitDefEqProofs (disch:=first|omega|simp only[nx4]<;>omega|fail) [e0,e4,e13,e14,htt,ja,hk])
  all_goals (try omega)
set_option maxHeartbeats 4000000 in
theorem p40 (p:List Gl) (hp:GoodP p) (s:St) :
  ACalls Tryz.prog 40 [.list 6 .none (p.map Gl.av)] s fun r s' => ∃ oa og,r=.tup [.ptr oa 0,.int .i64 (fin p).2]∧s.nx≤oa∧oa < s'.nx∧s.nx≤og∧og < s'.nx∧s'.m oa=some (.box [.map og])∧s'.m og=some (kobj (tbD p (fin p).1))∧Kept s s':=by
 refine fun_sound mixed Tryz.func40 Tryz.call40 c40 rfl (awpFun_go _ _ _ _ ?_)
 have hpl:=hp.few
 simp -implicitDefEqProofs (disch:=first|omega|simp only[nx4]<;>omega|fail) [a40,a40b,a40r0,a40r1,a40r2]
 refine go_loop (IA40 p s) p.length ?h0 ?_
 case h0 =>
  refine ⟨0,by omega,by omega,?_,?_,?_,?_,?_,?_,?_,?_,?_⟩
  all_goals (try simp -implicitDefEqProofs (disch:=first|omega|simp only[nx4]<;>omega|fail) [kobj,tbD,kes,inord])
 rintro m g S ⟨i,hi,rfl,e0,e4,e13,e14,e15,jn,ja,hk,hb⟩
 by_cases hlt:i < p.length
 ·have hlt':(i:Int) < p.length:=by omega
  have w3:=wrapS (i:=i) (by omega)
  have hmem:=List.getElem_mem hlt
  have htt:=tbD_take (f:=tb0) hlt
  have hnot:p[i].name ∉ (tbD (p.take i) tb0).map (·.1):=by
   rw [tbD_names]
   intro hm
   have:=hp.nd
   rw [← List.take_append_drop i p,nms,List.map_append,List.drop_eq_getElem_cons hlt,List.map_cons] at this
   exact (List.nodup_append.1 this).2.2 _ hm _ (by simp) rfl
  have hwf:=hp.wf _ hmem
  generalize hx:p[i]=x at htt hnot hwf
  have hwb:=wnt_bnd hwf
  obtain ⟨wn,hwn⟩:∃ wn:Nat,wnt x.body=wn:=⟨(wnt x.body).toNat,by omega⟩
  have hw8:wn≤8:=by omega
  by_cases o5:x.body.op=5
  ·have hn5:x.body.n=wn:=by rw [← hwn,wnt,if_pos o5]
   simp -implicitDefEqProofs (disch:=first|omega|simp only[nx4]<;>omega|fail) [a40l16,a40r3,a40r4,a40r5,a40r6,a40r7,e13,e14,e15,hlt',hlt,hx,o5]
   refine t40 p i x wn s S.nx (S.nx+1) hlt hpl htt hnot hwn hw8 _ _ _ ?_ ?_ ?_ ?_ ?_ ?_ ?_ ?_ ?_ ?_ ?_ ?_ ?_ ?_ ?_ ?_
   all_goals (try simp -implicitDefEqProofs (disch:=first|omega|simp only[nx4]<;>omega|fail) [e0,e4,e13,e14,e15,jn,ja,hk,cR_0,hn5])
   all_goals (try omega)
  ·have h0:wn=0:=by rw [← Int.natCast_inj,← hwn,wnt,if_neg o5];rfl
   subst h0
   simp -implicitDefEqProofs (disch:=first|omega|simp only[nx4]<;>omega|fail) [a40l16,a40r3,a40r4,a40r5,a40r6,e13,e14,e15,hlt',hlt,hx,o5]
   refine t40 p i x 0 s S.nx (S.nx+1) hlt hpl htt hnot hwn hw8 _ _ _ ?_ ?_ ?_ ?_ ?_ ?_ ?_ ?_ ?_ ?_ ?_ ?_ ?_ ?_ ?_ ?_
   all_goals (try simp -implicitDefEqProofs (disch:=first|omega|simp only[nx4]<;>omega|fail) [e0,e4,e13,e14,e15,jn,ja,hk,cR_0])
   all_goals (try omega)
 ·have hlt':¬ (i:Int) < p.length:=by omega
  obtain rfl:i=p.length:=by omega
  rw [List.take_length] at jn
  simp -implicitDefEqProofs (disch:=first|omega|simp only[nx4]<;>omega|fail) [a40l16,a40r3,e14,e15,hlt',a40r17]
  refine go_loop (IC40 p s) (ms p tb0+1) ?h0 ?_
  case h0 =>
   refine ⟨tb0,1,s.nx,way_0 hp,?_,?_,?_,?_,?_,?_,?_,?_,?_⟩
   all_goals (try simp -implicitDefEqProofs (disch:=first|omega|simp only[nx4]<;>omega|fail) [e0,e4,jn,ja,hk])
   all_goals (try omega)
  clear e0 e4 e13 e14 e15 jn ja hk hb
  rintro m g S ⟨f,c,og,hway,e0,e4,e9,ho1,ho2,ja,jo,hk,hb⟩
  simp -implicitDefEqProofs (disch:=first|omega|simp only[nx4]<;>omega|fail) [a40l20,a40r18,e0,e4]
  refine go_calls (ACalls.mono (p80 p hp f hway.good (s.nx+1) og S ja jo hb ho2) fun r s' hn' h => go_of ?_)
  obtain ⟨rfl,og',h1,h2,h3,h4,h5⟩:=h
  have hk':Kept s s':=fun q hq => (h5 q (by omega) (by omega)).trans (hk q hq)
  cases hc:chgs p f p with
  | true =>
   obtain ⟨n',rfl,hw'⟩:=hway.go hp hc
   have hcb:=hw'.bnd
   have w3:=wrapS (i:=c) (by omega)
   simp -implicitDefEqProofs (disch:=first|omega|simp only[nx4]<;>omega|fail) [a40r19,e9,w3]
   refine go_next n' (by omega) ⟨stp p f,c+1,og',hw',?_,?_,?_,?_,?_,?_,?_,?_,?_⟩
   all_goals (try simp -implicitDefEqProofs (disch:=first|omega|simp only[nx4]<;>omega|fail) [e0,e4,h3,h4,hk'])
   all_goals (try omega)
  | false =>
   obtain ⟨d1,d2⟩:=hway.done hc
   have hsame:=tbD_same d2
   rw [hsame] at h4
   simp -implicitDefEqProofs (disch:=first|omega|simp only[nx4]<;>omega|fail) [a40r21,e4,e9,d1]
   exact ⟨by omega,og',by omega,by omega,h3,h4,hk'⟩
end Go.AL.Dm
namespace Go.AL.Dm
open Go Go.Proofs
def dm (n:ByteArray) (k:Kn):AV:=.agg [.str n,.list 1 .none (k.st.map .bool),.bool k.fails]
def dmL (p:List Gl) (f:Tb):List AV:=p.map fun g => dm g.name (f g)
theorem dmL_take {p:List Gl} {f:Tb} {i:Nat} (h:i < p.length):dmL (p.take (i+1)) f=dmL (p.take i) f++[dm p[i].name (f p[i])]:=by
 rw [List.take_succ_eq_append_getElem h];simp only [dmL,List.map_append,List.map_cons,List.map_nil]
theorem dmL_cells {p:List Gl} {f:Tb}:∀ x∈dmL p f,x.cells.length=3:=by
 intro x hx
 simp only [dmL,List.mem_map] at hx
 obtain ⟨g,_,rfl⟩:=hx
 rfl
theorem st8_take {k:Kn} {n:Nat} (h:k.st.length=n) (h8:n≤8):(st8 k).take n=k.st:=by
 apply List.ext_getElem?
 intro i
 by_cases hi:i < n
 ·have hi8:i < 8:=by omega
  rw [List.getElem?_take,if_pos hi]
  have hs:(st8 k)[i]?=some (k.st.getD i false):=by
   match i,hi8 with
   | 0,_ | 1,_ | 2,_ | 3,_ | 4,_ | 5,_ | 6,_ | 7,_ => rfl
  rw [hs]
  have:i < k.st.length:=by omega
  simp [this]
 ·rw [List.getElem?_take,if_neg hi,List.getElem?_eq_none (by omega)]
def I37 (p:List Gl) (f:Tb) (oa og:Nat) (s:St) (m:Nat) (g:Env) (s1:St):Prop :=
 ∃ (i o:Nat),i≤p.length∧m=p.length - i∧g.get 3=.ptr oa 0∧g.get 5=.mref 3 o 0 i∧g.get 14=.list 6 .none (p.map Gl.av)∧g.get 15=.int .i64 p.length∧g.get 16=.int .i64 i ∧
  s1.m o=some (.box (flat (dmL (p.take i) f)))∧s1.m oa=some (.box [.map og])∧s1.m og=some (kobj (tbD p f))∧s.nx≤o∧o < s1.nx∧o≠oa∧o≠og∧Kept s s1∧oa < s1.nx∧og < s1.nx
set_option maxHeartbeats 4000000 in
theorem p37 (p:List Gl) (hp:GoodP p):PureC Tryz.prog 37 [.list 6 .none (p.map Gl.av)] (.list 3 .none (dmL p (fin p).1)):=by
 refine PureC.intro fun s => freeze1 (fun_sound mixed Tryz.func37 Tryz.call37 k37.2 rfl (awpFun_go _ _ _ _ ?_))
 have hpl:=hp.few
 obtain ⟨n0,hway,_⟩:=fin_way hp
 have hf:=hway.good
 simp -implicitDefEqProofs (disch:=first|omega|simp only[nx4]<;>omega|fail) [k37]
 refine go_calls (ACalls.mono (p40 p hp s) fun r s' hn' h => go_of ?_)
 obtain ⟨oa,og,rfl,h1,h2,h3,h4,ja,jo,hk⟩:=h
 generalize (fin p).1=f at jo hf ⊢
 simp -implicitDefEqProofs (disch:=first|omega|simp only[nx4]<;>omega|fail) []
 refine go_loop (I37 p f oa og s) p.length ?h0 ?_
 case h0 =>
  refine ⟨0,s'.nx,by omega,by omega,?_,?_,?_,?_,?_,?_,?_,?_,?_,?_,?_,?_,?_,?_,?_⟩
  all_goals (try simp -implicitDefEqProofs (disch:=first|omega|simp only[nx4]<;>omega|fail) [ja,jo,hk,dmL])
  all_goals (try omega)
 clear ja jo hk h1 h2 h3 h4 hn'
 rintro m g S ⟨i,o,hi,rfl,e3,e5,e14,e15,e16,jO,ja,jo,ho1,ho2,ho3,ho4,hk,hb1,hb2⟩
 by_cases hlt:i < p.length
 ·have hlt':(i:Int) < p.length:=by omega
  have w3:=wrapS (i:=i) (by omega)
  have hmem:=List.getElem_mem hlt
  have htk:=dmL_take (f:=f) hlt
  have hlk:=lookK_tb (f:=f) hp.nd _ hmem
  have hgood:=hf _ hmem
  generalize hx:p[i]=x at htk hlk hgood
  have hv1:=fun s K => lk_kobj (D:=tbD p f) x.name s K
  rw [hlk] at hv1
  generalize f x=k at htk hgood hv1
  obtain ⟨⟨hw0,hw8⟩,hst⟩:=hgood
  obtain ⟨wn,hwn⟩:∃ wn:Nat,k.w=wn:=⟨k.w.toNat,by omega⟩
  have hka:∀ k,kAV k=.agg (.int .i64 k.w::kr k):=fun _ => rfl
  have hw8':(wn:Int)≤8:=by omega
  have h76:=p76 .none k.st (by omega)
  have hst8:List.take wn ((st8 k).map AV.bool)=k.st.map AV.bool:=by rw [← List.map_take,st8_take (by omega) (by omega)]
  have hdl:(dmL (p.take i) f).length=i:=by simp [dmL];omega
  have hfl:(flat (dmL (p.take i) f)).length=i * 3:=by rw [flat_length (sz:=3) dmL_cells,hdl]
  simp only [kz,hka,hwn] at hv1
  simp -implicitDefEqProofs (disch:=first|omega|simp only[nx4]<;>omega|fail) [e3,e5,e14,e15,e16,hlt',hlt,hx,ja,jo,hv1]
  intro m hm
  have hcell:∀ y:AV,false∈st8 k∧AV.bool false=y∨true∈st8 k∧AV.bool true=y→y.cells=[y]:=by
   rintro y (⟨_,rfl⟩ | ⟨_,rfl⟩) <;> rfl
  simp -implicitDefEqProofs (disch:=first|omega|simp only[nx4]<;>omega|fail) [e5,kr_8',hst8,hw8',jO,hfl]
  refine pcV_intro h76 ?_
  simp -implicitDefEqProofs (disch:=first|omega|simp only[nx4]<;>omega|fail) [e5,jO,hfl]
  intro m1 hm1
  have hfl2:flat (dmL (p.take (i+1)) f)=flat (dmL (p.take i) f)++[AV.str x.name,AV.list 1 .none (k.st.map AV.bool),AV.bool k.fails]:=by
   rw [htk];simp [flat,dm]
  simp -implicitDefEqProofs (disch:=first|omega|simp only[nx4]<;>omega|fail) [e16,w3]
  refine go_next (p.length - (i+1)) (by omega) ⟨i+1,m,by omega,rfl,?_,?_,?_,?_,?_,?_,?_,?_,?_,?_,?_,?_,?_,?_,?_⟩
  all_goals (try simp -implicitDefEqProofs (disch:=first|omega|simp only[nx4]<;>omega|fail) [e3,e14,e15,hfl2,ja,jo,hk])
  all_goals (try omega)
 ·have hlt':¬ (i:Int) < p.length:=by omega
  obtain rfl:i=p.length:=by omega
  rw [List.take_length] at jO
  simp -implicitDefEqProofs (disch:=first|omega|simp only[nx4]<;>omega|fail) [e15,e16,hlt',e5]
  refine ⟨3,o,p.length,⟨rfl,rfl,rfl⟩,dmL p f,jO,dmL_cells,by simp [dmL],by simp,?_⟩
  simp -implicitDefEqProofs (disch:=first|omega|simp only[nx4]<;>omega|fail) [hk]
end Go.AL.Dm
namespace Go.AL.Dm
open Go Go.Proofs
noncomputable def resP (p:List Gl):List AV:=if isP p=true then dmL p (fin p).1 else []
def errP (p:List Gl):Int:=if isP p=true then 0 else 40
theorem p11 (p:List Gl) (hp:Few p):PureC Tryz.prog 11 [.list 6 .none (p.map Gl.av)] (.tup [.list 3 .none (resP p),.int .i64 (errP p)]):=by
 refine PureC.intro fun s => fun_sound mixed Tryz.func11 Tryz.call11 k11.2 rfl (awpFun_go _ _ _ _ ?_)
 have h36:=p36 p hp
 unfold resP errP
 cases hi:isP p with
 | false =>
  rw [hi] at h36
  simp -implicitDefEqProofs (disch:=first|omega|simp only[nx4]<;>omega|fail) [k11]
  refine go_pure h36 fun mm1 hm1 => ?_
  try simp only [nx4] at hm1
  simp -implicitDefEqProofs (disch:=first|omega|simp only[nx4]<;>omega|fail) [wkL]
  done
 | true =>
  rw [hi] at h36
  have h37:=p37 p (goodP hp hi)
  simp -implicitDefEqProofs (disch:=first|omega|simp only[nx4]<;>omega|fail) [k11]
  refine go_pure h36 fun mm2 hm2 => ?_
  try simp only [nx4] at hm2
  simp -implicitDefEqProofs (disch:=first|omega|simp only[nx4]<;>omega|fail) []
  refine go_pure h37 fun mm3 hm3 => ?_
  try simp only [nx4] at hm3
  simp -implicitDefEqProofs (disch:=first|omega|simp only[nx4]<;>omega|fail) []
  done
theorem p42 (x:Gl) (n:ByteArray) (o:Nat) (s:St) (ho:s.m o=some (.box [.str n])) (ho2:o < s.nx):ACalls Tryz.prog 42 [x.av,.ptr o 0] s fun r s' => r=.bool (decide (x.name=n))∧Kept s s':=by
 refine fun_sound mixed Tryz.func42 Tryz.call42 k42.2 rfl (awpFun_go _ _ _ _ ?_)
 simp -implicitDefEqProofs (disch:=first|omega|simp only[nx4]<;>omega|fail) [k42,ho]
 done
end Go.AL.Dm
