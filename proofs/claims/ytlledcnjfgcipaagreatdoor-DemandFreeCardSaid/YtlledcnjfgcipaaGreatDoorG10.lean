/- DemandFree: for every input the law returns true, and each argument reads as before. Condition: the four listed package-level variables hold what the program's text lays in them. -/
import Derived.Test.YtlledcnjfgcipaaGreatDoorG8
import Derived.Test.YtlledcnjfgcipaaGreatDoorJ46
import Derived.ProofKit
import Derived.LaidMore
import Derived.OpenShut
import Derived.Stop.Joined
import Derived.SevenTiedAt
import Derived.Test.YtlledcnjfgcipaaGreatDoorCards
import Derived.Test.YtlledcnjfgcipaaGreatDoorTie
set_option linter.unusedVariables false
set_option linter.unusedSimpArgs false
set_option maxRecDepth 100000
namespace Go.Proofs.YtlledcnjfgcipaaGreatDoor
open Go Go.Proofs Go.AL Go.AL.Dm Go.ChangeShapes Go.WideShapes Go.ChangeAt Go.ChangeMaps Go.RowKit
theorem door_met (os:Os) (args:Array Value):laidMetH Tryz.prog lv ((World.doorLaid Tryz.prog 400 os).forCall (fun _ _=>0) ⟨#[],args,[]⟩).memory :=
 laidMetH_of_parts3 (fuel:=8) (laidMet_of_run' 8 (by kernel_rfl) (by kernel_rfl)) (by kernel_rfl) (by kernel_rfl)
theorem Iy (os:Os) (started:os.Started) (H:Type) (enc:TypeId × Value→H) :
  ReturnsInHanded {} Tryz.checked os 7 .any (fun w args=>(Rows.demandFreeSpec.pre enc Tryz.prog Tryz.f7 [] false w args∧laidMetH Tryz.prog lv w)∧sizedMet enc Tryz.prog Tryz.f7 (OpenSpec.ofChange Rows.demandFreeSpec) false w args)
   (Rows.demandFreeSpec.post enc Tryz.prog Tryz.f7 false true false false):=by
 refine returnsInHanded_of_change_and (C:=Tryz.checked) (X:=fun w _=>laidMetH Tryz.prog lv w) (fun _ _ _ hh h=>h.of_heap hh) Go.AL.Dm.own started (by kernel_rfl) Tryz.func7
  (ChangeSpec.witness_shaped (enc:=enc) (C:=Tryz.checked) (os:=os) (X:=fun w _=>laidMetH Tryz.prog lv w) false (World.doorLaid Tryz.prog 400 os) #[.slice none 0 0,.agg #[.int .i64 0,.int .i64 0,.string ⟨#[]⟩,.slice none 0 0,.slice none 0 0],.slice none 0 0,.int .i64 0] 8 rfl (World.shaped_of_RefB (by kernel_rfl) (by kernel_rfl)) (by kernel_rfl) (by kernel_rfl) (by kernel_rfl) (door_met os _)) ?_
 intro W base args ds gs before hval0 hW _ _ hL _
 have hval:∀ (j:Nat) t v,Tryz.f7.params[j]?=some t→args[j]?=some v→Value.okWide Tryz.prog W .any base t v:=hval0
 have hW':=hW
 obtain⟨p,q,hA0,hV,rfl,_,_⟩:=hW
 have hA:DataW.TrodAll enc Tryz.prog W 0 (fun _=>true) true Tryz.f7.params.toList args.toList ds p:=hA0
 rw [Tryz.params7]at hA hval
 obtain⟨v0,v1,v2,v3,d0,d1,d2,d3,p0,p1,p2,p3,rfl,rfl,rfl,h0,h1,h2,h3⟩:=trodAll_four hA
 obtain⟨rfl,rfl⟩:=trodVars_none hV
 clear hA0 hval0
 simp only [List.append_nil]at hW'
 have hlt:∀ x∈p0++p1++p2++p3,x.block < W.heap.size:=fun x hx=>by simpa using hW'.lt x hx
 obtain⟨l0,r0,hr0⟩:=Ue h0 (hval 0 22 v0 rfl rfl)
 obtain⟨l1,r1,hr1⟩:=Uf h1 (hval 1 27 v1 rfl rfl)
 obtain⟨l2,r2,hr2⟩:=Rr h2 (hval 2 23 v2 rfl rfl)
 obtain⟨i3,e3,_,_,_⟩:=open_int Tryz.underlying3 (hval 3 3 v3 rfl rfl) h3
 have hr:Bs ι0 F0 W #[v0,v1,v2,v3] [.list 6 .none (l0.map Gl.av),l1.av,.list 5 .none (l2.map Pl.av),.int .i64 i3]:=by
  refine⟨rfl,fun j v x hv hx=>?_⟩
  match j with
  | 0=>simp at hv hx;subst hv;subst hx;exact r0
  | 1=>simp at hv hx;subst hv;subst hx;exact r1
  | 2=>simp at hv hx;subst hv;subst hx;exact r2
  | 3=>simp at hv hx;subst hv;subst hx;rw [e3];exact .int _ _
  | _+4=>simp at hv
 refine(Ud (Go.AL.Dm.p7 l0 l1 l2 i3 hr0 hr1 hr2) (Zc hL) hr).mono fun e W' ⟨he,hn⟩=>?_
 subst he
 have a0:=Below.trod Go.AL.Dm.laidOut (by kernel_rfl) (of_decide_eq_true (by kernel_rfl)) h0 hn fun x hx=>hlt x (by simp [hx])
 have a1:=Below.trod Go.AL.Dm.laidOut (by kernel_rfl) (of_decide_eq_true (by kernel_rfl)) h1 hn fun x hx=>hlt x (by simp [hx])
 have a2:=Below.trod Go.AL.Dm.laidOut (by kernel_rfl) (of_decide_eq_true (by kernel_rfl)) h2 hn fun x hx=>hlt x (by simp [hx])
 have a3:=Below.trod Go.AL.Dm.laidOut (by kernel_rfl) (of_decide_eq_true (by kernel_rfl)) h3 hn fun x hx=>hlt x (by simp [hx])
 exact⟨_,rfl,_,_,_,[],(p0++p1++p2++p3),[],hW',trodAll_mk1 (shut_bool Tryz.underlying4 _),(by simp only [List.append_assoc];exact trodAll_mk4 a0 a1 a2 a3),rfl,hn.frame _,fun h=>by cases h⟩
theorem demandFree_holds:Rows.DemandFreeSaid :=
 OpenClaim.holds_of_wide 7 Tryz.f7 rfl rfl rfl rfl rfl rfl rfl ⟨rfl,rfl,rfl,rfl,rfl⟩ rfl rfl rfl rfl rfl (by kernel_rfl) Tryz.func7 (by kernel_rfl)
  (of_decide_eq_true (by kernel_rfl)) (by unfold Func.isWrapper;first | (rw [if_pos (by decide +kernel)];kernel_rfl) | (rw [if_neg (by decide +kernel)];exact⟨rfl,rfl⟩))
  (fun os started H enc _=>Iy os started H enc)
theorem demandFreeCard_holds:Rows.DemandFreeCardSaid :=
 Claim7.holds_tied_plain_at .later [] [.data,.mapped,.mapped,.mapped] true (true, "043ba6a4c75d702cc0efbbb3f5b0dca11f21b7fdfd689719f5dd10ae4c69f528") false
  demandFree_holds (fun _ h=>by cases h) (by kernel_rfl) (fun _ h=>by cases h) demandFree_row_tie rfl ⟨rfl,rfl⟩ (by kernel_rfl) rfl
  (fun f fn hf hfn=>by
   obtain rfl:f=7:=Option.some.inj ((show Tryz.prog.funcNamed "damask/damasklaw18.DemandFree" = some 7 by kernel_rfl).symm.trans hf) |>.symm
   obtain rfl:fn=Tryz.f7:=(Option.some.inj (Tryz.func7.symm.trans hfn)).symm
   exact⟨by kernel_rfl,fun j t ht=>by
    rw [Tryz.params7]at ht
    have hm:t∈[22,27,23,3]:=by simpa using Array.mem_of_getElem? ht
    have hall:([22,27,23,3].all fun u=>!Tryz.prog.wantsStandIn u)=true:=by kernel_rfl
    exact(show Tryz.prog.wantsStandIn t=false by simpa using List.all_eq_true.1 hall t hm)⟩)
  (by kernel_rfl)
end Go.Proofs.YtlledcnjfgcipaaGreatDoor
