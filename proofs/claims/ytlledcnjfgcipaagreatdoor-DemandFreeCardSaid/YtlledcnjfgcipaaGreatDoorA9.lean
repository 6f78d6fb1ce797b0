/- The abstract layer: maps. -/
import Derived.Test.YtlledcnjfgcipaaGreatDoorA8
import Derived.MapKept
import Derived.DeepKeys
import Derived.Lib.SliceRun
import Derived.Laws.Cover3
import Derived.Laws.StructEq
set_option linter.unusedVariables false
set_option linter.unusedSimpArgs false
namespace Go.AL
variable {ι ι':Nat→Option Nat} {S S':AX} {F:Nat→Nat→Prop} {w w':World} {P:Program}
def CP (str:Bool):TypeDesc:=if str then .string else .int .i64
theorem isKey {str:Bool} {k:AV} {v:Value} (h:Rep ι F w v k) (hk:Bf str k):MapKept.IsKey (CP str) v:=by
 unfold Bf at hk
 split at hk
 ·cases h;subst hk;exact rfl
 ·cases h;subst hk;trivial
 ·exact hk.elim
theorem Hb (a b:ByteArray):(a == b)=decide (a=b):=by
 cases a with | mk a=>cases b with | mk b =>
 show (a == b)=_
 by_cases h:a=b
 ·subst h;simp
 ·simp [h]
theorem SG [Glob] {str:Bool} {k k':AV} {v v':Value} (h:Rep ι F w v k) (h':Rep ι F w v' k') (hk:Bf str k) {b:Bool} (hq:keq k k'=some b):Instr.sameNow (CP str) v v'=some b:=by
 unfold Bf at hk
 split at hk
 ·subst hk
  cases h
  cases k' <;> simp only [keq]at hq <;> try (cases hq;done)
  cases h'
  split at hq
  ·rename_i e
   cases hq
   subst e
   rename_i x y
   by_cases h:x=y <;> simp [Instr.sameNow,CP,h]
  ·cases hq
 ·subst hk
  cases h
  cases k' <;> simp only [keq]at hq <;> try (cases hq;done)
  cases h'
  cases hq
  simp [Instr.sameNow,CP,Hb]
 ·exact hk.elim
theorem Qy {k k':AV} {v v':Value} (h:Rep ι F w v k) (h':Rep ι F w v' k') (hq:keq k k'=some true):v'=v:=by
 cases k <;> cases k' <;> simp only [keq]at hq <;> try (cases hq;done)
 ·cases h;cases h'
  split at hq
  ·rename_i e
   simp at hq
   rw [e,hq]
  ·cases hq
 ·cases h;cases h'
  simp at hq
  rw [hq]
theorem JM [Glob] {str:Bool} {k:AV} {v:Value} (hv:Rep ι F w v k) (hk:Bf str k):∀ (es:List (Nat × AV × AV)) (ces:List MapEntry) (i:Nat),ces.length=es.length →
  (∀ (j:Nat) (e:MapEntry) p,ces[j]?=some e→es[j]?=some p→Rep ι F w e.key p.2.1)→∀ r,BL k es i=some r →
  (match r with | none=>Instr.findNow (CP str) v ces i=some none | some j=>i≤j∧j - i < es.length∧∃ e,ces[j - i]?=some e∧e.key=v∧Instr.findNow (CP str) v ces i=some (some (j,e.val))):=by
 intro es
 induction es with
 | nil =>
  intro ces i hl _ r hr
  simp [BL]at hr
  subst hr
  have:ces=[]:=List.length_eq_zero_iff.1 (by simpa using hl)
  subst this
  rfl
 | cons p es ih =>
  intro ces i hl hrep r hr
  cases ces with
  | nil=>simp at hl
  | cons e ces =>
   have h0:=hrep 0 e p rfl rfl
   simp only [BL]at hr
   split at hr
   ·rename_i hq
    cases hr
    have:=SG hv h0 hk hq
    exact⟨Nat.le_refl _,by simp,e,by simp,Qy hv h0 hq,by simp [Instr.findNow,this]⟩
   ·rename_i hq
    have hs:=SG hv h0 hk hq
    have:=ih ces (i+1) (by simpa using hl) (fun j e' p' h1 h2=>hrep (j+1) e' p' (by simpa using h1) (by simpa using h2)) r hr
    cases r with
    | none=>simp only at this ⊢;simp [Instr.findNow,hs,this]
    | some j =>
     obtain⟨h1,h2,e',h3,h3',h4⟩:=this
     refine⟨by omega,by simp;omega,e',?_,h3',by simp [Instr.findNow,hs,h4]⟩
     have:j - i=(j - (i+1))+1:=by omega
     rw [this];simpa using h3
   ·cases hr
theorem EX [Glob] (hwf:WF ι S w) {o b clock:Nat} {es:List (Nat × AV × AV)} (ho:S o=some (.map es clock)) (hb:ι o=some b) :
  ∃ ces,w.heap[b]?=some (.map ces clock)∧ces.size=es.length∧∀ (j:Nat) (e:MapEntry) p,ces[j]?=some e→es[j]?=some p→e.born=p.1∧Rep ι (AZ ι S) w e.key p.2.1∧Rep ι (AZ ι S) w e.val p.2.2 :=
 hwf.rep o _ b ho hb
theorem K1 [Glob] (hwf:WF ι S w) {o b clock:Nat} {es:List (Nat × AV × AV)} (ho:S o=some (.map es clock)) (hb:ι o=some b) {str:Bool} {k:AV} {v:Value} (hv:Rep ι (AZ ι S) w v k) (hk:Bf str k) {kt:TypeId}
  (hd:P.underlying kt=some (CP str)) {r:Option Nat} (hr:BL k es 0=some r) {ces:Array MapEntry} (hh:w.heap[b]?=some (.map ces clock)) :
  (match r with | none=>(Instr.findKey kt v ces.toList).run P w=.ok none w | some j=>j < es.length∧∃ e,ces[j]?=some e∧e.key=v∧(Instr.findKey kt v ces.toList).run P w=.ok (some (j,e.val)) w):=by
 obtain⟨ces',h1,h2,h3⟩:=EX hwf ho hb
 rw [hh]at h1
 cases h1
 have:=JM hv hk es ces.toList 0 (by simpa using h2) (fun j e p he hp=>(h3 j e p (by simpa using he) hp).2.1) r hr
 cases r with
 | none=>exact MapKept.run_findKey hd this
 | some j =>
  obtain⟨_,h5,e,h6,h6',h7⟩:=this
  exact⟨by simpa using h5,e,by simpa using h6,h6',MapKept.run_findKey hd h7⟩
theorem DW {v:Value} {o:Nat} (h:Rep ι F w v (.map o)):∃ b,ι o=some b∧v=.map (some b):=by cases h with | map h=>exact⟨_,h,rfl⟩
theorem GI {v:Value} (h:Rep ι F w v .Ad):v=.map none:=by cases h;rfl
theorem Eu {ok agg:Bool} {zs:List AV} {z:Value} {i:TypeInfo} (hz:Bs ι F w z.cells zs) (hz1:∀ (j:Nat) v,z.cells[j]?=some v→v.oneCell'=true)
  (hagg:(agg=true∧∃ cs,z=.agg cs)∨(agg=false∧z.oneCell'=true)) {v:Option AV} {cv:Value} (hv:match v with | some x=>Rep ι F w cv x | none=>cv=z) :
  Rep ι F w (if ok then .tuple #[cv,.bool v.isSome]else cv) (A2 ok zs agg v):=by
 have hx:Rep ι F w cv (v.getD (if agg=true then .agg zs else zs.headD .any)):=by
  cases v with
  | some x=>exact hv
  | none =>
   simp only at hv
   subst hv
   simp only [Option.getD_none]
   rcases hagg with ⟨rfl,cs,rfl⟩ | ⟨rfl,h1⟩
   ·exact .agg hz.1 hz1 hz.2
   ·rw [Value.Ge h1]at hz
    match zs,hz with
    | [x],hz=>exact hz.2 0 _ x rfl rfl
    | [],hz=>simp;exact .any _
    | _::_::_,hz=>have:=hz.1;simp at this
 unfold A2
 dsimp only
 generalize v.getD (if agg=true then AV.agg zs else zs.headD .any)=x at hx
 cases ok with
 | false=>exact hx
 | true =>
  refine .tup rfl fun j u y hu hy=>?_
  cases j with
  | zero=>simp at hu hy;subst hu hy;exact hx
  | succ j =>
   cases j with
   | zero=>simp at hu hy;subst hu hy;exact .bool _
   | succ j=>simp at hu
theorem CI (es:Array MapEntry) (c:Nat):ID (.map es c):=fun _ _ _ h=>by cases h
theorem EY (m:Option Nat) (a:Nat) (b:Array Nat) (c:Nat):ID (.mapIter m a b c):=fun _ _ _ h=>by cases h
theorem PC [Glob] (hwf:WF ι S w) {n:Nat} (hι:ι n=none):Step ι S w (An ι n w.heap.size) (Au S n (.map [] 0)) (w.alloc (.map #[] 0))∧WF (An ι n w.heap.size) (Au S n (.map [] 0)) (w.alloc (.map #[] 0)) :=
 ⟨A8 hwf hι _ _,Bo hwf hι _ _ ⟨#[],BH w _,rfl,fun j e p he=>by simp at he⟩⟩
theorem PD [Glob] (hwf:WF ι S w) {n:Nat} (hι:ι n=none) {o b since:Nat} (hb:ι o=some b):Step ι S w (An ι n w.heap.size) (Au S n (.iter (some o) since [] since)) (w.alloc (.mapIter (some b) since #[] since)) ∧
  WF (An ι n w.heap.size) (Au S n (.iter (some o) since [] since)) (w.alloc (.mapIter (some b) since #[] since)) :=
 ⟨A8 hwf hι _ _,Bo hwf hι _ _ ⟨some b,BH w _,b,IN hι _ _ hb,rfl⟩⟩
theorem KG [Glob] (hwf:WF ι S w) {n:Nat} (hι:ι n=none):Step ι S w (An ι n w.heap.size) (Au S n (.iter none 0 [] 0)) (w.alloc (.mapIter none 0 #[] 0)) ∧
  WF (An ι n w.heap.size) (Au S n (.iter none 0 [] 0)) (w.alloc (.mapIter none 0 #[] 0)) :=
 ⟨A8 hwf hι _ _,Bo hwf hι _ _ ⟨none,BH w _,rfl⟩⟩
theorem L6 [Glob] (hwf:WF ι S w) {n:Nat} (hι:ι n=none) {v:Value} {es:List (AV × AV)} (hv:Rep ι (AZ ι S) w v (.Bp es)):∃ b ces,v=.map (some b)∧w.heap[b]?=some (.map ces ces.size) ∧
  Step ι S w (An ι n w.heap.size) (Au S n (.CU es [])) (w.alloc (.mapIter (some b) ces.size #[] ces.size))∧WF (An ι n w.heap.size) (Au S n (.CU es [])) (w.alloc (.mapIter (some b) ces.size #[] ces.size)):=by
 cases hv with
 | @Bp b ces _ σ h hf hsz hσ hinj hsur hborn hnd hk hvv =>
  have hst:=A8 hwf hι (.mapIter (some b) ces.size #[] ces.size) (.CU es [])
  have hlt:=(Array.getElem?_eq_some_iff.1 h).1
  refine⟨b,ces,rfl,h,hst,Bo hwf hι _ _ ⟨b,ces,σ,[],BH w _,(C3 w _ hlt).trans h,fun off h'=>hf off (hst.IL b off hlt h'),hsz,hσ,hinj,hsur,hborn,fun j e p he hp=>⟨(hk j e p he hp).step hst,(hvv j e p he hp).step hst⟩,rfl,by simp⟩⟩
theorem NM [Glob] {str:Bool} {k:AV} {v:Value} (hv:Rep ι F w v k) (hk:Bf str k):Instr.sameBits 10000 v v=true:=by
 unfold Bf at hk
 split at hk
 ·cases hv;simp [Instr.sameBits]
 ·cases hv;simp [Instr.sameBits,Hb]
 ·exact hk.elim
theorem IV [Glob] (hwf:WF ι S w) {o b clock:Nat} {es:List (Nat × AV × AV)} (ho:S o=some (.map es clock)) (hb:ι o=some b) {str:Bool} {k x:AV} {kv xv:Value} (hv:Rep ι (AZ ι S) w kv k) (hk:Bf str k) (hx:Rep ι (AZ ι S) w xv x)
  {t kt et:TypeId} (ht:P.underlying t=some (.map kt et)) (hd:P.underlying kt=some (CP str)) {r:Option Nat} (hr:BL k es 0=some r) :
  ∃ w',(Instr.mapUpdate t (.map (some b)) kv xv).run P w=.ok () w' ∧
   Step ι S w ι (Au S o (Hn es clock k x r)) w' ∧
   WF ι (Au S o (Hn es clock k x r)) w':=by
 obtain⟨ces,h1,h2,h3⟩:=EX hwf ho hb
 have hf:=K1 (P:=P) hwf ho hb hv hk hd hr h1
 have hck:=MapKept.run_checkKey (P:=P) (w:=w) hd (isKey hv hk) false 9999
 cases r with
 | none =>
  refine⟨EJ w b (.map (ces.push { key:=kv,val:=xv,born:=clock }) (clock+1)),?_,GA hwf ho hb h1 (CI _ _) (CI _ _) (fun _=>trivial) fun hR hh=>⟨_,hh,by simp [h2],fun j e p he hp=>?_⟩⟩
  ·simp only at hf
   simp [Instr.mapUpdate,run_underlying ht,MapKept.run_getObj_map h1,hck,hf,MapKept.run_setObj_map _ h1,EJ]
  ·rw [Array.getElem?_push]at he
   split at he
   ·rename_i hj
    cases he
    rw [hj,h2]at hp
    simp at hp
    subst hp
    exact⟨rfl,hR _ _ hv,hR _ _ hx⟩
   ·rename_i hj
    have hjl:j < es.length:=by rw [← h2];have:=(Array.getElem?_eq_some_iff.1 he).1;omega
    rw [List.getElem?_append_left hjl]at hp
    obtain⟨q1,q2,q3⟩:=h3 j e p he hp
    exact⟨q1,hR _ _ q2,hR _ _ q3⟩
 | some i =>
  obtain⟨hi,e0,he0,hkey,hf⟩:=hf
  refine⟨EJ w b (.map (ces.modify i fun e=>{ e with key:=kv,val:=xv }) clock),?_,GA hwf ho hb h1 (CI _ _) (CI _ _) (fun _=>trivial) fun hR hh=>⟨_,hh,by simp [h2],fun j e p he hp=>?_⟩⟩
  ·have hkt:(Instr.keyThatStays kv kv).run P w=.ok kv w:=by simp [Instr.keyThatStays,NM hv hk]
   simp [Instr.mapUpdate,run_underlying ht,MapKept.run_getObj_map h1,hck,hf,he0,hkey,hkt,MapKept.run_setObj_map _ h1,EJ]
  ·rw [Array.getElem?_modify]at he
   rw [List.getElem?_modify]at hp
   cases hp1:es[j]? with
   | none=>rw [hp1]at hp;cases hp
   | some p1 =>
   rw [hp1]at hp
   simp only [Option.map_eq_map,Option.map_some,Option.some.injEq]at hp
   by_cases hij:i=j
   ·subst hij
    simp only [if_true,Option.map_eq_some_iff]at he hp
    obtain⟨e1,he1,rfl⟩:=he
    subst hp
    exact⟨(h3 i e1 p1 he1 hp1).1,hR _ _ hv,hR _ _ hx⟩
   ·simp only [hij,if_false]at he hp
    subst hp
    obtain⟨q1,q2,q3⟩:=h3 j e p1 he hp1
    exact⟨q1,hR _ _ q2,hR _ _ q3⟩
theorem NN [Glob] (hwf:WF ι S w) {o b clock:Nat} {es:List (Nat × AV × AV)} (ho:S o=some (.map es clock)) (hb:ι o=some b) {str:Bool} {k:AV} {kv:Value} (hv:Rep ι (AZ ι S) w kv k) (hk:Bf str k)
  {t kt et rt:TypeId} {tys:Array TypeId} (ht0:tys[0]?=some t) (ht:P.underlying t=some (.map kt et)) (hd:P.underlying kt=some (CP str)) {r:Option Nat} (hr:BL k es 0=some r) :
  ∃ w',(Builtin.delete_ tys rt #[.map (some b),kv]).run P w=.ok (.tuple #[]) w' ∧
   Step ι S w ι (Au S o (M7 es clock r)) w'∧WF ι (Au S o (M7 es clock r)) w':=by
 obtain⟨ces,h1,h2,h3⟩:=EX hwf ho hb
 have hf:=K1 (P:=P) hwf ho hb hv hk hd hr h1
 have hck:=fun em=>MapKept.run_checkKey (P:=P) (w:=w) hd (isKey hv hk) em 9999
 have h0:(0:Nat) < tys.size:=(Array.getElem?_eq_some_iff.1 ht0).1
 have ht0':tys[0]=t:=(Array.getElem?_eq_some_iff.1 ht0).2
 cases r with
 | none =>
  refine⟨EJ w b (.map ces clock),?_,GA hwf ho hb h1 (CI _ _) (CI _ _) (fun _=>trivial) fun hR hh=>⟨_,hh,h2,fun j e p he hp=>?_⟩⟩
  ·simp only at hf
   simp [Builtin.delete_,ht0,ht0',h0,run_underlying ht,MapKept.run_getObj_map h1,hck,hf,MapKept.run_setObj_map _ h1,EJ]
  ·obtain⟨q1,q2,q3⟩:=h3 j e p he hp
   exact⟨q1,hR _ _ q2,hR _ _ q3⟩
 | some i =>
  obtain⟨hi,e0,he0,hkey,hf⟩:=hf
  have hi':i < ces.size:=by omega
  refine⟨EJ w b (.map (ces.eraseIdxIfInBounds i) clock),?_,GA hwf ho hb h1 (CI _ _) (CI _ _) (fun _=>trivial) fun hR hh=>⟨_,hh,?_,fun j e p he hp=>?_⟩⟩
  ·simp [Builtin.delete_,ht0,ht0',h0,run_underlying ht,MapKept.run_getObj_map h1,hck,hf,MapKept.run_setObj_map _ h1,EJ]
  ·simp [Array.eraseIdxIfInBounds,hi',List.length_eraseIdx,hi,h2]
  ·have he':(ces.toList.eraseIdx i)[j]?=some e:=by
    have:(ces.eraseIdxIfInBounds i).toList=ces.toList.eraseIdx i:=by simp [Array.eraseIdxIfInBounds,hi']
    rw [← this,Array.getElem?_toList]
    exact he
   rw [List.getElem?_eraseIdx]at he' hp
   split at he'
   ·rename_i hlt
    rw [if_pos hlt]at hp
    obtain⟨q1,q2,q3⟩:=h3 j e p (by simpa using he') hp
    exact⟨q1,hR _ _ q2,hR _ _ q3⟩
   ·rename_i hlt
    rw [if_neg hlt]at hp
    obtain⟨q1,q2,q3⟩:=h3 (j+1) e p (by simpa using he') hp
    exact⟨q1,hR _ _ q2,hR _ _ q3⟩
theorem Qz [Glob] {str:Bool} {k:AV} {kv:Value} (hv:Rep ι F w kv k) (hk:Bf str k) {t kt et rt:TypeId} {tys:Array TypeId} (ht0:tys[0]?=some t) (ht:P.underlying t=some (.map kt et)) (hd:P.underlying kt=some (CP str)) :
  (Builtin.delete_ tys rt #[.map none,kv]).run P w=.ok (.tuple #[]) w:=by
 have hck:=fun em=>MapKept.run_checkKey (P:=P) (w:=w) hd (isKey hv hk) em 9999
 have h0:(0:Nat) < tys.size:=(Array.getElem?_eq_some_iff.1 ht0).1
 have ht0':tys[0]=t:=(Array.getElem?_eq_some_iff.1 ht0).2
 simp [Builtin.delete_,ht0,ht0',h0,run_underlying ht,hck]
theorem NO [Glob] (hwf:WF ι S w) {o b clock:Nat} {es:List (Nat × AV × AV)} (ho:S o=some (.map es clock)) (hb:ι o=some b) {str:Bool} {k:AV} {kv:Value} (hv:Rep ι (AZ ι S) w kv k) (hk:Bf str k)
  {t kt et:TypeId} (ht:P.underlying t=some (.map kt et)) (hd:P.underlying kt=some (CP str)) {r:Option Nat} (hr:BL k es 0=some r) {ok agg:Bool} {zs:List AV} (hz:Ca P et=some zs) (ha:L5 P et=some agg) :
  ∃ cv,(Instr.lookup t (.map (some b)) kv ok).run P w=.ok cv w∧Rep ι (AZ ι S) w cv (A2 ok zs agg (r.bind fun i=>(es[i]?).map (·.2.2))):=by
 obtain⟨ces,h1,h2,h3⟩:=EX hwf ho hb
 have hf:=K1 (P:=P) hwf ho hb hv hk hd hr h1
 have hck:=fun em=>MapKept.run_checkKey (P:=P) (w:=w) hd (isKey hv hk) em 9999
 obtain⟨i,z,hi,hiz,hzr,hz1,hzv,_⟩:=Br (ι:=ι) (F:=AZ ι S) (w:=w) hz
 have hag:(agg=true∧∃ cs,z=.agg cs)∨(agg=false∧z.oneCell'=true):=by
  simp only [L5,hi,hiz,Option.bind_some,Option.map_some,Option.some.injEq]at ha
  cases z <;> simp at ha <;> subst ha <;> first | exact .inl ⟨rfl,_,rfl⟩ | exact .inr ⟨rfl,hz1 0 _ rfl⟩
 cases r with
 | none =>
  refine⟨_,?_,Eu (i:=i) (cv:=z) (v:=none) hzr hz1 hag rfl⟩
  simp only at hf
  simp [Instr.lookup,run_underlying ht,MapKept.run_getObj_map h1,hck,hf,hzv]
 | some j =>
  obtain⟨hj,e0,he0,hkey,hf⟩:=hf
  have hp:es[j]?=some es[j]:=by simp [hj]
  have e1:((some j).bind fun i=>(es[i]?).map (·.2.2))=some es[j].2.2:=by simp [hp]
  rw [e1]
  refine⟨_,?_,Eu (i:=i) (cv:=e0.val) (v:=some es[j].2.2) hzr hz1 hag (h3 j e0 _ he0 hp).2.2⟩
  simp [Instr.lookup,run_underlying ht,MapKept.run_getObj_map h1,hck,hf,hzv]
theorem lookup_nil [Glob] {str:Bool} {k:AV} {kv:Value} (hv:Rep ι F w kv k) (hk:Bf str k)
  {t kt et:TypeId} (ht:P.underlying t=some (.map kt et)) (hd:P.underlying kt=some (CP str)) {ok agg:Bool} {zs:List AV} (hz:Ca P et=some zs) (ha:L5 P et=some agg) :
  ∃ cv,(Instr.lookup t (.map none) kv ok).run P w=.ok cv w∧Rep ι F w cv (A2 ok zs agg none):=by
 have hck:=fun em=>MapKept.run_checkKey (P:=P) (w:=w) hd (isKey hv hk) em 9999
 obtain⟨i,z,hi,hiz,hzr,hz1,hzv,_⟩:=Br (ι:=ι) (F:=F) (w:=w) hz
 have hag:(agg=true∧∃ cs,z=.agg cs)∨(agg=false∧z.oneCell'=true):=by
  simp only [L5,hi,hiz,Option.bind_some,Option.map_some,Option.some.injEq]at ha
  cases z <;> simp at ha <;> subst ha <;> first | exact .inl ⟨rfl,_,rfl⟩ | exact .inr ⟨rfl,hz1 0 _ rfl⟩
 refine⟨_,?_,Eu (i:=i) (cv:=z) (v:=none) hzr hz1 hag rfl⟩
 have hf:(Instr.findKey kt kv []).run P w=.ok none w:=MapKept.run_findKey hd rfl
 simp [Instr.lookup,run_underlying ht,hck,hf,hzv]
theorem UJ [Glob] {v:Value} {x:AV} (h:O6 v=some x):Rep ι F w v x:=by
 unfold O6 at h
 split at h
 ·rename_i cs
  simp only [Option.map_eq_some_iff]at h
  obtain⟨l,hl,rfl⟩:=h
  obtain⟨h1,h2⟩:=O7 hl
  have hg:∀ (j:Nat) v,cs[j]?=some v→∃ x,l[j]?=some x∧A9 v=some x:=by
   intro j v hv
   have hj:j < l.length:=by rw [← h1];simpa using (Array.getElem?_eq_some_iff.1 hv).1
   exact⟨l[j],by simp,h2 j v _ (by simpa using hv) (by simp)⟩
  refine .agg (by simpa using h1) (fun j v hv=>?_) fun j v x hv hx=>Ck v (h2 j v x (by simpa using hv) hx)
  obtain⟨x,_,hx⟩:=hg j v hv
  exact IP v hx
 ·exact Ck v h
theorem Hp {k:AV}:∀ (es:List (Value × Value)) (r:Option AV),DU k es=some r→(∀ p∈es,∃ y b,A9 p.1=some y∧keq k y=some b) ∧
  (r=none→∀ p∈es,∀ y,A9 p.1=some y→keq k y=some false)∧∀ x,r=some x→∃ p∈es,∃ y,A9 p.1=some y∧keq k y=some true∧O6 p.2=some x
 | [],r,h=>by simp [DU]at h;subst h;simp
 | p::es,r,h=>by
  simp only [DU]at h
  split at h
  ·rename_i r' h1 h2
   obtain⟨y,hy,hq⟩:=Option.bind_eq_some_iff.1 h1
   obtain⟨a1,a2,a3⟩:=Hp es _ h2
   simp only [Option.map_eq_some_iff]at h
   obtain⟨x,hx,rfl⟩:=h
   refine⟨fun q hq'=>?_,fun e=>(by cases e),fun x' e=>?_⟩
   ·rcases List.mem_cons.1 hq' with rfl | hq'
    ·exact⟨y,true,hy,hq⟩
    ·exact a1 q hq'
   ·cases e
    exact⟨p,by simp,y,hy,hq,hx⟩
  ·rename_i x h1 h2
   cases h
   obtain⟨y,hy,hq⟩:=Option.bind_eq_some_iff.1 h1
   obtain⟨a1,a2,a3⟩:=Hp es _ h2
   refine⟨fun q hq'=>?_,fun e q hq' z hz=>?_,fun x' e=>?_⟩
   ·rcases List.mem_cons.1 hq' with rfl | hq'
    ·exact⟨y,false,hy,hq⟩
    ·exact a1 q hq'
   ·rcases List.mem_cons.1 hq' with rfl | hq'
    ·rw [hy]at hz;cases hz;exact hq
    ·exact a2 e q hq' z hz
   ·obtain⟨q,b1,b2⟩:=a3 x' e
    exact⟨q,by simp [b1],b2⟩
  ·cases h
theorem K2 {k:AV}:∀ (l:List MapEntry) (i:Nat),(∀ e∈l,∃ y b,A9 e.key=some y∧keq k y=some b) →
  ∃ r,BL k (l.map fun e=>(0,(A9 e.key).getD .any,(O6 e.val).getD .any)) i=some r∧(r=none→∀ e∈l,∀ y,A9 e.key=some y→keq k y=some false) ∧
   ∀ j,r=some j→i≤j∧∃ e y,l[j - i]?=some e∧A9 e.key=some y∧keq k y=some true
 | [],i,_=>⟨none,rfl,by simp,by simp⟩
 | e::l,i,h=>by
  obtain⟨y,b,hy,hq⟩:=h e (by simp)
  obtain⟨r,h1,h2,h3⟩:=K2 l (i+1) fun e he=>h e (by simp [he])
  simp only [List.map_cons,BL,hy,Option.getD_some,hq]
  cases b with
  | true=>exact⟨some i,rfl,fun e'=>(by cases e'),fun j e'=>(by cases e';exact⟨Nat.le_refl _,e,y,by simp,hy,hq⟩)⟩
  | false =>
   refine⟨r,h1,fun e' q hq' z hz=>?_,fun j e'=>?_⟩
   ·rcases List.mem_cons.1 hq' with rfl | hq'
    ·rw [hy]at hz;cases hz;exact hq
    ·exact h2 e' q hq' z hz
   ·obtain⟨k1,e2,y2,k2,k3⟩:=h3 j e'
    refine⟨by omega,e2,y2,?_,k3⟩
    rw [show j - i=(j - (i+1))+1 by omega]
    simpa using k2
theorem PE [Glob] {v:Value} {es:List (Value × Value)} (hm:Rep ι F w v (.Dc es)) {str:Bool} {k:AV} {kv:Value} (hv:Rep ι F w kv k) (hk:Bf str k)
  {t kt et:TypeId} (ht:P.underlying t=some (.map kt et)) (hd:P.underlying kt=some (CP str)) {r:Option AV} (hr:DU k es=some r) {ok agg:Bool} {zs:List AV} (hz:Ca P et=some zs) (ha:L5 P et=some agg) :
  ∃ cv,(Instr.lookup t v kv ok).run P w=.ok cv w∧Rep ι F w cv (A2 ok zs agg r):=by
 cases hm with
 | @Dc b clock ces _ h1 hf hin hout hnd =>
  obtain⟨s1,s2,s3⟩:=Hp es r hr
  have hcmp:∀ e∈ces.toList,∃ y b,A9 e.key=some y∧keq k y=some b:=by
   intro e he
   obtain⟨j,hj⟩:=List.mem_iff_getElem?.1 he
   exact s1 _ (hin j e (by simpa using hj))
  obtain⟨r',f1,f2,f3⟩:=K2 ces.toList 0 hcmp
  have hnow:=JM hv hk _ ces.toList 0 (by simp) (fun j e p he hp=>by
   rw [List.getElem?_map,he]at hp
   simp only [Option.map_some,Option.some.injEq]at hp
   subst hp
   obtain⟨y,b,hy,_⟩:=hcmp e (List.mem_of_getElem? he)
   simp only [hy,Option.getD_some]
   exact Ck _ hy) r' f1
  have hck:=fun em=>MapKept.run_checkKey (P:=P) (w:=w) hd (isKey hv hk) em 9999
  obtain⟨i,z,hi,hiz,hzr,hz1,hzv,_⟩:=Br (ι:=ι) (F:=F) (w:=w) hz
  have hag:(agg=true∧∃ cs,z=.agg cs)∨(agg=false∧z.oneCell'=true):=by
   simp only [L5,hi,hiz,Option.bind_some,Option.map_some,Option.some.injEq]at ha
   cases z <;> simp at ha <;> subst ha <;> first | exact .inl ⟨rfl,_,rfl⟩ | exact .inr ⟨rfl,hz1 0 _ rfl⟩
  cases r' with
  | none =>
   have hrn:r=none:=by
    cases r with
    | none=>rfl
    | some x =>
     exfalso
     obtain⟨p,hp,y,hy,hq,_⟩:=s3 x rfl
     obtain⟨j,e,he,hek,_⟩:=hout p hp
     have:=f2 rfl e (by simpa using List.mem_of_getElem? (l:=ces.toList) (i:=j) (by simpa using he)) y (by rw [hek];exact hy)
     rw [hq]at this;cases this
   subst hrn
   refine⟨_,?_,Eu (i:=i) (cv:=z) (v:=none) hzr hz1 hag rfl⟩
   have hfk:(Instr.findKey kt kv ces.toList).run P w=.ok none w:=MapKept.run_findKey hd hnow
   simp [Instr.lookup,run_underlying ht,MapKept.run_getObj_map h1,hck,hfk,hzv]
  | some j =>
   obtain⟨_,h5,e,h6,h6',h7⟩:=hnow
   obtain⟨_,e2,y2,g1,g2,g3⟩:=f3 j rfl
   rw [Nat.sub_zero]at h6 g1
   rw [h6]at g1
   cases g1
   have hin':=hin j e (by simpa using h6)
   have hrs:∃ x,r=some x:=by
    cases r with
    | none =>
     have:=s2 rfl _ hin' y2 g2
     rw [g3]at this;cases this
    | some x=>exact⟨x,rfl⟩
   obtain⟨x,rfl⟩:=hrs
   obtain⟨p,hp,y,hy,hq,hx⟩:=s3 x rfl
   have hpk:p.1=kv:=Qy hv (Ck p.1 hy) hq
   have hpv:=hnd p hp _ hin' (by simp only;rw [hpk,h6'])
   simp only at hpv
   rw [hpv]at hx
   refine⟨_,?_,Eu (i:=i) (cv:=e.val) (v:=some x) hzr hz1 hag (UJ hx)⟩
   have hfk:(Instr.findKey kt kv ces.toList).run P w=.ok (some (j,e.val)) w:=MapKept.run_findKey hd h7
   simp [Instr.lookup,run_underlying ht,MapKept.run_getObj_map h1,hck,hfk,hzv]
theorem Hq {k:AV}:∀ (es:List (AV × AV)) (r:Option AV),DV k es=some r→(∀ p∈es,∃ b,keq k p.1=some b) ∧
  (r=none→∀ p∈es,keq k p.1=some false)∧∀ x,r=some x→∃ p∈es,keq k p.1=some true∧p.2=x
 | [],r,h=>by simp [DV]at h;subst h;simp
 | p::es,r,h=>by
  simp only [DV]at h
  split at h
  ·rename_i r' hq h2
   obtain⟨a1,a2,a3⟩:=Hq es _ h2
   cases h
   refine⟨fun q hq'=>?_,fun e=>(by cases e),fun x' e=>?_⟩
   ·rcases List.mem_cons.1 hq' with rfl | hq'
    ·exact⟨true,hq⟩
    ·exact a1 q hq'
   ·cases e
    exact⟨p,by simp,hq,rfl⟩
  ·rename_i x hq h2
   cases h
   obtain⟨a1,a2,a3⟩:=Hq es _ h2
   refine⟨fun q hq'=>?_,fun e q hq'=>?_,fun x' e=>?_⟩
   ·rcases List.mem_cons.1 hq' with rfl | hq'
    ·exact⟨false,hq⟩
    ·exact a1 q hq'
   ·rcases List.mem_cons.1 hq' with rfl | hq'
    ·exact hq
    ·exact a2 e q hq'
   ·obtain⟨q,b1,b2⟩:=a3 x' e
    exact⟨q,by simp [b1],b2⟩
  ·cases h
theorem MJ {k:AV}:∀ (l:List (Nat × AV × AV)) (i:Nat),(∀ p∈l,∃ b,keq k p.2.1=some b) →
  ∃ r,BL k l i=some r∧(r=none→∀ p∈l,keq k p.2.1=some false)∧∀ j,r=some j→i≤j∧∃ p,l[j - i]?=some p∧keq k p.2.1=some true
 | [],i,_=>⟨none,rfl,by simp,by simp⟩
 | e::l,i,h=>by
  obtain⟨b,hq⟩:=h e (by simp)
  obtain⟨r,h1,h2,h3⟩:=MJ l (i+1) fun e he=>h e (by simp [he])
  simp only [BL,hq]
  cases b with
  | true=>exact⟨some i,rfl,fun e'=>(by cases e'),fun j e'=>(by cases e';exact⟨Nat.le_refl _,e,by simp,hq⟩)⟩
  | false =>
   refine⟨r,h1,fun e' q hq'=>?_,fun j e'=>?_⟩
   ·rcases List.mem_cons.1 hq' with rfl | hq'
    ·exact hq
    ·exact h2 e' q hq'
   ·obtain⟨k1,e2,k2,k3⟩:=h3 j e'
    refine⟨by omega,e2,?_,k3⟩
    rw [show j - i=(j - (i+1))+1 by omega]
    simpa using k2
theorem PF [Glob] {v:Value} {es:List (AV × AV)} (hm:Rep ι F w v (.Bp es)) {str:Bool} {k:AV} {kv:Value} (hv:Rep ι F w kv k) (hk:Bf str k)
  {t kt et:TypeId} (ht:P.underlying t=some (.map kt et)) (hd:P.underlying kt=some (CP str)) {r:Option AV} (hr:DV k es=some r) {ok agg:Bool} {zs:List AV} (hz:Ca P et=some zs) (ha:L5 P et=some agg) :
  ∃ cv,(Instr.lookup t v kv ok).run P w=.ok cv w∧Rep ι F w cv (A2 ok zs agg r):=by
 cases hm with
 | @Bp b ces _ σ h1 hf hsz hσ hinj hsur hborn hnd hkk hvv =>
  obtain⟨s1,s2,s3⟩:=Hq es r hr
  have hL:∀ (j:Nat),j < es.length→((List.range es.length).map fun j=>(j,es.getD (σ j) (.any,.any)))[j]?=some (j,es.getD (σ j) (.any,.any)):=by
   intro j hj;simp [hj]
  have hget:∀ j,j < es.length→es[σ j]?=some (es.getD (σ j) (.any,.any)):=by
   intro j hj;have:=hσ j hj;simp [this]
  obtain⟨r',f1,f2,f3⟩:=MJ ((List.range es.length).map fun j=>(j,es.getD (σ j) (.any,.any))) 0 (fun p hp=>by
   simp only [List.mem_map,List.mem_range]at hp
   obtain⟨j,hj,rfl⟩:=hp
   exact s1 _ (List.mem_of_getElem? (hget j hj)))
  have hnow:=JM hv hk _ ces.toList 0 (by simp [hsz]) (fun j e p he hp=>by
   have hj:j < es.length:=by
    have:=(List.getElem?_eq_some_iff.1 hp).1
    simpa using this
   rw [hL j hj]at hp
   cases hp
   exact hkk j e _ (by simpa using he) (hget j hj)) r' f1
  have hck:=fun em=>MapKept.run_checkKey (P:=P) (w:=w) hd (isKey hv hk) em 9999
  obtain⟨i,z,hi,hiz,hzr,hz1,hzv,_⟩:=Br (ι:=ι) (F:=F) (w:=w) hz
  have hag:(agg=true∧∃ cs,z=.agg cs)∨(agg=false∧z.oneCell'=true):=by
   simp only [L5,hi,hiz,Option.bind_some,Option.map_some,Option.some.injEq]at ha
   cases z <;> simp at ha <;> subst ha <;> first | exact .inl ⟨rfl,_,rfl⟩ | exact .inr ⟨rfl,hz1 0 _ rfl⟩
  cases r' with
  | none =>
   have hrn:r=none:=by
    cases r with
    | none=>rfl
    | some x =>
     exfalso
     obtain⟨p,hp,hq,_⟩:=s3 x rfl
     obtain⟨i,hi,rfl⟩:=List.mem_iff_getElem.1 hp
     obtain⟨j,hj,rfl⟩:=hsur i hi
     have:=f2 rfl _ (List.mem_of_getElem? (hL j hj))
     simp only at this
     have e:es.getD (σ j) (.any,.any)=es[σ j]:=by simp [hi]
     rw [e,hq]at this;cases this
   subst hrn
   refine⟨_,?_,Eu (i:=i) (cv:=z) (v:=none) hzr hz1 hag rfl⟩
   have hfk:(Instr.findKey kt kv ces.toList).run P w=.ok none w:=MapKept.run_findKey hd hnow
   simp [Instr.lookup,run_underlying ht,MapKept.run_getObj_map h1,hck,hfk,hzv]
  | some j =>
   obtain⟨_,h5,e,h6,h6',h7⟩:=hnow
   obtain⟨_,p2,g1,g3⟩:=f3 j rfl
   rw [Nat.sub_zero]at h6 g1 h5
   have hj:j < es.length:=by simpa using h5
   rw [hL j hj]at g1
   cases g1
   have he:ces[j]?=some e:=by simpa using h6
   have hrs:∃ x,r=some x:=by
    cases r with
    | none =>
     have:=s2 rfl _ (List.mem_of_getElem? (hget j hj))
     rw [g3]at this;cases this
    | some x=>exact⟨x,rfl⟩
   obtain⟨x,rfl⟩:=hrs
   obtain⟨p,hp,hq,hx⟩:=s3 x rfl
   obtain⟨i',hi',hpi⟩:=List.mem_iff_getElem.1 hp
   obtain⟨j',hj',rfl⟩:=hsur i' hi'
   have hjc:j' < ces.size:=by omega
   have hge:es[σ j']?=some p:=by rw [← hpi];simp [hi']
   have hek:ces[j'].key=kv:=Qy hv (hkk j' ces[j'] p (by simp [hjc]) hge) hq
   have hjj:j'=j:=hnd j' j ces[j'] e (by simp [hjc]) he (by rw [hek,h6'])
   subst hjj
   refine⟨_,?_,Eu (i:=i) (cv:=e.val) (v:=some x) hzr hz1 hag (hx ▸ hvv j' e p he hge)⟩
   have hfk:(Instr.findKey kt kv ces.toList).run P w=.ok (some (j',e.val)) w:=MapKept.run_findKey hd h7
   simp [Instr.lookup,run_underlying ht,MapKept.run_getObj_map h1,hck,hfk,hzv]
theorem CJ {kt:TypeId} {str:Bool} (h:FO P kt=some str):P.underlying kt=some (CP str):=by
 unfold FO at h
 split at h
 ·cases h;assumption
 ·cases h;assumption
 ·cases h
theorem PG {zs:List AV} {sz:Nat} (hz:zs.length=sz) (hs:0 < sz):∀ (n j:Nat) (x:AV),(List.replicate n zs).flatten[j]?=some x→j < n * sz∧zs[j % sz]?=some x:=by
 intro n
 induction n with
 | zero=>intro j x h;simp at h
 | succ n ih =>
  intro j x h
  rw [List.replicate_succ,List.flatten_cons]at h
  rw [Nat.succ_mul]
  by_cases hj:j < sz
  ·rw [List.getElem?_append_left (by omega)]at h
   rw [Nat.mod_eq_of_lt hj]
   exact⟨by omega,h⟩
  ·rw [List.getElem?_append_right (by omega)]at h
   obtain⟨h1,h2⟩:=ih _ x h
   rw [hz]at h1 h2
   refine⟨by omega,?_⟩
   have:j % sz=(j - sz) % sz:=by
    conv=>lhs;rw [show j=(j - sz)+sz by omega]
    exact Nat.add_mod_right _ _
   rw [this];exact h2
theorem VX [Glob] {z:Array Value} {zs:List AV} {sz n:Nat} (h:Bs ι F w z zs) (h1:∀ (j:Nat) v,z[j]?=some v→v.oneCell'=true) (hz:zs.length=sz) (hs:0 < sz) :
  Bs ι F w (madeCells z (n * sz)) (List.replicate n zs).flatten∧∀ (j:Nat) v,(madeCells z (n * sz))[j]?=some v→v.oneCell'=true:=by
 have hsz:z.size=sz:=h.1.trans hz
 have hget:∀ (j:Nat) v,(madeCells z (n * sz))[j]?=some v→z[j % sz]?=some v:=by
  intro j v hv
  simp only [madeCells,Array.getElem?_map,Option.map_eq_some_iff]at hv
  obtain⟨k,hk,rfl⟩:=hv
  have hkj:k=j:=by
   rw [Array.getElem?_range]at hk
   split at hk
   ·cases hk;rfl
   ·cases hk
  subst hkj
  have:k % z.size < z.size:=Nat.mod_lt _ (by omega)
  rw [← hsz,getElem!_pos z _ this]
  simp [this]
 refine⟨⟨?_,fun j v x hv hx=>?_⟩,fun j v hv=>h1 _ v (hget j v hv)⟩
 ·rw [size_madeCells];simp [hz]
 ·obtain⟨_,h3⟩:=PG hz hs n j x hx
  exact h.2 _ v x (hget j v hv) h3
end Go.AL
namespace Go.AL
variable {ι:Nat→Option Nat} {F:Nat→Nat→Prop} {w:World} {P:Program}
theorem JN:∀ {as:List AV} {bs:List Bool},Bu as=some bs→as=bs.map .bool
 | [],bs,h=>by simp [Bu]at h;subst h;rfl
 | .bool b::r,bs,h=>by
  simp only [Bu,Option.map_eq_some_iff]at h
  obtain⟨c,hc,rfl⟩:=h
  rw [JN hc];rfl
 | .int ..::r,bs,h=>by simp [Bu]at h
 | .str ..::r,bs,h=>by simp [Bu]at h
 | .list ..::r,bs,h=>by simp [Bu]at h
 | .ptr ..::r,bs,h=>by simp [Bu]at h
 | .C2::r,bs,h=>by simp [Bu]at h
 | .agg ..::r,bs,h=>by simp [Bu]at h
 | .tup ..::r,bs,h=>by simp [Bu]at h
 | .any::r,bs,h=>by simp [Bu]at h
 | .fn ..::r,bs,h=>by simp [Bu]at h
 | .Es::r,bs,h=>by simp [Bu]at h
 | .map ..::r,bs,h=>by simp [Bu]at h
 | .Ad::r,bs,h=>by simp [Bu]at h
 | .Dc ..::r,bs,h=>by simp [Bu]at h
 | .Bp ..::r,bs,h=>by simp [Bu]at h
 | .Ag ..::r,bs,h=>by simp [Bu]at h
 | .Ai ..::r,bs,h=>by simp [Bu]at h
 | .HT ..::r,bs,h=>by simp [Bu]at h
 | .yld ..::r,bs,h=>by simp [Bu]at h
@[simp] theorem AFb (bs:List Bool):Bu (bs.map AV.bool)=some bs:=by
 induction bs with
 | nil=>rfl
 | cons b r ih=>simp [Bu,ih]
theorem K3 [Glob] {vs:Array Value} {bs:List Bool} (h:Bs ι F w vs (bs.map .bool)):vs.toList=bs.map .bool:=by
 apply List.ext_getElem?
 intro j
 by_cases hj:j < bs.length
 ·obtain⟨v,hv⟩:∃ v,vs[j]?=some v:=⟨_,Array.getElem?_eq_getElem (by rw [h.1];simpa using hj)⟩
  have:=h.2 j v (.bool bs[j]) hv (by simp only [List.getElem?_map,List.getElem?_eq_getElem hj,Option.map_some])
  rw [Array.getElem?_toList,hv,List.getElem?_map,List.getElem?_eq_getElem hj,Option.map_some,CC this]
 ·have:¬ j < vs.size:=by rw [h.1];simpa using hj
  simp [Nat.not_lt.1 hj,Nat.not_lt.1 this]
theorem Hc {e:TypeId} (hu:P.underlying e=some .bool) (d:Nat) (xs ys:Array Value) (as bs:List Bool) (hx:xs.toList=as.map .bool) (hy:ys.toList=bs.map .bool) (hl:as.length=bs.length) :
  ∀ n k,k+n=as.length→(Op.eqItems (d+1) e 1 xs ys (List.range' k n)).run P w=.ok (decide (as.drop k=bs.drop k)) w
 | 0,k,hk=>by
  have e1:as.drop k=[]:=List.drop_eq_nil_of_le (by omega)
  have e2:bs.drop k=[]:=List.drop_eq_nil_of_le (by omega)
  simp [Op.eqItems,e1,e2]
 | n+1,k,hk=>by
  have h1:k < as.length:=by omega
  have h2:k < bs.length:=by omega
  have g1:xs[k]?=some (.bool as[k]):=by rw [← Array.getElem?_toList,hx];simp [h1]
  have g2:ys[k]?=some (.bool bs[k]):=by rw [← Array.getElem?_toList,hy];simp [h2]
  have hp:P.plainKey e=true:=by simp [Program.plainKey,hu]
  have ih:=Hc hu d xs ys as bs hx hy hl n (k+1) (by omega)
  rw [List.range'_succ]
  simp only [Op.eqItems,Sem.run_bind,Nat.mul_one,run_part_plain w hp g1,run_part_plain w hp g2,Result.andThen_ok,run_equalIn_bool' w d e _ _ hu]
  rw [List.drop_eq_getElem_cons h1,List.drop_eq_getElem_cons h2]
  by_cases he:as[k]=bs[k]
  ·have e1:(as[k] == bs[k])=true:=by simpa using he
   have e2:decide (as[k]::as.drop (k+1)=bs[k]::bs.drop (k+1))=decide (as.drop (k+1)=bs.drop (k+1)):=by rw [he];exact decide_eq_decide.2 ⟨fun h=>(List.cons.inj h).2,fun h=>by rw [h]⟩
   rw [e1,e2]
   simpa using ih
  ·have e1:(as[k] == bs[k])=false:=by simpa using he
   have e2:decide (as[k]::as.drop (k+1)=bs[k]::bs.drop (k+1))=false:=decide_eq_false fun h=>he (List.cons.inj h).1
   rw [e1,e2]
   rfl
theorem UK [Glob] {op:BinOp} {t:TypeId} {neg:Bool} {n:Nat} (h:VU P op t=some (neg,n)) {xs ys:Array Value} {as bs:List Bool} (hx:xs.toList=as.map .bool) (hy:ys.toList=bs.map .bool) (ha:as.length=n) (hb:bs.length=n) (x y:Operand) :
  (binOp op t (.agg xs) (.agg ys)).run P w=.ok (.bool (if neg then !decide (as=bs)else decide (as=bs))) w∧(eqGuard op t x y (.agg xs) (.agg ys)).run P w=.ok () w:=by
 unfold VU at h
 split at h
 ·rename_i m e hu
  split at h
  ·rename_i hc
   obtain⟨hue,hsz,hg⟩:=hc
   have hue:P.underlying e=some .bool:=by
    unfold AA5 at hue
    cases hd:P.underlying e with
    | none=>simp [hd]at hue
    | some d=>rw [hd]at hue;cases d <;> simp at hue;rfl
   have hi:∃ i,P.info? e=some i:=by
    unfold FL at hsz
    cases hi:P.info? e with
    | none=>simp [hi]at hsz
    | some i=>exact⟨i,rfl⟩
   obtain⟨i,hi⟩:=hi
   have hcell:P.cellsOf e=1:=by
    simp only [FL,hi,Option.map_some,Option.some.injEq]at hsz
    simp [Program.cellsOf,hi,hsz]
   have hm:m=n:=by cases op <;> simp at h <;> exact h.2
   subst hm
   have key:(Op.equalIn 10000 t (.agg xs) (.agg ys)).run P w=.ok (decide (as=bs)) w:=by
    rw [show (10000:Nat)=9998+1+1 from rfl,run_equalIn_array w (9998+1) xs ys hu hi,hcell,List.range_eq_range',Hc hue 9998 xs ys as bs hx hy (by rw [ha,hb]) m 0 (by omega)]
    simp
   refine⟨?_,run_eqGuard_agg w op t x y xs ys hg⟩
   cases op <;> simp at h
   ·obtain rfl:=h
    rw [run_eql_struct,key];rfl
   ·obtain rfl:=h
    rw [run_neq_struct,key];rfl
  ·cases h
 ·cases h
theorem Tn [Glob] {o:Op} {neg:Bool} {x:Operand} (h:R6 P o=some (neg,x)) (ρ:Operand→Value) (hρ:∀ v,ρ (.const v)=v) (oo:Oper) (ho:oo.op=o) {sz:Nat} {t:Tok} {xs:List AV} (hx:Rep ι F w (ρ x) (.list sz t xs)) :
  ∃ b:Bool,(execOp ρ oo).run P w=.ok (.value (.bool b)) w∧(xs≠[]→b=neg):=by
 obtain⟨dst,op,type,pos,after,guard⟩:=oo
 simp only at ho
 subst ho
 unfold R6 at h
 split at h
 ·rename_i op t' x' yt
  split at h
  ·rename_i e hu
   have hxx:x'=x∧((op=.eql∧neg=false)∨(op=.neq∧neg=true)):=by cases op <;> simp at h <;> simp [h]
   obtain⟨rfl,hop⟩:=hxx
   obtain⟨a,len,cap,cs,hv,k1,k2,_,_,k5,_⟩:=hx.EB
   have hne:xs≠[]→a.isNone=false:=by
    intro hxs
    cases a with
    | none =>
     have:=k5 rfl
     have:0 < xs.length:=List.length_pos_iff.2 hxs
     omega
    | some _=>rfl
   have hgd:∀ op:BinOp,(eqGuard op t' x' (.const (.slice none 0 0)) (.slice a len cap) (.slice none 0 0)).run P w=.ok () w:=by intro op;cases op <;> simp [eqGuard]
   rcases hop with ⟨rfl,rfl⟩ | ⟨rfl,rfl⟩
   ·exact⟨a.isNone,by simp [execOp,hv,hρ,hgd,Lib.run_eql_slice_nil w t' e a len cap 0 0 hu],hne⟩
   ·exact⟨!a.isNone,by simp [execOp,hv,hρ,hgd,run_neq_slice_nil w t' e a len cap hu],fun h=>by rw [hne h];rfl⟩
  ·cases h
 ·cases h
end Go.AL
namespace Go.AL
variable {ι ι':Nat→Option Nat} {S S':AX} {F:Nat→Nat→Prop} {w w':World} {P:Program}
theorem Q0 [Glob] {a:Option Addr} {len cap sz:Nat} {t:Tok} {xs:List AV} (h:Rep ι F w (.slice a len cap) (.list sz t xs)) (hsz:0 < sz) (n:Nat) (hn:n < xs.length) :
  ∃ ad,a=some ad∧ad.spot=none∧Rep ι F w (.pointer (some (ad.add (n * sz)))) (.Ai (xs.getD n .any).cells):=by
 obtain⟨_,_,_,cs,e0,k1,k2,k3,k4,k5,k6,k7⟩:=h.EB
 cases e0
 have hx:xs[n]?=some xs[n]:=by simp [hn]
 have hxl:xs[n].cells.length=sz:=k3 _ (List.getElem_mem hn)
 have hlt:∀ j,j < sz→n * sz+j < len * sz:=fun j hj=>by
  have:(n+1) * sz≤len * sz:=Nat.mul_le_mul_right _ (by omega)
  rw [Nat.succ_mul]at this
  omega
 obtain⟨ad,e1,e2,_⟩:=k6 (n * sz+0) (hlt 0 hsz)
 refine⟨ad,e1,e2,?_⟩
 rw [Bb ad e2]
 have hg:xs.getD n .any=xs[n]:=by simp [hn]
 rw [hg]
 refine .Ai (fun j=>cs (n * sz+j)) rfl (fun j hj=>?_) (fun j x hxj=>?_)
 ·obtain⟨ad',f1,f2,f3,f4,f5⟩:=k6 (n * sz+j) (hlt j (by omega))
  rw [e1]at f1
  cases f1
  exact⟨by simpa [Nat.add_assoc] using f3,by simpa [Nat.add_assoc] using f4,f5⟩
 ·have hj:j < sz:=by rw [← hxl];exact(List.getElem?_eq_some_iff.1 hxj).1
  have:=Ff k3 n j hj
  rw [hx]at this
  exact k7 _ x (by rw [this];exact hxj)
theorem GH.Ai {a:Addr} {l:List AV} (f:Nat→Nat):True:=trivial
theorem Od [Glob] {gs:List Nat} {o:Oper} {aop:AOp} (hc:AY P gs o=some aop)
  (hwf:WF ι S w) {nid:Nat} (hn:ι nid=none) (hSn:S nid=none) {ρ:Operand→Value} {α:AG→AV} (hα:∀ x y,opd gs x=some y→Rep ι (AZ ι S) w (ρ x) (α y)) (hc0:∀ v,ρ (.const v)=v)
  {obj:Option Ax} (hobj:match aop.AT α with | none=>obj=none | some q=>∃ ob,S q=some ob∧obj=some ob) {r:Res} (hev:aop.ev α nid obj=some r) (hside:aop.side α obj) :
  Qv P ρ o ι S w nid (Gq (DQ S (aop.AT α) r.upd) nid r.new) r.new.isSome r.v:=by
 obtain⟨dst,op,type,pos,after,guard⟩:=o
 have hmap:∀ {x:Operand} {f:AG→AOp},(opd gs x).map f=some aop→∃ y,opd gs x=some y∧aop=f y:=by
  intro x f h
  cases hx:opd gs x with
  | none=>simp [hx]at h
  | some y=>simp [hx]at h;exact⟨y,rfl,h.symm⟩
 cases op with
 | move x =>
  simp only [AY]at hc
  split at hc
  ·rename_i x' sz hmk
   cases hc
   simp only [AOp.ev,if_true,Option.some.injEq]at hev
   subst hev
   have hr:=hα (.const (.slice none 0 0)) (.c (.list 0 .full [])) rfl
   have hv:ρ (.const (.slice none 0 0))=.slice none 0 0:=hc0 _
   exact⟨_,.slice none 0 0,w,ι,by simp [execOp,hv],.inl rfl,CM hn S w _,hwf.HC hn _,.FN,fun q b h=>.inr h⟩
  ·rename_i x' _ _ _
   obtain⟨y,hy,rfl⟩:=hmap hc
   simp [AOp.ev]at hev;subst hev
   exact AU hwf (by simp [execOp]) (hα _ y hy)
 | assign x =>
  simp only [AY]at hc
  split at hc
  ·rename_i x' sz hmk
   cases hc
   simp only [AOp.ev,if_true,Option.some.injEq]at hev
   subst hev
   have hr:=hα (.const (.slice none 0 0)) (.c (.list 0 .full [])) rfl
   have hv:ρ (.const (.slice none 0 0))=.slice none 0 0:=hc0 _
   exact⟨_,.slice none 0 0,w,ι,by simp [execOp,hv],.inl rfl,CM hn S w _,hwf.HC hn _,.FN,fun q b h=>.inr h⟩
  ·rename_i x' _ _ _
   obtain⟨y,hy,rfl⟩:=hmap hc
   simp [AOp.ev]at hev;subst hev
   exact AU hwf (by simp [execOp]) (hα _ y hy)
 | pick c a b =>
  simp only [AY,Option.bind_eq_bind]at hc
  cases h1:opd gs c <;> cases h2:opd gs a <;> cases h3:opd gs b <;> simp [h1,h2,h3]at hc
  subst hc
  simp only [AOp.ev]at hev
  split at hev
  ·rename_i t ht
   cases hev
   have:=hα c _ h1
   rw [ht]at this
   exact AU hwf (by simp [execOp,CC this,asBool]) (VW t (hα a _ h2) (hα b _ h3))
  ·cases hev
 | alloc e =>
  simp only [AY,Option.map_eq_some_iff]at hc
  obtain⟨zs,hz,rfl⟩:=hc
  simp [AOp.ev]at hev;subst hev
  obtain⟨i,z,hi,hiz,hzr,hz1,hzv,_⟩:=Br (ι:=ι) (F:=AZ ι S) (w:=w) hz
  obtain⟨h3,h4⟩:=NH hwf hn hzr hz1 e
  exact⟨_,.pointer (some ⟨w.heap.size,0,none⟩),_,_,by simp [execOp,Instr.alloc,hzv,newVar,newRow],.inl rfl,h3,h4,.ptr 0 (by simp [An]),Et⟩
 | box e x =>
  obtain⟨y,hy,rfl⟩:=hmap hc
  simp [AOp.ev]at hev;subst hev
  obtain⟨w',h1,h2,h3⟩:=UI (P:=P) hwf hn (hα x y hy) hside e
  exact⟨_,.pointer (some ⟨w.heap.size,0,none⟩),_,_,by simp [execOp,h1],.inl rfl,h2,h3,.ptr 0 (by simp [An]),Et⟩
 | build t parts =>
  simp only [AY]at hc
  split at hc
  ·rename_i fields zs hu hz
   split at hc
   ·rename_i places hp
    simp only [Option.map_eq_some_iff]at hc
    obtain⟨ps,hps,rfl⟩:=hc
    simp [AOp.ev]at hev;subst hev
    obtain⟨k1,k2⟩:=IT hps
    have hb:=O9 (ι:=ι) (F:=AZ ι S) (w:=w) (ps:=parts.map fun(p:Nat × Operand)=>(p.1,ρ p.2)) (qs:=ps.map fun p=>(p.1,α p.2.2)) hu hz hp (by simpa using k1) (fun j p q hp' hq'=>by
     simp only [Array.getElem?_map,Option.map_eq_some_iff]at hp'
     simp only [List.getElem?_map,Option.map_eq_some_iff]at hq'
     obtain⟨p0,hp0,rfl⟩:=hp'
     obtain⟨q0,hq0,rfl⟩:=hq'
     obtain⟨e1,e2⟩:=k2 j p0 q0 (by simpa using hp0) hq0
     obtain⟨s1,s2,s3⟩:=hside q0 (List.mem_of_getElem? hq0)
     refine⟨by simp only;rw [e1,s2],hα _ _ e2,s1,by simp only;rw [s2];exact s3⟩)
    obtain⟨v,h1,h2⟩:=hb
    exact AU hwf (by simp [execOp,h1]) h2
   ·cases hc
  ·cases hc
 | buildSlice t m parts =>
  simp only [AY]at hc
  split at hc
  ·rename_i e hu
   split at hc
   ·rename_i sz agg zs ps hsz hagg hz hps
    split at hc
    ·rename_i hcond
     obtain⟨c1,c2,c3,c4⟩:=hcond
     cases hc
     simp only [AOp.ev,Option.some.injEq]at hev;subst hev
     obtain⟨k1,k2⟩:=IU hps
     obtain⟨i,hi,hisz⟩:∃ i,P.info? e=some i∧i.size=sz:=by
      unfold FL at hsz
      cases hi:P.info? e with
      | none=>simp [hi]at hsz
      | some i=>simp [hi]at hsz;exact⟨i,rfl,hsz⟩
     subst hisz
     obtain⟨_,_,_,_,_,_,_,hzc⟩:=Br (ι:=ι) (F:=AZ ι S) (w:=w) hz
     have hx0:(if agg=true then AV.agg zs else zs.headD .any).cells=zs:=by
      cases agg with
      | true=>rfl
      | false =>
       have h1:i.size=1:=by simpa using c4
       match zs,c1 with
       | [z],_=>exact(hzc z (by simp)).2
       | [],c1=>simp at c1;omega
       | _::_::_,c1=>simp at c1;omega
     have hb:=JL (P:=P) hwf (t:=t) (ps:=parts.map fun(p:Nat × Operand)=>(p.1,ρ p.2)) (qs:=ps.map fun p=>(p.1,α p.2)) hu hi hz _ hx0 c1 c2 c3 (by simpa using k1) (fun j p q hp' hq'=>by
      simp only [Array.getElem?_map,Option.map_eq_some_iff]at hp'
      simp only [List.getElem?_map,Option.map_eq_some_iff]at hq'
      obtain⟨p0,hp0,rfl⟩:=hp'
      obtain⟨q0,hq0,rfl⟩:=hq'
      obtain⟨e1,e2⟩:=k2 j p0 q0 (by simpa using hp0) hq0
      exact⟨e1,hα _ _ e2⟩) (fun q hq=>by
      simp only [List.mem_map]at hq
      obtain⟨q0,hq0,rfl⟩:=hq
      exact hside q0 hq0)
     obtain⟨v,w',h1,h2,h3,h4⟩:=hb
     exact⟨_,v,w',ι,by simp [execOp,h1],.inl rfl,h2,h3,h4,fun _ _ h=>.inr h⟩
    ·cases hc
   ·cases hc
  ·cases hc
 | load t a =>
  simp only [AY,Option.bind_eq_bind]at hc
  cases h1:FL P t <;> cases h2:Jr P t <;> cases h3:opd gs a <;> simp [h1,h2,h3]at hc
  rename_i n agg y
  subst hc
  have ha:=hα a y h3
  simp only [AOp.ev]at hev
  simp only [AOp.side]at hside
  simp only [AOp.AT]at hobj ⊢
  cases hy:α y <;> rw [hy]at ha <;> simp only [hy]at hev hside hobj ⊢ <;> try (cases hev;done)
  case ptr o off =>
   obtain⟨ob,ho,rfl⟩:=hobj
   cases ob <;> try (cases hev;done)
   rename_i cs
   obtain⟨b,hb,hv⟩:=EZ ha
   simp only [Option.map_eq_some_iff]at hev
   obtain⟨x,hx,rfl⟩:=hev
   have hcells:=(Gt (hwf.rep o _ b ho hb)).drop off
   simp only [Nat.zero_add]at hcells
   simp only at hside
   obtain⟨v,hr,hv'⟩:=Hl (P:=P) t n agg (Fe h2) (run_sizeOf h1) hcells (by simp;omega) hx
   exact AU hwf (by simp [execOp,hv,hr]) hv'
  case Ai cs =>
   obtain⟨ad,hv,hrep⟩:=K0 ha
   simp only [Option.map_eq_some_iff]at hev
   obtain⟨x,hx,rfl⟩:=hev
   obtain⟨v,hr,hv'⟩:=Hl (P:=P) t n agg (Fe h2) (run_sizeOf h1) (NF hrep) hside hx
   exact AU hwf (by simp [execOp,hv,hr]) hv'
 | store t a x =>
  simp only [AY,Option.bind_eq_bind]at hc
  cases h1:FL P t <;> cases h2:opd gs a <;> cases h3:opd gs x <;> simp [h1,h2,h3]at hc
  rename_i n y z
  subst hc
  have ha:=hα a y h2
  have hx:=hα x z h3
  simp only [AOp.ev]at hev
  simp only [AOp.side]at hside
  simp only [AOp.AT]at hobj ⊢
  cases hy:α y <;> rw [hy]at ha <;> simp only [hy]at hev hside hobj ⊢ <;> try (cases hev;done)
  case ptr o off =>
   obtain⟨ob,ho,rfl⟩:=hobj
   cases ob <;> try (cases hev;done)
   rename_i cs
   simp only [Option.some.injEq]at hev
   subst hev
   obtain⟨b,hb,hv⟩:=EZ ha
   obtain⟨s1,s2,s3⟩:=hside
   obtain⟨w',hr,hst,hwf'⟩:=UE (P:=P) hwf ho hb hx s1 s2 s3 t (run_sizeOf h1)
   refine⟨.skip,undef,w',ι,by simp [execOp,hv,hr],.inr ⟨rfl,rfl⟩,hst,hwf',?_,fun _ _ h=>.inr h⟩
   exact .tup rfl (by simp)
 | nilCheck x =>
  obtain⟨y,hy,rfl⟩:=hmap hc
  have hx:=hα x y hy
  simp only [AOp.ev]at hev
  have hval:∃ n,(execOp ρ ⟨dst,.nilCheck x,type,pos,after,guard⟩).run P w=.ok n w∧n=.value (ρ x)∧r={ v:=α y }:=by
   cases hy':α y <;> rw [hy']at hx <;> simp only [hy']at hev <;> try (cases hev;done)
   all_goals
    simp only [Option.some.injEq]at hev
    cases hxe:ρ x <;> rw [hxe]at hx <;> try (cases hx;done)
   case fn.func =>
    rename_i fn _ _
    cases fn <;> try (cases hx;done)
    exact⟨_,by simp [execOp,hxe],rfl,hev.symm⟩
   all_goals
    rename_i a
    cases a with
    | none=>cases hx
    | some a=>exact⟨_,by simp [execOp,hxe],rfl,hev.symm⟩
  obtain⟨n,h1,rfl,rfl⟩:=hval
  exact AU hwf h1 hx
 | binOp op t x y yt =>
  simp only [AY]at hc
  split at hc
  ·rename_i neg hbe
   simp only [Option.bind_eq_bind]at hc
   cases h1:opd gs x <;> cases h2:opd gs y <;> simp [h1,h2]at hc
   rename_i a b
   subst hc
   have hx:=hα x a h1
   have hy:=hα y b h2
   simp only [AOp.ev]at hev
   split at hev
   ·rename_i p q e1 e2
    cases hev
    rw [e1]at hx
    rw [e2]at hy
    have v1:=CC hx
    have v2:=CC hy
    unfold VT at hbe
    split at hbe <;> cases hbe
    ·rename_i hu
     exact AU hwf (cv:=.bool (p == q)) (by simp [execOp,v1,v2,run_eql_bool w t p q hu,eqGuard_at_bool]) (by simp only [Bool.false_eq_true,if_false];rw [show (p == q)=decide (p=q)from by cases p <;> cases q <;> rfl];exact .bool _)
    ·rename_i hu
     exact AU hwf (cv:=.bool (!(p == q))) (by simp [execOp,v1,v2,run_neq_bool w t p q hu,eqGuard_at_bool]) (by simp only [if_true];rw [show (p == q)=decide (p=q)from by cases p <;> cases q <;> rfl];exact .bool _)
   ·cases hev
  ·split at hc
   ·rename_i neg n hae
    simp only [Option.bind_eq_bind]at hc
    cases h1:opd gs x <;> cases h2:opd gs y <;> simp [h1,h2]at hc
    rename_i a b
    subst hc
    have hx:=hα x a h1
    have hy:=hα y b h2
    simp only [AOp.ev]at hev
    split at hev
    ·rename_i p q e1 e2
     rw [e1]at hx
     rw [e2]at hy
     split at hev
     ·rename_i c d e3 e4
      split at hev
      ·rename_i hn
       cases hev
       rw [JN e3]at hx
       rw [JN e4]at hy
       obtain⟨vs,hv1,hr1,_⟩:=NK hx
       obtain⟨us,hv2,hr2,_⟩:=NK hy
       obtain⟨k1,k2⟩:=UK (P:=P) (w:=w) hae (K3 hr1) (K3 hr2) hn.1 hn.2 x y
       exact AU hwf (by simp [execOp,hv1,hv2,k1,k2];rfl) (by exact .bool _)
      ·cases hev
     ·cases hev
    ·cases hev
   simp only [Option.bind_eq_bind]at hc
   cases h1:opd gs x <;> cases h2:opd gs y <;> simp [h1,h2]at hc
   rename_i a b
   subst hc
   simp only [AOp.ev,Option.map_eq_some_iff]at hev
   obtain⟨v,hv,rfl⟩:=hev
   obtain⟨cv,k1,k2,k3⟩:=UH (P:=P) (t:=t) x y (hα x a h1) (hα y b h2) hv hside
   exact AU hwf (by simp [execOp,k3,k1]) k2
 | unOp op t x =>
  simp only [AY,Option.bind_eq_bind]at hc
  cases h1:opd gs x <;> simp [h1]at hc
  rename_i a
  subst hc
  have hx:=hα x a h1
  simp only [AOp.ev]at hev
  split at hev
  ·rename_i b e
   cases hev
   rw [e]at hx
   exact AU hwf (by simp [execOp,CC hx,Op.unary]) (.bool _)
  ·rename_i k n e
   cases hev
   rw [e]at hx
   exact AU hwf (by simp [execOp,Bt hx,Op.unary,Op.intArith];rfl) (by simp;exact .int _ _)
  ·cases hev
 | convert src dst x =>
  simp only [AY]at hc
  split at hc
  ·rename_i k0 k hu1 hu2
   obtain⟨y,hy,rfl⟩:=hmap hc
   have hx:=hα x y hy
   simp only [AOp.ev]at hev
   split at hev
   ·rename_i k1 n e
    cases hev
    rw [e]at hx
    exact AU hwf (by simp [execOp,convert,run_underlying hu1,run_underlying hu2,Bt hx,Conv.intToInt]) (.int _ _)
   ·cases hev
  ·cases hc
 | makeFunc fn first captured =>
  cases fn with
  | func f =>
   simp only [AY]at hc
   obtain⟨a,b,h1,h2,rfl⟩:=PA hc
   simp [AOp.ev]at hev;subst hev
   have r1:=IE hα h1
   have r2:=IE hα h2
   exact AU hwf (by simp [execOp,Instr.makeFunc]) (.fn f r1.1 r2.1 r1.2 r2.2)
  | _=>simp [AY]at hc
 | slice t x lo hi mx =>
  simp only [AY]at hc
  split at hc
  ·rename_i e hu
   simp only [Option.bind_eq_bind]at hc
   cases h1:FL P e <;> cases h2:opd gs x <;> cases h3:Cb gs lo <;> cases h4:Cb gs hi <;> cases h5:Cb gs mx <;> simp [h1,h2,h3,h4,h5]at hc
   rename_i sz y lo' hi' mx'
   subst hc
   have hx:=hα x y h2
   simp only [AOp.ev]at hev
   simp only [AOp.side]at hside
   cases ey:α y <;> rw [ey]at hx <;> simp only [ey]at hev hside <;> try (cases hev;done)
   case list sz0 tk xs =>
    cases el:BJ (lo'.map α) <;> cases eh:BJ (hi'.map α) <;> cases em:BJ (mx'.map α) <;> simp only [el,eh,em]at hev hside <;> try (cases hev;done)
    rename_i l h m
    obtain⟨s0,s1,s2⟩:=hside
    obtain⟨a,len,cap,cs,hv,k1,k2,k3,k4,k5,k6,k7⟩:=hx.EB
    rw [hv]at hx
    simp only [Option.some.injEq]at hev
    obtain⟨lN,hN,mN,t',hb,b1,b2,b3,b4,hr,ht⟩:∃ lN hN mN t',(Instr.sliceBounds true len cap (lo.map ρ) (hi.map ρ) (mx.map ρ)).run P w=.ok (lN,hN,mN) w∧lN≤hN∧hN≤len∧hN≤mN∧mN≤cap ∧
      r={ v:=.list sz0 t' ((xs.take hN).drop lN) }∧(t'=.none∨(t'=.full∧mN=hN)):=by
     cases l with
     | none =>
      cases h with
      | none =>
       cases s2
       have hb:=DD (P:=P) (w:=w) (isSlice:=true) (len:=len) (cap:=cap) hα h3 h4 h5 el eh em trivial rfl trivial k2
       refine⟨_,_,_,tk.keep,hb,by simp,by simp,by simpa using k2,by simp,?_,?_⟩
       ·rw [← hev];simp [k1]
       ·cases tk <;> simp [Tok.keep]
        exact k4
      | some hh =>
       obtain⟨q1,q2,q3⟩:=s2
       cases m with
       | none =>
        have hb:=DD (P:=P) (w:=w) (isSlice:=true) (len:=len) (cap:=cap) hα h3 h4 h5 el eh em trivial ⟨q1,by simp;omega⟩ trivial k2
        exact⟨_,_,_,.none,hb,by simp,by simp;omega,by simp;omega,by simp,by rw [← hev];simp,.inl rfl⟩
       | some mm =>
        simp only at q3
        subst q3
        have hb:=DD (P:=P) (w:=w) (isSlice:=true) (len:=len) (cap:=cap) hα h3 h4 h5 el eh em trivial ⟨q1,by simp⟩ ⟨q1,by omega⟩ k2
        exact⟨_,_,_,_,hb,by simp,by simp;omega,by simp,by simp;omega,by rw [← hev];simp,.inr ⟨rfl,rfl⟩⟩
     | some ll =>
      cases h with
      | none =>
       cases s2
       obtain⟨p1,p2⟩:=s1
       simp only at p2
       have hb:=DD (P:=P) (w:=w) (isSlice:=true) (len:=len) (cap:=cap) hα h3 h4 h5 el eh em ⟨p1,by simp;omega⟩ rfl trivial k2
       refine⟨_,_,_,tk.keep,hb,by simp;omega,by simp,by simpa using k2,by simp,?_,?_⟩
       ·rw [← hev];simp [k1]
       ·cases tk <;> simp [Tok.keep]
        exact k4
      | some hh =>
       obtain⟨q1,q2,q3⟩:=s2
       obtain⟨p1,p2⟩:=s1
       simp only at p2
       cases m with
       | none =>
        have hb:=DD (P:=P) (w:=w) (isSlice:=true) (len:=len) (cap:=cap) hα h3 h4 h5 el eh em ⟨p1,p2⟩ ⟨q1,by simp;omega⟩ trivial k2
        exact⟨_,_,_,.none,hb,by simp;omega,by simp;omega,by simp;omega,by simp,by rw [← hev];simp,.inl rfl⟩
       | some mm =>
        simp only at q3
        subst q3
        have hb:=DD (P:=P) (w:=w) (isSlice:=true) (len:=len) (cap:=cap) hα h3 h4 h5 el eh em ⟨p1,p2⟩ ⟨q1,by simp⟩ ⟨q1,by omega⟩ k2
        exact⟨_,_,_,_,hb,by simp;omega,by simp;omega,by simp,by simp;omega,by rw [← hev];simp,.inr ⟨rfl,rfl⟩⟩
    subst hr
    have key:=Qu hx lN hN mN b1 b2 b3 b4 t' ht
    have e2:lN * sz0=lN * sz:=by
     rcases s0 with rfl | rfl
     ·rfl
     ·have:lN=0:=by simp at k1;omega
      rw [this];simp
    rw [e2]at key
    refine AU hwf (cv:=.slice (if mN=lN then a else a.map (·.add (lN * sz))) (hN - lN) (mN - lN)) ?_ key
    simp only [execOp,Instr.sliceAt,Instr.slice,hv,Sem.run_bind,run_underlying hu,Result.andThen_ok,hb,run_sizeOf h1]
    simp
  ·rename_i hu
   split at hc
   ·rename_i hmx
    simp only [Option.bind_eq_bind]at hc
    cases h2:opd gs x <;> cases h3:Cb gs lo <;> cases h4:Cb gs hi <;> simp [h2,h3,h4]at hc
    rename_i y lo' hi'
    subst hc
    have hx:=hα x y h2
    simp only [AOp.ev]at hev
    simp only [AOp.side]at hside
    cases ey:α y <;> rw [ey]at hx <;> simp only [ey]at hev hside <;> try (cases hev;done)
    case str s =>
     cases el:BJ (lo'.map α) <;> cases eh:BJ (hi'.map α) <;> simp only [el,eh]at hev hside <;> try (cases hev;done)
     rename_i l h
     obtain⟨s1,s2⟩:=hside
     have hv:=IS hx
     simp only [Option.some.injEq]at hev
     have hmx0:Cb gs (none:Option Operand)=some none:=rfl
     have hb:=DD (P:=P) (w:=w) (isSlice:=false) (len:=s.size) (cap:=s.size) hα h3 h4 hmx0 el eh rfl (by cases l <;> cases h <;> simp_all)
      (by cases h <;> simp_all) trivial (Nat.le_refl _)
     subst hev
     refine AU hwf (cv:=.string (s.extract (Qx l 0) (Qx h s.size))) ?_ ?_
     ·have hmx':mx=none:=by simpa using hmx
      subst hmx'
      simp only [Option.map_none]at hb
      simp [execOp,Instr.sliceAt,Instr.slice,hv,run_underlying hu,hb]
     ·cases l <;> cases h <;> exact .str _
   ·cases hc
  ·rename_i n e hu
   split at hc
   ·rename_i h
    split at hc
    ·rename_i hsz
     simp only [Option.bind_eq_bind]at hc
     cases h2:opd gs x <;> cases h4:opd gs h <;> simp [h2,h4]at hc
     subst hc
     rename_i y z
     have hx:=hα x y h2
     have hh:=hα h z h4
     simp only [AOp.ev]at hev
     simp only [AOp.side]at hside
     cases ey:α y <;> rw [ey]at hx <;> simp only [ey]at hev hside <;> try (cases hev;done)
     case Ai cs =>
      cases ez:α z <;> rw [ez]at hh <;> simp only [ez]at hev hside <;> try (cases hev;done)
      case int k hn' =>
       simp only [Option.some.injEq]at hev
       subst hev
       obtain⟨⟨s1,s2⟩,⟨s3,s4⟩,s5⟩:=hside
       have hhv:=Bt hh
       cases hvx:ρ x <;> rw [hvx]at hx <;> try (cases hx;done)
       rename_i pa
       cases hx with
       | @Ai ad _ cv ha hc' hr' =>
        have hzs:=run_sizeOf (P:=P) (w:=w) hsz
        have hn0:¬ n=0:=by omega
        have hrun:(Instr.sliceAt t (.pointer (some ad)) none (some (.int k hn')) none).run P w=.ok (.slice (some (ad.add 0)) hn'.toNat n) w:=by
         simp [Instr.sliceAt,Instr.sureAddr,Instr.sliceBounds,Instr.sliceBound,run_underlying hu,asIntOf,hzs,s3,s4,hn0]
        refine AU hwf (cv:=.slice (some (ad.add 0)) hn'.toNat n) (by simp [execOp,hvx,hhv,hrun]) ?_
        have hxs:((cs.take n).take hn'.toNat).length=hn'.toNat:=by simp;omega
        have hcell:∀ y∈(cs.take n).take hn'.toNat,y.cells=[y]:=fun y hy=>s5 y (List.mem_of_mem_take hy)
        have hflat:flat ((cs.take n).take hn'.toNat)=(cs.take n).take hn'.toNat:=by
         generalize (cs.take n).take hn'.toNat=l at hcell
         induction l with
         | nil=>rfl
         | cons y r ih=>rw [CD,hcell y (by simp),ih fun z hz=>hcell z (by simp [hz])];rfl
        rw [Bb ad ha]
        refine .list cv hxs.symm (by omega) (fun y hy=>by rw [hcell y hy];rfl) trivial (by simp) (fun j hj=>?_) (fun j y hj=>?_)
        ·obtain⟨q1,q2,q3⟩:=hc' j (by omega)
         exact⟨_,rfl,rfl,by simpa using q1,by simpa using q2,q3⟩
        ·rw [hflat]at hj
         refine hr' j y ?_
         rw [List.getElem?_take,List.getElem?_take]at hj
         split at hj
         ·split at hj
          ·exact hj
          ·cases hj
         ·cases hj
    ·cases hc
   ·cases hc
  ·cases hc
 | fieldAddr t x f =>
  simp only [AY]at hc
  split at hc
  ·rename_i fields hu
   split at hc
   ·rename_i fd hf
    split at hc
    ·rename_i n hn0
     split at hc
     ·rename_i hne
      obtain⟨y,hy,rfl⟩:=hmap hc
      have hx:=hα x y hy
      have hrun:∀ a:Addr,a.spot=none→(Instr.fieldAt t (.pointer (some a)) f).run P w=.ok (.pointer (some ⟨a.block,a.off+fd.offset,none⟩)) w:=by
       intro a ha
       have hz:¬ (n=0):=hne
       simp [Instr.fieldAt,run_underlying hu,hf,Instr.sureAddr,fieldPlace,run_sizeOf hn0,hz,Bb a ha]
      simp only [AOp.ev]at hev
      simp only [AOp.side]at hside
      cases ey:α y <;> rw [ey]at hx <;> simp only [ey]at hev hside <;> try (cases hev;done)
      case ptr o off =>
       cases hev
       obtain⟨b,hb,hv⟩:=EZ hx
       exact AU hwf (cv:=.pointer (some ⟨b,off+fd.offset,none⟩)) (by simp [execOp,hv,hrun ⟨b,off,none⟩ rfl]) (.ptr _ hb)
      case Ai cs =>
       cases hev
       obtain⟨a,hv,hrep⟩:=K0 hx
       cases hrep with
       | Ai g ha hc hr =>
        refine AU hwf (cv:=.pointer (some ⟨a.block,a.off+fd.offset,none⟩)) (by simp [execOp,hv,hrun a ha]) (.Ai (fun j=>g (fd.offset+j)) rfl (fun j hj=>?_) (fun j x hx=>?_))
        ·simp only [List.length_drop]at hj
         have:=hc (fd.offset+j) (by omega)
         simpa [Nat.add_assoc] using this
        ·exact hr _ x (by simpa using hx)
     ·cases hc
    ·cases hc
   ·cases hc
  ·cases hc
 | field t x f =>
  simp only [AY]at hc
  split at hc
  ·rename_i fields hu
   split at hc
   ·rename_i fd hf
    simp only [Option.bind_eq_bind]at hc
    cases h1:FL P fd.type <;> cases h2:Jr P fd.type <;> cases h3:opd gs x <;> simp [h1,h2,h3]at hc
    rename_i n agg y
    subst hc
    have hx:=hα x y h3
    simp only [AOp.ev]at hev
    simp only [AOp.side]at hside
    cases ey:α y <;> rw [ey]at hx <;> simp only [ey]at hev hside <;> try (cases hev;done)
    rename_i cs
    simp only [Option.map_eq_some_iff]at hev
    obtain⟨v,hv,rfl⟩:=hev
    obtain⟨vs,hxv,hr,hone⟩:=NK hx
    have hsz:=hr.1
    cases agg with
    | true =>
     simp only [CA,if_true,Option.some.injEq]at hv
     subst hv
     refine AU hwf (cv:=.agg (vs.extract fd.offset (fd.offset+n))) (by simp [execOp,hxv,Instr.field,run_underlying hu,hf,asAgg,part,Fe h2,run_sizeOf h1]) ?_
     refine .agg (by simp;omega) (fun j u hu'=>?_) (fun j u z hu' hz=>?_)
     ·simp only [Array.getElem?_extract]at hu'
      split at hu'
      ·exact hone _ u hu'
      ·cases hu'
     ·simp only [Array.getElem?_extract]at hu'
      split at hu'
      ·rw [List.getElem?_take_of_lt (by omega),List.getElem?_drop]at hz
       exact hr.2 _ u z hu' hz
      ·cases hu'
    | false =>
     simp only [CA,Bool.false_eq_true,if_false]at hv
     have hcs:cs[fd.offset]?=some v:=by
      cases hd:cs.drop fd.offset with
      | nil=>rw [hd]at hv;cases hv
      | cons a r =>
       rw [hd]at hv
       simp only [Option.some.injEq]at hv
       subst hv
       have:(cs.drop fd.offset)[0]?=some a:=by rw [hd];rfl
       simpa using this
     have hlt:fd.offset < vs.size:=by rw [hsz];exact(List.getElem?_eq_some_iff.1 hcs).1
     refine AU hwf (cv:=vs[fd.offset]) (by simp [execOp,hxv,Instr.field,run_underlying hu,hf,asAgg,part,Fe h2,hlt]) (hr.2 fd.offset _ v (by simp [hlt]) hcs)
   ·cases hc
  ·cases hc
 | indexAddr t x i =>
  simp only [AY]at hc
  split at hc
  ·rename_i e hu
   split at hc
   ·rename_i sz hsz
    split at hc
    ·rename_i hpos
     simp only [Option.bind_eq_bind]at hc
     cases h1:opd gs x <;> cases h2:opd gs i <;> simp [h1,h2]at hc
     rename_i y z
     subst hc
     have hx:=hα x y h1
     have hi:=hα i z h2
     simp only [AOp.ev]at hev
     simp only [AOp.side]at hside
     cases ey:α y <;> rw [ey]at hx <;> simp only [ey]at hev hside <;> try (cases hev;done)
     case Ag sz0 o off len =>
      cases ez:α z <;> rw [ez]at hi <;> simp only [ez]at hev hside <;> try (cases hev;done)
      rename_i k n
      obtain⟨rfl,q1,q2⟩:=hside
      cases hev
      have hvi:=Bt hi
      obtain⟨b,cap,hob,hv⟩:∃ b cap,ι o=some b∧ρ x=.slice (some ⟨b,off * sz0,none⟩) len cap:=by
       generalize ρ x=vx at hx
       cases hx with
       | Ag h hcap hb=>exact⟨_,_,h,rfl⟩
       | FN=>omega
      refine AU hwf (cv:=.pointer (some ⟨b,(off+n.toNat) * sz0,none⟩)) ?_ (.ptr _ hob)
      have hin:0≤n∧n < (len:Int):=⟨q1,q2⟩
      have had:=Bb ⟨b,off * sz0,none⟩ (j:=n.toNat * sz0) rfl
      simp [execOp,Instr.indexAt,hv,hvi,asIntOf,run_underlying hu,run_sizeOf hsz,hin,had,Nat.add_mul]
     rename_i sz0 tk xs
     cases ez:α z <;> rw [ez]at hi <;> simp only [ez]at hev hside <;> try (cases hev;done)
     rename_i k n
     obtain⟨rfl,q1,q2⟩:=hside
     cases hev
     obtain⟨a,len,cap,cs,hv,k1,k2,k3,k4,k5,k6,k7⟩:=hx.EB
     rw [hv]at hx
     have hlt:n.toNat < xs.length:=by omega
     obtain⟨ad,ha,hsp,hrep⟩:=Q0 hx hpos n.toNat hlt
     refine AU hwf (cv:=.pointer (some (ad.add (n.toNat * sz0)))) ?_ hrep
     have hvi:=Bt hi
     have hin:0≤n∧n < (len:Int):=⟨q1,by omega⟩
     simp [execOp,Instr.indexAt,hv,hvi,ha,asIntOf,run_underlying hu,run_sizeOf hsz,hin]
    ·cases hc
   ·cases hc
  ·rename_i m e hu
   simp only [Option.bind_eq_bind]at hc
   cases h0:FL P e <;> cases h1:opd gs x <;> cases h2:opd gs i <;> simp [h0,h1,h2]at hc
   rename_i sz y z
   subst hc
   have hx:=hα x y h1
   have hi:=hα i z h2
   simp only [AOp.ev]at hev
   simp only [AOp.side]at hside
   cases ez:α z <;> rw [ez]at hi <;> simp only [ez]at hev hside <;> try (exact hside.elim)
   rename_i k n
   have hvi:=Bt hi
   have hrun:∀ a:Addr,a.spot=none→(Instr.indexAt t (.pointer (some a)) (.int k n)).run P w=.ok (.pointer (some ⟨a.block,a.off+n.toNat * sz,none⟩)) w:=by
    intro a ha
    simp [Instr.indexAt,asIntOf,run_underlying hu,Instr.sureAddr,run_sizeOf h0,hside,Bb a ha]
   cases ey:α y <;> rw [ey]at hx <;> simp only [ey]at hev <;> try (cases hev;done)
   case ptr o off =>
    cases hev
    obtain⟨b,hb,hv⟩:=EZ hx
    exact AU hwf (cv:=.pointer (some ⟨b,off+n.toNat * sz,none⟩)) (by simp [execOp,hv,hvi,hrun ⟨b,off,none⟩ rfl]) (.ptr _ hb)
   case Ai cs =>
    cases hev
    obtain⟨a,hv,hrep⟩:=K0 hx
    cases hrep with
    | Ai g ha hc hr =>
     refine AU hwf (cv:=.pointer (some ⟨a.block,a.off+n.toNat * sz,none⟩)) (by simp [execOp,hv,hvi,hrun a ha]) (.Ai (fun j=>g (n.toNat * sz+j)) rfl (fun j hj=>?_) (fun j x hx=>?_))
     ·simp only [List.length_drop]at hj
      have:=hc (n.toNat * sz+j) (by omega)
      simpa [Nat.add_assoc] using this
     ·exact hr _ x (by simpa using hx)
  ·cases hc
 | index t x i =>
  simp only [AY]at hc
  split at hc
  ·rename_i hu
   simp only [Option.bind_eq_bind]at hc
   cases h1:opd gs x <;> cases h2:opd gs i <;> simp [h1,h2]at hc
   rename_i y z
   subst hc
   have hx:=hα x y h1
   have hi:=hα i z h2
   simp only [AOp.ev]at hev
   simp only [AOp.side]at hside
   cases ey:α y <;> rw [ey]at hx <;> simp only [ey]at hev hside <;> try (cases hev;done)
   rename_i s
   cases ez:α z <;> rw [ez]at hi <;> simp only [ez]at hev hside <;> try (cases hev;done)
   rename_i k n
   cases hev
   have hv:=IS hx
   have hvi:=Bt hi
   have hlt:n.toNat < s.size:=by omega
   refine AU hwf (cv:=.int .u8 (s[n.toNat]).toNat) ?_ ?_
   ·simp [execOp,hv,hvi,run_index_string w t s k n hu,hside]
   ·have:s.data.toList.getD n.toNat 0=s[n.toNat]:=by
     have h':n.toNat < s.data.size:=hlt
     rw [List.getD_eq_getElem?_getD,Array.getElem?_toList,Array.getElem?_eq_getElem h']
     rfl
    rw [this]
    exact .int _ _
  ·cases hc
 | extract x i =>
  simp only [AY]at hc
  obtain⟨y,hy,rfl⟩:=hmap hc
  have hx:=hα x y hy
  simp only [AOp.ev]at hev
  cases ey:α y <;> rw [ey]at hx <;> simp only [ey]at hev <;> try (cases hev;done)
  rename_i vs
  simp only [Option.map_eq_some_iff]at hev
  obtain⟨v,hv,rfl⟩:=hev
  obtain⟨cs,hxv,hr⟩:=Yl hx
  have hlt:i < cs.size:=by rw [hr.1];exact(List.getElem?_eq_some_iff.1 hv).1
  exact AU hwf (cv:=cs[i]) (by simp [execOp,hxv,Instr.extract,hlt]) (hr.2 i _ v (by simp [hlt]) hv)
 | makeMap t r =>
  cases r with
  | some x=>cases hc
  | none =>
   cases hc
   simp only [AOp.ev,Option.some.injEq]at hev
   subst hev
   obtain⟨h3,h4⟩:=PC hwf hn
   exact⟨_,.map (some w.heap.size),_,_,by simp [execOp,Instr.makeMap],.inl rfl,h3,h4,.map (by simp [An]),Et⟩
 | makeSlice t l c =>
  simp only [AY]at hc
  split at hc
  ·rename_i e hu
   split at hc
   ·rename_i i zs hi hz
    split at hc
    ·rename_i hsz
     obtain⟨a,b,h1,h2,rfl⟩:=PA hc
     have ha:=hα l a h1
     have hb:=hα c b h2
     simp only [AOp.ev,Bool.false_eq_true,if_false]at hev
     simp only [AOp.side,Bool.false_eq_true,if_false]at hside
     cases ea:α a <;> rw [ea]at ha <;> simp only [ea]at hev hside <;> try (cases hev;done)
     rename_i k n
     cases eb:α b <;> rw [eb]at hb <;> simp only [eb]at hev <;> try (cases hev;done)
     rename_i k' m
     split at hev
     ·rename_i hnm
      subst hnm
      cases hev
      obtain⟨s1,s2,s3⟩:=hside
      obtain⟨i',z,hi',hiz,hzr,hz1,hzv,_⟩:=Br (ι:=ι) (F:=AZ ι S) (w:=w) hz
      rw [hi]at hi'
      cases hi'
      obtain⟨q1,q2⟩:=VX (n:=n.toNat) hzr hz1 hsz.1 hsz.2
      obtain⟨h3,h4⟩:=NH hwf hn q1 q2 e
      have hrun:=run_make (P:=P) w t e i z hu hi hiz k k' n n s1 (Int.le_refl _) (by
       have h:=Int.ofNat_le.2 s2
       rw [Int.natCast_mul,Int.toNat_of_nonneg s1,Int.mul_comm]at h
       exact Int.le_trans h (by decide)) s3
      have hex:(execOp ρ ⟨dst,.makeSlice t l c,type,pos,after,guard⟩).run P w=.ok (.value (.slice (some ⟨w.heap.size,0,none⟩) n.toNat n.toNat)) (w.alloc (.cells (madeCells z.cells (n.toNat * i.size)) e)):=by
       unfold execOp
       simp only [Bt ha,Bt hb,Sem.run_bind,Sem.run_map,hrun,Result.andThen]
       rfl
      refine⟨_,.slice (some ⟨w.heap.size,0,none⟩) n.toNat n.toNat,_,_,hex,.inl rfl,h3,h4,?_,Et⟩
      have:=Rep.Ag (ι:=An ι nid w.heap.size) (F:=AZ (An ι nid w.heap.size) (Au S nid (.box (List.replicate n.toNat zs).flatten))) (w:=w.alloc (.cells (madeCells z.cells (n.toNat * i.size)) e)) (sz:=i.size) (o:=nid) (b:=w.heap.size) (off:=0) (len:=n.toNat) (cap:=n.toNat) (by simp [An]) (Nat.le_refl _) ⟨_,e,BH w _,by simp [size_madeCells]⟩
      rw [Nat.zero_mul]at this
      exact this
     ·cases hev
    ·cases hc
   ·cases hc
  ·cases hc
 | lookup t m k ok =>
  simp only [AY]at hc
  split at hc
  ·rename_i kt et hu
   simp only [Option.bind_eq_bind]at hc
   cases h1:FO P kt <;> cases h2:Ca P et <;> cases h3:L5 P et <;> cases h4:opd gs m <;> cases h5:opd gs k <;> simp [h1,h2,h3,h4,h5]at hc
   subst hc
   rename_i str zs agg y z
   have hm:=hα m y h4
   have hk:=hα k z h5
   simp only [AOp.ev]at hev
   simp only [AOp.side]at hside
   simp only [AOp.AT]at hobj ⊢
   cases ey:α y <;> rw [ey]at hm <;> simp only [ey]at hev hobj ⊢ <;> try (cases hev;done)
   case map o =>
    obtain⟨ob,ho,rfl⟩:=hobj
    cases ob <;> try (cases hev;done)
    simp only [Option.map_eq_some_iff]at hev
    obtain⟨r,hr,rfl⟩:=hev
    obtain⟨b,hb,hv⟩:=DW hm
    obtain⟨cv,e1,e2⟩:=NO (P:=P) hwf ho hb hk hside hu (CJ h1) hr (ok:=ok) h2 h3
    exact AU hwf (by simp [execOp,hv,e1]) e2
   case Ad =>
    cases hev
    obtain⟨cv,e1,e2⟩:=lookup_nil (P:=P) (w:=w) hk hside hu (CJ h1) (ok:=ok) h2 h3
    exact AU hwf (by simp [execOp,GI hm,e1]) e2
   case Dc es =>
    simp only [Option.map_eq_some_iff]at hev
    obtain⟨r,hr,rfl⟩:=hev
    obtain⟨cv,e1,e2⟩:=PE (P:=P) hm hk hside hu (CJ h1) hr (ok:=ok) h2 h3
    exact AU hwf (by simp [execOp,e1]) e2
   case Bp es =>
    simp only [Option.map_eq_some_iff]at hev
    obtain⟨r,hr,rfl⟩:=hev
    obtain⟨cv,e1,e2⟩:=PF (P:=P) hm hk hside hu (CJ h1) hr (ok:=ok) h2 h3
    exact AU hwf (by simp [execOp,e1]) e2
  ·cases hc
 | mapUpdate t m k x =>
  simp only [AY]at hc
  split at hc
  ·rename_i kt et hu
   simp only [Option.bind_eq_bind]at hc
   cases h1:FO P kt <;> cases h4:opd gs m <;> cases h5:opd gs k <;> cases h6:opd gs x <;> simp [h1,h4,h5,h6]at hc
   subst hc
   rename_i str y z u
   have hm:=hα m y h4
   have hk:=hα k z h5
   have hx:=hα x u h6
   simp only [AOp.ev]at hev
   simp only [AOp.side]at hside
   simp only [AOp.AT]at hobj ⊢
   cases ey:α y <;> rw [ey]at hm <;> simp only [ey]at hev hobj ⊢ <;> try (cases hev;done)
   case map o =>
    obtain⟨ob,ho,rfl⟩:=hobj
    cases ob <;> try (cases hev;done)
    simp only [Option.map_eq_some_iff]at hev
    obtain⟨r,hr,rfl⟩:=hev
    obtain⟨b,hb,hv⟩:=DW hm
    obtain⟨w',e1,e2,e3⟩:=IV (P:=P) hwf ho hb hk hside hx hu (CJ h1) hr
    exact⟨.skip,undef,w',ι,by simp [execOp,hv,e1],.inr ⟨rfl,rfl⟩,e2,e3,.tup rfl (by simp),fun _ _ h=>.inr h⟩
  ·cases hc
 | insert t m k x =>
  simp only [AY]at hc
  split at hc
  ·rename_i kt et hu
   simp only [Option.bind_eq_bind]at hc
   cases h1:FO P kt <;> cases h4:opd gs m <;> cases h5:opd gs k <;> cases h6:opd gs x <;> simp [h1,h4,h5,h6]at hc
   subst hc
   rename_i str y z u
   have hm:=hα m y h4
   have hk:=hα k z h5
   have hx:=hα x u h6
   simp only [AOp.ev]at hev
   simp only [AOp.side]at hside
   simp only [AOp.AT]at hobj ⊢
   cases ey:α y <;> rw [ey]at hm <;> simp only [ey]at hev hobj ⊢ <;> try (cases hev;done)
   case map o =>
    obtain⟨ob,ho,rfl⟩:=hobj
    cases ob <;> try (cases hev;done)
    simp only [Option.map_eq_some_iff]at hev
    obtain⟨r,hr,rfl⟩:=hev
    obtain⟨b,hb,hv⟩:=DW hm
    obtain⟨w',e1,e2,e3⟩:=IV (P:=P) hwf ho hb hk hside hx hu (CJ h1) hr
    exact⟨.skip,undef,w',ι,by simp [execOp,hv,e1],.inr ⟨rfl,rfl⟩,e2,e3,.tup rfl (by simp),fun _ _ h=>.inr h⟩
  ·cases hc
 | range t x =>
  simp only [AY]at hc
  split at hc
  ·rename_i kt et hu
   obtain⟨y,hy,rfl⟩:=hmap hc
   have hm:=hα x y hy
   simp only [AOp.ev]at hev
   simp only [AOp.AT]at hobj ⊢
   cases ey:α y <;> rw [ey]at hm <;> simp only [ey]at hev hobj ⊢ <;> try (cases hev;done)
   case map o =>
    obtain⟨ob,ho,rfl⟩:=hobj
    cases ob <;> try (cases hev;done)
    rename_i es clock
    cases hev
    obtain⟨b,hb,hv⟩:=DW hm
    obtain⟨ces,g1,_⟩:=EX hwf ho hb
    obtain⟨h3,h4⟩:=PD hwf hn (o:=o) (since:=clock) hb
    exact⟨_,.pointer (some ⟨w.heap.size,0,none⟩),_,_,by simp [execOp,hv,Instr.range,run_underlying hu,MapKept.run_getObj_map g1],.inl rfl,h3,h4,.ptr 0 (by simp [An]),Et⟩
   case Bp es =>
    cases hev
    obtain⟨b,ces,hv,g1,h3,h4⟩:=L6 hwf hn hm
    exact⟨_,.pointer (some ⟨w.heap.size,0,none⟩),_,_,by simp [execOp,hv,Instr.range,run_underlying hu,MapKept.run_getObj_map g1],.inl rfl,h3,h4,.ptr 0 (by simp [An]),Et⟩
   case Ad =>
    cases hev
    obtain⟨h3,h4⟩:=KG hwf hn
    exact⟨_,.pointer (some ⟨w.heap.size,0,none⟩),_,_,by simp [execOp,GI hm,Instr.range,run_underlying hu],.inl rfl,h3,h4,.ptr 0 (by simp [An]),Et⟩
  ·cases hc
 | call c =>
  simp only [AY]at hc
  split at hc
  ·rename_i hf
   split at hc
   ·rename_i m k kt et hargs htys
    simp only [Option.bind_eq_bind]at hc
    cases h1:FO P kt <;> cases h4:opd gs m <;> cases h5:opd gs k <;> simp [h1,h4,h5]at hc
    subst hc
    rename_i str y z
    have hm:=hα m y h4
    have hk:=hα k z h5
    have ha:c.args=#[m,k]:=by
     have:=congrArg List.toArray hargs
     simpa using this
    obtain⟨t,ht0,hu⟩:∃ t,c.argTypes[0]?=some t∧P.underlying t=some (.map kt et):=by
     cases h0:c.argTypes[0]? with
     | none=>simp [h0]at htys
     | some t=>simp [h0]at htys;exact⟨t,rfl,htys⟩
    simp only [AOp.ev]at hev
    simp only [AOp.side]at hside
    simp only [AOp.AT]at hobj ⊢
    cases ey:α y <;> rw [ey]at hm <;> simp only [ey]at hev hobj ⊢ <;> try (cases hev;done)
    case map o =>
     obtain⟨ob,ho,rfl⟩:=hobj
     cases ob <;> try (cases hev;done)
     simp only [Option.map_eq_some_iff]at hev
     obtain⟨r,hr,rfl⟩:=hev
     obtain⟨b,hb,hv⟩:=DW hm
     obtain⟨w',e1,e2,e3⟩:=NN (P:=P) (rt:=type) hwf ho hb hk hside ht0 hu (CJ h1) hr
     exact⟨_,.tuple #[],w',ι,by simp [execOp,resolve,hf,ha,invoke,builtin,hv,e1],.inl rfl,e2,e3,.tup rfl (by simp),fun _ _ h=>.inr h⟩
    case Ad =>
     cases hev
     have:=Qz (P:=P) (w:=w) (rt:=type) hk hside ht0 hu (CJ h1)
     exact AU hwf (cv:=.tuple #[]) (by simp [execOp,resolve,hf,ha,invoke,builtin,GI hm,this]) (.tup rfl (by simp))
   ·cases hc
  ·rename_i hf
   split at hc
   ·rename_i x e hargs htys
    obtain⟨y,hy,rfl⟩:=hmap hc
    have hx:=hα x y hy
    have ha:c.args=#[x]:=by
     have:=congrArg List.toArray hargs
     simpa using this
    obtain⟨t,ht0,ht⟩:∃ t,c.argTypes[0]?=some t∧P.underlying t=some (.slice e):=by
     cases h0:c.argTypes[0]? with
     | none=>simp [h0]at htys
     | some t=>simp [h0]at htys;exact⟨t,rfl,htys⟩
    simp only [AOp.ev]at hev
    cases ey:α y <;> rw [ey]at hx <;> simp only [ey]at hev <;> try (cases hev;done)
    case Ag sz0 o off len =>
     cases hev
     have h0:(0:Nat) < c.argTypes.size:=(Array.getElem?_eq_some_iff.1 ht0).1
     have ht0':c.argTypes[0]=t:=(Array.getElem?_eq_some_iff.1 ht0).2
     obtain⟨a,cap,hv⟩:∃ a cap,ρ x=.slice a len cap:=by
      generalize ρ x=vx at hx
      cases hx with
      | Ag h hcap hb=>exact⟨_,_,rfl⟩
      | FN=>exact⟨_,_,rfl⟩
     refine AU hwf (cv:=.int .i64 len) ?_ (.int _ _)
     simp [execOp,resolve,hf,ha,invoke,builtin,Builtin.len_,ht0,ht0',h0,run_underlying ht,hv,goInt]
    rename_i sz tk xs
    cases hev
    obtain⟨a,len,cap,cs,hv,k1,k2,k3,k4,k5,k6,k7⟩:=hx.EB
    refine AU hwf (cv:=.int .i64 xs.length) ?_ (.int _ _)
    have h0:(0:Nat) < c.argTypes.size:=(Array.getElem?_eq_some_iff.1 ht0).1
    have ht0':c.argTypes[0]=t:=(Array.getElem?_eq_some_iff.1 ht0).2
    simp [execOp,resolve,hf,ha,invoke,builtin,Builtin.len_,ht0,ht0',h0,run_underlying ht,hv,k1,goInt]
   ·rename_i x hargs htys
    obtain⟨y,hy,rfl⟩:=hmap hc
    have hx:=hα x y hy
    have ha:c.args=#[x]:=by
     have:=congrArg List.toArray hargs
     simpa using this
    obtain⟨t,ht0,ht⟩:∃ t,c.argTypes[0]?=some t∧P.underlying t=some .string:=by
     cases h0:c.argTypes[0]? with
     | none=>simp [h0]at htys
     | some t=>simp [h0]at htys;exact⟨t,rfl,htys⟩
    simp only [AOp.ev]at hev
    cases ey:α y <;> rw [ey]at hx <;> simp only [ey]at hev <;> try (cases hev;done)
    rename_i s
    cases hev
    have hv:=IS hx
    refine AU hwf (cv:=.int .i64 s.size) ?_ (.int _ _)
    have h0:(0:Nat) < c.argTypes.size:=(Array.getElem?_eq_some_iff.1 ht0).1
    have ht0':c.argTypes[0]=t:=(Array.getElem?_eq_some_iff.1 ht0).2
    simp [execOp,resolve,hf,ha,invoke,builtin,Builtin.len_,ht0,ht0',h0,run_underlying ht,hv,goInt]
   ·rename_i x kt et hargs htys
    obtain⟨y,hy,rfl⟩:=hmap hc
    have hx:=hα x y hy
    have ha:c.args=#[x]:=by
     have:=congrArg List.toArray hargs
     simpa using this
    obtain⟨t,ht0,ht⟩:∃ t,c.argTypes[0]?=some t∧P.underlying t=some (.map kt et):=by
     cases h0:c.argTypes[0]? with
     | none=>simp [h0]at htys
     | some t=>simp [h0]at htys;exact⟨t,rfl,htys⟩
    have h0:(0:Nat) < c.argTypes.size:=(Array.getElem?_eq_some_iff.1 ht0).1
    have ht0':c.argTypes[0]=t:=(Array.getElem?_eq_some_iff.1 ht0).2
    simp only [AOp.ev]at hev
    simp only [AOp.AT]at hobj ⊢
    cases ey:α y <;> rw [ey]at hx <;> simp only [ey]at hev hobj ⊢ <;> try (cases hev;done)
    case map o =>
     obtain⟨ob,ho,rfl⟩:=hobj
     cases ob <;> try (cases hev;done)
     rename_i es clock
     cases hev
     obtain⟨b,hb,hv⟩:=DW hx
     obtain⟨ces,g1,g2,_⟩:=EX hwf ho hb
     refine AU hwf (cv:=.int .i64 es.length) ?_ (.int _ _)
     simp [execOp,resolve,hf,ha,invoke,builtin,Builtin.len_,ht0,ht0',h0,run_underlying ht,hv,goInt,MapKept.run_getObj_map g1,g2]
    case Ad =>
     cases hev
     refine AU hwf (cv:=.int .i64 0) ?_ (.int _ _)
     simp [execOp,resolve,hf,ha,invoke,builtin,Builtin.len_,ht0,ht0',h0,run_underlying ht,GI hx,goInt]
   ·cases hc
  ·rename_i hf
   split at hc
   ·rename_i sx x t t2 hargs htys
    split at hc
    ·rename_i e d hu hu2
     split at hc
     ·rename_i i hi
      split at hc
      ·rename_i z hz
       split at hc
       ·rename_i hzc
        obtain⟨a,b,h1,h2,rfl⟩:=PA hc
        have hx:=hα x b h2
        have hs:=hα sx a h1
        have ha:c.args=#[sx,x]:=by
         have:=congrArg List.toArray hargs
         simpa using this
        have hty:c.argTypes=#[t,t2]:=by
         have:=congrArg List.toArray htys
         simpa using this
        simp only [AOp.ev]at hev
        simp only [AOp.side]at hside
        simp only [AOp.AT]at hobj ⊢
        cases ea:α a <;> rw [ea]at hs <;> simp only [ea]at hev hside hobj ⊢ <;> try (cases hev;done)
        case Ag sz0 o off len =>
         cases eb:α b <;> rw [eb]at hx <;> simp only [eb]at hev hside <;> try (cases hev;done)
         rename_i sz1 t1 ys
         obtain⟨s2,s3,s4⟩:=hside
         obtain⟨ob,ho,rfl⟩:=hobj
         cases ob <;> try (cases hev;done)
         rename_i cs
         simp only at hev
         split at hev
         ·rename_i hnn
          obtain⟨rfl,rfl,hcs⟩:=hnn
          cases hev
          obtain⟨v',w',ι',k1,k2,k3,k4,k5⟩:=L4 (rt:=type) hwf hn hSn hs hx s2 hu hu2 hi hz rfl hzc s3 s4 ho hcs rfl
          refine⟨.value v',v',w',ι',?_,.inl rfl,k2,k3,k4,fun q b h=>(k5 q b h).imp (fun e=>⟨rfl,e⟩) id⟩
          simp [execOp,resolve,hf,ha,hty,invoke,builtin,k1]
         ·cases hev
        rename_i sz0 tk xs
        cases eb:α b <;> rw [eb]at hx <;> simp only [eb]at hev hside <;> try (first | (cases tk <;> cases hev;done) | (cases tk <;> simp at hev;done))
        rename_i sz1 t1 ys
        obtain⟨s1,s2,s3,s4⟩:=hside
        have done:∀ S',AHn S S' nid ((xs.length+ys.length) * i.size) i.size xs tk→Qv P ρ ⟨dst,.call c,type,pos,after,guard⟩ ι S w nid S' true (.list i.size (.own nid) (xs++ys)):=by
         intro S' hS'
         obtain⟨v',w',ι',k1,k2,k3,k4,k5⟩:=NJ (rt:=type) hwf hn hSn hs hx s1 s2 hu hu2 hi hz rfl hzc s3 s4 hS'
         refine⟨.value v',v',w',ι',?_,.inl rfl,k2,k3,k4,fun q b h=>(k5 q b h).imp (fun e=>⟨rfl,e⟩) id⟩
         simp [execOp,resolve,hf,ha,hty,invoke,builtin,k1]
        cases tk with
        | none=>cases hev
        | full =>
         simp only [Option.some.injEq]at hev
         subst hev
         exact done _ rfl
        | own q =>
         obtain⟨ob,ho,rfl⟩:=hobj
         cases ob <;> try (cases hev;done)
         rename_i n
         simp only at hev
         split at hev
         ·rename_i hnn
          cases hev
          subst hnn
          exact done _ ⟨ho,rfl⟩
         ·cases hev
       ·cases hc
      ·cases hc
     ·cases hc
    ·cases hc
   ·cases hc
  ·rename_i hf
   split at hc
   ·rename_i x y hargs
    obtain⟨a,b,h1,h2,rfl⟩:=PA hc
    have hx:=hα x a h1
    have hy:=hα y b h2
    have ha:c.args=#[x,y]:=by
     have:=congrArg List.toArray hargs
     simpa using this
    simp only [AOp.ev]at hev
    cases ea:α a <;> rw [ea]at hx <;> simp only [ea]at hev <;> try (cases hev;done)
    rename_i k n
    cases eb:α b <;> rw [eb]at hy <;> simp only [eb]at hev <;> try (cases hev;done)
    rename_i k' n'
    cases hev
    refine AU hwf (cv:=.int k (if n' < n then n' else n)) ?_ (.int _ _)
    simp [execOp,resolve,hf,ha,invoke,builtin,Bt hx,Bt hy,run_min_int2]
   ·cases hc
  ·rename_i hf
   split at hc
   ·rename_i x y hargs
    obtain⟨a,b,h1,h2,rfl⟩:=PA hc
    have hx:=hα x a h1
    have hy:=hα y b h2
    have ha:c.args=#[x,y]:=by
     have:=congrArg List.toArray hargs
     simpa using this
    simp only [AOp.ev]at hev
    cases ea:α a <;> rw [ea]at hx <;> simp only [ea]at hev <;> try (cases hev;done)
    rename_i k n
    cases eb:α b <;> rw [eb]at hy <;> simp only [eb]at hev <;> try (cases hev;done)
    rename_i k' n'
    cases hev
    refine AU hwf (cv:=.int k (if n < n' then n' else n)) ?_ (.int _ _)
    simp [execOp,resolve,hf,ha,invoke,builtin,Bt hx,Bt hy,run_max_int2]
   ·cases hc
  ·cases hc
 | _=>simp [AY]at hc
end Go.AL
