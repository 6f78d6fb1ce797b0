/- The abstract layer: code, functions, and that they come to what the abstract ones say. -/
import Derived.Test.YtkegioliclbbhaaA9
set_option linter.unusedVariables false
set_option linter.unusedSimpArgs false
namespace Go.AL

/-! ## Turning Go's code -/

def cdst (gs : List Nat) (N : Nat) : Option Tmp → Option (Option (Bool × Nat))
  | none => some none
  | some t => if t < N then some (some (gs.contains t, t)) else none

def cguard (gs : List Nat) (ops : Array Oper) : Option (Nat × Bool) → Option (Option (Bool × Nat × Bool))
  | none => some none
  | some (j, want) => ((ops[j]?).bind (·.dst)).map fun t => some (gs.contains t, t, want)

def compileOper (P : Program) (gs : List Nat) (N : Nat) (ops : Array Oper) (pure : Bool) (conc : List Nat) (o : Oper) : Option AOper :=
  match compileAny P gs pure o, cdst gs N o.dst, cguard gs ops o.guard with
  | some op, some dst, some guard => some { dst, op, guard, conc }
  | _, _, _ => none

def compileSeq (P : Program) (gs : List Nat) (N : Nat) (ops : Array Oper) : List Oper → Option (List AOper)
  | [] => some []
  | o :: r =>
    match compileOper P gs N ops false [] o, compileSeq P gs N ops r with
    | some a, some l => some (a :: l)
    | _, _ => none

/-- Added where they are not yet. -/
def ins : List Nat → List Nat → List Nat
  | [], s => s
  | x :: xs, s => if s.contains x then ins xs s else ins xs (x :: s)
theorem mem_ins {j : Nat} : ∀ {xs s : List Nat}, j ∈ ins xs s → j ∈ xs ∨ j ∈ s
  | [], s, h => .inr h
  | x :: xs, s, h => by
    simp only [ins] at h
    split at h
    · exact (mem_ins h).imp (fun h => by simp [h]) id
    · rcases mem_ins h with h | h
      · exact .inl (by simp [h])
      · simp only [List.mem_cons] at h
        rcases h with rfl | h
        · exact .inl (by simp)
        · exact .inr h

/-- What must be listed ahead of each operation, itself not among it. -/
def befores : List Oper → List (List Nat) → List (List Nat)
  | [], acc => acc
  | o :: r, acc => befores r (acc ++ [o.after.toList.foldl (fun s e => if Region.binds .any e then ins (e.on :: acc.getD e.on []) s else s) []])

def AOp.looks : AOp → Bool
  | .load .. | .lookup .. | .lenMap _ | .store .. | .append .. | .mapUpdate .. | .delete .. | .call .. => true
  | _ => false
def AOp.writes : AOp → Bool
  | .store .. | .append .. | .mapUpdate .. | .delete .. | .call .. => true
  | _ => false
def AOp.makes : AOp → Bool
  | .alloc _ | .box _ | .append .. | .mkmap | .mkslice .. => true
  | _ => false
/-- An operation that neither looks at memory nor makes some. -/
def AOp.idle : AOp → Bool
  | .mv _ | .pick .. | .bin .. | .eqb .. | .un .. | .conv .. | .fieldAddr .. | .field .. | .extract .. | .mkfn .. | .nilCheck _ | .indexAddr .. | .arrAddr .. | .indexStr .. | .len _ | .lenStr _ | .slice .. | .sliceStr .. | .min .. | .max .. | .build .. => true
  | _ => false

/-- The slots that an operation names. -/
def namesOf (ops : Array Oper) (o : Oper) : List Nat :=
  o.dst.toList ++ (o.op.operands.toList.filterMap fun | .tmp t => some t | _ => none) ++ (match o.guard with | some (j, _) => ((ops[j]?).bind (·.dst)).toList | none => [])

def clash (ops : Array Oper) (a b : Oper) : Bool :=
  (match a.dst with | some d => (namesOf ops b).contains d | none => false) || (match b.dst with | some d => (namesOf ops a).contains d | none => false)

/-- Slots that two operations share, one of them writing, are in order. -/
def slotsOK (ops : Array Oper) (bs : List (List Nat)) : Bool :=
  (List.range ops.size).all fun j => (List.range j).all fun i =>
    match ops[i]?, ops[j]? with
    | some a, some b => !clash ops a b || (bs.getD j []).contains i
    | _, _ => false

/-- Edges point backwards, guards are waited for. -/
def edgesOK (ops : Array Oper) (bs : List (List Nat)) : Bool :=
  (List.range ops.size).all fun j =>
    match ops[j]? with
    | some o => (o.after.toList.all fun e => !Region.binds .any e || decide (e.on < j)) && (match o.guard with | some (g, _) => (bs.getD j []).contains g | none => true)
    | none => false

/-- From the k-th on operations are in order, behind all others. -/
def sufOK (ops : Array Oper) (k : Nat) : Bool :=
  decide (k ≤ ops.size) && (List.range ops.size).all fun j =>
    (match ops[j]? with | some o => o.after.toList.all (fun e => !Region.binds .any e || decide (e.on < j)) | none => true) &&
    (decide (j < k) || (List.range j).all fun i => ((befores ops.toList []).getD j []).contains i) &&
    (match ops[j]? with | some o => (match o.guard with | some (i, _) => decide (k ≤ j) || decide (i < k) | none => true) | none => true)

/-- Operands and slots of an abstract operation are where the slots say. -/
def opndOK (gs names : List Nat) : AOpd → Bool
  | .g t => gs.contains t && names.contains t
  | .l t => !gs.contains t && names.contains t
  | .c _ => true

def optL : Option AOpd → List AOpd
  | some x => [x]
  | none => []

def AOp.opnds : AOp → List AOpd
  | .mv x | .box x | .nilCheck x | .un _ x | .conv _ x | .fieldAddr _ x | .field _ _ _ x | .extract x _ | .len x | .lenStr x | .lenMap x | .load _ _ x => [x]
  | .pick a b c | .mapUpdate a b c => [a, b, c]
  | .build _ ps => ps.map (·.2.2)
  | .buildSlice _ _ _ _ ps => ps.map (·.2)
  | .store _ a b | .bin _ a b | .eqb _ a b | .indexAddr _ a b | .arrAddr _ _ a b | .indexStr a b | .append _ _ a b | .min a b | .max a b | .lookup _ _ _ a b | .delete a b | .mkslice _ _ _ _ a b => [a, b]
  | .mkfn _ a b => a ++ b
  | .slice _ x a b c => x :: (optL a ++ optL b ++ optL c)
  | .sliceStr x a b => x :: (optL a ++ optL b)
  | .call _ f as => f :: as
  | .alloc _ | .mkmap => []

def aoperOK (gs names : List Nat) (o : AOper) : Bool :=
  o.op.opnds.all (opndOK gs names) &&
  (match o.dst with | some (gl, t) => (gl == gs.contains t) && names.contains t | none => true) &&
  (match o.guard with | some (gl, t, _) => (gl == gs.contains t) && names.contains t | none => true)

def compileDraw (P : Program) (gs : List Nat) (N : Nat) (ops : Array Oper) (bs : List (List Nat)) (kinds : List AOp) : Nat → List Oper → Option (List AOper)
  | _, [] => some []
  | i, o :: r =>
    let me := kinds.getD i .mkmap
    let unord (j : Nat) : Bool := !(bs.getD i []).contains j
    let conc := (List.range i).filter fun j => unord j && me.looks && ((kinds.getD j .mkmap).makes || ((kinds.getD j .mkmap).looks && (me.writes || (kinds.getD j .mkmap).writes))) && !me.isCall && !(kinds.getD j .mkmap).isCall
    match compileOper P gs N ops true conc o, compileDraw P gs N ops bs kinds (i + 1) r with
    | some a, some l => if aoperOK gs (namesOf ops o) a then some (a :: l) else none
    | _, _ => none

def kindsOf (P : Program) (gs : List Nat) : List Oper → Option (List AOp)
  | [] => some []
  | o :: r =>
    match compileAny P gs false o, kindsOf P gs r with
    | some a, some l => some (a :: l)
    | _, _ => none

/-- Marks of regions: that they end in order, and whose boxes are never written behind them. -/
def markS (gs : List Nat) (id : Nat) : Bool := gs.contains ((id + 1) * 1000000000000 + 999999)
def markF (gs : List Nat) (id : Nat) : List Nat := gs.filterMap fun x => if x / 1000000000000 == id + 1 && x % 1000000000000 != 999999 then some (x % 1000000000000) else none
def preOps (ops : Array Oper) (k : Nat) : Array Oper := (ops.toList.take k).toArray
def frzs : List Nat → ACode → ACode
  | [], c => c
  | t :: r, c => frzs r (.seq c (.frz t))

def compileRegion2 (P : Program) (gs : List Nat) (N : Nat) (ops : Array Oper) : Option ACode :=
  let k := ((List.range (ops.size + 1)).find? (sufOK ops)).getD ops.size
  let pre := preOps ops k
  let bs := befores pre.toList []
  if sufOK ops k && (slotsOK pre bs && edgesOK pre bs) then
    match kindsOf P gs pre.toList with
    | some kinds =>
      match compileDraw P gs N pre bs kinds 0 pre.toList, compileSeq P gs N ops (ops.toList.drop k) with
      | some os, some suf => some (.reg2 os suf)
      | _, _ => none
    | none => none
  else none

def compileRegion (P : Program) (gs : List Nat) (N : Nat) (ops : Array Oper) (draw : Bool) : Option ACode :=
  if draw then
    let bs := befores ops.toList []
    if slotsOK ops bs && edgesOK ops bs then
      match kindsOf P gs ops.toList with
      | some kinds => (compileDraw P gs N ops bs kinds 0 ops.toList).map (.reg true)
      | none => none
    else none
  else (compileSeq P gs N ops ops.toList).map (.reg false)

def condOpd (gs : List Nat) (c : Operand) : Option AOpd :=
  match opd gs c with
  | some (.l _) => none
  | x => x

def compileCode (P : Program) (gs : List Nat) (N : Nat) : Code → Option ACode
  | .skip => some .skip
  | .region id ops draw =>
    if (markF gs id).all gs.contains then (if markS gs id && draw then compileRegion2 P gs N ops else compileRegion P gs N ops draw).map (frzs (markF gs id)) else none
  | .seq a b => match compileCode P gs N a, compileCode P gs N b with | some a', some b' => some (.seq a' b') | _, _ => none
  | .cond c a b => match condOpd gs c, compileCode P gs N a, compileCode P gs N b with | some c', some a', some b' => some (.cond c' a' b') | _, _, _ => none
  | .block id b => (compileCode P gs N b).map (.block id)
  | .loop b => (compileCode P gs N b).map .loop
  | .exit id => some (.exit id)
  | .ret => some .ret
  | _ => none

def compileRes (P : Program) (gs : List Nat) : List ResultVar → Option (List ARes)
  | [] => some []
  | .tmp t :: r => (compileRes P gs r).map fun l => .tmp (gs.contains t, t) :: l
  | .cell a t :: r =>
    match szOf P t, aggOf P t, compileRes P gs r with
    | some n, some agg, some l => some (.cell (gs.contains a, a) n agg :: l)
    | _, _, _ => none

def compileFun (P : Program) (gs : List Nat) (fn : Func) : Option AFun :=
  match fn.body.bind (compileCode P gs fn.ntmps), compileRes P gs fn.results.toList with
  | some body, some results => if fn.params.size + fn.nfree ≤ fn.ntmps then some { np := fn.params.size + fn.nfree, ntmps := fn.ntmps, body, results } else none
  | _, _ => none

/-! ## What it comes to -/

section
variable (P : Program)

/-- What an operation looks at, and what it makes, for those that follow. -/
def accTo (i : Nat) (t : Option Nat) (mk : Bool) (nx : Nat) (acc : List (Nat × Nat)) : List (Nat × Nat) :=
  (match t with | some q => [(i, q)] | none => []) ++ (if mk then [(i, nx)] else []) ++ acc

/-- Operations whose order is open: those that look at one object, one of them writing or making it, and are in no order, look at different ones. -/
def aopsD : Nat → List (Nat × Nat) → List AOper → (Env → Env → St → Prop) → Env → Env → St → Prop
  | _, _, [], K, g, l, s => ∀ m, s.nx ≤ m → K g l (s.bump m)
  | i, acc, o :: os, K, g, l, s =>
    guarded o.guard g l
      (fun g l => (match o.op.touch (AOpd.val g l) with | some q => ∀ p ∈ acc, p.1 ∈ o.conc → p.2 ≠ q | none => True) ∧
        o.op.step P g l s fun v s' => setDst o.dst v g l fun g' l' => aopsD (i + 1) (accTo i (o.op.touch (AOpd.val g l)) o.op.makes s.nx acc) os K g' l' s')
      (fun g l => setDst o.dst (.tup []) g l fun g' l' => aopsD (i + 1) acc os K g' l' s)

def awp : ACode → (AExit → Env → St → Prop) → Env → St → Prop
  | .skip, Q, g, s => Q .normal g s
  | .reg false ops, Q, g, s => aops P ops (fun g _ s => Q .normal g s) g [] s
  | .reg2 pre suf, Q, g, s => aopsD P 0 [] pre (aops P suf fun g _ s => Q .normal g s) g [] s
  | .frz t, Q, g, s =>
    match g.get t with
    | .ptr o off => (match s.m o with | some (.box cs) => Q .normal ((t, .cptr (cs.drop off)) :: g) (s.del o) | _ => False)
    | _ => False
  | .reg true ops, Q, g, s => aopsD P 0 [] ops (fun g _ s => Q .normal g s) g [] s
  | .seq a b, Q, g, s => awp a (fun e g s => match e with | .normal => awp b Q g s | e => Q e g s) g s
  | .cond c a b, Q, g, s =>
    match c.val g [] with
    | .bool t => (t = true → awp a Q g s) ∧ (t = false → awp b Q g s)
    | _ => False
  | .block id b, Q, g, s => awp b (fun e g s => match e with | .exit i => if i = id then Q .normal g s else Q (.exit i) g s | e => Q e g s) g s
  | .loop b, Q, g, s => ∃ (I : Nat → Env → St → Prop) (n : Nat), I n g s ∧ ∀ n g s, I n g s → awp b (fun e g' s' => match e with | .normal => ∃ m, m < n ∧ I m g' s' | e => Q e g' s') g s
  | .exit id, Q, g, s => Q (.exit id) g s
  | .ret, Q, g, s => Q .ret g s

end

def argEnv : Nat → List AV → Env
  | _, [] => []
  | i, v :: r => (i, v) :: argEnv (i + 1) r

def resVals : List ARes → Env → St → Option (List AV)
  | [], _, _ => some []
  | .tmp (true, t) :: r, g, s => (resVals r g s).map (g.get t :: ·)
  | .cell (true, t) n agg :: r, g, s =>
    match g.get t with
    | .ptr o off =>
      match s.m o with
      | some (.box cs) => if off + n ≤ cs.length then (match loadAV n agg (cs.drop off), resVals r g s with | some v, some l => some (v :: l) | _, _ => none) else none
      | _ => none
    | _ => none
  | _ :: _, _, _ => none

def oneOf : List AV → AV
  | [v] => v
  | vs => .tup vs

def awpFun (P : Program) (af : AFun) (args : List AV) (s : St) (K : AV → St → Prop) : Prop :=
  awp P af.body (fun e g s => match e with | .exit _ => False | _ => match resVals af.results g s with | some vs => K (oneOf vs) s | none => False) (argEnv 0 args) s

/-! ## The relation -/

structure Rel (gs : List Nat) (N : Nat) (ι : Nat → Option Nat) (g l : Env) (s : St) (a : Act) (w : World) : Prop where
  wf : WF ι s.m w
  bnd : Bnd ι s.m s.nx
  size : a.tmps.size = N
  defers : a.defers = []
  glob : ∀ t, gs.contains t = true → Rep ι (Foot ι s.m) w (a.tmps.getD t undef) (g.get t)
  loc : ∀ t, gs.contains t = false → Rep ι (Foot ι s.m) w (a.tmps.getD t undef) (l.get t)

variable {P : Program} {gs : List Nat} {N : Nat} {ι ι' : Nat → Option Nat} {g l : Env} {s s' : St} {a : Act} {w w' : World}

theorem Rel.val (h : Rel gs N ι g l s a w) : ∀ x y, opd gs x = some y → Rep ι (Foot ι s.m) w (a.eval x) (y.val g l) := by
  intro x y hxy
  cases x with
  | tmp t =>
    simp only [opd, Option.some.injEq] at hxy
    subst hxy
    show Rep _ _ _ (a.tmps.getD t undef) _
    cases hg : gs.contains t with
    | true => exact h.glob t hg
    | false => exact h.loc t hg
  | const v =>
    simp only [opd, Option.map_eq_some_iff] at hxy
    obtain ⟨c, hc, rfl⟩ := hxy
    exact constAV_rep v hc
  | func f =>
    simp only [opd, Option.some.injEq] at hxy
    subst hxy
    exact .fn f rfl rfl (by simp) (by simp)
  | global g => cases hxy

theorem Rel.clear (h : Rel gs N ι g l s a w) : Rel gs N ι g [] s a w := ⟨h.wf, h.bnd, h.size, h.defers, h.glob, fun t _ => .any _⟩

theorem getD_put {a : Act} {t : Nat} (ht : t < a.tmps.size) (v : Value) (u : Nat) : (a.put (some t) v).tmps.getD u undef = if u = t then v else a.tmps.getD u undef := by
  simp only [Act.put]
  by_cases h : u = t
  · subst h; simp [ht]
  · simp only [if_neg h]
    have hne : t ≠ u := fun e => h e.symm
    simp [Array.getElem?_setIfInBounds_ne hne]

/-- A slot is written. -/
theorem Rel.put {S : Store} (h : Rel gs N ι g l s a w) (hst : Step ι s.m w ι' s'.m w') (hwf : WF ι' s'.m w') (hb : Bnd ι' s'.m s'.nx) {dst : Option Tmp} {d : Option (Bool × Nat)} (hd : cdst gs N dst = some d)
    {cv : Value} {v : AV} (hv : Rep ι' (Foot ι' s'.m) w' cv v) {K : Env → Env → Prop} (hk : setDst d v g l K) : ∃ g' l', K g' l' ∧ Rel gs N ι' g' l' s' (a.put dst cv) w' := by
  cases dst with
  | none =>
    simp only [cdst, Option.some.injEq] at hd
    subst hd
    exact ⟨g, l, hk, hwf, hb, h.size, h.defers, fun t ht => (h.glob t ht).step hst, fun t ht => (h.loc t ht).step hst⟩
  | some t =>
    simp only [cdst] at hd
    split at hd
    · rename_i htN
      simp only [Option.some.injEq] at hd
      subst hd
      have ht : t < a.tmps.size := by rw [h.size]; exact htN
      have hsz : (a.put (some t) cv).tmps.size = N := by simp [Act.put, h.size]
      have hdf : (a.put (some t) cv).defers = [] := h.defers
      cases hg : gs.contains t with
      | true =>
        rw [hg] at hk
        refine ⟨(t, v) :: g, l, hk, hwf, hb, hsz, hdf, fun u hu => ?_, fun u hu => ?_⟩
        · rw [getD_put ht]
          simp only [Env.get]
          by_cases e : u = t
          · subst e; simpa using hv
          · rw [if_neg e, if_neg (fun e' => e e'.symm)]
            exact (h.glob u hu).step hst
        · rw [getD_put ht, if_neg (fun e => by rw [e] at hu; rw [hu] at hg; cases hg)]
          exact (h.loc u hu).step hst
      | false =>
        rw [hg] at hk
        refine ⟨g, (t, v) :: l, hk, hwf, hb, hsz, hdf, fun u hu => ?_, fun u hu => ?_⟩
        · rw [getD_put ht, if_neg (fun e => by rw [e] at hu; rw [hu] at hg; cases hg)]
          exact (h.glob u hu).step hst
        · rw [getD_put ht]
          simp only [Env.get]
          by_cases e : u = t
          · subst e; simpa using hv
          · rw [if_neg e, if_neg (fun e' => e e'.symm)]
            exact (h.loc u hu).step hst
    · cases hd

/-- What a slot is known to be may be said in other words. -/
theorem Rel.envSet (h : Rel gs N ι g l s a w) {t : Nat} {v : AV} (hv : envGet g l (gs.contains t, t) = v) {K : Env → Env → Prop} (hk : envSet (gs.contains t, t) v g l K) :
    ∃ g' l', K g' l' ∧ Rel gs N ι g' l' s a w := by
  cases hg : gs.contains t with
  | true =>
    rw [hg] at hk hv
    refine ⟨(t, v) :: g, l, hk, h.wf, h.bnd, h.size, h.defers, fun u hu => ?_, h.loc⟩
    simp only [Env.get]
    split
    · rename_i e; subst e; subst hv; exact h.glob t hu
    · exact h.glob u hu
  | false =>
    rw [hg] at hk hv
    refine ⟨g, (t, v) :: l, hk, h.wf, h.bnd, h.size, h.defers, h.glob, fun u hu => ?_⟩
    simp only [Env.get]
    split
    · rename_i e; subst e; subst hv; exact h.loc t hu
    · exact h.loc u hu

theorem Rel.envGet (h : Rel gs N ι g l s a w) (t : Nat) : Rep ι (Foot ι s.m) w (a.tmps.getD t undef) (envGet g l (gs.contains t, t)) := by
  unfold AL.envGet
  cases hg : gs.contains t with
  | true => exact h.glob t hg
  | false => exact h.loc t hg

end Go.AL
