/- The abstract layer: operations, code, what they do to an abstract state, and how Go's code is turned into it. -/
import Derived.Test.YtkegioliclbbhaaA0
import Derived.Laws.CopyRow
namespace Go.AL

inductive AOpd where
  | g (t : Nat)
  | l (t : Nat)
  | c (v : AV)
  deriving Inhabited

inductive AOp where
  | mv (x : AOpd)
  | pick (c a b : AOpd)
  | alloc (zs : List AV)
  | box (x : AOpd)
  | build (zs : List AV) (parts : List (Nat × Nat × AOpd))
  | buildSlice (sz : Nat) (agg : Bool) (zs : List AV) (len : Nat) (parts : List (Nat × AOpd))
  | load (n : Nat) (agg : Bool) (a : AOpd)
  | store (n : Nat) (a x : AOpd)
  | nilCheck (x : AOpd)
  | bin (op : BinOp) (x y : AOpd)
  | eqb (neg : Bool) (x y : AOpd)
  | un (op : UnOp) (x : AOpd)
  | conv (k : IntKind) (x : AOpd)
  | mkfn (f : FuncId) (first captured : List AOpd)
  | mkmap
  | mkslice (sz bytes : Nat) (zs : List AV) (agg : Bool) (len cap : AOpd)
  | slice (sz : Nat) (x : AOpd) (lo hi mx : Option AOpd)
  | sliceStr (x : AOpd) (lo hi : Option AOpd)
  | fieldAddr (off : Nat) (x : AOpd)
  | field (off n : Nat) (agg : Bool) (x : AOpd)
  | indexAddr (sz : Nat) (x i : AOpd)
  | arrAddr (sz len : Nat) (x i : AOpd)
  | indexStr (x i : AOpd)
  | extract (x : AOpd) (i : Nat)
  | len (x : AOpd)
  | lenStr (x : AOpd)
  | lenMap (x : AOpd)
  | append (sz bytes : Nat) (s x : AOpd)
  | min (x y : AOpd)
  | max (x y : AOpd)
  | lookup (ok : Bool) (zs : List AV) (agg : Bool) (m k : AOpd)
  | mapUpdate (m k x : AOpd)
  | delete (m k : AOpd)
  | call (pure : Bool) (f : AOpd) (args : List AOpd)
  deriving Inhabited

structure AOper where
  dst : Option (Bool × Nat)
  op : AOp
  guard : Option (Bool × Nat × Bool)
  conc : List Nat
  deriving Inhabited

inductive ACode where
  | skip
  | reg (draw : Bool) (ops : List AOper)
  | reg2 (pre suf : List AOper)
  | frz (t : Nat)
  | seq (a b : ACode)
  | cond (c : AOpd) (a b : ACode)
  | block (id : Nat) (b : ACode)
  | loop (b : ACode)
  | exit (id : Nat)
  | ret
  deriving Inhabited

inductive ARes where
  | tmp (t : Bool × Nat)
  | cell (t : Bool × Nat) (n : Nat) (agg : Bool)
  deriving Inhabited

structure AFun where
  np : Nat
  ntmps : Nat
  body : ACode
  results : List ARes
  deriving Inhabited

/-! ## States -/

abbrev Env := List (Nat × AV)
def Env.get : Env → Nat → AV
  | [], _ => .any
  | (k, v) :: e, t => if k = t then v else Env.get e t

def AOpd.val (g l : Env) : AOpd → AV
  | .g t => g.get t
  | .l t => l.get t
  | .c v => v

structure St where
  m : Store
  nx : Nat

def St.set (s : St) (o : Nat) (obj : AObj) : St := ⟨fun q => if q = o then some obj else s.m q, s.nx⟩
def St.del (s : St) (o : Nat) : St := ⟨fun q => if q = o then none else s.m q, s.nx⟩
def St.new (s : St) (obj : AObj) : St := ⟨fun q => if q = s.nx then some obj else s.m q, s.nx + 1⟩
def St.bump (s : St) (n : Nat) : St := ⟨s.m, n⟩

inductive Upd where
  | keep | set (o : AObj) | del

structure Res where
  v : AV
  upd : Upd := .keep
  new : Option AObj := none

def St.app1 (s : St) (t : Option Nat) (u : Upd) : St :=
  match t, u with
  | some o, .set obj => s.set o obj
  | some o, .del => s.del o
  | _, _ => s
def St.app2 (s : St) (new : Option AObj) : St :=
  match new with
  | some obj => s.new obj
  | none => s

def app1S (S : Store) (t : Option Nat) (u : Upd) : Store :=
  match t, u with
  | some o, .set obj => fun q => if q = o then some obj else S q
  | some o, .del => fun q => if q = o then none else S q
  | _, _ => S
def app2S (S : Store) (n : Nat) (new : Option AObj) : Store :=
  match new with
  | some obj => fun q => if q = n then some obj else S q
  | none => S
theorem St.app_m (s : St) (t : Option Nat) (u : Upd) (new : Option AObj) : ((s.app1 t u).app2 new).m = app2S (app1S s.m t u) s.nx new := by
  cases t <;> cases u <;> cases new <;> rfl
theorem St.app_nx (s : St) (t : Option Nat) (u : Upd) (new : Option AObj) : ((s.app1 t u).app2 new).nx = s.nx + (if new.isSome then 1 else 0) := by
  cases t <;> cases u <;> cases new <;> rfl

/-! ## Operations -/

def pickAV (t : Bool) (a b : AV) : AV :=
  match a, b with
  | .bool x, .bool y => .bool (bif t then x else y)
  | a, b => if t then a else b

def AV.eqB : AV → AV → Option Bool
  | .bool a, .bool b => some (decide (a = b))
  | _, _ => none

def binAV (op : BinOp) : AV → AV → Option AV
  | .int k a, .int _ b =>
    match op with
    | .add => some (.int k (k.wrap (a + b)))
    | .sub => some (.int k (k.wrap (a - b)))
    | .mul => some (.int k (k.wrap (a * b)))
    | .quo => some (.int k (k.wrap (a.tdiv b)))
    | .rem => some (.int k (a.tmod b))
    | .eql => some (.bool (decide (a = b)))
    | .neq => some (.bool (!decide (a = b)))
    | .lss => some (.bool (decide (a < b)))
    | .leq => some (.bool (decide (a ≤ b)))
    | .gtr => some (.bool (decide (b < a)))
    | .geq => some (.bool (decide (b ≤ a)))
    | _ => none
  | .str a, .str b =>
    match op with
    | .eql => some (.bool (decide (a = b)))
    | .neq => some (.bool (!decide (a = b)))
    | .lss => some (.bool (Op.bytesLess a.toList b.toList))
    | .gtr => some (.bool (!(Op.bytesLess a.toList b.toList || decide (a = b))))
    | _ => none
  | _, _ => none

def binSide (op : BinOp) : AV → AV → Prop
  | .int k _, .int k' b => k = k' ∧ match op with | .quo | .rem => b ≠ 0 | _ => True
  | _, _ => True

/-- The cells of a literal: zeros, and the parts in their places. -/
def fillAV (zs : List AV) : List (Nat × AV) → List AV
  | [] => zs
  | (off, x) :: r => fillAV (zs.take off ++ x.cells ++ zs.drop (off + x.cells.length)) r

def loadAV (n : Nat) (agg : Bool) (cs : List AV) : Option AV :=
  if agg then some (.agg (cs.take n)) else match cs with | x :: _ => some x | [] => none

def storeAV (cs : List AV) (off : Nat) (x : AV) : List AV := cs.take off ++ x.cells ++ cs.drop (off + x.cells.length)

def chunk (sz : Nat) (agg : Bool) : Nat → List AV → List AV
  | 0, _ => []
  | n + 1, cs => (if agg then .agg (cs.take sz) else cs.headD .any) :: chunk sz agg n (cs.drop sz)

def AV.int? : AV → Option Int
  | .int _ n => some n
  | _ => none

def optInt : Option AV → Option (Option Int)
  | none => some none
  | some (.int _ n) => some (some n)
  | _ => none

def findAV (k : AV) : List (AV × AV) → Option AV
  | [] => none
  | (a, v) :: r =>
    match a, k with
    | .int _ x, .int _ y => if x = y then some v else findAV k r
    | .str x, .str y => if x = y then some v else findAV k r
    | _, _ => findAV k r

/-- Which object an operation looks at. -/
def AOp.touch (op : AOp) (α : AOpd → AV) : Option Nat :=
  match op with
  | .load _ _ a | .store _ a _ => (match α a with | .ptr o _ => some o | .aptr _ o _ _ => some o | _ => none)
  | .append _ _ s _ => (match α s with | .list _ (.own o) _ => some o | .mref _ o _ _ => some o | _ => none)
  | .lenMap x => (match α x with | .map o => some o | _ => none)
  | .lookup _ _ _ m _ | .mapUpdate m _ _ | .delete m _ => (match α m with | .map o => some o | _ => none)
  | _ => none

def AOp.ev (op : AOp) (α : AOpd → AV) (nx : Nat) (obj : Option AObj) : Option Res :=
  match op with
  | .mv x => some { v := α x }
  | .pick c a b => (match α c with | .bool t => some { v := pickAV t (α a) (α b) } | _ => none)
  | .alloc zs => some { v := .ptr nx 0, new := some (.box zs) }
  | .box x => some { v := .ptr nx 0, new := some (.box (α x).cells) }
  | .build zs parts => some { v := .agg (fillAV zs (parts.map fun p => (p.1, α p.2.2))) }
  | .buildSlice sz agg zs m parts => some { v := .list sz .full ((parts.map fun p => (p.1, α p.2)).foldl (fun xs p => xs.set p.1 p.2) (List.replicate m (if agg then .agg zs else zs.headD .any))) }
  | .load n agg a =>
    match α a, obj with
    | .ptr _ off, some (.box cs) => (loadAV n agg (cs.drop off)).map fun v => { v }
    | .cptr cs, _ => (loadAV n agg cs).map fun v => { v }
    | _, _ => none
  | .store _ a x =>
    match α a, obj with
    | .ptr _ off, some (.box cs) => some { v := .tup [], upd := .set (.box (storeAV cs off (α x))) }
    | _, _ => none
  | .nilCheck x => (match α x with | .ptr .. | .aptr .. | .cptr .. | .fn .. => some { v := α x } | _ => none)
  | .bin op x y => (binAV op (α x) (α y)).map fun v => { v }
  | .eqb neg x y => (match α x, α y with | .bool a, .bool b => some { v := .bool (if neg then !decide (a = b) else decide (a = b)) } | _, _ => none)
  | .un op x =>
    match op, α x with
    | .not, .bool b => some { v := .bool (!b) }
    | .neg, .int k n => some { v := .int k (k.wrap (0 - n)) }
    | _, _ => none
  | .conv k x => (match α x with | .int _ n => some { v := .int k (k.wrap n) } | _ => none)
  | .mkfn f first captured => some { v := .fn f (first.map α) (captured.map α) }
  | .mkmap => none
  | .mkslice sz _ zs nil n m => if nil then some { v := .mref sz nx 0 0, new := some (.box []) } else
    (match α n, α m with | .int _ n, .int _ m => if n = m then some { v := .mref sz nx 0 n.toNat, new := some (.box (List.replicate n.toNat zs).flatten) } else none | _, _ => none)
  | .slice _ x lo hi mx =>
    match α x, optInt (lo.map α), optInt (hi.map α), optInt (mx.map α) with
    | .list sz t xs, some lo, some hi, some mx =>
      some { v := .list sz (match mx, hi with | some m, some h => if m = h then .full else .none | none, none => t.keep | _, _ => .none)
                    ((xs.take (match hi with | some h => h.toNat | none => xs.length)).drop (match lo with | some l => l.toNat | none => 0)) }
    | _, _, _, _ => none
  | .sliceStr x lo hi =>
    match α x, optInt (lo.map α), optInt (hi.map α) with
    | .str s, some lo, some hi => some { v := .str (s.extract (match lo with | some l => l.toNat | none => 0) (match hi with | some h => h.toNat | none => s.size)) }
    | _, _, _ => none
  | .fieldAddr f x =>
    match α x with
    | .ptr o off => some { v := .ptr o (off + f) }
    | .cptr cs => some { v := .cptr (cs.drop f) }
    | _ => none
  | .field off n agg x => (match α x with | .agg cs => (loadAV n agg (cs.drop off)).map fun v => { v } | _ => none)
  | .indexAddr sz x i =>
    match α x, α i with
    | .list _ _ xs, .int _ n => some { v := .cptr (xs.getD n.toNat .any).cells }
    | .mref _ o off _, .int _ n => some { v := .ptr o ((off + n.toNat) * sz) }
    | _, _ => none
  | .arrAddr sz _ x i =>
    match α x, α i with
    | .ptr o off, .int _ n => some { v := .ptr o (off + n.toNat * sz) }
    | .cptr cs, .int _ n => some { v := .cptr (cs.drop (n.toNat * sz)) }
    | _, _ => none
  | .indexStr x i => (match α x, α i with | .str s, .int _ n => some { v := .int .u8 ((s.data.toList.getD n.toNat 0).toNat) } | _, _ => none)
  | .extract x i => (match α x with | .tup vs => (vs[i]?).map fun v => { v } | _ => none)
  | .len x => (match α x with | .list _ _ xs => some { v := .int .i64 xs.length } | .mref _ _ _ n => some { v := .int .i64 n } | _ => none)
  | .lenStr x => (match α x with | .str s => some { v := .int .i64 s.size } | _ => none)
  | .lenMap _ => none
  | .append sz _ s x =>
    match α s, α x, obj with
    | .list _ .full xs, .list _ _ ys, _ => some { v := .list sz (.own nx) (xs ++ ys), new := some (.spare ((xs.length + ys.length) * sz)) }
    | .list _ (.own _) xs, .list _ _ ys, some (.spare n) => if n = xs.length * sz then some { v := .list sz (.own nx) (xs ++ ys), upd := .del, new := some (.spare ((xs.length + ys.length) * sz)) } else none
    | .mref sz0 _ off n, .list _ _ ys, some (.box cs) => if sz0 = sz ∧ off = 0 ∧ cs.length = n * sz then some { v := .mref sz nx 0 (n + ys.length), upd := .del, new := some (.box (cs ++ flat ys)) } else none
    | _, _, _ => none
  | .min x y => (match α x, α y with | .int k a, .int _ b => some { v := .int k (if b < a then b else a) } | _, _ => none)
  | .max x y => (match α x, α y with | .int k a, .int _ b => some { v := .int k (if a < b then b else a) } | _, _ => none)
  | .lookup .. => none
  | .mapUpdate _ _ _ => none
  | .delete _ _ => none
  | .call .. => none

def AOp.side (op : AOp) (α : AOpd → AV) (obj : Option AObj) : Prop :=
  match op with
  | .box x => (α x).isVal = true
  | .build zs parts => ∀ p ∈ parts, (α p.2.2).isVal = true ∧ (α p.2.2).cells.length = p.2.1 ∧ p.1 + p.2.1 ≤ zs.length
  | .buildSlice sz _ _ m parts => ∀ p ∈ parts, (α p.2).isVal = true ∧ (α p.2).cells.length = sz ∧ p.1 < m
  | .load n _ a =>
    (match α a, obj with
    | .ptr _ off, some (.box cs) => off + n ≤ cs.length
    | .cptr cs, _ => n ≤ cs.length
    | _, _ => False)
  | .store n a x =>
    (α x).isVal = true ∧ (α x).cells.length = n ∧
    (match α a, obj with
    | .ptr _ off, some (.box cs) => off + n ≤ cs.length
    | _, _ => False)
  | .bin op x y => binSide op (α x) (α y)
  | .slice sz x lo hi mx =>
    (match α x, optInt (lo.map α), optInt (hi.map α), optInt (mx.map α) with
    | .list sz0 _ xs, some lo, some hi, some mx =>
      (sz0 = sz ∨ xs = []) ∧ (match lo with | some l => 0 ≤ l ∧ l ≤ (match hi with | some h => h | none => xs.length) | none => True) ∧
      (match hi with | some h => 0 ≤ h ∧ h ≤ xs.length ∧ (match mx with | some m => m = h | none => True) | none => mx = none)
    | _, _, _, _ => False)
  | .sliceStr x lo hi =>
    (match α x, optInt (lo.map α), optInt (hi.map α) with
    | .str s, some lo, some hi =>
      (match lo with | some l => 0 ≤ l ∧ l ≤ (match hi with | some h => h | none => s.size) | none => True) ∧
      (match hi with | some h => 0 ≤ h ∧ h ≤ s.size | none => True)
    | _, _, _ => False)
  | .fieldAddr f x => (match α x with | .cptr cs => f < cs.length | _ => True)
  | .field off n _ x => (match α x with | .agg cs => off + n ≤ cs.length | _ => False)
  | .indexAddr sz x i =>
    (match α x, α i with
    | .list sz' _ xs, .int _ n => sz' = sz ∧ 0 ≤ n ∧ n < xs.length
    | .mref sz' _ _ m, .int _ n => sz' = sz ∧ 0 ≤ n ∧ n < m
    | _, _ => False)
  | .arrAddr _ m _ i => (match α i with | .int _ n => 0 ≤ n ∧ n < m | _ => False)
  | .indexStr x i => (match α x, α i with | .str s, .int _ n => 0 ≤ n ∧ n < s.size | _, _ => False)
  | .append sz bytes s x =>
    (match α s, α x with
    | .list sz0 t xs, .list sz1 _ ys => (sz0 = sz ∨ (xs = [] ∧ t = .full)) ∧ (sz1 = sz ∨ ys = []) ∧ (xs.length + ys.length) * bytes ≤ 140737488355328 ∧ xs.length + ys.length ≤ 9223372036854775807
    | .mref _ _ _ n, .list sz1 _ ys => (sz1 = sz ∨ ys = []) ∧ (n + ys.length) * bytes ≤ 140737488355328 ∧ n + ys.length ≤ 9223372036854775807
    | _, _ => False)
  | .min x y | .max x y => (match α x, α y with | .int k _, .int k' _ => k = k' | _, _ => False)
  | .mkslice sz bytes zs nil n _ => if nil then True else (match α n with | .int _ n => 0 ≤ n ∧ n.toNat * bytes ≤ 140737488355328 ∧ zs.length = sz | _ => False)
  | _ => True

def setDst (dst : Option (Bool × Nat)) (v : AV) (g l : Env) (K : Env → Env → Prop) : Prop :=
  match dst with
  | none => K g l
  | some (true, t) => K ((t, v) :: g) l
  | some (false, t) => K g ((t, v) :: l)

section
variable (P : Program)

def Callable (f : FuncId) : Prop := ∀ (args : Array Value) (w : World), (callFunc f args).run P w = .ok (.enter f args) w

/-- Only new numbers are given. -/
def Inc (ι ι' : Nat → Option Nat) (n n' : Nat) : Prop := n ≤ n' ∧ ∀ q b, ι' q = some b → q < n → ι q = some b

/-- A call that comes to K, whatever world the state stands for. -/
def ACalls (f : FuncId) (args : List AV) (s : St) (K : AV → St → Prop) : Prop :=
  Callable P f ∧ ∀ (ι : Nat → Option Nat) (w : World) (vs : Array Value), WF ι s.m w → Bnd ι s.m s.nx → RepL ι (Foot ι s.m) w vs args →
    Calls P f vs w fun e w' => ∃ v r s' ι', e = .returned v ∧ Step ι s.m w ι' s'.m w' ∧ WF ι' s'.m w' ∧ Bnd ι' s'.m s'.nx ∧ Inc ι ι' s.nx s'.nx ∧ Rep ι' (Foot ι' s'.m) w' v r ∧ K r s'

/-- A call that only computes. -/
def PureC (f : FuncId) (args : List AV) (r : AV) : Prop :=
  ∀ s, ACalls P f args s fun r' s' => r' = r ∧ ∀ q, q < s.nx → s'.m q = s.m q

def callee (f : AV) (args : List AV) (K : FuncId → List AV → Prop) : Prop :=
  match f with
  | .fn f first captured => K f (first ++ args ++ captured)
  | _ => False

/-- One operation that is no call. -/
def AOp.stepP (op : AOp) (g l : Env) (s : St) (K : AV → St → Prop) : Prop :=
  match op.touch (AOpd.val g l) with
  | none =>
    match op.ev (AOpd.val g l) s.nx none with
    | none => False
    | some r => op.side (AOpd.val g l) none ∧ K r.v (s.app2 r.new)
  | some o =>
    match s.m o with
    | none => False
    | some obj =>
      match op.ev (AOpd.val g l) s.nx (some obj) with
      | none => False
      | some r => op.side (AOpd.val g l) (some obj) ∧ K r.v ((s.app1 (some o) r.upd).app2 r.new)

/-- One operation. -/
def AOp.step (op : AOp) (g l : Env) (s : St) (K : AV → St → Prop) : Prop :=
  match op with
  | .call true f args => callee (f.val g l) (args.map (AOpd.val g l)) fun f args => ∃ r, PureC P f args r ∧ K r s
  | .call false f args => callee (f.val g l) (args.map (AOpd.val g l)) fun f args => ACalls P f args s K
  | op => op.stepP g l s K

def envGet (g l : Env) (t : Bool × Nat) : AV := if t.1 then g.get t.2 else l.get t.2
def envSet (t : Bool × Nat) (v : AV) (g l : Env) (K : Env → Env → Prop) : Prop := if t.1 then K ((t.2, v) :: g) l else K g ((t.2, v) :: l)

/-- Behind a guard: run it, or skip it. -/
def guarded (guard : Option (Bool × Nat × Bool)) (g l : Env) (run skip : Env → Env → Prop) : Prop :=
  match guard with
  | none => run g l
  | some (gl, t, want) =>
    match envGet g l (gl, t) with
    | .bool b => (b = want → envSet (gl, t) (.bool want) g l run) ∧ (b = !want → envSet (gl, t) (.bool !want) g l skip)
    | .tup [] => skip g l
    | _ => False

/-- Operations in the order of the text. -/
def aops : List AOper → (Env → Env → St → Prop) → Env → Env → St → Prop
  | [], K, g, l, s => K g l s
  | o :: os, K, g, l, s =>
    guarded o.guard g l (fun g l => o.op.step P g l s fun v s' => setDst o.dst v g l fun g' l' => aops os K g' l' s') (fun g l => setDst o.dst (.tup []) g l fun g' l' => aops os K g' l' s)

inductive AExit where
  | normal | exit (id : Nat) | ret

end
end Go.AL
