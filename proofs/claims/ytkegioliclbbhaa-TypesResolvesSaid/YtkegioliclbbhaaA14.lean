/- The abstract layer: how code is walked by simp. -/
import Derived.Test.YtkegioliclbbhaaA13
set_option linter.unusedVariables false
set_option linter.unusedSimpArgs false
namespace Go.AL
variable {P : Program}

/-! ## Values -/
section
variable (k : IntKind) (n : Int) (b : Bool) (s : ByteArray) (sz o off f : Nat) (t : Tok) (xs ys : List AV)
@[simp] theorem isVal_bool : (AV.bool b).isVal = true := rfl
@[simp] theorem isVal_int : (AV.int k n).isVal = true := rfl
@[simp] theorem isVal_str : (AV.str s).isVal = true := rfl
@[simp] theorem isVal_list : (AV.list sz t xs).isVal = true := rfl
@[simp] theorem isVal_agg : (AV.agg xs).isVal = true := rfl
@[simp] theorem isVal_ptr : (AV.ptr o off).isVal = true := rfl
@[simp] theorem isVal_cptr : (AV.cptr xs).isVal = true := rfl
@[simp] theorem isVal_nilptr : AV.nilptr.isVal = true := rfl
@[simp] theorem isVal_fn : (AV.fn f xs ys).isVal = true := rfl
@[simp] theorem isVal_nilfn : AV.nilfn.isVal = true := rfl
@[simp] theorem isVal_map : (AV.map o).isVal = true := rfl
@[simp] theorem isVal_nilmap : AV.nilmap.isVal = true := rfl
@[simp] theorem cells_bool : (AV.bool b).cells = [.bool b] := rfl
@[simp] theorem cells_int : (AV.int k n).cells = [.int k n] := rfl
@[simp] theorem cells_str : (AV.str s).cells = [.str s] := rfl
@[simp] theorem cells_list : (AV.list sz t xs).cells = [.list sz t xs] := rfl
@[simp] theorem cells_ptr : (AV.ptr o off).cells = [.ptr o off] := rfl
@[simp] theorem cells_cptr : (AV.cptr xs).cells = [.cptr xs] := rfl
@[simp] theorem cells_nilptr : AV.nilptr.cells = [.nilptr] := rfl
@[simp] theorem cells_fn : (AV.fn f xs ys).cells = [.fn f xs ys] := rfl
@[simp] theorem cells_nilfn : AV.nilfn.cells = [.nilfn] := rfl
@[simp] theorem cells_map : (AV.map o).cells = [.map o] := rfl
@[simp] theorem cells_nilmap : AV.nilmap.cells = [.nilmap] := rfl
end

@[simp] theorem fillAV_nil (zs : List AV) : fillAV zs [] = zs := rfl
@[simp] theorem fillAV_cons (zs : List AV) (off : Nat) (x : AV) (r : List (Nat × AV)) : fillAV zs ((off, x) :: r) = fillAV (zs.take off ++ x.cells ++ zs.drop (off + x.cells.length)) r := rfl

@[simp] theorem Env.get_nil (t : Nat) : Env.get [] t = .any := rfl
@[simp] theorem Env.get_cons (k t : Nat) (v : AV) (e : Env) : Env.get ((k, v) :: e) t = if k = t then v else Env.get e t := rfl
@[simp] theorem val_g (g l : Env) (t : Nat) : (AOpd.g t).val g l = g.get t := rfl
@[simp] theorem val_l (g l : Env) (t : Nat) : (AOpd.l t).val g l = l.get t := rfl
@[simp] theorem val_c (g l : Env) (v : AV) : (AOpd.c v).val g l = v := rfl

/-! ## States -/
@[simp] theorem St.new_nx (s : St) (o : AObj) : (s.new o).nx = s.nx + 1 := rfl
@[simp] theorem St.set_nx (s : St) (o : Nat) (ob : AObj) : (s.set o ob).nx = s.nx := rfl
@[simp] theorem St.del_nx (s : St) (o : Nat) : (s.del o).nx = s.nx := rfl
@[simp] theorem St.bump_nx (s : St) (n : Nat) : (s.bump n).nx = n := rfl
@[simp] theorem St.bump_m (s : St) (n : Nat) : (s.bump n).m = s.m := rfl
@[simp] theorem St.new_eq (s : St) (o : AObj) : (s.new o).m s.nx = some o := by simp [St.new]
@[simp] theorem St.new_ne (s : St) (o : AObj) (q : Nat) (h : q ≠ s.nx) : (s.new o).m q = s.m q := by simp [St.new, h]
@[simp] theorem St.set_eq (s : St) (o : Nat) (ob : AObj) : (s.set o ob).m o = some ob := by simp [St.set]
@[simp] theorem St.set_ne (s : St) (o q : Nat) (ob : AObj) (h : q ≠ o) : (s.set o ob).m q = s.m q := by simp [St.set, h]
@[simp] theorem St.del_ne (s : St) (o q : Nat) (h : q ≠ o) : (s.del o).m q = s.m q := by simp [St.del, h]

/-- Where the walk is. -/
def go (X : Prop) : Prop := X
theorem go_of {X : Prop} (h : go X) : X := h

/-! ## Operations, in stages; the rest of the walk is always the last argument -/
abbrev KS := AV → St → Prop

def ldK (n : Nat) (agg : Bool) (cs : List AV) (s : St) (K : KS) : Prop := n ≤ cs.length ∧ match loadAV n agg cs with | some v => K v s | none => False
def ldO (n : Nat) (agg : Bool) (off : Nat) (ob : Option AObj) (s : St) (K : KS) : Prop := match ob with | some (.box cs) => off + n ≤ cs.length ∧ (match loadAV n agg (cs.drop off) with | some v => K v s | none => False) | _ => False
def ldV (n : Nat) (agg : Bool) (v : AV) (s : St) (K : KS) : Prop := match v with | .ptr o off => ldO n agg off (s.m o) s K | .cptr cs => ldK n agg cs s K | _ => False
def stO (n o off : Nat) (x : AV) (ob : Option AObj) (s : St) (K : KS) : Prop := match ob with | some (.box cs) => x.isVal = true ∧ x.cells.length = n ∧ off + n ≤ cs.length ∧ K (.tup []) (s.set o (.box (storeAV cs off x))) | _ => False
def stV (n : Nat) (a x : AV) (s : St) (K : KS) : Prop := match a with | .ptr o off => stO n o off x (s.m o) s K | _ => False
def bxV (x : AV) (s : St) (K : KS) : Prop := x.isVal = true ∧ K (.ptr s.nx 0) (s.new (.box x.cells))
def pkV (c a b : AV) (s : St) (K : KS) : Prop := match c with | .bool t => K (pickAV t a b) s | _ => False
def bdV (zs : List AV) (ps : List (Nat × Nat × AV)) (s : St) (K : KS) : Prop := (∀ p ∈ ps, p.2.2.isVal = true ∧ p.2.2.cells.length = p.2.1 ∧ p.1 + p.2.1 ≤ zs.length) ∧ K (.agg (fillAV zs (ps.map fun p => (p.1, p.2.2)))) s
def bsV (sz : Nat) (z : AV) (m : Nat) (ps : List (Nat × AV)) (s : St) (K : KS) : Prop := (∀ p ∈ ps, p.2.isVal = true ∧ p.2.cells.length = sz ∧ p.1 < m) ∧ K (.list sz .full (ps.foldl (fun xs p => xs.set p.1 p.2) (List.replicate m z))) s
def ncV (x : AV) (s : St) (K : KS) : Prop := match x with | .ptr .. | .aptr .. | .cptr .. | .fn .. => K x s | _ => False
def bnV (op : BinOp) (x y : AV) (s : St) (K : KS) : Prop := binSide op x y ∧ match binAV op x y with | some v => K v s | none => False
def eqV (neg : Bool) (x y : AV) (s : St) (K : KS) : Prop := match x, y with | .bool a, .bool b => K (.bool (if neg then !decide (a = b) else decide (a = b))) s | _, _ => False
def unV (op : UnOp) (x : AV) (s : St) (K : KS) : Prop := match op, x with | .not, .bool b => K (.bool (!b)) s | .neg, .int k n => K (.int k (k.wrap (0 - n))) s | _, _ => False
def cvV (k : IntKind) (x : AV) (s : St) (K : KS) : Prop := match x with | .int _ n => K (.int k (k.wrap n)) s | _ => False
def faV (f : Nat) (x : AV) (s : St) (K : KS) : Prop := match x with | .ptr o off => K (.ptr o (off + f)) s | .cptr cs => f < cs.length ∧ K (.cptr (cs.drop f)) s | _ => False
def fdV (off n : Nat) (agg : Bool) (x : AV) (s : St) (K : KS) : Prop := match x with | .agg cs => off + n ≤ cs.length ∧ (match loadAV n agg (cs.drop off) with | some v => K v s | none => False) | _ => False
def iaV (sz : Nat) (x i : AV) (s : St) (K : KS) : Prop := match x, i with
  | .list sz' _ xs, .int _ n => (sz' = sz ∧ 0 ≤ n ∧ n < xs.length) ∧ K (.cptr (xs.getD n.toNat .any).cells) s
  | .mref sz' o off m, .int _ n => (sz' = sz ∧ 0 ≤ n ∧ n < m) ∧ K (.ptr o ((off + n.toNat) * sz)) s
  | _, _ => False
def isV (x i : AV) (s : St) (K : KS) : Prop := match x, i with | .str t, .int _ n => (0 ≤ n ∧ n < t.size) ∧ K (.int .u8 ((t.data.toList.getD n.toNat 0).toNat)) s | _, _ => False
def exV (i : Nat) (x : AV) (s : St) (K : KS) : Prop := match x with | .tup vs => (match vs[i]? with | some v => K v s | none => False) | _ => False
def lnV (x : AV) (s : St) (K : KS) : Prop := match x with | .list _ _ xs => K (.int .i64 xs.length) s | .mref _ _ _ n => K (.int .i64 n) s | _ => False
def lsV (x : AV) (s : St) (K : KS) : Prop := match x with | .str t => K (.int .i64 t.size) s | _ => False
def apS (sz bytes sz0 : Nat) (t : Tok) (xs : List AV) (sz1 : Nat) (ys : List AV) : Prop := (sz0 = sz ∨ (xs = [] ∧ t = .full)) ∧ (sz1 = sz ∨ ys = []) ∧ (xs.length + ys.length) * bytes ≤ 140737488355328 ∧ xs.length + ys.length ≤ 9223372036854775807
def apO (sz o : Nat) (xs ys : List AV) (ob : Option AObj) (s : St) (K : KS) : Prop := match ob with | some (.spare n) => n = xs.length * sz ∧ K (.list sz (.own s.nx) (xs ++ ys)) ((s.del o).new (.spare ((xs.length + ys.length) * sz))) | _ => False
def amO (sz n : Nat) (ys : List AV) (ob : Option AObj) (s s1 : St) (K : KS) : Prop := match ob with | some (.box cs) => cs.length = n * sz ∧ K (.mref sz s.nx 0 (n + ys.length)) (s1.new (.box (cs ++ flat ys))) | _ => False
def apV (sz bytes : Nat) (a x : AV) (s : St) (K : KS) : Prop :=
  match a, x with
  | .mref sz0 o off n, .list sz1 _ ys => (sz0 = sz ∧ off = 0 ∧ (sz1 = sz ∨ ys = []) ∧ (n + ys.length) * bytes ≤ 140737488355328 ∧ n + ys.length ≤ 9223372036854775807) ∧ amO sz n ys (s.m o) s (s.del o) K
  | .list sz0 .full xs, .list sz1 _ ys => apS sz bytes sz0 .full xs sz1 ys ∧ K (.list sz (.own s.nx) (xs ++ ys)) (s.new (.spare ((xs.length + ys.length) * sz)))
  | .list sz0 (.own o) xs, .list sz1 _ ys => apS sz bytes sz0 (.own o) xs sz1 ys ∧ apO sz o xs ys (s.m o) s K
  | _, _ => False
def mnV (x y : AV) (s : St) (K : KS) : Prop := match x, y with | .int k a, .int k' b => k = k' ∧ K (.int k (if b < a then b else a)) s | _, _ => False
def mxV (x y : AV) (s : St) (K : KS) : Prop := match x, y with | .int k a, .int k' b => k = k' ∧ K (.int k (if a < b then b else a)) s | _, _ => False
def clV (P : Program) (f : AV) (args : List AV) (s : St) (K : KS) : Prop := match f with | .fn f first captured => ACalls P f (first ++ args ++ captured) s K | _ => False
def cpV (P : Program) (f : AV) (args : List AV) (s : St) (K : KS) : Prop := match f with | .fn f first captured => ∃ r, PureC P f (first ++ args ++ captured) r ∧ K r s | _ => False

def msV (sz bytes : Nat) (zs : List AV) (x y : AV) (s : St) (K : KS) : Prop := match x, y with
  | .int _ n, .int _ m => (n = m ∧ 0 ≤ n ∧ n.toNat * bytes ≤ 140737488355328 ∧ n ≤ 9223372036854775807) ∧ K (.mref sz s.nx 0 n.toNat) (s.new (.box (List.replicate n.toNat zs).flatten))
  | _, _ => False
def lkR (c : Bool) (zs : List AV) (agg : Bool) (es : List (Nat × AV × AV)) (r : Option (Option Nat)) (s : St) (K : KS) : Prop := match r with | some r => K (lookAV c zs agg (r.bind fun i => (es[i]?).map (·.2.2))) s | none => False
def lkO (c : Bool) (zs : List AV) (agg : Bool) (k : AV) (ob : Option AObj) (s : St) (K : KS) : Prop := match ob with | some (.map es _) => lkR c zs agg es (mfind k es 0) s K | _ => False
def lkV (str c : Bool) (zs : List AV) (agg : Bool) (m k : AV) (s : St) (K : KS) : Prop := match m with | .map o => keyOK str k ∧ lkO c zs agg k (s.m o) s K | .nilmap => keyOK str k ∧ K (lookAV c zs agg none) s | _ => False
def upR (o : Nat) (es : List (Nat × AV × AV)) (clock : Nat) (k x : AV) (r : Option (Option Nat)) (s : St) (K : KS) : Prop := match r with | some r => K (.tup []) (s.set o (mapSet es clock k x r)) | none => False
def upO (o : Nat) (k x : AV) (ob : Option AObj) (s : St) (K : KS) : Prop := match ob with | some (.map es clock) => upR o es clock k x (mfind k es 0) s K | _ => False
def upV (str : Bool) (m k x : AV) (s : St) (K : KS) : Prop := match m with | .map o => keyOK str k ∧ upO o k x (s.m o) s K | _ => False
def dlR (o : Nat) (es : List (Nat × AV × AV)) (clock : Nat) (r : Option (Option Nat)) (s : St) (K : KS) : Prop := match r with | some r => K (.tup []) (s.set o (mapDel es clock r)) | none => False
def dlO (o : Nat) (k : AV) (ob : Option AObj) (s : St) (K : KS) : Prop := match ob with | some (.map es clock) => dlR o es clock (mfind k es 0) s K | _ => False
def dlV (str : Bool) (m k : AV) (s : St) (K : KS) : Prop := match m with | .map o => keyOK str k ∧ dlO o k (s.m o) s K | .nilmap => keyOK str k ∧ K (.tup []) s | _ => False
def lmO (ob : Option AObj) (s : St) (K : KS) : Prop := match ob with | some (.map es _) => K (.int .i64 es.length) s | _ => False
def lmV (m : AV) (s : St) (K : KS) : Prop := match m with | .map o => lmO (s.m o) s K | .nilmap => K (.int .i64 0) s | _ => False
def rgO (o : Nat) (ob : Option AObj) (s : St) (K : KS) : Prop := match ob with | some (.map _ clock) => K (.ptr s.nx 0) (s.new (.iter (some o) clock [] clock)) | _ => False
def rgV (m : AV) (s : St) (K : KS) : Prop := match m with | .map o => rgO o (s.m o) s K | .nilmap => K (.ptr s.nx 0) (s.new (.iter none 0 [] 0)) | _ => False
def nxM (q o since : Nat) (seen : List Nat) (last : Nat) (ob : Option AObj) (s : St) (K : KS) : Prop := match ob with
  | some (.map es clock) => (seen = [] ∨ es = [] ∨ ∃ e ∈ es, e.1 < last) ∧ ((∀ e ∈ es, e.1 < since → e.1 ∈ seen) → K (.tup [.bool false]) s) ∧
      ∀ e ∈ es, e.1 ∉ seen → K (.tup [.bool true, e.2.1, e.2.2]) (s.set q (.iter (some o) since (seen ++ [e.1]) clock))
  | _ => False
def nxO (q : Nat) (ob : Option AObj) (s : St) (K : KS) : Prop := match ob with
  | some (.iter none _ _ _) => K (.tup [.bool false]) s
  | some (.iter (some o) since seen last) => nxM q o since seen last (s.m o) s K
  | _ => False
def nxV (x : AV) (s : St) (K : KS) : Prop := match x with | .ptr q 0 => nxO q (s.m q) s K | _ => False
def enM (seen : List Nat) (last : Nat) (ob : Option AObj) (s : St) (K : KS) : Prop := match ob, seen.getLast? with
  | some (.map es clock), some st => clock = last ∧ (match es.find? fun e => e.1 == st with | some e => K (.tup [e.2.1, e.2.2]) s | none => False)
  | _, _ => False
def enO (ob : Option AObj) (s : St) (K : KS) : Prop := match ob with
  | some (.iter (some o) _ seen last) => enM seen last (s.m o) s K
  | _ => False
def enV (x : AV) (s : St) (K : KS) : Prop := match x with | .ptr q 0 => enO (s.m q) s K | _ => False

section
variable {g l : Env} {s : St} {K : KS}
theorem step_mv (x : AOpd) : AOp.step P (.mv x) g l s K = K (x.val g l) s := by simp [AOp.step, AOp.stepP, AOp.touch, AOp.ev, AOp.side, St.app2]
@[simp] theorem go_step_mv (x : AOpd)  : go (AOp.step P (.mv x) g l s K) = go (K (x.val g l) s) := by rw [step_mv]
theorem step_pick (c a b : AOpd) : AOp.step P (.pick c a b) g l s K = pkV (c.val g l) (a.val g l) (b.val g l) s K := by
  simp only [AOp.step, AOp.stepP, AOp.touch, AOp.ev, AOp.side, St.app2, pkV]
  cases c.val g l <;> simp
@[simp] theorem go_step_pick (c a b : AOpd)  : go (AOp.step P (.pick c a b) g l s K) = go (pkV (c.val g l) (a.val g l) (b.val g l) s K) := by rw [step_pick]
theorem step_alloc (zs : List AV) : AOp.step P (.alloc zs) g l s K = K (.ptr s.nx 0) (s.new (.box zs)) := by simp [AOp.step, AOp.stepP, AOp.touch, AOp.ev, AOp.side, St.app2]
@[simp] theorem go_step_alloc (zs : List AV)  : go (AOp.step P (.alloc zs) g l s K) = go (K (.ptr s.nx 0) (s.new (.box zs))) := by rw [step_alloc]
theorem step_box (x : AOpd) : AOp.step P (.box x) g l s K = bxV (x.val g l) s K := by simp [AOp.step, AOp.stepP, AOp.touch, AOp.ev, AOp.side, St.app2, bxV]
@[simp] theorem go_step_box (x : AOpd)  : go (AOp.step P (.box x) g l s K) = go (bxV (x.val g l) s K) := by rw [step_box]
theorem step_build (zs : List AV) (ps : List (Nat × Nat × AOpd)) : AOp.step P (.build zs ps) g l s K = bdV zs (ps.map fun p => (p.1, p.2.1, p.2.2.val g l)) s K := by
  simp only [AOp.step, AOp.stepP, AOp.touch, AOp.ev, AOp.side, St.app2, bdV, List.forall_mem_map, List.map_map, Function.comp_def]
@[simp] theorem go_step_build (zs : List AV) (ps : List (Nat × Nat × AOpd))  : go (AOp.step P (.build zs ps) g l s K) = go (bdV zs (ps.map fun p => (p.1, p.2.1, p.2.2.val g l)) s K) := by rw [step_build]
theorem step_buildSlice (sz : Nat) (agg : Bool) (zs : List AV) (m : Nat) (ps : List (Nat × AOpd)) : AOp.step P (.buildSlice sz agg zs m ps) g l s K = bsV sz (if agg then .agg zs else zs.headD .any) m (ps.map fun p => (p.1, p.2.val g l)) s K := by
  simp only [AOp.step, AOp.stepP, AOp.touch, AOp.ev, AOp.side, St.app2, bsV, List.forall_mem_map, List.map_map, Function.comp_def]
@[simp] theorem go_step_buildSlice (sz : Nat) (agg : Bool) (zs : List AV) (m : Nat) (ps : List (Nat × AOpd))  : go (AOp.step P (.buildSlice sz agg zs m ps) g l s K) = go (bsV sz (if agg then .agg zs else zs.headD .any) m (ps.map fun p => (p.1, p.2.val g l)) s K) := by rw [step_buildSlice]
theorem step_load (n : Nat) (agg : Bool) (a : AOpd) : AOp.step P (.load n agg a) g l s K = ldV n agg (a.val g l) s K := by
  simp only [AOp.step, AOp.stepP, AOp.touch, AOp.ev, AOp.side, ldV]
  cases a.val g l <;> simp only
  case ptr o off =>
    cases s.m o with
    | none => rfl
    | some ob =>
      cases ob <;> simp only [ldO]
      rename_i cs
      cases loadAV n agg (cs.drop off) <;> simp [St.app1, St.app2]
  case cptr cs =>
    simp only [ldK]
    cases loadAV n agg cs <;> simp [St.app1, St.app2]
  case aptr a b c d =>
    cases s.m b <;> rfl
@[simp] theorem go_step_load (n : Nat) (agg : Bool) (a : AOpd)  : go (AOp.step P (.load n agg a) g l s K) = go (ldV n agg (a.val g l) s K) := by rw [step_load]
theorem step_store (n : Nat) (a x : AOpd) : AOp.step P (.store n a x) g l s K = stV n (a.val g l) (x.val g l) s K := by
  simp only [AOp.step, AOp.stepP, AOp.touch, AOp.ev, AOp.side, stV]
  cases a.val g l <;> simp only
  case ptr o off =>
    cases s.m o with
    | none => rfl
    | some ob => cases ob <;> simp [stO, St.app1, St.app2, and_assoc]
  case aptr a b c d =>
    cases s.m b <;> rfl
@[simp] theorem go_step_store (n : Nat) (a x : AOpd)  : go (AOp.step P (.store n a x) g l s K) = go (stV n (a.val g l) (x.val g l) s K) := by rw [step_store]
theorem step_nilCheck (x : AOpd) : AOp.step P (.nilCheck x) g l s K = ncV (x.val g l) s K := by
  simp only [AOp.step, AOp.stepP, AOp.touch, AOp.ev, AOp.side, ncV]
  cases h : x.val g l <;> simp [St.app2, h]
@[simp] theorem go_step_nilCheck (x : AOpd)  : go (AOp.step P (.nilCheck x) g l s K) = go (ncV (x.val g l) s K) := by rw [step_nilCheck]
theorem step_bin (op : BinOp) (x y : AOpd) : AOp.step P (.bin op x y) g l s K = bnV op (x.val g l) (y.val g l) s K := by
  simp only [AOp.step, AOp.stepP, AOp.touch, AOp.ev, AOp.side, bnV]
  cases binAV op (x.val g l) (y.val g l) <;> simp [St.app2]
@[simp] theorem go_step_bin (op : BinOp) (x y : AOpd)  : go (AOp.step P (.bin op x y) g l s K) = go (bnV op (x.val g l) (y.val g l) s K) := by rw [step_bin]
theorem step_eqb (n : Bool) (x y : AOpd) : AOp.step P (.eqb n x y) g l s K = eqV n (x.val g l) (y.val g l) s K := by
  simp only [AOp.step, AOp.stepP, AOp.touch, AOp.ev, AOp.side, eqV]
  cases x.val g l <;> cases y.val g l <;> simp [St.app2]
@[simp] theorem go_step_eqb (n : Bool) (x y : AOpd)  : go (AOp.step P (.eqb n x y) g l s K) = go (eqV n (x.val g l) (y.val g l) s K) := by rw [step_eqb]
theorem step_un (op : UnOp) (x : AOpd) : AOp.step P (.un op x) g l s K = unV op (x.val g l) s K := by
  simp only [AOp.step, AOp.stepP, AOp.touch, AOp.ev, AOp.side, unV]
  cases op <;> cases x.val g l <;> simp [St.app2]
@[simp] theorem go_step_un (op : UnOp) (x : AOpd)  : go (AOp.step P (.un op x) g l s K) = go (unV op (x.val g l) s K) := by rw [step_un]
theorem step_conv (k : IntKind) (x : AOpd) : AOp.step P (.conv k x) g l s K = cvV k (x.val g l) s K := by
  simp only [AOp.step, AOp.stepP, AOp.touch, AOp.ev, AOp.side, cvV]
  cases x.val g l <;> simp [St.app2]
@[simp] theorem go_step_conv (k : IntKind) (x : AOpd)  : go (AOp.step P (.conv k x) g l s K) = go (cvV k (x.val g l) s K) := by rw [step_conv]
theorem step_mkfn (f : FuncId) (a b : List AOpd) : AOp.step P (.mkfn f a b) g l s K = K (.fn f (a.map (AOpd.val g l)) (b.map (AOpd.val g l))) s := by simp [AOp.step, AOp.stepP, AOp.touch, AOp.ev, AOp.side, St.app2]
@[simp] theorem go_step_mkfn (f : FuncId) (a b : List AOpd)  : go (AOp.step P (.mkfn f a b) g l s K) = go (K (.fn f (a.map (AOpd.val g l)) (b.map (AOpd.val g l))) s) := by rw [step_mkfn]
theorem step_fieldAddr (f : Nat) (x : AOpd) : AOp.step P (.fieldAddr f x) g l s K = faV f (x.val g l) s K := by
  simp only [AOp.step, AOp.stepP, AOp.touch, AOp.ev, AOp.side, faV]
  cases x.val g l <;> simp [St.app2]
@[simp] theorem go_step_fieldAddr (f : Nat) (x : AOpd)  : go (AOp.step P (.fieldAddr f x) g l s K) = go (faV f (x.val g l) s K) := by rw [step_fieldAddr]
theorem step_field (off n : Nat) (agg : Bool) (x : AOpd) : AOp.step P (.field off n agg x) g l s K = fdV off n agg (x.val g l) s K := by
  simp only [AOp.step, AOp.stepP, AOp.touch, AOp.ev, AOp.side, fdV]
  cases x.val g l <;> simp only
  rename_i cs
  cases loadAV n agg (cs.drop off) <;> simp [St.app2]
@[simp] theorem go_step_field (off n : Nat) (agg : Bool) (x : AOpd)  : go (AOp.step P (.field off n agg x) g l s K) = go (fdV off n agg (x.val g l) s K) := by rw [step_field]
theorem step_indexAddr (sz : Nat) (x i : AOpd) : AOp.step P (.indexAddr sz x i) g l s K = iaV sz (x.val g l) (i.val g l) s K := by
  simp only [AOp.step, AOp.stepP, AOp.touch, AOp.ev, AOp.side, iaV]
  cases x.val g l <;> cases i.val g l <;> simp [St.app2]
@[simp] theorem go_step_indexAddr (sz : Nat) (x i : AOpd)  : go (AOp.step P (.indexAddr sz x i) g l s K) = go (iaV sz (x.val g l) (i.val g l) s K) := by rw [step_indexAddr]
theorem step_indexStr (x i : AOpd) : AOp.step P (.indexStr x i) g l s K = isV (x.val g l) (i.val g l) s K := by
  simp only [AOp.step, AOp.stepP, AOp.touch, AOp.ev, AOp.side, isV]
  cases x.val g l <;> cases i.val g l <;> simp [St.app2]
@[simp] theorem go_step_indexStr (x i : AOpd)  : go (AOp.step P (.indexStr x i) g l s K) = go (isV (x.val g l) (i.val g l) s K) := by rw [step_indexStr]
theorem step_extract (x : AOpd) (i : Nat) : AOp.step P (.extract x i) g l s K = exV i (x.val g l) s K := by
  simp only [AOp.step, AOp.stepP, AOp.touch, AOp.ev, AOp.side, exV]
  cases x.val g l <;> simp only
  rename_i vs
  cases vs[i]? <;> simp [St.app2]
@[simp] theorem go_step_extract (x : AOpd) (i : Nat)  : go (AOp.step P (.extract x i) g l s K) = go (exV i (x.val g l) s K) := by rw [step_extract]
theorem step_len (x : AOpd) : AOp.step P (.len x) g l s K = lnV (x.val g l) s K := by
  simp only [AOp.step, AOp.stepP, AOp.touch, AOp.ev, AOp.side, lnV]
  cases x.val g l <;> simp [St.app2]
@[simp] theorem go_step_len (x : AOpd)  : go (AOp.step P (.len x) g l s K) = go (lnV (x.val g l) s K) := by rw [step_len]
theorem step_lenStr (x : AOpd) : AOp.step P (.lenStr x) g l s K = lsV (x.val g l) s K := by
  simp only [AOp.step, AOp.stepP, AOp.touch, AOp.ev, AOp.side, lsV]
  cases x.val g l <;> simp [St.app2]
@[simp] theorem go_step_lenStr (x : AOpd)  : go (AOp.step P (.lenStr x) g l s K) = go (lsV (x.val g l) s K) := by rw [step_lenStr]
theorem step_append (sz bytes : Nat) (a x : AOpd) : AOp.step P (.append sz bytes a x) g l s K = apV sz bytes (a.val g l) (x.val g l) s K := by
  simp only [AOp.step, AOp.stepP, AOp.touch, AOp.ev, AOp.side, apV]
  cases a.val g l <;> try (rfl; done)
  case mref sz0 o off n =>
    cases ho : s.m o with
    | none => cases x.val g l <;> simp [ho, amO]
    | some ob =>
      cases ob <;> cases x.val g l <;> simp [ho, amO]
      rename_i cs sz1 t1 ys
      by_cases h : sz0 = sz ∧ off = 0 ∧ cs.length = n * sz
      · obtain ⟨h1, h2, h3⟩ := h
        simp [h1, h2, h3, St.app1, St.app2]
      · simp only [if_neg h]
        simp only [false_iff]
        rintro ⟨⟨h1, h2, _⟩, h3, _⟩
        exact h ⟨h1, h2, h3⟩
  rename_i sz0 t xs
  cases t with
  | none => cases x.val g l <;> simp
  | full => cases x.val g l <;> simp [St.app2, apS]
  | own o =>
    cases ho : s.m o with
    | none => cases x.val g l <;> simp [ho, apO, apS]
    | some ob =>
      cases ob <;> cases x.val g l <;> simp [ho, apO, apS]
      rename_i n sz1 t1 ys
      by_cases h : n = xs.length * sz <;> simp [h, St.app1, St.app2]
@[simp] theorem go_step_append (sz bytes : Nat) (a x : AOpd)  : go (AOp.step P (.append sz bytes a x) g l s K) = go (apV sz bytes (a.val g l) (x.val g l) s K) := by rw [step_append]
theorem step_nilSlice (sz bytes : Nat) (zs : List AV) (x y : AOpd) : AOp.step P (.mkslice sz bytes zs true x y) g l s K = K (.mref sz s.nx 0 0) (s.new (.box [])) := by
  simp [AOp.step, AOp.stepP, AOp.touch, AOp.ev, AOp.side, St.app2]
@[simp] theorem go_step_nilSlice (sz bytes : Nat) (zs : List AV) (x y : AOpd)  : go (AOp.step P (.mkslice sz bytes zs true x y) g l s K) = go (K (.mref sz s.nx 0 0) (s.new (.box []))) := by rw [step_nilSlice]
theorem step_min (x y : AOpd) : AOp.step P (.min x y) g l s K = mnV (x.val g l) (y.val g l) s K := by
  simp only [AOp.step, AOp.stepP, AOp.touch, AOp.ev, AOp.side, mnV]
  cases x.val g l <;> cases y.val g l <;> simp [St.app2]
@[simp] theorem go_step_min (x y : AOpd)  : go (AOp.step P (.min x y) g l s K) = go (mnV (x.val g l) (y.val g l) s K) := by rw [step_min]
theorem step_max (x y : AOpd) : AOp.step P (.max x y) g l s K = mxV (x.val g l) (y.val g l) s K := by
  simp only [AOp.step, AOp.stepP, AOp.touch, AOp.ev, AOp.side, mxV]
  cases x.val g l <;> cases y.val g l <;> simp [St.app2]
@[simp] theorem go_step_max (x y : AOpd)  : go (AOp.step P (.max x y) g l s K) = go (mxV (x.val g l) (y.val g l) s K) := by rw [step_max]
theorem step_call (f : AOpd) (args : List AOpd) : AOp.step P (.call false f args) g l s K = clV P (f.val g l) (args.map (AOpd.val g l)) s K := by
  simp only [AOp.step, callee, clV]
  cases f.val g l <;> simp
@[simp] theorem go_step_call (f : AOpd) (args : List AOpd)  : go (AOp.step P (.call false f args) g l s K) = go (clV P (f.val g l) (args.map (AOpd.val g l)) s K) := by rw [step_call]
theorem step_callp (f : AOpd) (args : List AOpd) : AOp.step P (.call true f args) g l s K = cpV P (f.val g l) (args.map (AOpd.val g l)) s K := by
  simp only [AOp.step, callee, cpV]
  cases f.val g l <;> simp
@[simp] theorem go_step_callp (f : AOpd) (args : List AOpd)  : go (AOp.step P (.call true f args) g l s K) = go (cpV P (f.val g l) (args.map (AOpd.val g l)) s K) := by rw [step_callp]
theorem step_mkmap : AOp.step P .mkmap g l s K = K (.map s.nx) (s.new (.map [] 0)) := by
  simp [AOp.step, AOp.stepP, AOp.touch, AOp.ev, AOp.side, St.app2]
@[simp] theorem go_step_mkmap  : go (AOp.step P .mkmap g l s K) = go (K (.map s.nx) (s.new (.map [] 0))) := by rw [step_mkmap]
theorem step_mkslice (sz bytes : Nat) (zs : List AV) (x y : AOpd) : AOp.step P (.mkslice sz bytes zs false x y) g l s K = msV sz bytes zs (x.val g l) (y.val g l) s K := by
  simp only [AOp.step, AOp.stepP, AOp.touch, AOp.ev, AOp.side, msV, Bool.false_eq_true, if_false]
  cases x.val g l <;> cases y.val g l <;> simp
  rename_i k n k' m
  by_cases h : n = m <;> simp [h, St.app2, and_assoc]
@[simp] theorem go_step_mkslice (sz bytes : Nat) (zs : List AV) (x y : AOpd)  : go (AOp.step P (.mkslice sz bytes zs false x y) g l s K) = go (msV sz bytes zs (x.val g l) (y.val g l) s K) := by rw [step_mkslice]
theorem step_lookup (str c : Bool) (zs : List AV) (agg : Bool) (m k : AOpd) : AOp.step P (.lookup str c zs agg m k) g l s K = lkV str c zs agg (m.val g l) (k.val g l) s K := by
  simp only [AOp.step, AOp.stepP, AOp.touch, AOp.ev, AOp.side, lkV]
  cases m.val g l <;> simp [St.app2]
  rename_i o
  cases s.m o with
  | none => simp [lkO]
  | some ob =>
    cases ob <;> simp [lkO]
    rename_i es clock
    cases mfind (k.val g l) es 0 <;> simp [lkR, St.app1, St.app2]
@[simp] theorem go_step_lookup (str c : Bool) (zs : List AV) (agg : Bool) (m k : AOpd)  : go (AOp.step P (.lookup str c zs agg m k) g l s K) = go (lkV str c zs agg (m.val g l) (k.val g l) s K) := by rw [step_lookup]
theorem step_mapUpdate (str : Bool) (m k x : AOpd) : AOp.step P (.mapUpdate str m k x) g l s K = upV str (m.val g l) (k.val g l) (x.val g l) s K := by
  simp only [AOp.step, AOp.stepP, AOp.touch, AOp.ev, AOp.side, upV]
  cases m.val g l <;> simp
  rename_i o
  cases s.m o with
  | none => simp [upO]
  | some ob =>
    cases ob <;> simp [upO]
    rename_i es clock
    cases mfind (k.val g l) es 0 <;> simp [upR, St.app1, St.app2]
@[simp] theorem go_step_mapUpdate (str : Bool) (m k x : AOpd)  : go (AOp.step P (.mapUpdate str m k x) g l s K) = go (upV str (m.val g l) (k.val g l) (x.val g l) s K) := by rw [step_mapUpdate]
theorem step_delete (str : Bool) (m k : AOpd) : AOp.step P (.delete str m k) g l s K = dlV str (m.val g l) (k.val g l) s K := by
  simp only [AOp.step, AOp.stepP, AOp.touch, AOp.ev, AOp.side, dlV]
  cases m.val g l <;> simp [St.app2]
  rename_i o
  cases s.m o with
  | none => simp [dlO]
  | some ob =>
    cases ob <;> simp [dlO]
    rename_i es clock
    cases mfind (k.val g l) es 0 <;> simp [dlR, St.app1, St.app2]
@[simp] theorem go_step_delete (str : Bool) (m k : AOpd)  : go (AOp.step P (.delete str m k) g l s K) = go (dlV str (m.val g l) (k.val g l) s K) := by rw [step_delete]
theorem step_lenMap (x : AOpd) : AOp.step P (.lenMap x) g l s K = lmV (x.val g l) s K := by
  simp only [AOp.step, AOp.stepP, AOp.touch, AOp.ev, AOp.side, lmV]
  cases x.val g l <;> simp [St.app2]
  rename_i o
  cases s.m o with
  | none => simp [lmO]
  | some ob => cases ob <;> simp [lmO, St.app1, St.app2]
@[simp] theorem go_step_lenMap (x : AOpd)  : go (AOp.step P (.lenMap x) g l s K) = go (lmV (x.val g l) s K) := by rw [step_lenMap]
theorem step_range (x : AOpd) : AOp.step P (.range x) g l s K = rgV (x.val g l) s K := by
  simp only [AOp.step, AOp.stepP, AOp.touch, AOp.ev, AOp.side, rgV]
  cases x.val g l <;> simp [St.app2]
  rename_i o
  cases s.m o with
  | none => simp [rgO]
  | some ob => cases ob <;> simp [rgO, St.app1, St.app2]
@[simp] theorem go_step_range (x : AOpd)  : go (AOp.step P (.range x) g l s K) = go (rgV (x.val g l) s K) := by rw [step_range]
theorem step_next (x : AOpd) : AOp.step P (.next x) g l s K = nxV (x.val g l) s K := by
  rfl
@[simp] theorem go_step_next (x : AOpd)  : go (AOp.step P (.next x) g l s K) = go (nxV (x.val g l) s K) := by rw [step_next]
theorem step_entry (x : AOpd) : AOp.step P (.entry x) g l s K = enV (x.val g l) s K := by
  rfl
@[simp] theorem go_step_entry (x : AOpd)  : go (AOp.step P (.entry x) g l s K) = go (enV (x.val g l) s K) := by rw [step_entry]
end

end Go.AL
