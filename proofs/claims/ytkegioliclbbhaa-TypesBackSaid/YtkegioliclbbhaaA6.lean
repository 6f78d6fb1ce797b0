/- The abstract layer: Go's operations turned into abstract ones; each comes to what the abstract one says. -/
import Derived.Test.YtkegioliclbbhaaA5b
set_option linter.unusedVariables false
set_option linter.unusedSimpArgs false
namespace Go.AL

def opd (gs : List Nat) : Operand → Option AOpd
  | .tmp t => some (if gs.contains t then .g t else .l t)
  | .const v => (constAV v).map .c
  | .func f => some (.c (.fn f [] []))
  | .global _ => none

def opds (gs : List Nat) (xs : Array Operand) : Option (List AOpd) := xs.toList.mapM (opd gs)

def optOpd (gs : List Nat) : Option Operand → Option (Option AOpd)
  | none => some none
  | some x => (opd gs x).map some

def szOf (P : Program) (t : TypeId) : Option Nat := (P.info? t).map (·.size)
def aggOf (P : Program) (t : TypeId) : Option Bool := (P.underlying t).map fun d => match d with | .struct _ | .array _ _ => true | _ => false

/-- '==' (some false), '!=' (some true) at bools. -/
def boolEq (P : Program) (op : BinOp) (t : TypeId) : Option Bool :=
  match P.underlying t, op with
  | some .bool, .eql => some false
  | some .bool, .neq => some true
  | _, _ => none

def partsOf (P : Program) (gs : List Nat) (places : List (Nat × Nat)) : List (Nat × Operand) → Option (List (Nat × Nat × AOpd))
  | [] => some []
  | (i, x) :: r =>
    match places[i]?, opd gs x, partsOf P gs places r with
    | some (off, n), some y, some r' => some ((off, n, y) :: r')
    | _, _, _ => none

def elemsOf (gs : List Nat) : List (Nat × Operand) → Option (List (Nat × AOpd))
  | [] => some []
  | (i, x) :: r =>
    match opd gs x, elemsOf gs r with
    | some y, some r' => some ((i, y) :: r')
    | _, _ => none

/-- A slot whose slice will be written, and how large an element is: such slots are marked by numbers from 1000000 on. -/
def markOf (gs : List Nat) : Option Tmp → Option Nat
  | none => none
  | some t => (gs.find? fun x => x / 1000000 == t + 1).map (· % 1000000)

def compileOp (P : Program) (gs : List Nat) (o : Oper) : Option AOp :=
  match o.op with
  | .move x =>
    match markOf gs o.dst, x with
    | some sz, .const (.slice none 0 0) => some (.mkslice sz 0 [] true (.c .any) (.c .any))
    | _, _ => (opd gs x).map .mv
  | .assign x =>
    match markOf gs o.dst, x with
    | some sz, .const (.slice none 0 0) => some (.mkslice sz 0 [] true (.c .any) (.c .any))
    | _, _ => (opd gs x).map .mv
  | .pick c a b => do some (.pick (← opd gs c) (← opd gs a) (← opd gs b))
  | .alloc e => (zeroAV P e).map .alloc
  | .box e x => (opd gs x).map .box
  | .build t parts =>
    match P.underlying t, zeroAV P t with
    | some (.struct fields), some zs =>
      match fields.toList.mapM (fun f => (P.info? f.type).map fun i => (f.offset, i.size)) with
      | some places => (partsOf P gs places parts.toList).map (.build zs)
      | none => none
    | _, _ => none
  | .buildSlice t len parts =>
    match P.underlying t with
    | some (.slice e) =>
      match szOf P e, aggOf P e, zeroAV P e, elemsOf gs parts.toList with
      | some sz, some agg, some zs, some ps => if zs.length = sz ∧ 0 < sz ∧ len * sz ≤ 2 ^ 24 ∧ (agg = true ∨ sz = 1) then some (.buildSlice sz agg zs len ps) else none
      | _, _, _, _ => none
    | _ => none
  | .load t a => do some (.load (← szOf P t) (← aggOf P t) (← opd gs a))
  | .store t a x => do some (.store (← szOf P t) (← opd gs a) (← opd gs x))
  | .nilCheck x => (opd gs x).map .nilCheck
  | .binOp op t x y _ =>
    match boolEq P op t with
    | some neg => do some (.eqb neg (← opd gs x) (← opd gs y))
    | none => do some (.bin op (← opd gs x) (← opd gs y))
  | .unOp op _ x => do some (.un op (← opd gs x))
  | .convert src dst x =>
    match P.underlying src, P.underlying dst with
    | some (.int _), some (.int k) => (opd gs x).map (.conv k)
    | _, _ => none
  | .makeFunc (.func f) first captured => do some (.mkfn f (← opds gs first) (← opds gs captured))
  | .slice t x lo hi mx =>
    match P.underlying t with
    | some (.slice e) => do some (.slice (← szOf P e) (← opd gs x) (← optOpd gs lo) (← optOpd gs hi) (← optOpd gs mx))
    | some .string => if mx.isNone then do some (.sliceStr (← opd gs x) (← optOpd gs lo) (← optOpd gs hi)) else none
    | _ => none
  | .fieldAddr s x f =>
    match P.underlying s with
    | some (.struct fields) =>
      match fields[f]? with
      | some fd => (match szOf P fd.type with | some n => if n ≠ 0 then (opd gs x).map (.fieldAddr fd.offset) else none | none => none)
      | none => none
    | _ => none
  | .field s x f =>
    match P.underlying s with
    | some (.struct fields) =>
      match fields[f]? with
      | some fd => do some (.field fd.offset (← szOf P fd.type) (← aggOf P fd.type) (← opd gs x))
      | none => none
    | _ => none
  | .indexAddr t x i =>
    match P.underlying t with
    | some (.slice e) => (match szOf P e with | some sz => if 0 < sz then (do some (.indexAddr sz (← opd gs x) (← opd gs i))) else none | none => none)
    | some (.array n e) => do some (.arrAddr (← szOf P e) n (← opd gs x) (← opd gs i))
    | _ => none
  | .index t x i =>
    match P.underlying t with
    | some .string => do some (.indexStr (← opd gs x) (← opd gs i))
    | _ => none
  | .extract x i => (opd gs x).map (.extract · i)
  | .call c =>
    match c.callee with
    | .builtin .len =>
      match c.args.toList, (c.argTypes[0]?).bind P.underlying with
      | [x], some (.slice _) => (opd gs x).map .len
      | [x], some .string => (opd gs x).map .lenStr
      | _, _ => none
    | .builtin .append =>
      match c.args.toList, c.argTypes.toList with
      | [s, x], [t, t2] =>
        match P.underlying t, P.underlying t2 with
        | some (.slice e), some (.slice _) =>
          match P.info? e with
          | some i => (match i.zero with | some z => if z.cells.size = i.size then (do some (.append i.size i.bytes (← opd gs s) (← opd gs x))) else none | none => none)
          | none => none
        | _, _ => none
      | _, _ => none
    | .builtin .min =>
      match c.args.toList with
      | [x, y] => do some (.min (← opd gs x) (← opd gs y))
      | _ => none
    | .builtin .max =>
      match c.args.toList with
      | [x, y] => do some (.max (← opd gs x) (← opd gs y))
      | _ => none
    | _ => none
  | _ => none

/-- Whom a call through a function value calls, with what. -/
def valueCall : Op → Option (Operand × Array Operand)
  | .call c => (match c.callee with | .value f => some (f, c.args) | _ => none)
  | _ => none

def AOp.isCall : AOp → Bool
  | .call .. => true
  | _ => false

def compileAny (P : Program) (gs : List Nat) (pure : Bool) (o : Oper) : Option AOp :=
  match valueCall o.op with
  | some (f, args) => do some (.call pure (← opd gs f) (← opds gs args))
  | none => (compileOp P gs o).filter (!·.isCall)

variable {ι ι' : Nat → Option Nat} {S S' : Store} {F : Nat → Nat → Prop} {w w' : World} {P : Program}

theorem run_isAgg {t : TypeId} {b : Bool} (h : aggOf P t = some b) : (isAgg t).run P w = .ok b w := by
  unfold aggOf at h
  cases hu : P.underlying t with
  | none => simp [hu] at h
  | some d =>
    simp only [hu, Option.map_some, Option.some.injEq] at h
    unfold isAgg
    rw [Sem.run_bind, run_underlying hu w]
    subst h
    cases d <;> rfl

theorem run_sizeOf {t : TypeId} {n : Nat} (h : szOf P t = some n) : (sizeOf t).run P w = .ok n w := by
  unfold szOf at h
  cases hi : P.info? t with
  | none => simp [hi] at h
  | some i =>
    simp only [hi, Option.map_some, Option.some.injEq] at h
    simp [sizeOf, typeInfo, hi, h]

/-- A slice of a list. -/
theorem slice_list {a : Option Addr} {len cap sz : Nat} {t : Tok} {xs : List AV} (h : Rep ι F w (.slice a len cap) (.list sz t xs)) (l hh m : Nat) (h1 : l ≤ hh) (h2 : hh ≤ len) (h3 : hh ≤ m) (h4 : m ≤ cap)
    (t' : Tok) (ht : t' = .none ∨ (t' = .full ∧ m = hh)) : Rep ι F w (.slice (if m = l then a else a.map (·.add (l * sz))) (hh - l) (m - l)) (.list sz t' ((xs.take hh).drop l)) := by
  obtain ⟨_, _, _, cs, e0, k1, k2, k3, k4, k5, k6, k7⟩ := h.list_inv
  cases e0
  have hfl : flat ((xs.take hh).drop l) = ((flat xs).take (hh * sz)).drop (l * sz) := by
    apply List.ext_getElem?
    intro j
    have hmem : ∀ x ∈ (xs.take hh).drop l, x.cells.length = sz := fun x hx => k3 x (List.mem_of_mem_take (List.mem_of_mem_drop hx))
    by_cases hz : sz = 0
    · subst hz
      have e1 : flat ((xs.take hh).drop l) = [] := List.length_eq_zero_iff.1 (by rw [flat_length hmem]; simp)
      simp [e1]
    · have hpos : 0 < sz := Nat.pos_of_ne_zero hz
      have e : j = j / sz * sz + j % sz := by rw [Nat.mul_comm]; exact (Nat.div_add_mod j sz).symm
      have hlt := Nat.mod_lt j hpos
      have g1 := flat_get hmem (j / sz) (j % sz) hlt
      rw [← e] at g1
      rw [g1, List.getElem?_drop, List.getElem?_drop, List.getElem?_take, List.getElem?_take]
      have g2 := flat_get k3 (l + j / sz) (j % sz) hlt
      have e2 : (l + j / sz) * sz + j % sz = l * sz + j := by rw [Nat.add_mul]; omega
      rw [e2] at g2
      by_cases hc : l + j / sz < hh
      · have hc2 : l * sz + j < hh * sz := by
          have : (l + j / sz + 1) * sz ≤ hh * sz := Nat.mul_le_mul_right _ hc
          rw [Nat.succ_mul] at this
          omega
        rw [if_pos hc, if_pos hc2, g2]
      · have hc2 : ¬ (l * sz + j < hh * sz) := by
          intro h'
          have : hh * sz ≤ (l + j / sz) * sz := Nat.mul_le_mul_right _ (by omega)
          omega
        rw [if_neg hc, if_neg hc2]
        rfl
  refine .list (fun j => cs (l * sz + j)) (by simp; omega) (by omega) (fun x hx => k3 x (List.mem_of_mem_take (List.mem_of_mem_drop hx))) ?_ (fun hn => ?_) (fun j hj => ?_) (fun j x hx => ?_)
  · rcases ht with rfl | ⟨rfl, rfl⟩
    · trivial
    · rfl
  · cases a with
    | none => have := k5 rfl; omega
    | some ad => split at hn <;> simp at hn
  · rw [Nat.sub_mul] at hj
    have hj' : l * sz + j < len * sz := by
      have : hh * sz ≤ len * sz := Nat.mul_le_mul_right _ h2
      omega
    obtain ⟨ad, e1, e2, e3, e4, e5⟩ := k6 _ hj'
    subst e1
    have hml : ¬ m = l := by
      intro e
      subst e
      have : hh = m := by omega
      subst this
      omega
    rw [if_neg hml]
    refine ⟨ad.add (l * sz), rfl, by rw [addr_add ad e2], ?_, ?_, e5⟩
    · rw [addr_add ad e2]; simpa [Nat.add_assoc] using e3
    · rw [addr_add ad e2]; simpa [Nat.add_assoc] using e4
  · rw [hfl] at hx
    rw [List.getElem?_drop] at hx
    have hx' : (flat xs)[l * sz + j]? = some x := by
      rw [List.getElem?_take] at hx
      split at hx
      · exact hx
      · cases hx
    exact k7 _ x hx'

end Go.AL
