/- The abstract layer: values, objects, what a value stands for in a world, and what a step keeps. -/
import Derived.Orders
import Derived.Laws.Append
import Derived.Laws.World
namespace Go.AL

/-- What is known of a list's room behind its elements. -/
inductive Tok where
  | none | full | own (o : Nat)
  deriving DecidableEq, Inhabited

def Tok.keep : Tok → Tok
  | .full => .full
  | _ => .none

/-- Abstract values: a slice that nobody writes is the list of its elements. -/
inductive AV where
  | any
  | bool (b : Bool)
  | int (k : IntKind) (n : Int)
  | str (s : ByteArray)
  | list (sz : Nat) (t : Tok) (xs : List AV)
  | agg (cs : List AV)
  | tup (vs : List AV)
  | ptr (o off : Nat)
  | cptr (cs : List AV)
  | nilptr
  | fn (f : FuncId) (first captured : List AV)
  | nilfn
  | map (o : Nat)
  | nilmap
  | mref (sz o off len : Nat)
  | aptr (sz o i j : Nat)
  deriving Inhabited

def AV.cells : AV → List AV
  | .agg cs => cs
  | v => [v]

def AV.isVal : AV → Bool
  | .any | .tup _ => false
  | _ => true

@[simp] theorem AV.cells_agg (cs : List AV) : (AV.agg cs).cells = cs := rfl

def flat (xs : List AV) : List AV := xs.flatMap AV.cells

@[simp] theorem flat_nil : flat [] = [] := rfl
@[simp] theorem flat_cons (x : AV) (xs : List AV) : flat (x :: xs) = x.cells ++ flat xs := rfl
theorem flat_append (xs ys : List AV) : flat (xs ++ ys) = flat xs ++ flat ys := by simp [flat]

theorem flat_length {sz : Nat} : ∀ {xs : List AV}, (∀ x ∈ xs, x.cells.length = sz) → (flat xs).length = xs.length * sz
  | [], _ => by simp
  | x :: xs, h => by
    have h1 := h x (by simp)
    have h2 := flat_length (xs := xs) fun y hy => h y (by simp [hy])
    simp [h1, h2, Nat.succ_mul, Nat.add_comm]

theorem flat_get {sz : Nat} : ∀ {xs : List AV} (_ : ∀ x ∈ xs, x.cells.length = sz) (i j : Nat), j < sz → (flat xs)[i * sz + j]? = (xs[i]?).bind (·.cells[j]?)
  | [], _, i, j, _ => by simp
  | x :: xs, h, 0, j, hj => by
    have h1 := h x (by simp)
    simp [List.getElem?_append_left (h1 ▸ hj)]
  | x :: xs, h, i + 1, j, hj => by
    have h1 := h x (by simp)
    have h2 := flat_get (xs := xs) (fun y hy => h y (by simp [hy])) i j hj
    rw [flat_cons, List.getElem?_append_right (by rw [h1, Nat.succ_mul]; omega)]
    have : (i + 1) * sz + j - x.cells.length = i * sz + j := by rw [h1, Nat.succ_mul]; omega
    rw [this, h2]; simp

/-- Objects that are written. -/
inductive AObj where
  | box (cs : List AV)
  | spare (n : Nat)
  | arr (sz : Nat) (xs : List AV)
  | map (kvs : List (AV × AV))
  | iter (m : Option Nat) (kvs : List (AV × AV))
  deriving Inhabited

def AObj.mut : AObj → Nat → Prop
  | .spare n, off => n ≤ off
  | _, _ => True

abbrev Store := Nat → Option AObj

/-- The cells that the objects of a store may be written at. -/
def Foot (ι : Nat → Option Nat) (S : Store) (b off : Nat) : Prop := ∃ o obj, S o = some obj ∧ ι o = some b ∧ obj.mut off
def Blk (ι : Nat → Option Nat) (S : Store) (b : Nat) : Prop := ∃ o obj, S o = some obj ∧ ι o = some b

end Go.AL
namespace Go
theorem Value.cells_of_isCell {v : Value} (h : v.oneCell' = true) : v.cells = #[v] := by cases v <;> simp_all [Value.oneCell', Value.cells]
end Go
namespace Go.AL

def BlockOf (w : World) (b n : Nat) : Prop := ∃ c e, w.heap[b]? = some (.cells c e (0, 0)) ∧ n ≤ c.size

def TokOK (ι : Nat → Option Nat) (w : World) (sz : Nat) (a : Option Addr) (len cap : Nat) : Tok → Prop
  | .none => True
  | .full => cap = len
  | .own o => cap = len ∨ ∃ b, ι o = some b ∧ a = some ⟨b, 0, none⟩ ∧ BlockOf w b (cap * sz)

/-- The value v stands for the abstract value, in the world w; F are the cells that may be written. -/
inductive Rep (ι : Nat → Option Nat) (F : Nat → Nat → Prop) (w : World) : Value → AV → Prop
  | any (v : Value) : Rep ι F w v .any
  | bool (b : Bool) : Rep ι F w (.bool b) (.bool b)
  | int (k : IntKind) (n : Int) : Rep ι F w (.int k n) (.int k n)
  | str (s : ByteArray) : Rep ι F w (.string s) (.str s)
  | list {a : Option Addr} {len cap sz : Nat} {t : Tok} {xs : List AV} (cs : Nat → Value) (hlen : len = xs.length) (hcap : len ≤ cap)
      (hsz : ∀ x ∈ xs, x.cells.length = sz) (ht : TokOK ι w sz a len cap t) (hnone : a = none → cap = 0)
      (hc : ∀ j, j < len * sz → ∃ ad, a = some ad ∧ ad.spot = none ∧ w.cell? ⟨ad.block, ad.off + j, none⟩ = some (cs j) ∧ ¬ F ad.block (ad.off + j) ∧ (cs j).oneCell' = true)
      (hr : ∀ j x, (flat xs)[j]? = some x → Rep ι F w (cs j) x) : Rep ι F w (.slice a len cap) (.list sz t xs)
  | agg {vs : Array Value} {l : List AV} (hl : vs.size = l.length) (hc : ∀ (j : Nat) v, vs[j]? = some v → v.oneCell' = true)
      (hr : ∀ (j : Nat) v x, vs[j]? = some v → l[j]? = some x → Rep ι F w v x) : Rep ι F w (.agg vs) (.agg l)
  | tup {vs : Array Value} {l : List AV} (hl : vs.size = l.length)
      (hr : ∀ (j : Nat) v x, vs[j]? = some v → l[j]? = some x → Rep ι F w v x) : Rep ι F w (.tuple vs) (.tup l)
  | ptr {o b : Nat} (off : Nat) (h : ι o = some b) : Rep ι F w (.pointer (some ⟨b, off, none⟩)) (.ptr o off)
  | cptr {a : Addr} {l : List AV} (cs : Nat → Value) (ha : a.spot = none)
      (hc : ∀ j, j < l.length → w.cell? ⟨a.block, a.off + j, none⟩ = some (cs j) ∧ ¬ F a.block (a.off + j) ∧ (cs j).oneCell' = true)
      (hr : ∀ j x, l[j]? = some x → Rep ι F w (cs j) x) : Rep ι F w (.pointer (some a)) (.cptr l)
  | nilptr : Rep ι F w (.pointer none) .nilptr
  | fn (f : FuncId) {fs cs : Array Value} {lf lc : List AV} (hl : fs.size = lf.length) (hl' : cs.size = lc.length)
      (hf : ∀ (j : Nat) v x, fs[j]? = some v → lf[j]? = some x → Rep ι F w v x)
      (hr : ∀ (j : Nat) v x, cs[j]? = some v → lc[j]? = some x → Rep ι F w v x) : Rep ι F w (.func (.func f) fs cs) (.fn f lf lc)
  | nilfn : Rep ι F w .nilFunc .nilfn
  | map {o b : Nat} (h : ι o = some b) : Rep ι F w (.map (some b)) (.map o)
  | nilmap : Rep ι F w (.map none) .nilmap
  | mref {sz o b off len cap : Nat} (h : ι o = some b) (hcap : len ≤ cap) (hb : BlockOf w b ((off + cap) * sz)) :
      Rep ι F w (.slice (some ⟨b, off * sz, none⟩) len cap) (.mref sz o off len)
  | mnil {sz o : Nat} : Rep ι F w (.slice none 0 0) (.mref sz o 0 0)
  | aptr {sz o b i j : Nat} (h : ι o = some b) : Rep ι F w (.pointer (some ⟨b, i * sz + j, none⟩)) (.aptr sz o i j)

theorem Rep.isCell {ι : Nat → Option Nat} {F : Nat → Nat → Prop} {w : World} {v : Value} {x : AV} (h : Rep ι F w v x) (hv : x.isVal = true) (hx : ∀ cs, x ≠ .agg cs) : v.oneCell' = true := by
  cases h <;> simp_all [AV.isVal, Value.oneCell']

/-- Lists of values, one by one. -/
def RepL (ι : Nat → Option Nat) (F : Nat → Nat → Prop) (w : World) (vs : Array Value) (l : List AV) : Prop :=
  vs.size = l.length ∧ ∀ (j : Nat) v x, vs[j]? = some v → l[j]? = some x → Rep ι F w v x

/-- The cells of a value stand for those of the abstract one. -/
theorem Rep.cells {ι : Nat → Option Nat} {F : Nat → Nat → Prop} {w : World} {v : Value} {x : AV} (h : Rep ι F w v x) (hv : x.isVal = true) :
    RepL ι F w v.cells x.cells ∧ ∀ (j : Nat) u, v.cells[j]? = some u → u.oneCell' = true := by
  by_cases hx : ∃ cs, x = .agg cs
  · obtain ⟨cs, rfl⟩ := hx
    cases h with
    | agg hl hc hr => exact ⟨⟨hl, hr⟩, hc⟩
  · have hx' : ∀ cs, x ≠ .agg cs := fun cs e => hx ⟨cs, e⟩
    have hc := h.isCell hv hx'
    have hxc : x.cells = [x] := by cases x <;> simp_all [AV.cells]
    rw [Value.cells_of_isCell hc, hxc]
    refine ⟨⟨rfl, fun j u y hu hy => ?_⟩, fun j u hu => ?_⟩
    · cases j with
      | zero => simp at hu hy; subst hu hy; exact h
      | succ j => simp at hu
    · cases j with
      | zero => simp at hu; subst hu; exact hc
      | succ j => simp at hu

def ObjRep (ι : Nat → Option Nat) (F : Nat → Nat → Prop) (w : World) (b : Nat) : AObj → Prop
  | .box cs => ∃ vs e, w.heap[b]? = some (.cells vs e (0, 0)) ∧ cs.length ≤ vs.size ∧ (∀ (j : Nat) v x, vs[j]? = some v → cs[j]? = some x → Rep ι F w v x) ∧ ∀ (j : Nat) v, j < cs.length → vs[j]? = some v → v.oneCell' = true
  | .spare n => BlockOf w b n
  | .arr sz xs => ∃ vs e, w.heap[b]? = some (.cells vs e (0, 0)) ∧ (∀ x ∈ xs, x.cells.length = sz) ∧ xs.length * sz ≤ vs.size ∧
      (∀ (j : Nat) v x, vs[j]? = some v → (flat xs)[j]? = some x → Rep ι F w v x) ∧ ∀ (j : Nat) v, j < xs.length * sz → vs[j]? = some v → v.oneCell' = true
  | .map kvs => ∃ es clock, w.heap[b]? = some (.map es clock) ∧ es.size = kvs.length ∧
      (∀ (j : Nat) (e : MapEntry) p, es[j]? = some e → kvs[j]? = some p → Rep ι F w e.key p.1 ∧ Rep ι F w e.val p.2) ∧
      (∀ (j : Nat) (e : MapEntry), es[j]? = some e → e.born < clock) ∧ (∀ (i j : Nat) (e f : MapEntry), es[i]? = some e → es[j]? = some f → e.born = f.born → i = j)
  | .iter _ _ => True

/-- All that is named has a number below nx. -/
structure Bnd (ι : Nat → Option Nat) (S : Store) (nx : Nat) : Prop where
  lt : ∀ o obj, S o = some obj → o < nx
  ilt : ∀ o b, ι o = some b → o < nx

structure WF (ι : Nat → Option Nat) (S : Store) (w : World) : Prop where
  blt : ∀ o b, ι o = some b → b < w.heap.size
  inj : ∀ o o' obj obj' b, S o = some obj → S o' = some obj' → ι o = some b → ι o' = some b → o = o'
  rep : ∀ o obj b, S o = some obj → ι o = some b → ObjRep ι (Foot ι S) w b obj

/-- What a step keeps: cells that may not be written, blocks that are no objects. -/
structure Step (ι : Nat → Option Nat) (S : Store) (w : World) (ι' : Nat → Option Nat) (S' : Store) (w' : World) : Prop where
  os : w'.os = w.os
  tape : w'.tape = w.tape
  output : w'.output = w.output
  size : w.heap.size ≤ w'.heap.size
  blk : ∀ b, b < w.heap.size → ¬ Blk ι S b → w'.heap[b]? = w.heap[b]?
  cell : ∀ b off, b < w.heap.size → ¬ Foot ι S b off → w'.cell? ⟨b, off, none⟩ = w.cell? ⟨b, off, none⟩
  shape : ∀ b n, BlockOf w b n → BlockOf w' b n
  ext : ∀ o b, ι o = some b → ι' o = some b
  foot : ∀ b off, b < w.heap.size → Foot ι' S' b off → Foot ι S b off
  nblk : ∀ b, b < w.heap.size → Blk ι' S' b → Blk ι S b

theorem Step.refl (ι : Nat → Option Nat) (S : Store) (w : World) : Step ι S w ι S w :=
  ⟨rfl, rfl, rfl, Nat.le_refl _, fun _ _ _ => rfl, fun _ _ _ _ => rfl, fun _ _ h => h, fun _ _ h => h, fun _ _ _ h => h, fun _ _ h => h⟩

theorem Step.trans {ι ι₁ ι₂ : Nat → Option Nat} {S S₁ S₂ : Store} {w w₁ w₂ : World} (h : Step ι S w ι₁ S₁ w₁) (k : Step ι₁ S₁ w₁ ι₂ S₂ w₂) : Step ι S w ι₂ S₂ w₂ where
  os := k.os.trans h.os
  tape := k.tape.trans h.tape
  output := k.output.trans h.output
  size := Nat.le_trans h.size k.size
  blk b hb hn := (k.blk b (Nat.lt_of_lt_of_le hb h.size) (fun hk => hn (h.nblk b hb hk))).trans (h.blk b hb hn)
  cell b off hb hn := (k.cell b off (Nat.lt_of_lt_of_le hb h.size) (fun hk => hn (h.foot b off hb hk))).trans (h.cell b off hb hn)
  shape b n hb := k.shape b n (h.shape b n hb)
  ext o b ho := k.ext o b (h.ext o b ho)
  foot b off hb hf := h.foot b off hb (k.foot b off (Nat.lt_of_lt_of_le hb h.size) hf)
  nblk b hb hf := h.nblk b hb (k.nblk b (Nat.lt_of_lt_of_le hb h.size) hf)

theorem lt_of_cell {w : World} {b off : Nat} {v : Value} (h : w.cell? ⟨b, off, none⟩ = some v) : b < w.heap.size := World.block_lt_of_cell? _ ⟨b, off, none⟩ h

/-- What a value stands for is kept, where the cells that may not be written are kept. -/
theorem Rep.keep {ι ι' : Nat → Option Nat} {F F' : Nat → Nat → Prop} {w w' : World}
    (hext : ∀ o b, ι o = some b → ι' o = some b)
    (hcell : ∀ b off, b < w.heap.size → ¬ F b off → w'.cell? ⟨b, off, none⟩ = w.cell? ⟨b, off, none⟩)
    (hfoot : ∀ b off, b < w.heap.size → F' b off → F b off)
    (hshape : ∀ b n, BlockOf w b n → BlockOf w' b n) {v : Value} {x : AV} (h : Rep ι F w v x) : Rep ι' F' w' v x := by
  induction h with
  | any v => exact .any v
  | bool b => exact .bool b
  | int k n => exact .int k n
  | str s => exact .str s
  | @list a len cap sz t xs cs hlen hcap hsz ht hnone hc hr ih =>
    refine .list cs hlen hcap hsz ?_ hnone (fun j hj => ?_) ih
    · cases t with
      | none => trivial
      | full => exact ht
      | own o =>
        rcases ht with ht | ⟨b, h1, h2, h3⟩
        · exact .inl ht
        · exact .inr ⟨b, hext _ _ h1, h2, hshape _ _ h3⟩
    · obtain ⟨ad, h1, h2, h3, h4, h5⟩ := hc j hj
      have hb := lt_of_cell h3
      exact ⟨ad, h1, h2, (hcell _ _ hb h4).trans h3, fun hf => h4 (hfoot _ _ hb hf), h5⟩
  | agg hl hc hr ih => exact .agg hl hc ih
  | tup hl hr ih => exact .tup hl ih
  | ptr off h => exact .ptr off (hext _ _ h)
  | cptr cs ha hc hr ih =>
    refine .cptr cs ha (fun j hj => ?_) ih
    obtain ⟨h3, h4, h5⟩ := hc j hj
    have hb := lt_of_cell h3
    exact ⟨(hcell _ _ hb h4).trans h3, fun hf => h4 (hfoot _ _ hb hf), h5⟩
  | nilptr => exact .nilptr
  | fn f hl hl' hf hr ih1 ih2 => exact .fn f hl hl' ih1 ih2
  | nilfn => exact .nilfn
  | map h => exact .map (hext _ _ h)
  | nilmap => exact .nilmap
  | mref h hcap hb => exact .mref (hext _ _ h) hcap (hshape _ _ hb)
  | mnil => exact .mnil
  | aptr h => exact .aptr (hext _ _ h)

theorem Rep.step {ι ι' : Nat → Option Nat} {S S' : Store} {w w' : World} (hs : Step ι S w ι' S' w') {v : Value} {x : AV} (h : Rep ι (Foot ι S) w v x) : Rep ι' (Foot ι' S') w' v x :=
  h.keep hs.ext hs.cell hs.foot hs.shape

theorem RepL.step {ι ι' : Nat → Option Nat} {S S' : Store} {w w' : World} (hs : Step ι S w ι' S' w') {vs : Array Value} {l : List AV} (h : RepL ι (Foot ι S) w vs l) : RepL ι' (Foot ι' S') w' vs l :=
  ⟨h.1, fun j v x hv hx => (h.2 j v x hv hx).step hs⟩

/-- An object whose block is as it was. -/
theorem ObjRep.keep {ι ι' : Nat → Option Nat} {F F' : Nat → Nat → Prop} {w w' : World} {b : Nat} {obj : AObj}
    (hrep : ∀ v x, Rep ι F w v x → Rep ι' F' w' v x) (hb : w'.heap[b]? = w.heap[b]?) (h : ObjRep ι F w b obj) : ObjRep ι' F' w' b obj := by
  cases obj with
  | box cs => obtain ⟨vs, e, h1, h2, h3, h4⟩ := h; exact ⟨vs, e, hb.trans h1, h2, fun j v x hv hx => hrep _ _ (h3 j v x hv hx), h4⟩
  | spare n => obtain ⟨c, e, h1, h2⟩ := h; exact ⟨c, e, hb.trans h1, h2⟩
  | arr sz xs => obtain ⟨vs, e, h1, h2, h3, h4, h5⟩ := h; exact ⟨vs, e, hb.trans h1, h2, h3, fun j v x hv hx => hrep _ _ (h4 j v x hv hx), h5⟩
  | map kvs => obtain ⟨es, c, h1, h2, h3, h4⟩ := h; exact ⟨es, c, hb.trans h1, h2, fun j e p he hp => ⟨hrep _ _ (h3 j e p he hp).1, hrep _ _ (h3 j e p he hp).2⟩, h4⟩
  | iter m kvs => trivial

end Go.AL
