/- The abstract layer: values, objects, what a value stands for in a world, and what a step keeps. -/
import Derived.Orders
import Derived.Laws.Append
import Derived.Laws.World
import Derived.Laws.CopyRow
import Derived.RangeFuncNested
import Derived.Laws.MakeOwn
import Derived.Laws.Strings
import Derived.Laws.Small
import Derived.Laws.Slices
set_option linter.unusedVariables false
set_option linter.unusedSimpArgs false
namespace Go.AL
inductive Tok where
 | none | full | own (o : Nat)
 deriving DecidableEq, Inhabited
def Tok.keep : Tok → Tok
 | .full => .full
 | _ => .none
inductive AV where
 | any
 | bool (b : Bool)
 | int (k : IntKind) (n : Int)
 | str (s : ByteArray)
 | list (sz : Nat) (t : Tok) (xs : List AV)
 | agg (cs : List AV)
 | tup (vs : List AV)
 | ptr (o off : Nat)
 | cptr (cs : List AV)
 | nilptr
 | fn (f : FuncId) (first captured : List AV)
 | nilfn
 | map (o : Nat)
 | nilmap
 | cmap (es : List (Value × Value))
 | kmap (es : List (AV × AV))
 | mref (sz o off len : Nat)
 | aptr (sz o i j : Nat)
 | yld (o : Nat)
 deriving Inhabited
def AV.cells : AV → List AV
 | .agg cs => cs
 | v => [v]
def AV.isVal : AV → Bool
 | .any | .tup _ => false
 | _ => true
@[simp] theorem AV.cells_agg (cs : List AV) : (AV.agg cs).cells = cs := rfl
def flat (xs : List AV) : List AV := xs.flatMap AV.cells
@[simp] theorem flat_nil : flat [] = [] := rfl
@[simp] theorem flat_cons (x : AV) (xs : List AV) : flat (x :: xs) = x.cells ++ flat xs := rfl
theorem flat_append (xs ys : List AV) : flat (xs ++ ys) = flat xs ++ flat ys := by simp [flat]
theorem flat_length {sz : Nat} : ∀ {xs : List AV}, (∀ x ∈ xs, x.cells.length = sz) → (flat xs).length = xs.length * sz
 | [], _ => by simp
 | x :: xs, h => by
  have h1 := h x (by simp)
  have h2 := flat_length (xs := xs) fun y hy => h y (by simp [hy])
  simp [h1, h2, Nat.succ_mul, Nat.add_comm]
theorem flat_get {sz : Nat} : ∀ {xs : List AV} (_ : ∀ x ∈ xs, x.cells.length = sz) (i j : Nat), j < sz → (flat xs)[i * sz + j]? = (xs[i]?).bind (·.cells[j]?)
 | [], _, i, j, _ => by simp
 | x :: xs, h, 0, j, hj => by
  have h1 := h x (by simp)
  simp [List.getElem?_append_left (h1 ▸ hj)]
 | x :: xs, h, i + 1, j, hj => by
  have h1 := h x (by simp)
  have h2 := flat_get (xs := xs) (fun y hy => h y (by simp [hy])) i j hj
  rw [flat_cons, List.getElem?_append_right (by rw [h1, Nat.succ_mul]; omega)]
  have : (i + 1) * sz + j - x.cells.length = i * sz + j := by rw [h1, Nat.succ_mul]; omega
  rw [this, h2]; simp
inductive AObj where
 | box (cs : List AV)
 | spare (n : Nat)
 | arr (sz : Nat) (xs : List AV)
 | map (es : List (Nat × AV × AV)) (clock : Nat)
 | iter (m : Option Nat) (since : Nat) (seen : List Nat) (last : Nat)
 | loop (st : Nat) (jump : Option (Option Nat)) (env : List (Nat × AV)) (ps : List Nat) (n : Nat) (as bd : Code)
 deriving Inhabited
abbrev Env := List (Nat × AV)
def Env.get : Env → Nat → AV
 | [], _ => .any
 | (k, v) :: e, t => if k = t then v else Env.get e t
def lst : Nat → LoopState
 | 0 => .ready
 | 1 => .busy
 | 2 => .done
 | _ => .exhausted
def jcode : Option Nat → Code
 | none => .ret
 | some id => .exit id
def AObj.mut : AObj → Nat → Prop
 | .spare n, off => n ≤ off
 | _, _ => True
abbrev Store := Nat → Option AObj
def Foot (ι : Nat → Option Nat) (S : Store) (b off : Nat) : Prop := ∃ o obj, S o = some obj ∧ ι o = some b ∧ obj.mut off
def Blk (ι : Nat → Option Nat) (S : Store) (b : Nat) : Prop := ∃ o obj, S o = some obj ∧ ι o = some b
end Go.AL
namespace Go
theorem Value.cells_of_isCell {v : Value} (h : v.oneCell' = true) : v.cells = #[v] := by cases v <;> simp_all [Value.oneCell', Value.cells]
end Go
namespace Go.AL
def BlockOf (w : World) (b n : Nat) : Prop := ∃ c e, w.heap[b]? = some (.cells c e (0, 0)) ∧ n ≤ c.size
def TokOK (ι : Nat → Option Nat) (w : World) (sz : Nat) (a : Option Addr) (len cap : Nat) : Tok → Prop
 | .none => True
 | .full => cap = len
 | .own o => cap = len ∨ ∃ b, ι o = some b ∧ a = some ⟨b, 0, none⟩ ∧ BlockOf w b (cap * sz)
inductive Rep (ι : Nat → Option Nat) (F : Nat → Nat → Prop) (w : World) : Value → AV → Prop
 | any (v : Value) : Rep ι F w v .any
 | bool (b : Bool) : Rep ι F w (.bool b) (.bool b)
 | int (k : IntKind) (n : Int) : Rep ι F w (.int k n) (.int k n)
 | str (s : ByteArray) : Rep ι F w (.string s) (.str s)
 | list {a : Option Addr} {len cap sz : Nat} {t : Tok} {xs : List AV} (cs : Nat → Value) (hlen : len = xs.length) (hcap : len ≤ cap)
   (hsz : ∀ x ∈ xs, x.cells.length = sz) (ht : TokOK ι w sz a len cap t) (hnone : a = none → cap = 0)
   (hc : ∀ j, j < len * sz → ∃ ad, a = some ad ∧ ad.spot = none ∧ w.cell? ⟨ad.block, ad.off + j, none⟩ = some (cs j) ∧ ¬ F ad.block (ad.off + j) ∧ (cs j).oneCell' = true)
   (hr : ∀ j x, (flat xs)[j]? = some x → Rep ι F w (cs j) x) : Rep ι F w (.slice a len cap) (.list sz t xs)
 | agg {vs : Array Value} {l : List AV} (hl : vs.size = l.length) (hc : ∀ (j : Nat) v, vs[j]? = some v → v.oneCell' = true)
   (hr : ∀ (j : Nat) v x, vs[j]? = some v → l[j]? = some x → Rep ι F w v x) : Rep ι F w (.agg vs) (.agg l)
 | tup {vs : Array Value} {l : List AV} (hl : vs.size = l.length)
   (hr : ∀ (j : Nat) v x, vs[j]? = some v → l[j]? = some x → Rep ι F w v x) : Rep ι F w (.tuple vs) (.tup l)
 | ptr {o b : Nat} (off : Nat) (h : ι o = some b) : Rep ι F w (.pointer (some ⟨b, off, none⟩)) (.ptr o off)
 | cptr {a : Addr} {l : List AV} (cs : Nat → Value) (ha : a.spot = none)
   (hc : ∀ j, j < l.length → w.cell? ⟨a.block, a.off + j, none⟩ = some (cs j) ∧ ¬ F a.block (a.off + j) ∧ (cs j).oneCell' = true)
   (hr : ∀ j x, l[j]? = some x → Rep ι F w (cs j) x) : Rep ι F w (.pointer (some a)) (.cptr l)
 | nilptr : Rep ι F w (.pointer none) .nilptr
 | fn (f : FuncId) {fs cs : Array Value} {lf lc : List AV} (hl : fs.size = lf.length) (hl' : cs.size = lc.length)
   (hf : ∀ (j : Nat) v x, fs[j]? = some v → lf[j]? = some x → Rep ι F w v x)
   (hr : ∀ (j : Nat) v x, cs[j]? = some v → lc[j]? = some x → Rep ι F w v x) : Rep ι F w (.func (.func f) fs cs) (.fn f lf lc)
 | nilfn : Rep ι F w .nilFunc .nilfn
 | map {o b : Nat} (h : ι o = some b) : Rep ι F w (.map (some b)) (.map o)
 | nilmap : Rep ι F w (.map none) .nilmap
 | cmap {b clock : Nat} {ces : Array MapEntry} {es : List (Value × Value)} (h : w.heap[b]? = some (.map ces clock)) (hf : ∀ off, ¬ F b off)
   (hin : ∀ (j : Nat) e, ces[j]? = some e → (e.key, e.val) ∈ es) (hout : ∀ p ∈ es, ∃ (j : Nat) (e : MapEntry), ces[j]? = some e ∧ e.key = p.1 ∧ e.val = p.2) (hnd : ∀ p ∈ es, ∀ q ∈ es, p.1 = q.1 → p.2 = q.2) : Rep ι F w (.map (some b)) (.cmap es)
 | kmap {b : Nat} {ces : Array MapEntry} {es : List (AV × AV)} (σ : Nat → Nat) (h : w.heap[b]? = some (.map ces ces.size)) (hf : ∀ off, ¬ F b off) (hsz : ces.size = es.length) (hσ : ∀ j, j < es.length → σ j < es.length)
   (hinj : ∀ i j, i < es.length → j < es.length → σ i = σ j → i = j) (hsur : ∀ i, i < es.length → ∃ j, j < es.length ∧ σ j = i) (hborn : ∀ (j : Nat) (e : MapEntry), ces[j]? = some e → e.born = j)
   (hnd : ∀ (i j : Nat) (e e' : MapEntry), ces[i]? = some e → ces[j]? = some e' → e.key = e'.key → i = j)
   (hk : ∀ (j : Nat) (e : MapEntry) p, ces[j]? = some e → es[σ j]? = some p → Rep ι F w e.key p.1) (hv : ∀ (j : Nat) (e : MapEntry) p, ces[j]? = some e → es[σ j]? = some p → Rep ι F w e.val p.2) : Rep ι F w (.map (some b)) (.kmap es)
 | mref {sz o b off len cap : Nat} (h : ι o = some b) (hcap : len ≤ cap) (hb : BlockOf w b ((off + cap) * sz)) :
   Rep ι F w (.slice (some ⟨b, off * sz, none⟩) len cap) (.mref sz o off len)
 | mnil {sz o : Nat} {a : Option Addr} : Rep ι F w (.slice a 0 0) (.mref sz o 0 0)
 | aptr {sz o b i j : Nat} (h : ι o = some b) : Rep ι F w (.pointer (some ⟨b, i * sz + j, none⟩)) (.aptr sz o i j)
 | yld {o b : Nat} (h : ι o = some b) : Rep ι F w (.func (.yield b) #[] #[]) (.yld o)
theorem Rep.isCell {ι : Nat → Option Nat} {F : Nat → Nat → Prop} {w : World} {v : Value} {x : AV} (h : Rep ι F w v x) (hv : x.isVal = true) (hx : ∀ cs, x ≠ .agg cs) : v.oneCell' = true := by
 cases h <;> simp_all [AV.isVal, Value.oneCell']
def RepL (ι : Nat → Option Nat) (F : Nat → Nat → Prop) (w : World) (vs : Array Value) (l : List AV) : Prop :=
 vs.size = l.length ∧ ∀ (j : Nat) v x, vs[j]? = some v → l[j]? = some x → Rep ι F w v x
theorem Rep.cells {ι : Nat → Option Nat} {F : Nat → Nat → Prop} {w : World} {v : Value} {x : AV} (h : Rep ι F w v x) (hv : x.isVal = true) :
  RepL ι F w v.cells x.cells ∧ ∀ (j : Nat) u, v.cells[j]? = some u → u.oneCell' = true := by
 by_cases hx : ∃ cs, x = .agg cs
 ·obtain ⟨cs, rfl⟩ := hx
  cases h with
  | agg hl hc hr => exact ⟨⟨hl, hr⟩, hc⟩
 ·have hx' : ∀ cs, x ≠ .agg cs := fun cs e => hx ⟨cs, e⟩
  have hc := h.isCell hv hx'
  have hxc : x.cells = [x] := by cases x <;> simp_all [AV.cells]
  rw [Value.cells_of_isCell hc, hxc]
  refine ⟨⟨rfl, fun j u y hu hy => ?_⟩, fun j u hu => ?_⟩
  ·cases j with
   | zero => simp at hu hy; subst hu hy; exact h
   | succ j => simp at hu
  ·cases j with
   | zero => simp at hu; subst hu; exact hc
   | succ j => simp at hu
def iterRef (ι : Nat → Option Nat) (m cm : Option Nat) : Prop := match m with | none => cm = none | some o => ∃ mb, ι o = some mb ∧ cm = some mb
def ObjRep (ι : Nat → Option Nat) (F : Nat → Nat → Prop) (w : World) (b : Nat) : AObj → Prop
 | .box cs => ∃ vs e, w.heap[b]? = some (.cells vs e (0, 0)) ∧ cs.length ≤ vs.size ∧ (∀ (j : Nat) v x, vs[j]? = some v → cs[j]? = some x → Rep ι F w v x) ∧ ∀ (j : Nat) v, j < cs.length → vs[j]? = some v → v.oneCell' = true
 | .spare n => BlockOf w b n
 | .arr sz xs => ∃ vs e, w.heap[b]? = some (.cells vs e (0, 0)) ∧ (∀ x ∈ xs, x.cells.length = sz) ∧ xs.length * sz ≤ vs.size ∧
   (∀ (j : Nat) v x, vs[j]? = some v → (flat xs)[j]? = some x → Rep ι F w v x) ∧ ∀ (j : Nat) v, j < xs.length * sz → vs[j]? = some v → v.oneCell' = true
 | .map es clock => ∃ ces, w.heap[b]? = some (.map ces clock) ∧ ces.size = es.length ∧
   ∀ (j : Nat) (e : MapEntry) p, ces[j]? = some e → es[j]? = some p → e.born = p.1 ∧ Rep ι F w e.key p.2.1 ∧ Rep ι F w e.val p.2.2
 | .iter m since seen last => ∃ cm, w.heap[b]? = some (.mapIter cm since seen.toArray last) ∧ iterRef ι m cm
 | .loop st jump env ps n as bd => ∃ D fn tmps, w.heap[b]? = some (.loop { state := lst st, pending := jump.map jcode, fn, tmps, params := ps.toArray, assign := as, body := bd, defers := D }) ∧ tmps.size = n ∧
   ∀ t, Rep ι F w (tmps.getD t undef) (Env.get env t)
structure Bnd (ι : Nat → Option Nat) (S : Store) (nx : Nat) : Prop where
 lt : ∀ o obj, S o = some obj → o < nx
 ilt : ∀ o b, ι o = some b → o < nx
class Glob where
 gt : Nat → Option AV
structure WF [Glob] (ι : Nat → Option Nat) (S : Store) (w : World) : Prop where
 blt : ∀ o b, ι o = some b → b < w.heap.size
 inj : ∀ o o' obj obj' b, S o = some obj → S o' = some obj' → ι o = some b → ι o' = some b → o = o'
 rep : ∀ o obj b, S o = some obj → ι o = some b → ObjRep ι (Foot ι S) w b obj
 laid : ∀ g x, Glob.gt g = some x → Rep ι (Foot ι S) w (.pointer (some ⟨g, 0, none⟩)) x
structure Step (ι : Nat → Option Nat) (S : Store) (w : World) (ι' : Nat → Option Nat) (S' : Store) (w' : World) : Prop where
 os : w'.os = w.os
 tape : w'.tape = w.tape
 output : w'.output = w.output
 size : w.heap.size ≤ w'.heap.size
 blk : ∀ b, b < w.heap.size → ¬ Blk ι S b → w'.heap[b]? = w.heap[b]?
 cell : ∀ b off, b < w.heap.size → ¬ Foot ι S b off → w'.cell? ⟨b, off, none⟩ = w.cell? ⟨b, off, none⟩
 shape : ∀ b n, BlockOf w b n → BlockOf w' b n
 maps : ∀ b ces c, w.heap[b]? = some (.map ces c) → (∀ off, ¬ Foot ι S b off) → w'.heap[b]? = some (.map ces c)
 ext : ∀ o b, ι o = some b → ι' o = some b
 foot : ∀ b off, b < w.heap.size → Foot ι' S' b off → Foot ι S b off
 nblk : ∀ b, b < w.heap.size → Blk ι' S' b → Blk ι S b
theorem Step.refl (ι : Nat → Option Nat) (S : Store) (w : World) : Step ι S w ι S w :=
 ⟨rfl, rfl, rfl, Nat.le_refl _, fun _ _ _ => rfl, fun _ _ _ _ => rfl, fun _ _ h => h, fun _ _ _ h _ => h, fun _ _ h => h, fun _ _ _ h => h, fun _ _ h => h⟩
theorem Step.trans {ι ι₁ ι₂ : Nat → Option Nat} {S S₁ S₂ : Store} {w w₁ w₂ : World} (h : Step ι S w ι₁ S₁ w₁) (k : Step ι₁ S₁ w₁ ι₂ S₂ w₂) : Step ι S w ι₂ S₂ w₂ where
 os := k.os.trans h.os
 tape := k.tape.trans h.tape
 output := k.output.trans h.output
 size := Nat.le_trans h.size k.size
 blk b hb hn := (k.blk b (Nat.lt_of_lt_of_le hb h.size) (fun hk => hn (h.nblk b hb hk))).trans (h.blk b hb hn)
 cell b off hb hn := (k.cell b off (Nat.lt_of_lt_of_le hb h.size) (fun hk => hn (h.foot b off hb hk))).trans (h.cell b off hb hn)
 shape b n hb := k.shape b n (h.shape b n hb)
 maps b ces c hb hn := k.maps b ces c (h.maps b ces c hb hn) (fun off hf => hn off (h.foot b off (Array.getElem?_eq_some_iff.1 hb).1 hf))
 ext o b ho := k.ext o b (h.ext o b ho)
 foot b off hb hf := h.foot b off hb (k.foot b off (Nat.lt_of_lt_of_le hb h.size) hf)
 nblk b hb hf := h.nblk b hb (k.nblk b (Nat.lt_of_lt_of_le hb h.size) hf)
theorem lt_of_cell {w : World} {b off : Nat} {v : Value} (h : w.cell? ⟨b, off, none⟩ = some v) : b < w.heap.size := World.block_lt_of_cell? _ ⟨b, off, none⟩ h
theorem Rep.keep {ι ι' : Nat → Option Nat} {F F' : Nat → Nat → Prop} {w w' : World}
  (hext : ∀ o b, ι o = some b → ι' o = some b)
  (hcell : ∀ b off, b < w.heap.size → ¬ F b off → w'.cell? ⟨b, off, none⟩ = w.cell? ⟨b, off, none⟩)
  (hfoot : ∀ b off, b < w.heap.size → F' b off → F b off)
  (hshape : ∀ b n, BlockOf w b n → BlockOf w' b n) (hmaps : ∀ b ces c, w.heap[b]? = some (.map ces c) → (∀ off, ¬ F b off) → w'.heap[b]? = some (.map ces c)) {v : Value} {x : AV} (h : Rep ι F w v x) : Rep ι' F' w' v x := by
 induction h with
 | any v => exact .any v
 | bool b => exact .bool b
 | int k n => exact .int k n
 | str s => exact .str s
 | @list a len cap sz t xs cs hlen hcap hsz ht hnone hc hr ih =>
  refine .list cs hlen hcap hsz ?_ hnone (fun j hj => ?_) ih
  ·cases t with
   | none => trivial
   | full => exact ht
   | own o =>
    rcases ht with ht | ⟨b, h1, h2, h3⟩
    ·exact .inl ht
    ·exact .inr ⟨b, hext _ _ h1, h2, hshape _ _ h3⟩
  ·obtain ⟨ad, h1, h2, h3, h4, h5⟩ := hc j hj
   have hb := lt_of_cell h3
   exact ⟨ad, h1, h2, (hcell _ _ hb h4).trans h3, fun hf => h4 (hfoot _ _ hb hf), h5⟩
 | agg hl hc hr ih => exact .agg hl hc ih
 | tup hl hr ih => exact .tup hl ih
 | ptr off h => exact .ptr off (hext _ _ h)
 | cptr cs ha hc hr ih =>
  refine .cptr cs ha (fun j hj => ?_) ih
  obtain ⟨h3, h4, h5⟩ := hc j hj
  have hb := lt_of_cell h3
  exact ⟨(hcell _ _ hb h4).trans h3, fun hf => h4 (hfoot _ _ hb hf), h5⟩
 | nilptr => exact .nilptr
 | fn f hl hl' hf hr ih1 ih2 => exact .fn f hl hl' ih1 ih2
 | nilfn => exact .nilfn
 | map h => exact .map (hext _ _ h)
 | nilmap => exact .nilmap
 | cmap h hf hin hout hnd => exact .cmap (hmaps _ _ _ h hf) (fun off h' => hf off (hfoot _ off (Array.getElem?_eq_some_iff.1 h).1 h')) hin hout hnd
 | kmap σ h hf hsz hσ hinj hsur hborn hnd hk hv ih1 ih2 => exact .kmap σ (hmaps _ _ _ h hf) (fun off h' => hf off (hfoot _ off (Array.getElem?_eq_some_iff.1 h).1 h')) hsz hσ hinj hsur hborn hnd ih1 ih2
 | mref h hcap hb => exact .mref (hext _ _ h) hcap (hshape _ _ hb)
 | mnil => exact .mnil
 | aptr h => exact .aptr (hext _ _ h)
 | yld h => exact .yld (hext _ _ h)
theorem Rep.step {ι ι' : Nat → Option Nat} {S S' : Store} {w w' : World} (hs : Step ι S w ι' S' w') {v : Value} {x : AV} (h : Rep ι (Foot ι S) w v x) : Rep ι' (Foot ι' S') w' v x :=
 h.keep hs.ext hs.cell hs.foot hs.shape hs.maps
theorem RepL.step {ι ι' : Nat → Option Nat} {S S' : Store} {w w' : World} (hs : Step ι S w ι' S' w') {vs : Array Value} {l : List AV} (h : RepL ι (Foot ι S) w vs l) : RepL ι' (Foot ι' S') w' vs l :=
 ⟨h.1, fun j v x hv hx => (h.2 j v x hv hx).step hs⟩
theorem ObjRep.keep {ι ι' : Nat → Option Nat} {F F' : Nat → Nat → Prop} {w w' : World} {b : Nat} {obj : AObj}
  (hrep : ∀ v x, Rep ι F w v x → Rep ι' F' w' v x) (hb : w'.heap[b]? = w.heap[b]?) (h : ObjRep ι F w b obj) : ObjRep ι' F' w' b obj := by
 cases obj with
 | box cs => obtain ⟨vs, e, h1, h2, h3, h4⟩ := h; exact ⟨vs, e, hb.trans h1, h2, fun j v x hv hx => hrep _ _ (h3 j v x hv hx), h4⟩
 | spare n => obtain ⟨c, e, h1, h2⟩ := h; exact ⟨c, e, hb.trans h1, h2⟩
 | arr sz xs => obtain ⟨vs, e, h1, h2, h3, h4, h5⟩ := h; exact ⟨vs, e, hb.trans h1, h2, h3, fun j v x hv hx => hrep _ _ (h4 j v x hv hx), h5⟩
 | map es clock => obtain ⟨ces, h1, h2, h3⟩ := h; exact ⟨ces, hb.trans h1, h2, fun j e p he hp => ⟨(h3 j e p he hp).1, hrep _ _ (h3 j e p he hp).2.1, hrep _ _ (h3 j e p he hp).2.2⟩⟩
 | iter m since seen last =>
  obtain ⟨cm, h1, h2⟩ := h
  refine ⟨cm, hb.trans h1, ?_⟩
  cases m with
  | none => exact h2
  | some o =>
   obtain ⟨mb, h3, h4⟩ := h2
   have := hrep _ _ (Rep.map h3)
   cases this with
   | map h5 => exact ⟨mb, h5, h4⟩
 | loop st jump env ps n as bd => obtain ⟨D, fn, tmps, h1, h2, h3⟩ := h; exact ⟨D, fn, tmps, hb.trans h1, h2, fun t => hrep _ _ (h3 t)⟩
end Go.AL
namespace Go.AL
inductive AOpd where
 | g (t : Nat)
 | l (t : Nat)
 | c (v : AV)
 deriving Inhabited
inductive AOp where
 | mv (x : AOpd)
 | pick (c a b : AOpd)
 | alloc (zs : List AV)
 | box (x : AOpd)
 | build (zs : List AV) (parts : List (Nat × Nat × AOpd))
 | buildSlice (sz : Nat) (agg : Bool) (zs : List AV) (len : Nat) (parts : List (Nat × AOpd))
 | load (n : Nat) (agg : Bool) (a : AOpd)
 | store (n : Nat) (a x : AOpd)
 | nilCheck (x : AOpd)
 | bin (op : BinOp) (x y : AOpd)
 | eqb (neg : Bool) (x y : AOpd)
 | eqa (neg : Bool) (n : Nat) (x y : AOpd)
 | isnil (neg : Bool) (x : AOpd)
 | un (op : UnOp) (x : AOpd)
 | conv (k : IntKind) (x : AOpd)
 | mkfn (f : FuncId) (first captured : List AOpd)
 | mkmap
 | mkslice (sz bytes : Nat) (zs : List AV) (agg : Bool) (len cap : AOpd)
 | slice (sz : Nat) (x : AOpd) (lo hi mx : Option AOpd)
 | sliceStr (x : AOpd) (lo hi : Option AOpd)
 | sliceArr (n : Nat) (x hi : AOpd)
 | fieldAddr (off : Nat) (x : AOpd)
 | field (off n : Nat) (agg : Bool) (x : AOpd)
 | indexAddr (sz : Nat) (x i : AOpd)
 | arrAddr (sz len : Nat) (x i : AOpd)
 | indexStr (x i : AOpd)
 | extract (x : AOpd) (i : Nat)
 | len (x : AOpd)
 | lenStr (x : AOpd)
 | lenMap (x : AOpd)
 | append (sz bytes : Nat) (s x : AOpd)
 | min (x y : AOpd)
 | max (x y : AOpd)
 | lookup (str ok : Bool) (zs : List AV) (agg : Bool) (m k : AOpd)
 | mapUpdate (str : Bool) (m k x : AOpd)
 | delete (str : Bool) (m k : AOpd)
 | range (x : AOpd)
 | next (x : AOpd)
 | entry (x : AOpd)
 | call (pure : Bool) (f : AOpd) (args : List AOpd)
 deriving Inhabited
structure AOper where
 dst : Option (Bool × Nat)
 op : AOp
 guard : Option (Bool × Nat × Bool)
 conc : List Nat
 deriving Inhabited
inductive ACode where
 | skip
 | reg (draw : Bool) (ops : List AOper)
 | reg2 (pre suf : List AOper)
 | reg4 (pre : List AOper) (fr : List AOp) (call : AOper) (post suf : List AOper)
 | reg3 (pre : List AOper) (zs : List AV) (gl : Bool) (t : Nat) (call : AOper) (suf : List AOper)
 | frz (t : Nat)
 | seq (a b : ACode)
 | cond (c : AOpd) (a b : ACode)
 | block (id : Nat) (b : ACode)
 | loop (b : ACode)
 | exit (id : Nat)
 | ret
 | rfunc (f : AOpd) (ps : List Nat) (n : Nat) (keep : List Nat) (as bd : ACode)
 deriving Inhabited
inductive ARes where
 | tmp (t : Bool × Nat)
 | cell (t : Bool × Nat) (n : Nat) (agg : Bool)
 deriving Inhabited
structure AFun where
 np : Nat
 ntmps : Nat
 body : ACode
 results : List ARes
 deriving Inhabited
def AOpd.val (g l : Env) : AOpd → AV
 | .g t => g.get t
 | .l t => l.get t
 | .c v => v
structure St where
 m : Store
 nx : Nat
def St.set (s : St) (o : Nat) (obj : AObj) : St := ⟨fun q => if q = o then some obj else s.m q, s.nx⟩
def St.del (s : St) (o : Nat) : St := ⟨fun q => if q = o then none else s.m q, s.nx⟩
def St.new (s : St) (obj : AObj) : St := ⟨fun q => if q = s.nx then some obj else s.m q, s.nx + 1⟩
def St.bump (s : St) (n : Nat) : St := ⟨s.m, n⟩
inductive Upd where
 | keep | set (o : AObj) | del
structure Res where
 v : AV
 upd : Upd := .keep
 new : Option AObj := none
def St.app1 (s : St) (t : Option Nat) (u : Upd) : St :=
 match t, u with
 | some o, .set obj => s.set o obj
 | some o, .del => s.del o
 | _, _ => s
def St.app2 (s : St) (new : Option AObj) : St :=
 match new with
 | some obj => s.new obj
 | none => s
def app1S (S : Store) (t : Option Nat) (u : Upd) : Store :=
 match t, u with
 | some o, .set obj => fun q => if q = o then some obj else S q
 | some o, .del => fun q => if q = o then none else S q
 | _, _ => S
def app2S (S : Store) (n : Nat) (new : Option AObj) : Store :=
 match new with
 | some obj => fun q => if q = n then some obj else S q
 | none => S
theorem St.app_m (s : St) (t : Option Nat) (u : Upd) (new : Option AObj) : ((s.app1 t u).app2 new).m = app2S (app1S s.m t u) s.nx new := by
 cases t <;> cases u <;> cases new <;> rfl
theorem St.app_nx (s : St) (t : Option Nat) (u : Upd) (new : Option AObj) : ((s.app1 t u).app2 new).nx = s.nx + (if new.isSome then 1 else 0) := by
 cases t <;> cases u <;> cases new <;> rfl
def pickAV (t : Bool) (a b : AV) : AV :=
 match a, b with
 | .bool x, .bool y => .bool (bif t then x else y)
 | a, b => if t then a else b
def AV.eqB : AV → AV → Option Bool
 | .bool a, .bool b => some (decide (a = b))
 | _, _ => none
def binAV (op : BinOp) : AV → AV → Option AV
 | .int k a, .int _ b =>
  match op with
  | .add => some (.int k (k.wrap (a + b)))
  | .sub => some (.int k (k.wrap (a - b)))
  | .mul => some (.int k (k.wrap (a * b)))
  | .quo => some (.int k (k.wrap (a.tdiv b)))
  | .rem => some (.int k (a.tmod b))
  | .eql => some (.bool (decide (a = b)))
  | .neq => some (.bool (!decide (a = b)))
  | .lss => some (.bool (decide (a < b)))
  | .leq => some (.bool (decide (a ≤ b)))
  | .gtr => some (.bool (decide (b < a)))
  | .geq => some (.bool (decide (b ≤ a)))
  | _ => none
 | .str a, .str b =>
  match op with
  | .eql => some (.bool (decide (a = b)))
  | .neq => some (.bool (!decide (a = b)))
  | .lss => some (.bool (Op.bytesLess a.toList b.toList))
  | .gtr => some (.bool (!(Op.bytesLess a.toList b.toList || decide (a = b))))
  | _ => none
 | _, _ => none
def binSide (op : BinOp) : AV → AV → Prop
 | .int k _, .int k' b => k = k' ∧ match op with | .quo | .rem => b ≠ 0 | _ => True
 | _, _ => True
def fillAV (zs : List AV) : List (Nat × AV) → List AV
 | [] => zs
 | (off, x) :: r => fillAV (zs.take off ++ x.cells ++ zs.drop (off + x.cells.length)) r
def loadAV (n : Nat) (agg : Bool) (cs : List AV) : Option AV :=
 if agg then some (.agg (cs.take n)) else match cs with | x :: _ => some x | [] => none
def storeAV (cs : List AV) (off : Nat) (x : AV) : List AV := cs.take off ++ x.cells ++ cs.drop (off + x.cells.length)
def chunk (sz : Nat) (agg : Bool) : Nat → List AV → List AV
 | 0, _ => []
 | n + 1, cs => (if agg then .agg (cs.take sz) else cs.headD .any) :: chunk sz agg n (cs.drop sz)
def bools : List AV → Option (List Bool)
 | [] => some []
 | .bool b :: r => (bools r).map (b :: ·)
 | _ => none
def AV.int? : AV → Option Int
 | .int _ n => some n
 | _ => none
def optInt : Option AV → Option (Option Int)
 | none => some none
 | some (.int _ n) => some (some n)
 | _ => none
def keq : AV → AV → Option Bool
 | .int k a, .int k' b => if k = k' then some (decide (a = b)) else none
 | .str a, .str b => some (decide (a = b))
 | _, _ => none
def mfind (k : AV) : List (Nat × AV × AV) → Nat → Option (Option Nat)
 | [], _ => some none
 | e :: r, i =>
  match keq k e.2.1 with
  | some true => some (some i)
  | some false => mfind k r (i + 1)
  | none => none
def keyOK (str : Bool) : AV → Prop
 | .int .i64 _ => str = false
 | .str _ => str = true
 | _ => False
def mapSet (es : List (Nat × AV × AV)) (clock : Nat) (k x : AV) : Option Nat → AObj
 | some i => .map (es.modify i fun e => (e.1, k, x)) clock
 | none => .map (es ++ [(clock, k, x)]) (clock + 1)
def mapDel (es : List (Nat × AV × AV)) (clock : Nat) : Option Nat → AObj
 | some i => .map (es.eraseIdx i) clock
 | none => .map es clock
def constAV : Value → Option AV
 | .bool b => some (.bool b)
 | .int k n => some (.int k n)
 | .string s => some (.str s)
 | .pointer none => some .nilptr
 | .slice none 0 0 => some (.list 0 .full [])
 | .map none => some .nilmap
 | .nilFunc => some .nilfn
 | _ => none
def valAV : Value → Option AV
 | .agg cs => (cs.toList.mapM constAV).map .agg
 | v => constAV v
def cfind (k : AV) : List (Value × Value) → Option (Option AV)
 | [] => some none
 | p :: r =>
  match (constAV p.1).bind (keq k), cfind k r with
  | some true, some _ => (valAV p.2).map some
  | some false, some x => some x
  | _, _ => none
def kfind (k : AV) : List (AV × AV) → Option (Option AV)
 | [] => some none
 | p :: r =>
  match keq k p.1, kfind k r with
  | some true, some _ => some (some p.2)
  | some false, some x => some x
  | _, _ => none
def lookAV (ok : Bool) (zs : List AV) (agg : Bool) (v : Option AV) : AV :=
 let x := v.getD (if agg then .agg zs else zs.headD .any)
 if ok then .tup [x, .bool v.isSome] else x
def AOp.touch (op : AOp) (α : AOpd → AV) : Option Nat :=
 match op with
 | .load _ _ a | .store _ a _ => (match α a with | .ptr o _ => some o | .aptr _ o _ _ => some o | _ => none)
 | .append _ _ s _ => (match α s with | .list _ (.own o) _ => some o | .mref _ o _ _ => some o | _ => none)
 | .lenMap x => (match α x with | .map o => some o | _ => none)
 | .range x => (match α x with | .map o => some o | _ => none)
 | .lookup _ _ _ _ m _ | .mapUpdate _ m _ _ | .delete _ m _ => (match α m with | .map o => some o | _ => none)
 | _ => none
def AOp.ev (op : AOp) (α : AOpd → AV) (nx : Nat) (obj : Option AObj) : Option Res :=
 match op with
 | .mv x => some { v := α x }
 | .pick c a b => (match α c with | .bool t => some { v := pickAV t (α a) (α b) } | _ => none)
 | .alloc zs => some { v := .ptr nx 0, new := some (.box zs) }
 | .box x => some { v := .ptr nx 0, new := some (.box (α x).cells) }
 | .build zs parts => some { v := .agg (fillAV zs (parts.map fun p => (p.1, α p.2.2))) }
 | .buildSlice sz agg zs m parts => some { v := .list sz .full ((parts.map fun p => (p.1, α p.2)).foldl (fun xs p => xs.set p.1 p.2) (List.replicate m (if agg then .agg zs else zs.headD .any))) }
 | .load n agg a =>
  match α a, obj with
  | .ptr _ off, some (.box cs) => (loadAV n agg (cs.drop off)).map fun v => { v }
  | .cptr cs, _ => (loadAV n agg cs).map fun v => { v }
  | _, _ => none
 | .store _ a x =>
  match α a, obj with
  | .ptr _ off, some (.box cs) => some { v := .tup [], upd := .set (.box (storeAV cs off (α x))) }
  | _, _ => none
 | .nilCheck x => (match α x with | .ptr .. | .aptr .. | .cptr .. | .fn .. => some { v := α x } | _ => none)
 | .bin op x y => (binAV op (α x) (α y)).map fun v => { v }
 | .eqb neg x y => (match α x, α y with | .bool a, .bool b => some { v := .bool (if neg then !decide (a = b) else decide (a = b)) } | _, _ => none)
 | .eqa neg n x y =>
  match α x, α y with
  | .agg as, .agg bs =>
   match bools as, bools bs with
   | some a, some b => if a.length = n ∧ b.length = n then some { v := .bool (if neg then !decide (a = b) else decide (a = b)) } else none
   | _, _ => none
  | _, _ => none
 | .un op x =>
  match op, α x with
  | .not, .bool b => some { v := .bool (!b) }
  | .neg, .int k n => some { v := .int k (k.wrap (0 - n)) }
  | _, _ => none
 | .conv k x => (match α x with | .int _ n => some { v := .int k (k.wrap n) } | _ => none)
 | .mkfn f first captured => some { v := .fn f (first.map α) (captured.map α) }
 | .mkmap => some { v := .map nx, new := some (.map [] 0) }
 | .mkslice sz _ zs nil n m => if nil then some { v := .mref sz nx 0 0, new := some (.box []) } else
  (match α n, α m with | .int _ n, .int _ m => if n = m then some { v := .mref sz nx 0 n.toNat, new := some (.box (List.replicate n.toNat zs).flatten) } else none | _, _ => none)
 | .slice _ x lo hi mx =>
  match α x, optInt (lo.map α), optInt (hi.map α), optInt (mx.map α) with
  | .list sz t xs, some lo, some hi, some mx =>
   some { v := .list sz (match mx, hi with | some m, some h => if m = h then .full else .none | none, none => t.keep | _, _ => .none)
                 ((xs.take (match hi with | some h => h.toNat | none => xs.length)).drop (match lo with | some l => l.toNat | none => 0)) }
  | _, _, _, _ => none
 | .sliceStr x lo hi =>
  match α x, optInt (lo.map α), optInt (hi.map α) with
  | .str s, some lo, some hi => some { v := .str (s.extract (match lo with | some l => l.toNat | none => 0) (match hi with | some h => h.toNat | none => s.size)) }
  | _, _, _ => none
 | .sliceArr n x hi => (match α x, α hi with | .cptr cs, .int _ h => some { v := .list 1 .none ((cs.take n).take h.toNat) } | _, _ => none)
 | .fieldAddr f x =>
  match α x with
  | .ptr o off => some { v := .ptr o (off + f) }
  | .cptr cs => some { v := .cptr (cs.drop f) }
  | _ => none
 | .field off n agg x => (match α x with | .agg cs => (loadAV n agg (cs.drop off)).map fun v => { v } | _ => none)
 | .indexAddr sz x i =>
  match α x, α i with
  | .list _ _ xs, .int _ n => some { v := .cptr (xs.getD n.toNat .any).cells }
  | .mref _ o off _, .int _ n => some { v := .ptr o ((off + n.toNat) * sz) }
  | _, _ => none
 | .arrAddr sz _ x i =>
  match α x, α i with
  | .ptr o off, .int _ n => some { v := .ptr o (off + n.toNat * sz) }
  | .cptr cs, .int _ n => some { v := .cptr (cs.drop (n.toNat * sz)) }
  | _, _ => none
 | .indexStr x i => (match α x, α i with | .str s, .int _ n => some { v := .int .u8 ((s.data.toList.getD n.toNat 0).toNat) } | _, _ => none)
 | .extract x i => (match α x with | .tup vs => (vs[i]?).map fun v => { v } | _ => none)
 | .len x => (match α x with | .list _ _ xs => some { v := .int .i64 xs.length } | .mref _ _ _ n => some { v := .int .i64 n } | _ => none)
 | .lenStr x => (match α x with | .str s => some { v := .int .i64 s.size } | _ => none)
 | .lenMap x =>
  match α x, obj with
  | .map _, some (.map es _) => some { v := .int .i64 es.length }
  | .nilmap, _ => some { v := .int .i64 0 }
  | _, _ => none
 | .append sz _ s x =>
  match α s, α x, obj with
  | .list _ .full xs, .list _ _ ys, _ => some { v := .list sz (.own nx) (xs ++ ys), new := some (.spare ((xs.length + ys.length) * sz)) }
  | .list _ (.own _) xs, .list _ _ ys, some (.spare n) => if n = xs.length * sz then some { v := .list sz (.own nx) (xs ++ ys), upd := .del, new := some (.spare ((xs.length + ys.length) * sz)) } else none
  | .mref sz0 _ off n, .list _ _ ys, some (.box cs) => if sz0 = sz ∧ off = 0 ∧ cs.length = n * sz then some { v := .mref sz nx 0 (n + ys.length), upd := .del, new := some (.box (cs ++ flat ys)) } else none
  | _, _, _ => none
 | .min x y => (match α x, α y with | .int k a, .int _ b => some { v := .int k (if b < a then b else a) } | _, _ => none)
 | .max x y => (match α x, α y with | .int k a, .int _ b => some { v := .int k (if a < b then b else a) } | _, _ => none)
 | .lookup _ ok zs agg m k =>
  match α m, obj with
  | .map _, some (.map es _) => (mfind (α k) es 0).map fun r => { v := lookAV ok zs agg (r.bind fun i => (es[i]?).map (·.2.2)) }
  | .nilmap, _ => some { v := lookAV ok zs agg none }
  | .cmap es, _ => (cfind (α k) es).map fun r => { v := lookAV ok zs agg r }
  | .kmap es, _ => (kfind (α k) es).map fun r => { v := lookAV ok zs agg r }
  | _, _ => none
 | .mapUpdate _ m k x =>
  match α m, obj with
  | .map _, some (.map es clock) => (mfind (α k) es 0).map fun r => { v := .tup [], upd := .set (mapSet es clock (α k) (α x) r) }
  | _, _ => none
 | .delete _ m k =>
  match α m, obj with
  | .map _, some (.map es clock) => (mfind (α k) es 0).map fun r => { v := .tup [], upd := .set (mapDel es clock r) }
  | .nilmap, _ => some { v := .tup [] }
  | _, _ => none
 | .range x =>
  match α x, obj with
  | .map o, some (.map _ clock) => some { v := .ptr nx 0, new := some (.iter (some o) clock [] clock) }
  | .nilmap, _ => some { v := .ptr nx 0, new := some (.iter none 0 [] 0) }
  | _, _ => none
 | .next _ => none
 | .isnil .. => none
 | .entry _ => none
 | .call .. => none
def AOp.side (op : AOp) (α : AOpd → AV) (obj : Option AObj) : Prop :=
 match op with
 | .box x => (α x).isVal = true
 | .build zs parts => ∀ p ∈ parts, (α p.2.2).isVal = true ∧ (α p.2.2).cells.length = p.2.1 ∧ p.1 + p.2.1 ≤ zs.length
 | .buildSlice sz _ _ m parts => ∀ p ∈ parts, (α p.2).isVal = true ∧ (α p.2).cells.length = sz ∧ p.1 < m
 | .load n _ a =>
  (match α a, obj with
  | .ptr _ off, some (.box cs) => off + n ≤ cs.length
  | .cptr cs, _ => n ≤ cs.length
  | _, _ => False)
 | .store n a x =>
  (α x).isVal = true ∧ (α x).cells.length = n ∧
  (match α a, obj with
  | .ptr _ off, some (.box cs) => off + n ≤ cs.length
  | _, _ => False)
 | .bin op x y => binSide op (α x) (α y)
 | .slice sz x lo hi mx =>
  (match α x, optInt (lo.map α), optInt (hi.map α), optInt (mx.map α) with
  | .list sz0 _ xs, some lo, some hi, some mx =>
   (sz0 = sz ∨ xs = []) ∧ (match lo with | some l => 0 ≤ l ∧ l ≤ (match hi with | some h => h | none => xs.length) | none => True) ∧
   (match hi with | some h => 0 ≤ h ∧ h ≤ xs.length ∧ (match mx with | some m => m = h | none => True) | none => mx = none)
  | _, _, _, _ => False)
 | .sliceStr x lo hi =>
  (match α x, optInt (lo.map α), optInt (hi.map α) with
  | .str s, some lo, some hi =>
   (match lo with | some l => 0 ≤ l ∧ l ≤ (match hi with | some h => h | none => s.size) | none => True) ∧
   (match hi with | some h => 0 ≤ h ∧ h ≤ s.size | none => True)
  | _, _, _ => False)
 | .sliceArr n x hi => (match α x, α hi with | .cptr cs, .int _ h => (0 < n ∧ n ≤ cs.length) ∧ (0 ≤ h ∧ h ≤ n) ∧ ∀ y ∈ cs.take n, y.cells = [y] | _, _ => False)
 | .fieldAddr f x => (match α x with | .cptr cs => f < cs.length | _ => True)
 | .field off n _ x => (match α x with | .agg cs => off + n ≤ cs.length | _ => False)
 | .indexAddr sz x i =>
  (match α x, α i with
  | .list sz' _ xs, .int _ n => sz' = sz ∧ 0 ≤ n ∧ n < xs.length
  | .mref sz' _ _ m, .int _ n => sz' = sz ∧ 0 ≤ n ∧ n < m
  | _, _ => False)
 | .arrAddr _ m _ i => (match α i with | .int _ n => 0 ≤ n ∧ n < m | _ => False)
 | .indexStr x i => (match α x, α i with | .str s, .int _ n => 0 ≤ n ∧ n < s.size | _, _ => False)
 | .append sz bytes s x =>
  (match α s, α x with
  | .list sz0 t xs, .list sz1 _ ys => (sz0 = sz ∨ (xs = [] ∧ t = .full)) ∧ (sz1 = sz ∨ ys = []) ∧ (xs.length + ys.length) * bytes ≤ 140737488355328 ∧ xs.length + ys.length ≤ 9223372036854775807
  | .mref _ _ _ n, .list sz1 _ ys => (sz1 = sz ∨ ys = []) ∧ (n + ys.length) * bytes ≤ 140737488355328 ∧ n + ys.length ≤ 9223372036854775807
  | _, _ => False)
 | .min x y | .max x y => (match α x, α y with | .int k _, .int k' _ => k = k' | _, _ => False)
 | .mkslice sz bytes zs nil n _ => if nil then True else (match α n with | .int _ n => 0 ≤ n ∧ n.toNat * bytes ≤ 140737488355328 ∧ n ≤ 9223372036854775807 | _ => False)
 | .lookup str _ _ _ _ k | .mapUpdate str _ k _ | .delete str _ k => keyOK str (α k)
 | _ => True
def setDst (dst : Option (Bool × Nat)) (v : AV) (g l : Env) (K : Env → Env → Prop) : Prop :=
 match dst with
 | none => K g l
 | some (true, t) => K ((t, v) :: g) l
 | some (false, t) => K g ((t, v) :: l)
section
variable (P : Program)
def Callable (f : FuncId) : Prop := ∀ (args : Array Value) (w : World), (callFunc f args).run P w = .ok (.enter f args) w
def Inc (ι ι' : Nat → Option Nat) (n n' : Nat) : Prop := n ≤ n' ∧ ∀ q b, ι' q = some b → q < n → ι q = some b
def ACalls [Glob] (f : FuncId) (args : List AV) (s : St) (K : AV → St → Prop) : Prop :=
 Callable P f ∧ ∀ (ι : Nat → Option Nat) (w : World) (vs : Array Value), WF ι s.m w → Bnd ι s.m s.nx → RepL ι (Foot ι s.m) w vs args →
  Calls P f vs w fun e w' => ∃ v r s' ι', e = .returned v ∧ Step ι s.m w ι' s'.m w' ∧ WF ι' s'.m w' ∧ Bnd ι' s'.m s'.nx ∧ Inc ι ι' s.nx s'.nx ∧ Rep ι' (Foot ι' s'.m) w' v r ∧ K r s'
def AYields [Glob] (o : Nat) (args : List AV) (s : St) (K : AV → St → Prop) : Prop :=
 ∀ (ι : Nat → Option Nat) (w : World) (vs : Array Value) (l : Nat), WF ι s.m w → Bnd ι s.m s.nx → ι o = some l → RepL ι (Foot ι s.m) w vs args →
  YieldAt Fence.wide 0 P l vs w fun e w' => ∃ v r s' ι', e = .returned v ∧ Step ι s.m w ι' s'.m w' ∧ WF ι' s'.m w' ∧ Bnd ι' s'.m s'.nx ∧ Inc ι ι' s.nx s'.nx ∧ Rep ι' (Foot ι' s'.m) w' v r ∧ K r s'
def PureC [Glob] (f : FuncId) (args : List AV) (r : AV) : Prop :=
 ∀ s, ACalls P f args s fun r' s' => r' = r ∧ ∀ q, q < s.nx → s'.m q = s.m q
def callee (f : AV) (args : List AV) (K : FuncId → List AV → Prop) : Prop :=
 match f with
 | .fn f first captured => K f (first ++ args ++ captured)
 | _ => False
def AOp.stepP (op : AOp) (g l : Env) (s : St) (K : AV → St → Prop) : Prop :=
 match op.touch (AOpd.val g l) with
 | none =>
  match op.ev (AOpd.val g l) s.nx none with
  | none => False
  | some r => op.side (AOpd.val g l) none ∧ K r.v (s.app2 r.new)
 | some o =>
  match s.m o with
  | none => False
  | some obj =>
   match op.ev (AOpd.val g l) s.nx (some obj) with
   | none => False
   | some r => op.side (AOpd.val g l) (some obj) ∧ K r.v ((s.app1 (some o) r.upd).app2 r.new)
def nextP (x : AV) (s : St) (K : AV → St → Prop) : Prop :=
 match x with
 | .ptr q 0 =>
  match s.m q with
  | some (.iter none _ _ _) => K (.tup [.bool false]) s
  | some (.iter (some o) since seen last) =>
   match s.m o with
   | some (.map es clock) => (seen = [] ∨ es = [] ∨ ∃ e ∈ es, e.1 < last) ∧ ((∀ e ∈ es, e.1 < since → e.1 ∈ seen) → K (.tup [.bool false]) s) ∧
     ∀ e ∈ es, e.1 ∉ seen → K (.tup [.bool true, e.2.1, e.2.2]) (s.set q (.iter (some o) since (seen ++ [e.1]) clock))
   | _ => False
  | _ => False
 | _ => False
def entryP (x : AV) (s : St) (K : AV → St → Prop) : Prop :=
 match x with
 | .ptr q 0 =>
  match s.m q with
  | some (.iter (some o) _ seen last) =>
   match s.m o, seen.getLast? with
   | some (.map es clock), some st => clock = last ∧ (match es.find? fun e => e.1 == st with | some e => K (.tup [e.2.1, e.2.2]) s | none => False)
   | _, _ => False
  | _ => False
 | _ => False
def isnilP (neg : Bool) (x : AV) (s : St) (K : AV → St → Prop) : Prop :=
 match x with
 | .list _ _ xs => ∀ b : Bool, (xs ≠ [] → b = neg) → K (.bool b) s
 | _ => False
def AOp.step [Glob] (op : AOp) (g l : Env) (s : St) (K : AV → St → Prop) : Prop :=
 match op with
 | .call true f args => callee (f.val g l) (args.map (AOpd.val g l)) fun f args => ∃ r, PureC P f args r ∧ K r s
 | .call false f args =>
  match f.val g l with
  | .yld o => AYields P o (args.map (AOpd.val g l)) s K
  | v => callee v (args.map (AOpd.val g l)) fun f args => ACalls P f args s K
 | .next x => nextP (x.val g l) s K
 | .isnil neg x => isnilP neg (x.val g l) s K
 | .entry x => entryP (x.val g l) s K
 | op => op.stepP g l s K
def envGet (g l : Env) (t : Bool × Nat) : AV := if t.1 then g.get t.2 else l.get t.2
def envSet (t : Bool × Nat) (v : AV) (g l : Env) (K : Env → Env → Prop) : Prop := if t.1 then K ((t.2, v) :: g) l else K g ((t.2, v) :: l)
def guarded (guard : Option (Bool × Nat × Bool)) (g l : Env) (run skip : Env → Env → Prop) : Prop :=
 match guard with
 | none => run g l
 | some (gl, t, want) =>
  match envGet g l (gl, t) with
  | .bool b => (b = want → envSet (gl, t) (.bool want) g l run) ∧ (b = !want → envSet (gl, t) (.bool !want) g l skip)
  | .tup [] => skip g l
  | _ => False
def aops [Glob] : List AOper → (Env → Env → St → Prop) → Env → Env → St → Prop
 | [], K, g, l, s => K g l s
 | o :: os, K, g, l, s =>
  guarded o.guard g l (fun g l => o.op.step P g l s fun v s' => setDst o.dst v g l fun g' l' => aops os K g' l' s') (fun g l => setDst o.dst (.tup []) g l fun g' l' => aops os K g' l' s)
inductive AExit where
 | normal | exit (id : Nat) | ret
end
end Go.AL
namespace Go.AL
variable {ι ι' : Nat → Option Nat} {S S' : Store} {w w' : World} {P : Program}
theorem Inc.refl (ι : Nat → Option Nat) (n : Nat) : Inc ι ι n n := ⟨Nat.le_refl _, fun _ _ h _ => h⟩
theorem Inc.trans {ι ι₁ ι₂ : Nat → Option Nat} {a b c : Nat} (h : Inc ι ι₁ a b) (k : Inc ι₁ ι₂ b c) : Inc ι ι₂ a c :=
 ⟨Nat.le_trans h.1 k.1, fun q x hq hlt => h.2 q x (k.2 q x hq (Nat.lt_of_lt_of_le hlt h.1)) hlt⟩
theorem addr_add (a : Addr) (ha : a.spot = none) (j : Nat) : a.add j = ⟨a.block, a.off + j, none⟩ := by
 cases a with
 | mk b o s =>
  simp only at ha
  subst ha
  unfold Addr.add
  split <;> simp_all
theorem WF.of_step [Glob] (hwf : WF ι S w) (hs : Step ι S w ι' S' w') (hblt : ∀ o b, ι' o = some b → b < w'.heap.size)
  (hinj : ∀ o o' obj obj' b, S' o = some obj → S' o' = some obj' → ι' o = some b → ι' o' = some b → o = o')
  (hobj : ∀ o obj b, S' o = some obj → ι' o = some b → (S o = some obj ∧ ι o = some b ∧ w'.heap[b]? = w.heap[b]?) ∨ ObjRep ι' (Foot ι' S') w' b obj) : WF ι' S' w' := by
 refine ⟨hblt, hinj, fun o obj b ho hb => ?_, fun g x hg => (hwf.laid g x hg).step hs⟩
 rcases hobj o obj b ho hb with ⟨h1, h2, h3⟩ | h
 ·exact (hwf.rep o obj b h1 h2).keep (fun v x hv => hv.step hs) h3
 ·exact h
theorem drew_step (ι : Nat → Option Nat) (S : Store) (w : World) : Step ι S w ι S w.drew :=
 ⟨rfl, rfl, rfl, Nat.le_refl _, fun _ _ _ => rfl, fun _ _ _ _ => rfl, fun _ _ h => h, fun _ _ _ h _ => h, fun _ _ h => h, fun _ _ _ h => h, fun _ _ h => h⟩
theorem WF.drew [Glob] (hwf : WF ι S w) : WF ι S w.drew :=
 hwf.of_step (drew_step ι S w) hwf.blt hwf.inj fun _ _ _ h1 h2 => .inl ⟨h1, h2, rfl⟩
theorem heap_alloc_lt (w : World) (o : Obj) {b : Nat} (h : b < w.heap.size) : (w.alloc o).heap[b]? = w.heap[b]? := by
 show (w.heap.push o)[b]? = w.heap[b]?
 rw [Array.getElem?_push, if_neg (Nat.ne_of_lt h)]
theorem heap_alloc_eq (w : World) (o : Obj) : (w.alloc o).heap[w.heap.size]? = some o := by
 show (w.heap.push o)[w.heap.size]? = some o
 simp
theorem blockOf_lt {w : World} {b n : Nat} (h : BlockOf w b n) : b < w.heap.size := by
 obtain ⟨c, e, h, _⟩ := h
 exact (Array.getElem?_eq_some_iff.1 h).1
theorem grow_step [Glob] (hsz : w.heap.size ≤ w'.heap.size) (hos : w'.os = w.os) (htape : w'.tape = w.tape) (hout : w'.output = w.output)
  (hh : ∀ b, b < w.heap.size → w'.heap[b]? = w.heap[b]?) (hext : ∀ o b, ι o = some b → ι' o = some b)
  (hfoot : ∀ b off, b < w.heap.size → Foot ι' S' b off → Foot ι S b off) (hnblk : ∀ b, b < w.heap.size → Blk ι' S' b → Blk ι S b) : Step ι S w ι' S' w' where
 os := hos
 tape := htape
 output := hout
 size := hsz
 blk b hb _ := hh b hb
 cell b off hb _ := by simp [World.cell?, hh b hb]
 shape b n h := by
  have hb := blockOf_lt h
  obtain ⟨c, e, h1, h2⟩ := h
  exact ⟨c, e, (hh b hb).trans h1, h2⟩
 maps b ces c h _ := (hh b (Array.getElem?_eq_some_iff.1 h).1).trans h
 ext := hext
 foot := hfoot
 nblk := hnblk
theorem alloc_step [Glob] (ι : Nat → Option Nat) (S : Store) (w : World) (o : Obj) : Step ι S w ι S (w.alloc o) :=
 grow_step (by simp) rfl rfl rfl (fun b hb => heap_alloc_lt w o hb) (fun _ _ h => h) (fun _ _ _ h => h) (fun _ _ h => h)
theorem WF.alloc [Glob] (hwf : WF ι S w) (o : Obj) : WF ι S (w.alloc o) :=
 hwf.of_step (alloc_step ι S w o) (fun o b h => by have := hwf.blt o b h; simp; omega) hwf.inj fun _ _ b h1 h2 => .inl ⟨h1, h2, heap_alloc_lt w o (hwf.blt _ b h2)⟩
def putι (ι : Nat → Option Nat) (n b : Nat) : Nat → Option Nat := fun q => if q = n then some b else ι q
def putS (S : Store) (n : Nat) (obj : AObj) : Store := fun q => if q = n then some obj else S q
def delS (S : Store) (n : Nat) : Store := fun q => if q = n then none else S q
theorem putι_ext {n b : Nat} (h : ι n = none) : ∀ o c, ι o = some c → putι ι n b o = some c := by
 intro o c ho
 unfold putι
 split
 ·rename_i e; subst e; rw [h] at ho; cases ho
 ·exact ho
theorem alloc_obj_step [Glob] (hwf : WF ι S w) {n : Nat} (hι : ι n = none) (o : Obj) (obj : AObj) :
  Step ι S w (putι ι n w.heap.size) (putS S n obj) (w.alloc o) := by
 refine grow_step (by simp) rfl rfl rfl (fun b hb => heap_alloc_lt w o hb) (putι_ext hι) ?_ ?_
 ·rintro b off hb ⟨q, ob, h1, h2, h3⟩
  unfold putι at h2
  unfold putS at h1
  split at h2
  ·simp at h2; omega
  ·rename_i hq
   simp only [hq, if_false] at h1
   exact ⟨q, ob, h1, h2, h3⟩
 ·rintro b hb ⟨q, ob, h1, h2⟩
  unfold putι at h2
  unfold putS at h1
  split at h2
  ·simp at h2; omega
  ·rename_i hq
   simp only [hq, if_false] at h1
   exact ⟨q, ob, h1, h2⟩
theorem alloc_obj_wf [Glob] (hwf : WF ι S w) {n : Nat} (hι : ι n = none) (o : Obj) (obj : AObj)
  (hrep : ObjRep (putι ι n w.heap.size) (Foot (putι ι n w.heap.size) (putS S n obj)) (w.alloc o) w.heap.size obj) :
  WF (putι ι n w.heap.size) (putS S n obj) (w.alloc o) := by
 refine hwf.of_step (alloc_obj_step hwf hι o obj) ?_ ?_ ?_
 ·intro q b hq
  unfold putι at hq
  split at hq
  ·simp at hq; subst hq; simp
  ·have := hwf.blt q b hq; simp; omega
 ·intro q q' ob ob' b h1 h2 h3 h4
  unfold putι at h3 h4
  unfold putS at h1 h2
  by_cases e : q = n <;> by_cases e' : q' = n <;> simp only [e, e', if_true, if_false] at h1 h2 h3 h4 ⊢
  ·simp at h3; subst h3; have := hwf.blt q' _ h4; omega
  ·simp at h4; subst h4; have := hwf.blt q _ h3; omega
  ·exact hwf.inj q q' ob ob' b h1 h2 h3 h4
 ·intro q ob b h1 h2
  unfold putι at h2
  unfold putS at h1
  split at h2
  ·rename_i e
   simp only [e, if_true] at h1
   simp at h1 h2
   subst h1 h2
   exact .inr hrep
  ·rename_i e
   simp only [e, if_false] at h1
   exact .inl ⟨h1, h2, heap_alloc_lt w o (hwf.blt q b h2)⟩
theorem virtual_step [Glob] {n : Nat} (hι : ι n = none) (S : Store) (w : World) (obj : AObj) : Step ι S w ι (putS S n obj) w := by
 refine grow_step (Nat.le_refl _) rfl rfl rfl (fun _ _ => rfl) (fun _ _ h => h) ?_ ?_
 ·rintro b off hb ⟨q, ob, h1, h2, h3⟩
  unfold putS at h1
  split at h1
  ·rename_i e; subst e; rw [hι] at h2; cases h2
  ·exact ⟨q, ob, h1, h2, h3⟩
 ·rintro b hb ⟨q, ob, h1, h2⟩
  unfold putS at h1
  split at h1
  ·rename_i e; subst e; rw [hι] at h2; cases h2
  ·exact ⟨q, ob, h1, h2⟩
theorem WF.virtual [Glob] (hwf : WF ι S w) {n : Nat} (hι : ι n = none) (obj : AObj) : WF ι (putS S n obj) w := by
 refine hwf.of_step (virtual_step hι S w obj) hwf.blt ?_ ?_
 ·intro q q' ob ob' b h1 h2 h3 h4
  unfold putS at h1 h2
  by_cases e : q = n <;> by_cases e' : q' = n <;> simp only [e, e', if_true, if_false] at h1 h2 h3 h4 ⊢
  ·rw [hι] at h3; cases h3
  ·rw [hι] at h4; cases h4
  ·exact hwf.inj q q' ob ob' b h1 h2 h3 h4
 ·intro q ob b h1 h2
  unfold putS at h1
  split at h1
  ·rename_i e; subst e; rw [hι] at h2; cases h2
  ·exact .inl ⟨h1, h2, rfl⟩
theorem drop_step [Glob] (S S' : Store) (hS : ∀ o obj, S' o = some obj → S o = some obj) (ι : Nat → Option Nat) (w : World) : Step ι S w ι S' w := by
 refine grow_step (Nat.le_refl _) rfl rfl rfl (fun _ _ => rfl) (fun _ _ h => h) ?_ ?_
 ·rintro b off hb ⟨q, ob, h1, h2, h3⟩
  exact ⟨q, ob, hS _ _ h1, h2, h3⟩
 ·rintro b hb ⟨q, ob, h1, h2⟩
  exact ⟨q, ob, hS _ _ h1, h2⟩
theorem WF.drop [Glob] (hwf : WF ι S w) {S' : Store} (hS : ∀ o obj, S' o = some obj → S o = some obj) : WF ι S' w :=
 hwf.of_step (drop_step S S' hS ι w) hwf.blt (fun o o' obj obj' b h1 h2 => hwf.inj o o' obj obj' b (hS _ _ h1) (hS _ _ h2)) fun o obj b h1 h2 => .inl ⟨hS _ _ h1, h2, rfl⟩
theorem write_step {o b : Nat} {obj : AObj} {vs cs : Array Value} {e : TypeId} (ho : S o = some obj) (hb : ι o = some b) (hh : w.heap[b]? = some (.cells vs e (0, 0)))
  (hsz : cs.size = vs.size) (hkeep : ∀ j, ¬ obj.mut j → cs[j]? = vs[j]?) (hext : ∀ o b, ι o = some b → ι' o = some b)
  (hfoot : ∀ b off, b < w.heap.size → Foot ι' S' b off → Foot ι S b off) (hnblk : ∀ b, b < w.heap.size → Blk ι' S' b → Blk ι S b) :
  Step ι S w ι' S' (w.setRow b cs) where
 os := rfl
 tape := rfl
 output := rfl
 size := by simp
 blk k hk hn := setRow_other w b k cs (fun e => hn (e ▸ ⟨o, obj, ho, hb⟩))
 cell k off hk hn := by
  by_cases e : k = b
  ·subst e
   rw [cell_setRow_same w k off vs cs _ (0, 0) hh]
   simp only [World.cell?, hh]
   exact hkeep off (fun hm => hn ⟨o, obj, ho, hb, hm⟩)
  ·simp [World.cell?, setRow_other w b k cs e]
 shape k n h := by
  obtain ⟨c, e', h1, h2⟩ := h
  by_cases e : k = b
  ·subst e
   rw [hh] at h1
   cases h1
   exact ⟨cs, _, setRow_heap w k vs cs _ (0, 0) hh, by omega⟩
  ·exact ⟨c, e', (setRow_other w b k cs e).trans h1, h2⟩
 maps k ces c h _ := by
  by_cases e' : k = b
  ·subst e'; rw [hh] at h; cases h
  ·exact (setRow_other w b k cs e').trans h
 ext := hext
 foot := hfoot
 nblk := hnblk
theorem foot_set {o : Nat} {obj obj' : AObj} (ho : S o = some obj) (hm : ∀ j, obj'.mut j → obj.mut j) (b off : Nat) (h : Foot ι (putS S o obj') b off) : Foot ι S b off := by
 obtain ⟨q, ob, h1, h2, h3⟩ := h
 unfold putS at h1
 split at h1
 ·rename_i e; subst e; simp at h1; subst h1; exact ⟨q, obj, ho, h2, hm _ h3⟩
 ·exact ⟨q, ob, h1, h2, h3⟩
theorem blk_set {o : Nat} {obj obj' : AObj} (ho : S o = some obj) (b : Nat) (h : Blk ι (putS S o obj') b) : Blk ι S b := by
 obtain ⟨q, ob, h1, h2⟩ := h
 unfold putS at h1
 split at h1
 ·rename_i e; subst e; exact ⟨q, obj, ho, h2⟩
 ·exact ⟨q, ob, h1, h2⟩
theorem write_obj [Glob] {o b : Nat} {obj obj' : AObj} {vs cs : Array Value} {e : TypeId} (hwf : WF ι S w) (ho : S o = some obj) (hb : ι o = some b)
  (hh : w.heap[b]? = some (.cells vs e (0, 0))) (hsz : cs.size = vs.size) (hmut : ∀ j, obj.mut j) 
  (hrep : (∀ v x, Rep ι (Foot ι S) w v x → Rep ι (Foot ι (putS S o obj')) (w.setRow b cs) v x) → (w.setRow b cs).heap[b]? = some (.cells cs e (0, 0)) →
   ObjRep ι (Foot ι (putS S o obj')) (w.setRow b cs) b obj') :
  Step ι S w ι (putS S o obj') (w.setRow b cs) ∧ WF ι (putS S o obj') (w.setRow b cs) := by
 have hs : Step ι S w ι (putS S o obj') (w.setRow b cs) :=
  write_step ho hb hh hsz (fun j hj => (hj (hmut j)).elim) (fun _ _ h => h) (fun b off _ h => foot_set ho (fun j _ => hmut j) b off h) (fun b _ h => blk_set ho b h)
 refine ⟨hs, hwf.of_step hs ?_ ?_ ?_⟩
 ·intro q c hq; have := hwf.blt q c hq; simpa using this
 ·intro q q' ob ob' c h1 h2 h3 h4
  have lift : ∀ {q ob}, putS S o obj' q = some ob → ∃ ob, S q = some ob := by
   intro q ob h
   unfold putS at h
   split at h
   ·rename_i e; exact ⟨obj, e ▸ ho⟩
   ·exact ⟨ob, h⟩
  obtain ⟨_, k1⟩ := lift h1
  obtain ⟨_, k2⟩ := lift h2
  exact hwf.inj q q' _ _ c k1 k2 h3 h4
 ·intro q ob c h1 h2
  by_cases eq : q = o
  ·subst eq
   rw [hb] at h2
   simp at h2
   subst h2
   simp [putS] at h1
   subst h1
   exact .inr (hrep (fun v x h => h.step hs) (setRow_heap w b vs cs e (0, 0) hh))
  ·have h1' : S q = some ob := by simpa [putS, eq] using h1
   have hne : c ≠ b := fun e => eq (hwf.inj q o ob obj b h1' ho (e ▸ h2) hb)
   exact .inl ⟨h1', h2, setRow_other w b c cs hne⟩
def putW (w : World) (b : Nat) (o : Obj) : World := { w with heap := w.heap.setIfInBounds b o }
def noCells (o : Obj) : Prop := ∀ c e f, o ≠ .cells c e f
theorem putW_same {w : World} {b : Nat} {o o' : Obj} (h : w.heap[b]? = some o) : (putW w b o').heap[b]? = some o' := by
 have hlt := (Array.getElem?_eq_some_iff.1 h).1
 simp [putW, hlt]
theorem putW_other {w : World} {b k : Nat} {o' : Obj} (h : k ≠ b) : (putW w b o').heap[k]? = w.heap[k]? := by
 simp [putW, Ne.symm h]
theorem cell_none {w : World} {b off : Nat} {o : Obj} (h : w.heap[b]? = some o) (hn : noCells o) : w.cell? ⟨b, off, none⟩ = none := by
 cases o <;> simp [World.cell?, h]
 exact absurd rfl (hn _ _ _)
theorem put_obj [Glob] {o b : Nat} {obj obj' : AObj} {co co' : Obj} (hwf : WF ι S w) (ho : S o = some obj) (hb : ι o = some b)
  (hh : w.heap[b]? = some co) (hn : noCells co) (hn' : noCells co') (hmut : ∀ j, obj.mut j)
  (hrep : (∀ v x, Rep ι (Foot ι S) w v x → Rep ι (Foot ι (putS S o obj')) (putW w b co') v x) → (putW w b co').heap[b]? = some co' →
   ObjRep ι (Foot ι (putS S o obj')) (putW w b co') b obj') :
  Step ι S w ι (putS S o obj') (putW w b co') ∧ WF ι (putS S o obj') (putW w b co') := by
 have hs : Step ι S w ι (putS S o obj') (putW w b co') := by
  refine ⟨rfl, rfl, rfl, by simp [putW], fun k hk hnb => putW_other fun e => hnb (e ▸ ⟨o, obj, ho, hb⟩), fun k off hk hf => ?_, fun k n h => ?_, fun k ces c h hf => (putW_other (fun e : k = b => hf 0 ⟨o, obj, ho, by rw [e]; exact hb, hmut 0⟩)).trans h, fun _ _ h => h, fun b off _ h => foot_set ho (fun j _ => hmut j) b off h, fun b _ h => blk_set ho b h⟩
  ·by_cases e : k = b
   ·subst e; exact absurd ⟨o, obj, ho, hb, hmut off⟩ hf
   ·simp [World.cell?, putW_other e]
  ·obtain ⟨c, e', h1, h2⟩ := h
   by_cases e : k = b
   ·subst e; rw [hh] at h1; cases h1; exact absurd rfl (hn _ _ _)
   ·exact ⟨c, e', (putW_other e).trans h1, h2⟩
 refine ⟨hs, hwf.of_step hs ?_ ?_ ?_⟩
 ·intro q c hq; have := hwf.blt q c hq; simpa [putW] using this
 ·intro q q' ob ob' c h1 h2 h3 h4
  have lift : ∀ {q ob}, putS S o obj' q = some ob → ∃ ob, S q = some ob := by
   intro q ob h
   unfold putS at h
   split at h
   ·rename_i e; exact ⟨obj, e ▸ ho⟩
   ·exact ⟨ob, h⟩
  obtain ⟨_, k1⟩ := lift h1
  obtain ⟨_, k2⟩ := lift h2
  exact hwf.inj q q' _ _ c k1 k2 h3 h4
 ·intro q ob c h1 h2
  by_cases eq : q = o
  ·subst eq
   rw [hb] at h2
   simp at h2
   subst h2
   simp [putS] at h1
   subst h1
   exact .inr (hrep (fun v x h => h.step hs) (putW_same hh))
  ·have h1' : S q = some ob := by simpa [putS, eq] using h1
   have hne : c ≠ b := fun e => eq (hwf.inj q o ob obj b h1' ho (e ▸ h2) hb)
   exact .inl ⟨h1', h2, putW_other hne⟩
end Go.AL
namespace Go.AL
variable {ι ι' : Nat → Option Nat} {S S' : Store} {F : Nat → Nat → Prop} {w w' : World} {P : Program}
def CellsAt (ι : Nat → Option Nat) (F : Nat → Nat → Prop) (w : World) (a : Addr) (l : List AV) : Prop :=
 a.spot = none ∧ ∃ f : Nat → Value, ∀ j x, l[j]? = some x → w.cell? ⟨a.block, a.off + j, none⟩ = some (f j) ∧ (f j).oneCell' = true ∧ Rep ι F w (f j) x
theorem CellsAt.drop {a : Addr} {l : List AV} (h : CellsAt ι F w a l) (n : Nat) : CellsAt ι F w ⟨a.block, a.off + n, none⟩ (l.drop n) := by
 obtain ⟨h1, f, h2⟩ := h
 refine ⟨rfl, fun j => f (n + j), fun j x hx => ?_⟩
 have := h2 (n + j) x (by simpa using hx)
 simpa [Nat.add_assoc] using this
theorem box_cellsAt {b : Nat} {cs : List AV} (h : ObjRep ι F w b (.box cs)) : CellsAt ι F w ⟨b, 0, none⟩ cs := by
 obtain ⟨vs, e, h1, h2, h3, h4⟩ := h
 refine ⟨rfl, fun j => vs.getD j undef, fun j x hx => ?_⟩
 have hj' := (List.getElem?_eq_some_iff.1 hx).1
 have hj : j < vs.size := by omega
 have hv : vs[j]? = some (vs.getD j undef) := by simp [hj]
 refine ⟨by simp [World.cell?, h1, hj], h4 j _ hj' hv, h3 j _ x hv hx⟩
theorem arr_cellsAt {b sz : Nat} {xs : List AV} (h : ObjRep ι F w b (.arr sz xs)) : CellsAt ι F w ⟨b, 0, none⟩ (flat xs) := by
 obtain ⟨vs, e, h1, h2, h3, h4, h5⟩ := h
 refine ⟨rfl, fun j => vs.getD j undef, fun j x hx => ?_⟩
 have hj' : j < xs.length * sz := by
  rw [← flat_length h2]
  exact (List.getElem?_eq_some_iff.1 hx).1
 have hj : j < vs.size := by omega
 have hv : vs[j]? = some (vs.getD j undef) := by simp [hj]
 exact ⟨by simp [World.cell?, h1, hj], h5 j _ hj' hv, h4 j _ x hv hx⟩
theorem cptr_cellsAt {a : Addr} {l : List AV} (h : Rep ι F w (.pointer (some a)) (.cptr l)) : CellsAt ι F w a l := by
 cases h with
 | cptr cs ha hc hr =>
  refine ⟨ha, cs, fun j x hx => ?_⟩
  have hj := (List.getElem?_eq_some_iff.1 hx).1
  obtain ⟨h1, h2, h3⟩ := hc j hj
  exact ⟨h1, h3, hr j x hx⟩
theorem run_loadVar_one (t : TypeId) (a : Addr) (v : Value) (hagg : (isAgg t).run P w = .ok false w) (h : w.cell? a = some v) : (loadVar t a).run P w = .ok v w := by
 simp [loadVar, hagg, h]
theorem run_loadVar_agg (t : TypeId) (a : Addr) (n : Nat) (f : Nat → Value) (hagg : (isAgg t).run P w = .ok true w) (hs : (sizeOf t).run P w = .ok n w)
  (h : ∀ j, j < n → w.cell? (a.add j) = some (f j)) : (loadVar t a).run P w = .ok (.agg ((List.range n).map f).toArray) w := by
 simp [loadVar, hagg, hs, run_loadCells w a n f h]
theorem load_cells [Glob] (t : TypeId) (n : Nat) (agg : Bool) (hagg : (isAgg t).run P w = .ok agg w) (hs : (sizeOf t).run P w = .ok n w) {a : Addr} {l : List AV} (hc : CellsAt ι F w a l)
  (hn : n ≤ l.length) {x : AV} (hx : loadAV n agg l = some x) : ∃ v, (Instr.loadAt t (.pointer (some a))).run P w = .ok v w ∧ Rep ι F w v x := by
 obtain ⟨ha, f, h⟩ := hc
 cases agg with
 | false =>
  simp only [loadAV, Bool.false_eq_true, if_false] at hx
  cases l with
  | nil => simp at hx
  | cons y r =>
   simp at hx
   subst hx
   obtain ⟨h1, h2, h3⟩ := h 0 y (by simp)
   have ha' : a = ⟨a.block, a.off + 0, none⟩ := by cases a; simp_all
   refine ⟨f 0, ?_, h3⟩
   simp only [Instr.loadAt, Instr.sureAddr, Sem.run_bind, Sem.run_pure, Result.andThen_ok]
   exact run_loadVar_one t a (f 0) hagg (by rw [ha']; exact h1)
 | true =>
  simp only [loadAV, if_true] at hx
  cases hx
  refine ⟨.agg ((List.range n).map f).toArray, ?_, ?_⟩
  ·simp only [Instr.loadAt, Instr.sureAddr, Sem.run_bind, Sem.run_pure, Result.andThen_ok]
   refine run_loadVar_agg t a n f hagg hs fun j hj => ?_
   rw [addr_add a ha]
   exact (h j l[j] (by simp)).1
  ·refine .agg (by simp; omega) (fun j v hv => ?_) (fun j v x hv hx => ?_)
   ·simp only [List.getElem?_toArray, List.getElem?_map, List.getElem?_range, Option.map_eq_some_iff] at hv
    obtain ⟨k, hk, rfl⟩ := hv
    have hj : j < n := by
     rcases Nat.lt_or_ge j n with h' | h'
     ·exact h'
     ·simp [List.getElem?_eq_none, h'] at hk
    have hk' : k = j := by simpa [hj, List.getElem?_range] using hk.symm
    subst hk'
    exact (h k l[k] (by simp)).2.1
   ·simp only [List.getElem?_toArray, List.getElem?_map, Option.map_eq_some_iff] at hv
    obtain ⟨k, hk, rfl⟩ := hv
    have hj : j < n := by
     rcases Nat.lt_or_ge j n with h' | h'
     ·exact h'
     ·simp [List.getElem?_eq_none, h'] at hk
    have hk' : k = j := by simpa [hj, List.getElem?_range] using hk.symm
    subst hk'
    rw [List.getElem?_take_of_lt hj] at hx
    exact (h k x hx).2.2
theorem run_storeVar (t : TypeId) (g o n : Nat) (e : TypeId) (v : Value) (cur : Array Value) (hs : (sizeOf t).run P w = .ok n w) (hn : v.cells.size = n)
  (hg : w.heap[g]? = some (.cells cur e (0, 0))) (hfit : o + n ≤ cur.size) (h1 : ∀ (j : Nat) u, v.cells[j]? = some u → u.oneCell' = true) :
  (Instr.storeAt t (.pointer (some ⟨g, o, none⟩)) v).run P w = .ok () (w.setRow g (cur.toList.take o ++ v.cells.toList ++ cur.toList.drop (o + n)).toArray) := by
 have hst := run_storeCells_at P g o e v.cells.toList 0 cur w hg (by simp; omega) (fun u hu => by
  obtain ⟨j, hj⟩ := List.mem_iff_getElem?.1 hu
  exact h1 j u (by simpa using hj))
 simp only [Instr.storeAt, Instr.sureAddr, storeVar, Sem.run_bind, Sem.run_pure, Result.andThen_ok, hs, hn, ne_eq, not_true, if_false]
 simpa [hn] using hst
theorem seg_get {α : Type} (l m : List α) (o : Nat) (ho : o + m.length ≤ l.length) (j : Nat) :
  (l.take o ++ m ++ l.drop (o + m.length))[j]? = if j < o then l[j]? else if j < o + m.length then m[j - o]? else l[j]? := by
 have hlen : (l.take o).length = o := by simp; omega
 by_cases h1 : j < o
 ·rw [if_pos h1, List.append_assoc, List.getElem?_append_left (by omega), List.getElem?_take_of_lt h1]
 ·rw [if_neg h1, List.append_assoc, List.getElem?_append_right (by omega), hlen]
  by_cases h2 : j < o + m.length
  ·rw [if_pos h2, List.getElem?_append_left (by omega)]
  ·rw [if_neg h2, List.getElem?_append_right (by omega), List.getElem?_drop]
   congr 1
   omega
theorem store_box [Glob] (hwf : WF ι S w) {o b off n : Nat} {cs : List AV} (ho : S o = some (.box cs)) (hb : ι o = some b) {v : Value} {x : AV} (hv : Rep ι (Foot ι S) w v x) (hx : x.isVal = true)
  (hn : x.cells.length = n) (hfit : off + n ≤ cs.length) (t : TypeId) (hs : (sizeOf t).run P w = .ok n w) :
  ∃ w', (Instr.storeAt t (.pointer (some ⟨b, off, none⟩)) v).run P w = .ok () w' ∧ Step ι S w ι (putS S o (.box (storeAV cs off x))) w' ∧ WF ι (putS S o (.box (storeAV cs off x))) w' := by
 obtain ⟨vs, e, h1, hsz, h2, h3⟩ := hwf.rep o _ b ho hb
 obtain ⟨⟨hc1, hc2⟩, hc3⟩ := hv.cells hx
 have hvn : v.cells.size = n := hc1.trans hn
 have hrun := run_storeVar (P := P) t b off n e v vs hs hvn h1 (by omega) hc3
 have hlen : (vs.toList.take off ++ v.cells.toList ++ vs.toList.drop (off + n)).toArray.size = vs.size := by simp; omega
 have hget : ∀ j : Nat, (vs.toList.take off ++ v.cells.toList ++ vs.toList.drop (off + n)).toArray[j]? = if j < off then vs[j]? else if j < off + n then v.cells[j - off]? else vs[j]? := by
  intro j
  have := seg_get vs.toList v.cells.toList off (by simp; omega) j
  simp only [Array.length_toList, hvn, Array.getElem?_toList] at this
  simpa using this
 have hget' : ∀ j : Nat, (storeAV cs off x)[j]? = if j < off then cs[j]? else if j < off + n then x.cells[j - off]? else cs[j]? := by
  intro j
  have := seg_get cs x.cells off (by omega) j
  simpa [storeAV, hn] using this
 refine ⟨_, hrun, write_obj hwf ho hb h1 hlen (fun _ => trivial) fun hkeep hheap => ?_⟩
 have hsl : (storeAV cs off x).length = cs.length := by simp [storeAV]; omega
 refine ⟨_, e, hheap, by rw [hlen, hsl]; exact hsz, fun j u y hu hy => ?_, fun j u hj0 hu => ?_⟩
 ·rw [hget] at hu
  rw [hget'] at hy
  refine hkeep _ _ ?_
  split at hu
  ·rename_i hj; simp only [hj, if_true] at hy; exact h2 j u y hu hy
  ·rename_i hj
   simp only [hj, if_false] at hy
   split at hu
   ·rename_i hj2; simp only [hj2, if_true] at hy; exact hc2 _ u y hu hy
   ·rename_i hj2; simp only [hj2, if_false] at hy; exact h2 j u y hu hy
 ·rw [hget] at hu
  rw [hsl] at hj0
  split at hu
  ·exact h3 j u hj0 hu
  ·split at hu
   ·exact hc3 _ u hu
   ·exact h3 j u hj0 hu
theorem new_box [Glob] (hwf : WF ι S w) {n : Nat} (hι : ι n = none) {vs : Array Value} {cs : List AV} (h : RepL ι (Foot ι S) w vs cs) (h1 : ∀ (j : Nat) v, vs[j]? = some v → v.oneCell' = true) (e : TypeId) :
  Step ι S w (putι ι n w.heap.size) (putS S n (.box cs)) (w.alloc (.cells vs e)) ∧ WF (putι ι n w.heap.size) (putS S n (.box cs)) (w.alloc (.cells vs e)) := by
 have hs := alloc_obj_step hwf hι (.cells vs e) (.box cs)
 exact ⟨hs, alloc_obj_wf hwf hι _ _ ⟨vs, e, heap_alloc_eq w _, Nat.le_of_eq h.1.symm, (h.step hs).2, fun j v _ => h1 j v⟩⟩
theorem constAV_rep (v : Value) {x : AV} (h : constAV v = some x) : Rep ι F w v x := by
 unfold constAV at h
 split at h <;> simp at h <;> subst h
 ·exact .bool _
 ·exact .int _ _
 ·exact .str _
 ·exact .nilptr
 ·exact .list (fun _ => undef) rfl (Nat.le_refl _) (by simp) rfl (by simp) (by simp) (by simp)
 ·exact .nilmap
 ·exact .nilfn
theorem constAV_cell (v : Value) {x : AV} (h : constAV v = some x) : v.oneCell' = true := by
 unfold constAV at h
 split at h <;> simp at h <;> subst h <;> rfl
theorem constAV_isVal (v : Value) {x : AV} (h : constAV v = some x) : x.isVal = true ∧ x.cells = [x] := by
 unfold constAV at h
 split at h <;> simp at h <;> subst h <;> exact ⟨rfl, rfl⟩
def zeroAV (P : Program) (t : TypeId) : Option (List AV) := (P.info? t).bind fun i => i.zero.bind fun z => z.cells.toList.mapM constAV
theorem mapM_rep {vs : List Value} {l : List AV} (h : vs.mapM constAV = some l) : vs.length = l.length ∧ ∀ (j : Nat) v x, vs[j]? = some v → l[j]? = some x → constAV v = some x := by
 induction vs generalizing l with
 | nil => simp at h; subst h; simp
 | cons v vs ih =>
  simp only [List.mapM_cons, Option.bind_eq_bind, Option.pure_def] at h
  cases hv : constAV v with
  | none => simp [hv] at h
  | some y =>
   cases hr : vs.mapM constAV with
   | none => simp [hv, hr] at h
   | some r =>
    simp [hv, hr] at h
    subst h
    obtain ⟨h1, h2⟩ := ih hr
    refine ⟨by simp [h1], fun j u x hu hx => ?_⟩
    cases j with
    | zero => simp at hu hx; subst hu hx; exact hv
    | succ j => simp at hu hx; exact h2 j u x hu hx
theorem zeroAV_spec [Glob] {t : TypeId} {zs : List AV} (h : zeroAV P t = some zs) : ∃ i z, P.info? t = some i ∧ i.zero = some z ∧ RepL ι F w z.cells zs ∧ (∀ (j : Nat) v, z.cells[j]? = some v → v.oneCell' = true) ∧
  (zeroValue t).run P w = .ok z w ∧ (∀ x ∈ zs, x.isVal = true ∧ x.cells = [x]) := by
 unfold zeroAV at h
 cases hi : P.info? t with
 | none => simp [hi] at h
 | some i =>
  cases hz : i.zero with
  | none => simp [hi, hz] at h
  | some z =>
   simp [hi, hz] at h
   obtain ⟨h1, h2⟩ := mapM_rep h
   have hex : ∀ (j : Nat) v, z.cells[j]? = some v → ∃ x, zs[j]? = some x ∧ constAV v = some x := by
    intro j v hv
    have hj : j < zs.length := by rw [← h1]; simpa using (Array.getElem?_eq_some_iff.1 hv).1
    exact ⟨zs[j], by simp, h2 j v _ (by simpa using hv) (by simp)⟩
   refine ⟨i, z, rfl, hz, ⟨by simpa using h1, fun j v x hv hx => constAV_rep v (h2 j v x (by simpa using hv) hx)⟩, fun j v hv => ?_, ?_, ?_⟩
   ·obtain ⟨x, _, hx⟩ := hex j v hv; exact constAV_cell v hx
   ·simp [zeroValue, typeInfo, hi, hz]
   ·intro x hx
    obtain ⟨j, hj⟩ := List.mem_iff_getElem?.1 hx
    have hj' : j < z.cells.toList.length := by rw [h1]; exact (List.getElem?_eq_some_iff.1 hj).1
    exact constAV_isVal _ (h2 j z.cells.toList[j] x (by simp) hj)
end Go.AL
namespace Go.AL
variable {ι ι' : Nat → Option Nat} {S S' : Store} {F : Nat → Nat → Prop} {w w' : World} {P : Program}
theorem fold_set (off : Nat) : ∀ (vs : List Value) (i : Nat) (cur : Array Value), off + i + vs.length ≤ cur.size →
  (vs.zipIdx i).foldl (fun cs (p : Value × Nat) => cs.setIfInBounds (off + p.2) p.1) cur = (cur.toList.take (off + i) ++ vs ++ cur.toList.drop (off + i + vs.length)).toArray
 | [], i, cur, h => by simp
 | v :: vs, i, cur, h => by
  simp only [List.zipIdx_cons, List.foldl_cons]
  rw [fold_set off vs (i + 1) _ (by simp at h ⊢; omega)]
  have e := list_seg_step cur.toList (off + i) v vs (by simp at h ⊢; omega)
  congr 1
  simpa [Array.toList_setIfInBounds, Nat.add_assoc] using e
theorem fill_step [Glob] (vs : Array Value) (off : Nat) (cur : Array Value) (h : off + vs.size ≤ cur.size) :
  vs.zipIdx.foldl (fun cs (p : Value × Nat) => cs.setIfInBounds (off + p.2) p.1) cur = (cur.toList.take off ++ vs.toList ++ cur.toList.drop (off + vs.size)).toArray := by
 rw [← Array.foldl_toList, Array.toList_zipIdx]
 have := fold_set off vs.toList 0 cur (by simpa using h)
 simpa using this
theorem RepL.seg [Glob] {vs cs : Array Value} {l m : List AV} {off : Nat} (h : RepL ι F w vs l) (k : RepL ι F w cs m) (hfit : off + m.length ≤ l.length) :
  RepL ι F w (vs.toList.take off ++ cs.toList ++ vs.toList.drop (off + cs.size)).toArray (l.take off ++ m ++ l.drop (off + m.length)) := by
 have e1 := h.1
 have e2 := k.1
 refine ⟨by simp; omega, fun j v x hv hx => ?_⟩
 have g1 := seg_get vs.toList cs.toList off (by simp; omega) j
 have g2 := seg_get l m off hfit j
 simp only [Array.length_toList, Array.getElem?_toList] at g1
 rw [List.getElem?_toArray, g1] at hv
 rw [g2] at hx
 split at hv
 ·rename_i hj; simp only [hj, if_true] at hx; exact h.2 j v x hv hx
 ·rename_i hj
  simp only [hj, if_false] at hx
  rw [e2] at hv
  split at hv
  ·rename_i hj2; simp only [hj2, if_true] at hx; exact k.2 _ v x hv hx
  ·rename_i hj2; simp only [hj2, if_false] at hx; exact h.2 j v x hv hx
theorem seg_one {vs cs : Array Value} {off : Nat} (h : ∀ (j : Nat) v, vs[j]? = some v → v.oneCell' = true) (k : ∀ (j : Nat) v, cs[j]? = some v → v.oneCell' = true) :
  ∀ (j : Nat) v, (vs.toList.take off ++ cs.toList ++ vs.toList.drop (off + cs.size)).toArray[j]? = some v → v.oneCell' = true := by
 intro j v hv
 rw [List.getElem?_toArray] at hv
 have hm := List.mem_iff_getElem?.2 ⟨j, hv⟩
 simp only [List.mem_append] at hm
 rcases hm with (hm | hm) | hm
 ·obtain ⟨i, hi⟩ := List.mem_iff_getElem?.1 (List.mem_of_mem_take hm)
  exact h i v (by simpa using hi)
 ·obtain ⟨i, hi⟩ := List.mem_iff_getElem?.1 hm
  exact k i v (by simpa using hi)
 ·obtain ⟨i, hi⟩ := List.mem_iff_getElem?.1 (List.mem_of_mem_drop hm)
  exact h i v (by simpa using hi)
theorem fill_rep [Glob] (place : Nat → Option (Nat × Nat)) : ∀ (ps : List (Nat × Value)) (qs : List (Nat × AV)) (cells : Array Value) (zs : List AV), ps.length = qs.length →
  (∀ (j : Nat) p q, ps[j]? = some p → qs[j]? = some q → place p.1 = some (q.1, q.2.cells.length) ∧ Rep ι F w p.2 q.2 ∧ q.2.isVal = true ∧ q.1 + q.2.cells.length ≤ zs.length) →
  RepL ι F w cells zs → (∀ (j : Nat) v, cells[j]? = some v → v.oneCell' = true) →
  ∃ cells', Instr.fill place cells ps = some cells' ∧ RepL ι F w cells' (fillAV zs qs) ∧ (∀ (j : Nat) v, cells'[j]? = some v → v.oneCell' = true)
 | [], [], cells, zs, _, _, h1, h2 => ⟨cells, rfl, h1, h2⟩
 | [], _ :: _, _, _, h, _, _, _ => by simp at h
 | _ :: _, [], _, _, h, _, _, _ => by simp at h
 | (i, v) :: ps, (off, x) :: qs, cells, zs, hl, h, h1, h2 => by
  obtain ⟨hp, hv, hx, hfit⟩ := h 0 (i, v) (off, x) rfl rfl
  simp only at hp hv hx hfit
  obtain ⟨hc, hone⟩ := hv.cells hx
  have hsz := hc.1
  have h1' := h1.1
  have hstep := fill_step v.cells off cells (by omega)
  have hseg := h1.seg hc hfit
  rw [← hsz] at hp
  obtain ⟨cells', hf, hr, ho⟩ := fill_rep place ps qs _ _ (by simpa using hl) (fun j p q hp hq => by
   have := h (j + 1) p q (by simpa using hp) (by simpa using hq)
   refine ⟨this.1, this.2.1, this.2.2.1, ?_⟩
   have h3 := this.2.2.2
   simp only [List.length_append, List.length_take, List.length_drop]
   omega) hseg (seg_one h2 hone)
  refine ⟨cells', ?_, by simpa [fillAV, hsz] using hr, ho⟩
  have hcond : (decide (v.cells.size ≠ v.cells.size) || decide (off + v.cells.size > cells.size)) = false := by
   simp
   omega
  simp only [Instr.fill, hp, hcond, Bool.false_eq_true, if_false]
  rw [hstep]
  exact hf
theorem build_sound [Glob] {t : TypeId} {ps : Array (Nat × Value)} {qs : List (Nat × AV)} {zs : List AV} {fields : Array Field} {places : List (Nat × Nat)} (hu : P.underlying t = some (.struct fields))
  (hz : zeroAV P t = some zs) (hp : fields.toList.mapM (fun f => (P.info? f.type).map fun i => (f.offset, i.size)) = some places) (hl : ps.size = qs.length)
  (h : ∀ (j : Nat) p q, ps[j]? = some p → qs[j]? = some q → places[p.1]? = some (q.1, q.2.cells.length) ∧ Rep ι F w p.2 q.2 ∧ q.2.isVal = true ∧ q.1 + q.2.cells.length ≤ zs.length) :
  ∃ v, (Instr.build t ps).run P w = .ok v w ∧ Rep ι F w v (.agg (fillAV zs qs)) := by
 obtain ⟨i, z, hi, hiz, hzr, hz1, _⟩ := zeroAV_spec (ι := ι) (F := F) (w := w) hz
 obtain ⟨cells, hf, hr, ho⟩ := fill_rep (places.toArray[·]?) ps.toList qs z.cells zs (by simpa using hl) (fun j p q hp hq => by
  have := h j p q (by simpa using hp) hq
  simpa using this) hzr hz1
 refine ⟨.agg cells, run_build w t ps cells ?_, .agg hr.1 ho hr.2⟩
 simp only [Program.built, hi, hu, hiz, hp]
 exact hf
theorem flat_replicate (z : AV) (n : Nat) : flat (List.replicate n z) = (List.replicate n z.cells).flatten := by
 induction n with
 | zero => rfl
 | succ n ih => simp [List.replicate_succ, ih]
theorem zeros_rep {z : Array Value} {zs : List AV} {sz : Nat} (h : RepL ι F w z zs) (hz : z.size = sz) (hpos : 0 < sz) (x : AV) (hx : x.cells = zs) (n : Nat) :
  RepL ι F w ((Array.range (n * sz)).map (z[· % z.size]!)) (flat (List.replicate n x)) := by
 have hlen : (flat (List.replicate n x)).length = n * sz := by
  rw [flat_length (sz := sz) (fun y hy => by rw [List.eq_of_mem_replicate hy, hx, ← h.1, hz])]
  simp
 refine ⟨by simp [hlen], fun j v y hv hy => ?_⟩
 have hj : j < n * sz := by rw [← hlen]; exact (List.getElem?_eq_some_iff.1 hy).1
 have hjs : j % sz < sz := Nat.mod_lt _ hpos
 have hjd : j / sz < n := by rw [Nat.div_lt_iff_lt_mul hpos]; omega
 have e : j = j / sz * sz + j % sz := by rw [Nat.mul_comm]; exact (Nat.div_add_mod j sz).symm
 have hg := flat_get (sz := sz) (xs := List.replicate n x) (fun y hy => by rw [List.eq_of_mem_replicate hy, hx, ← h.1, hz]) (j / sz) (j % sz) hjs
 rw [← e] at hg
 rw [hg] at hy
 simp only [List.getElem?_replicate, hjd, if_true, Option.bind_some, hx] at hy
 have hv' : v = z[j % sz]! := by
  simp only [Array.getElem?_map, Array.getElem?_range, hj] at hv
  simp at hv
  rw [← hv, hz]
 have hzj : z[j % sz]? = some v := by
  rw [hv', getElem!_pos z (j % sz) (by omega)]
  simp
 exact h.2 _ v y hzj hy
theorem fill_flat {sz : Nat} : ∀ (qs : List (Nat × AV)) (xs : List AV), (∀ x ∈ xs, x.cells.length = sz) → (∀ q ∈ qs, q.2.cells.length = sz ∧ q.1 < xs.length) →
  fillAV (flat xs) (qs.map fun q => (q.1 * sz, q.2)) = flat (qs.foldl (fun xs q => xs.set q.1 q.2) xs)
 | [], xs, _, _ => rfl
 | (i, x) :: qs, xs, h, hq => by
  obtain ⟨hx, hi⟩ := hq (i, x) (by simp)
  simp only at hx hi
  have hset : (flat xs).take (i * sz) ++ x.cells ++ (flat xs).drop (i * sz + x.cells.length) = flat (xs.set i x) := by
   have e : xs = xs.take i ++ xs[i] :: xs.drop (i + 1) := by simp
   have hl : (flat (xs.take i)).length = i * sz := by
    rw [flat_length (sz := sz) fun y hy => h y (List.mem_of_mem_take hy)]
    simp [Nat.le_of_lt hi]
   have hl2 : xs[i].cells.length = sz := h _ (List.getElem_mem hi)
   have e1 : flat xs = flat (xs.take i) ++ (xs[i].cells ++ flat (xs.drop (i + 1))) := by
    conv => lhs; rw [e]
    rw [flat_append, flat_cons]
   rw [List.set_eq_take_append_cons_drop, if_pos hi, flat_append, flat_cons]
   have t1 : (flat xs).take (i * sz) = flat (xs.take i) := by rw [e1, ← hl, List.take_left']; rfl
   have t2 : (flat xs).drop (i * sz + x.cells.length) = flat (xs.drop (i + 1)) := by
    rw [e1, hx, ← hl, ← hl2, ← List.drop_drop, List.drop_left', List.drop_left'] <;> rfl
   rw [t1, t2, List.append_assoc]
  simp only [List.map_cons, List.foldl_cons, fillAV]
  rw [hset]
  exact fill_flat qs (xs.set i x) (fun y hy => by
   rcases List.mem_or_eq_of_mem_set hy with hy | rfl
   ·exact h y hy
   ·exact hx) (fun q hqm => by simpa using hq q (by simp [hqm]))
theorem Rep.list_of_block {b len cap sz : Nat} {t : Tok} {xs : List AV} {vs : Array Value} {e : TypeId} (hlen : len = xs.length) (hcap : len ≤ cap)
  (hsz : ∀ x ∈ xs, x.cells.length = sz) (ht : TokOK ι w sz (some ⟨b, 0, none⟩) len cap t) (hh : w.heap[b]? = some (.cells vs e (0, 0))) (hF : ∀ j, j < len * sz → ¬ F b j)
  (hr : ∀ (j : Nat) v x, vs[j]? = some v → (flat xs)[j]? = some x → Rep ι F w v x) (hone : ∀ (j : Nat) v, j < len * sz → vs[j]? = some v → v.oneCell' = true) (hbig : len * sz ≤ vs.size) :
  Rep ι F w (.slice (some ⟨b, 0, none⟩) len cap) (.list sz t xs) := by
 have hget : ∀ j, j < len * sz → vs[j]? = some (vs.getD j undef) := fun j hj => by
  have : j < vs.size := by omega
  simp [this]
 refine .list (fun j => vs.getD j undef) hlen hcap hsz ht (by simp) (fun j hj => ⟨_, rfl, rfl, ?_, ?_, ?_⟩) (fun j x hx => ?_)
 ·simp only [World.cell?, hh, Nat.zero_add]
  simpa using hget j hj
 ·simpa using hF j hj
 ·exact hone j _ hj (hget j hj)
 ·have hj : j < len * sz := by
   rw [hlen, ← flat_length hsz]
   exact (List.getElem?_eq_some_iff.1 hx).1
  exact hr j _ x (hget j hj) hx
theorem not_foot_new [Glob] (hwf : WF ι S w) (j : Nat) (o : Obj) : ¬ Foot ι S w.heap.size j := by
 rintro ⟨q, ob, _, h2, _⟩
 have := hwf.blt q _ h2
 omega
theorem foldl_set_mem : ∀ (qs : List (Nat × AV)) (xs : List AV), ∀ x ∈ qs.foldl (fun xs q => xs.set q.1 q.2) xs, x ∈ xs ∨ ∃ q ∈ qs, x = q.2
 | [], xs, x, hx => .inl hx
 | q :: qs, xs, x, hx => by
  rcases foldl_set_mem qs (xs.set q.1 q.2) x hx with h | ⟨p, hp, rfl⟩
  ·rcases List.mem_or_eq_of_mem_set h with h | rfl
   ·exact .inl h
   ·exact .inr ⟨q, by simp, rfl⟩
  ·exact .inr ⟨p, by simp [hp], rfl⟩
theorem foldl_set_length : ∀ (qs : List (Nat × AV)) (xs : List AV), (qs.foldl (fun xs q => xs.set q.1 q.2) xs).length = xs.length
 | [], xs => rfl
 | q :: qs, xs => by simp [foldl_set_length qs]
theorem buildSlice_sound [Glob] (hwf : WF ι S w) {t e : TypeId} {i : TypeInfo} {ps : Array (Nat × Value)} {qs : List (Nat × AV)} {zs : List AV} {m : Nat} (hu : P.underlying t = some (.slice e)) (hi : P.info? e = some i)
  (hz : zeroAV P e = some zs) (x0 : AV) (hx0 : x0.cells = zs) (hzl : zs.length = i.size) (hpos : 0 < i.size) (hbig : m * i.size ≤ 2 ^ 24) (hl : ps.size = qs.length)
  (h : ∀ (j : Nat) p q, ps[j]? = some p → qs[j]? = some q → p.1 = q.1 ∧ Rep ι (Foot ι S) w p.2 q.2)
  (hside : ∀ q ∈ qs, q.2.isVal = true ∧ q.2.cells.length = i.size ∧ q.1 < m) :
  ∃ v w', (Instr.buildSlice t m ps).run P w = .ok v w' ∧ Step ι S w ι S w' ∧ WF ι S w' ∧
   Rep ι (Foot ι S) w' v (.list i.size .full (qs.foldl (fun xs q => xs.set q.1 q.2) (List.replicate m x0))) := by
 obtain ⟨i', z, hi', hiz, hzr, hz1, hzv, _⟩ := zeroAV_spec (ι := ι) (F := Foot ι S) (w := w) hz
 rw [hi] at hi'
 cases hi'
 have hzs : z.cells.size = i.size := hzr.1.trans hzl
 let zeros : Array Value := (Array.range (m * i.size)).map (z.cells[· % z.cells.size]!)
 have hzrep : RepL ι (Foot ι S) w zeros (flat (List.replicate m x0)) := zeros_rep hzr hzs hpos x0 hx0 m
 have hone : ∀ (j : Nat) v, zeros[j]? = some v → v.oneCell' = true := by
  intro j v hv
  simp only [zeros, Array.getElem?_map, Option.map_eq_some_iff] at hv
  obtain ⟨k, _, rfl⟩ := hv
  have hk : k % z.cells.size < z.cells.size := Nat.mod_lt _ (by omega)
  rw [getElem!_pos z.cells _ hk]
  exact hz1 _ _ (Array.getElem?_eq_getElem hk)
 have hrl : ∀ y ∈ List.replicate m x0, y.cells.length = i.size := fun y hy => by rw [List.eq_of_mem_replicate hy, hx0, hzl]
 obtain ⟨cells, hf, hr, ho⟩ := fill_rep (fun k => some (k * i.size, i.size)) ps.toList (qs.map fun q => (q.1 * i.size, q.2)) zeros _ (by simpa using hl) (fun j p q hp hq => by
  simp only [List.getElem?_map, Option.map_eq_some_iff] at hq
  obtain ⟨q', hq', rfl⟩ := hq
  obtain ⟨e1, e2⟩ := h j p q' (by simpa using hp) hq'
  obtain ⟨s1, s2, s3⟩ := hside q' (List.mem_of_getElem? hq')
  refine ⟨by rw [e1, s2], e2, s1, ?_⟩
  rw [flat_length hrl, s2]
  simp only [List.length_replicate]
  have : (q'.1 + 1) * i.size ≤ m * i.size := Nat.mul_le_mul_right _ s3
  rw [Nat.succ_mul] at this
  exact this) hzrep hone
 rw [fill_flat qs _ hrl (fun q hq => ⟨(hside q hq).2.1, by simpa using (hside q hq).2.2⟩)] at hr
 have hmem : ∀ y ∈ qs.foldl (fun xs q => xs.set q.1 q.2) (List.replicate m x0), y.cells.length = i.size := by
  intro y hy
  rcases foldl_set_mem qs _ y hy with hy | ⟨q, hq, rfl⟩
  ·exact hrl y hy
  ·exact (hside q hq).2.1
 have hcs : cells.size = m * i.size := by
  rw [hr.1, flat_length hmem, foldl_set_length]
  simp
 have hs := alloc_step ι S w (.cells cells e)
 refine ⟨.slice (some ⟨w.heap.size, 0, none⟩) m m, w.alloc (.cells cells e), ?_, hs, hwf.alloc _, ?_⟩
 ·have hbig' : ¬ (16777216 < m * i.size) := by omega
  have hm0 : (if m * i.size = 0 then (Pure.pure #[] : Sem (Array Value)) else (do pure (← zeroValue e).cells)).run P w = .ok (if m * i.size = 0 then #[] else z.cells) w := by
   split <;> simp [hzv]
  have hf' : Instr.fill (fun k => some (k * i.size, i.size)) ((Array.range (m * i.size)).map ((if m * i.size = 0 then #[] else z.cells)[· % (if m * i.size = 0 then (#[] : Array Value) else z.cells).size]!)) ps.toList = some cells := by
   by_cases h0 : m * i.size = 0
   ·have e0 : zeros = #[] := by simp [zeros, h0]
    rw [e0] at hf
    have e1 : (Array.map (fun x => (default : Value)) (Array.range 0)) = #[] := by simp
    simp only [h0, if_true]
    simpa [e1] using hf
   ·simpa [h0] using hf
  by_cases h0 : m * i.size = 0
  ·simp only [h0, if_true] at hf'
   simp [Instr.buildSlice, run_underlying hu, sizeOf, typeInfo, hi, hbig', hzv, h0, newRow] at hf' ⊢
   rw [hf']
   simp
  ·simp only [h0, if_false] at hf'
   simp [Instr.buildSlice, run_underlying hu, sizeOf, typeInfo, hi, hbig', hzv, h0, newRow, hf']
 ·refine Rep.list_of_block (vs := cells) (e := e) (by simp [foldl_set_length]) (Nat.le_refl _) hmem rfl (heap_alloc_eq w _) (fun j _ => not_foot_new hwf j (.cells cells e)) (fun j v x hv hx => (hr.2 j v x hv hx).step hs) (fun j v _ hv => ho j v hv) (by omega)
end Go.AL
namespace Go.AL
variable {ι ι' : Nat → Option Nat} {S S' : Store} {F : Nat → Nat → Prop} {w w' : World} {P : Program}
theorem Rep.list_inv {v : Value} {sz : Nat} {t : Tok} {xs : List AV} (h : Rep ι F w v (.list sz t xs)) : ∃ (a : Option Addr) (len cap : Nat) (cs : Nat → Value), v = .slice a len cap ∧ len = xs.length ∧ len ≤ cap ∧
  (∀ x ∈ xs, x.cells.length = sz) ∧ TokOK ι w sz a len cap t ∧ (a = none → cap = 0) ∧
  (∀ j, j < len * sz → ∃ ad, a = some ad ∧ ad.spot = none ∧ w.cell? ⟨ad.block, ad.off + j, none⟩ = some (cs j) ∧ ¬ F ad.block (ad.off + j) ∧ (cs j).oneCell' = true) ∧
  (∀ j x, (flat xs)[j]? = some x → Rep ι F w (cs j) x) := by
 cases h with
 | list cs h1 h2 h3 h4 h5 h6 h7 => exact ⟨_, _, _, cs, rfl, h1, h2, h3, h4, h5, h6, h7⟩
theorem firstCells_list [Glob] {a : Option Addr} {len cap sz : Nat} {t : Tok} {xs : List AV} (h : Rep ι F w (.slice a len cap) (.list sz t xs)) (n : Nat) (hn : n = len) :
  ∃ vs : Array Value, (Builtin.firstCells sz n (.slice a len cap)).run P w = .ok vs w ∧ RepL ι F w vs (flat xs) ∧ (∀ (j : Nat) v, vs[j]? = some v → v.oneCell' = true) ∧ vs.size = len * sz := by
 subst hn
 cases h with
 | list cs hlen hcap hsz ht hnone hc hr =>
  have hfl : (flat xs).length = n * sz := by rw [flat_length hsz, hlen]
  cases a with
  | none =>
   have h0 : n = 0 := by have := hnone rfl; omega
   subst h0
   refine ⟨#[], by simp [Builtin.firstCells], ⟨by rw [hfl]; simp, by simp⟩, by simp, by simp⟩
  | some ad =>
   by_cases h0 : n * sz = 0
   ·refine ⟨#[], ?_, ⟨by rw [hfl, h0]; rfl, by simp⟩, by simp, by simp [h0]⟩
    simp [Builtin.firstCells, h0, loadCells, loadCellsFrom]
   ·obtain ⟨ad', e1, e2, _⟩ := hc 0 (by omega)
    cases e1
    have hl := run_loadCells (P := P) w ad (n * sz) cs (fun j hj => by
     obtain ⟨ad', e1, e2, e3, _⟩ := hc j hj
     cases e1
     rw [addr_add ad e2]
     exact e3)
    refine ⟨_, by simpa [Builtin.firstCells] using hl, ⟨by rw [hfl]; simp, fun j v x hv hx => ?_⟩, fun j v hv => ?_, by simp⟩
    ·have hj : j < n * sz := by rw [← hfl]; exact (List.getElem?_eq_some_iff.1 hx).1
     simp [List.getElem?_range, hj] at hv
     subst hv
     exact hr j x hx
    ·simp only [List.getElem?_toArray, List.getElem?_map, Option.map_eq_some_iff] at hv
     obtain ⟨k, hk, rfl⟩ := hv
     have hj : j < n * sz := by
      rcases Nat.lt_or_ge j (n * sz) with h' | h'
      ·exact h'
      ·simp [List.getElem?_eq_none, h'] at hk
     have hk' : k = j := by simpa [hj, List.getElem?_range] using hk.symm
     subst hk'
     obtain ⟨_, _, _, _, _, e⟩ := hc k hj
     exact e
theorem foot_of_put {q : Nat} {n : Nat} {obj : AObj} {b off : Nat} (h : Foot ι (putS S n obj) b off) : (ι n = some b ∧ obj.mut off) ∨ Foot ι (delS S n) b off := by
 obtain ⟨q, ob, h1, h2, h3⟩ := h
 unfold putS at h1
 split at h1
 ·rename_i e; subst e; simp at h1; subst h1; exact .inl ⟨h2, h3⟩
 ·rename_i e
  exact .inr ⟨q, ob, by simp [delS, e, h1], h2, h3⟩
def AppS (S S' : Store) (nid N sz : Nat) (xs : List AV) : Tok → Prop
 | .none => False
 | .full => S' = putS S nid (.spare N)
 | .own o => S o = some (.spare (xs.length * sz)) ∧ S' = putS (delS S o) nid (.spare N)
theorem delS_sub (S : Store) (o : Nat) : ∀ q obj, delS S o q = some obj → S q = some obj := by
 intro q obj h
 unfold delS at h
 split at h
 ·cases h
 ·exact h
theorem run_append_lists {ty ty2 rt e d : TypeId} {i : TypeInfo} {z : Value} (hu : P.underlying ty = some (.slice e)) (hu2 : P.underlying ty2 = some (.slice d))
  (hi : P.info? e = some i) (hz : i.zero = some z)
  {a : Option Addr} {len cap : Nat} {a2 : Option Addr} {len2 cap2 : Nat} {olds news : Array Value}
  (hnew : ∀ w', w'.heap = w.heap → (Builtin.firstCells i.size len2 (.slice a2 len2 cap2)).run P w' = .ok news w')
  (hold : ∀ w', w'.heap = w.heap → (Builtin.firstCells i.size len (.slice a len cap)).run P w' = .ok olds w')
  (hgrow : cap < len + len2) (h63 : ((len + len2 : Nat) : Int) ≤ 9223372036854775807) (hb : (len + len2) * i.bytes ≤ 140737488355328) :
  (Builtin.append_ #[ty, ty2] rt #[.slice a len cap, .slice a2 len2 cap2]).run P w =
   .ok (.slice (some ⟨w.heap.size, 0, none⟩) (len + len2) (grownCap w (len + len2) cap e))
    (w.drew.alloc (.cells (olds ++ news ++ Builtin.zeroCells z.cells (grownCap w (len + len2) cap e - (len + len2))) e)) := by
 have hn : ¬ (len + len2 ≤ cap) := by omega
 have h63' : ¬ (9223372036854775807 < ((len : Int) + (len2 : Int))) := by omega
 have hfit := growslice_fits hgrow hb
 have h48' : ¬ (281474976710656 < Builtin.nextslicecap (len + len2) cap * i.bytes) := by omega
 have h1 := hnew w.drew rfl
 have h2 := hold w.drew rfl
 simp [Builtin.append_, run_underlying hu, run_underlying hu2, sizeOf, typeInfo, zeroValue, hi, hz, Builtin.lenOf, hn, h63', h48', Question.forced, h1, h2, newRow, grownCap]
theorem grownCap_ge (w : World) (need old : Nat) (e : TypeId) : need ≤ grownCap w need old e := by
 simp [grownCap, Question.cut]
theorem size_zeroCells (z : Array Value) (n : Nat) : (Builtin.zeroCells z n).size = n * z.size := by simp [Builtin.zeroCells]
theorem append_sound [Glob] (hwf : WF ι S w) {nid : Nat} (hn : ι nid = none) (hSn : S nid = none) {sv xv : Value} {sz0 sz1 sz : Nat} {t t1 : Tok} {xs ys : List AV}
  (hs : Rep ι (Foot ι S) w sv (.list sz0 t xs)) (hx : Rep ι (Foot ι S) w xv (.list sz1 t1 ys)) (hz0 : sz0 = sz ∨ (xs = [] ∧ t = .full)) (hz1 : sz1 = sz ∨ ys = [])
  {ty ty2 rt e d : TypeId} {i : TypeInfo} {z : Value} (hu : P.underlying ty = some (.slice e)) (hu2 : P.underlying ty2 = some (.slice d)) (hi : P.info? e = some i) (hz : i.zero = some z)
  (hsz : i.size = sz) (hzc : z.cells.size = sz) (hb : (xs.length + ys.length) * i.bytes ≤ 140737488355328) (h63 : xs.length + ys.length ≤ 9223372036854775807)
  (hS : AppS S S' nid ((xs.length + ys.length) * sz) sz xs t) :
  ∃ v' w' ι', (Builtin.append_ #[ty, ty2] rt #[sv, xv]).run P w = .ok v' w' ∧ Step ι S w ι' S' w' ∧ WF ι' S' w' ∧ Rep ι' (Foot ι' S') w' v' (.list sz (.own nid) (xs ++ ys)) ∧
   ∀ q b, ι' q = some b → q = nid ∨ ι q = some b := by
 -- both lists at the operation's own size
 have hs' : Rep ι (Foot ι S) w sv (.list sz t xs) := by
  rcases hz0 with rfl | ⟨rfl, rfl⟩
  ·exact hs
  ·cases hs with
   | list cs hlen hcap hsz0 ht hnone hc hr =>
    simp only [List.length_nil] at hlen
    subst hlen
    simp only [TokOK] at ht
    exact .list cs rfl hcap (by simp) ht hnone (fun j hj => by omega) (by simp)
 have hx' : Rep ι (Foot ι S) w xv (.list sz .none ys) := by
  rcases hz1 with rfl | rfl
  ·cases hx with
   | list cs hlen hcap hsz0 ht hnone hc hr => exact .list cs hlen hcap hsz0 trivial hnone hc hr
  ·cases hx with
   | list cs hlen hcap hsz0 ht hnone hc hr =>
    simp only [List.length_nil] at hlen
    subst hlen
    exact .list cs rfl hcap (by simp) trivial hnone (fun j hj => by omega) (by simp)
 clear hs hx hz0 hz1
 have hmem : ∀ x ∈ xs ++ ys, x.cells.length = sz := by
  intro x hxm
  rw [List.mem_append] at hxm
  rcases hxm with hxm | hxm
  ·cases hs' with | list _ _ _ h => exact h x hxm
  ·cases hx' with | list _ _ _ h => exact h x hxm
 cases sv <;> try (cases hs'; done)
 rename_i a len cap
 cases xv <;> try (cases hx'; done)
 rename_i a2 len2 cap2
 obtain ⟨olds, hold, holdr, hold1, holdn⟩ := firstCells_list (P := P) hs' len rfl
 obtain ⟨news, hnew, hnewr, hnew1, hnewn⟩ := firstCells_list (P := P) hx' len2 rfl
 have hlen : len = xs.length := by cases hs' with | list _ h => exact h
 have hlen2 : len2 = ys.length := by cases hx' with | list _ h => exact h
 have hcap : len ≤ cap := by cases hs' with | list _ _ h => exact h
 -- the store after
 have hS1 : ∃ S1, (∀ o obj, S1 o = some obj → S o = some obj) ∧ S' = putS S1 nid (.spare ((xs.length + ys.length) * sz)) ∧ S1 nid = none := by
  cases t with
  | none => exact hS.elim
  | full => exact ⟨S, fun _ _ h => h, hS, hSn⟩
  | own o => exact ⟨delS S o, delS_sub S o, hS.2, by unfold delS; split <;> first | rfl | exact hSn⟩
 obtain ⟨S1, hsub, hS', hS1n⟩ := hS1
 by_cases hroom : len + len2 ≤ cap
 ·by_cases htight : cap = len
  ·-- nothing to append, no room: the world is as it was
   have h2 : len2 = 0 := by omega
   subst h2
   have hys : ys = [] := List.length_eq_zero_iff.1 hlen2.symm
   subst hys
   have hd := drop_step S S1 hsub ι w
   have hwf1 := hwf.drop hsub
   have hv := virtual_step hn S1 w (.spare ((xs.length + ([] : List AV).length) * sz))
   have hst : Step ι S w ι S' w := by rw [hS']; exact hd.trans hv
   refine ⟨.slice a len cap, w, ι, ?_, hst, by rw [hS']; exact hwf1.virtual hn _, ?_, fun q b h => .inr h⟩
   ·have e0 : news = #[] := by
     apply Array.eq_empty_of_size_eq_zero
     rw [hnewn]; simp
    subst e0
    have hlast : (match a with | some a => storeCells (a.add (len * sz)) [] | none => Pure.pure ()).run P w = .ok () w := by cases a <;> rfl
    subst hsz
    cases a <;> simp [Builtin.append_, run_underlying hu, run_underlying hu2, sizeOf, typeInfo, hi, Builtin.lenOf, hcap, hnew, storeCells]
   ·rw [List.append_nil]
    have := hs'.step hst
    cases this with
    | list cs h1 h2 h3 h4 h5 h6 h7 => exact .list cs h1 h2 h3 (.inl htight) h5 h6 h7
  ·-- room: it is the owner's
   cases t with
   | none => exact hS.elim
   | full =>
    have : cap = len := by cases hs' with | list _ _ _ _ h => exact h
    exact (htight this).elim
   | own o =>
    obtain ⟨hSo, hS2⟩ := hS
    have hown : ∃ b, ι o = some b ∧ a = some ⟨b, 0, none⟩ ∧ BlockOf w b (cap * sz) := by
     cases hs' with | list _ _ _ _ h => exact h.resolve_left htight
    obtain ⟨b, hob, rfl, vs, e', hh, hvs⟩ := hown
    have hblt : b < w.heap.size := hwf.blt o b hob
    have hbig : (len + len2) * sz ≤ cap * sz := Nat.mul_le_mul_right _ hroom
    rw [Nat.add_mul] at hbig
    have hstore := run_storeCells_at P b (len * sz) e' news.toList 0 vs w hh (by simp; omega) (fun u hum => by
     obtain ⟨j, hj⟩ := List.mem_iff_getElem?.1 hum
     exact hnew1 j u (by simpa using hj))
    simp only [Nat.add_zero, Array.length_toList, hnewn] at hstore
    let arr : Array Value := (vs.toList.take (len * sz) ++ news.toList ++ vs.toList.drop (len * sz + len2 * sz)).toArray
    have harr : arr.size = vs.size := by simp [arr]; omega
    have hget : ∀ j : Nat, arr[j]? = if j < len * sz then vs[j]? else if j < len * sz + len2 * sz then news[j - len * sz]? else vs[j]? := by
     intro j
     have := seg_get vs.toList news.toList (len * sz) (by simp; omega) j
     simp only [Array.length_toList, hnewn, Array.getElem?_toList] at this
     simpa [arr] using this
    have hfoot : ∀ b' off, Foot (putι ι nid b) S' b' off → (b' = b ∧ (xs.length + ys.length) * sz ≤ off) ∨ (b' ≠ b ∧ Foot ι S b' off) := by
     rintro b' off ⟨q, ob, h1, h2, h3⟩
     rw [hS2] at h1
     unfold putS at h1
     unfold putι at h2
     by_cases hq : q = nid
     ·simp only [hq, if_true] at h1 h2
      simp at h1 h2
      subst h1 h2
      exact .inl ⟨rfl, h3⟩
     ·simp only [hq, if_false] at h1 h2
      have h1' := delS_sub S o q ob h1
      have hqo : q ≠ o := by
       intro e
       simp [delS, e] at h1
      refine .inr ⟨fun e => hqo (hwf.inj q o ob _ b h1' hSo (e ▸ h2) hob), q, ob, h1', h2, h3⟩
    have hst : Step ι S w (putι ι nid b) S' (w.setRow b arr) := by
     refine write_step hSo hob hh harr (fun j hj => ?_) (putι_ext hn) (fun b' off hb' hf => ?_) (fun b' hb' hf => ?_)
     ·have hj' : j < len * sz := by
       rw [hlen]
       simpa [AObj.mut] using hj
      rw [hget, if_pos hj']
     ·rcases hfoot b' off hf with ⟨rfl, h⟩ | ⟨_, h⟩
      ·refine ⟨o, _, hSo, hob, ?_⟩
       simp only [AObj.mut]
       rw [Nat.add_mul] at h
       omega
      ·exact h
     ·obtain ⟨q, ob, h1, h2⟩ := hf
      rw [hS2] at h1
      unfold putS at h1
      unfold putι at h2
      by_cases hq : q = nid
      ·simp only [hq, if_true] at h2
       simp at h2
       subst h2
       exact ⟨o, _, hSo, hob⟩
      ·simp only [hq, if_false] at h1 h2
       exact ⟨q, ob, delS_sub S o q ob h1, h2⟩
    have hheap := setRow_heap w b vs arr e' (0, 0) hh
    refine ⟨.slice (some ⟨b, 0, none⟩) (len + len2) cap, w.setRow b arr, putι ι nid b, ?_, hst, ?_, ?_, ?_⟩
    ·have hz0 : ({ block := b, off := 0, spot := none } : Addr).add (len * sz) = ⟨b, len * sz, none⟩ := by rw [addr_add _ rfl]; simp
     subst hsz
     simp [Builtin.append_, run_underlying hu, run_underlying hu2, sizeOf, typeInfo, hi, Builtin.lenOf, hroom, hnew, hz0, hstore, arr]
    ·refine hwf.of_step hst ?_ ?_ ?_
     ·intro q c hq
      unfold putι at hq
      split at hq
      ·simp at hq; subst hq; simpa using hblt
      ·have := hwf.blt q c hq; simpa using this
     ·intro q q' ob ob' c h1 h2 h3 h4
      rw [hS2] at h1 h2
      unfold putS at h1 h2
      unfold putι at h3 h4
      have key : ∀ q ob, q ≠ nid → delS S o q = some ob → ι q = some b → False := by
       intro q ob _ k1 k2
       have hqo : q ≠ o := by intro e; simp [delS, e] at k1
       exact hqo (hwf.inj q o ob _ b (delS_sub S o q ob k1) hSo k2 hob)
      by_cases eq : q = nid <;> by_cases eq' : q' = nid <;> simp only [eq, eq', if_true, if_false] at h1 h2 h3 h4 ⊢
      ·simp at h3; subst h3; exact (key q' ob' eq' h2 h4).elim
      ·simp at h4; subst h4; exact (key q ob eq h1 h3).elim
      ·exact hwf.inj q q' ob ob' c (delS_sub S o _ _ h1) (delS_sub S o _ _ h2) h3 h4
     ·intro q ob c h1 h2
      rw [hS2] at h1
      unfold putS at h1
      unfold putι at h2
      by_cases eq : q = nid
      ·simp only [eq, if_true] at h1 h2
       simp at h1 h2
       subst h1 h2
       refine .inr ⟨arr, e', hheap, ?_⟩
       rw [harr, ← hlen, ← hlen2, Nat.add_mul]
       omega
      ·simp only [eq, if_false] at h1 h2
       have h1' := delS_sub S o q ob h1
       have hqo : q ≠ o := by intro e; simp [delS, e] at h1
       have hne : c ≠ b := fun e => hqo (hwf.inj q o ob _ b h1' hSo (e ▸ h2) hob)
       exact .inl ⟨h1', h2, setRow_other w b c arr hne⟩
    ·refine Rep.list_of_block (vs := arr) (e := e') (by simp [hlen, hlen2]) hroom hmem (.inr ⟨b, by simp [putι], rfl, arr, e', hheap, by rw [harr]; exact hvs⟩) hheap (fun j hj hf => ?_) (fun j v x hv hx => ?_) (fun j v hj hv => ?_) (by rw [harr, Nat.add_mul]; omega)
     ·rcases hfoot b j hf with ⟨_, h⟩ | ⟨h, _⟩
      ·rw [hlen, hlen2] at hj; omega
      ·exact h rfl
     ·rw [hget] at hv
      rw [flat_append] at hx
      have hfl : (flat xs).length = len * sz := by rw [← holdr.1, holdn]
      by_cases hj : j < len * sz
      ·rw [if_pos hj] at hv
       rw [List.getElem?_append_left (by omega)] at hx
       refine Rep.step hst ?_
       obtain ⟨_, _, _, cs, e0, h1, h2, h3, h4, h5, h6, h7⟩ := hs'.list_inv
       cases e0
       obtain ⟨ad, k1, k2, k3, _⟩ := h6 j hj
       cases k1
       simp only [World.cell?, hh, Nat.zero_add] at k3
       simp at k3
       rw [hv] at k3
       cases k3
       exact h7 j x hx
      ·rw [if_neg hj] at hv
       rw [List.getElem?_append_right (by omega), hfl] at hx
       have hj2 : j < len * sz + len2 * sz := by
        have h3 := (List.getElem?_eq_some_iff.1 hx).1
        rw [← hnewr.1, hnewn] at h3
        omega
       rw [if_pos hj2] at hv
       exact (hnewr.2 _ v x hv hx).step hst
     ·rw [hget] at hv
      rw [Nat.add_mul] at hj
      by_cases hj1 : j < len * sz
      ·rw [if_pos hj1] at hv
       obtain ⟨_, _, _, cs, e0, h1, h2, h3, h4, h5, h6, h7⟩ := hs'.list_inv
       cases e0
       obtain ⟨ad, k1, k2, k3, _, k5⟩ := h6 j hj1
       cases k1
       simp only [World.cell?, hh, Nat.zero_add] at k3
       simp at k3
       rw [hv] at k3
       cases k3
       exact k5
      ·rw [if_neg hj1, if_pos hj] at hv
       exact hnew1 _ v hv
    ·intro q c hq
     unfold putι at hq
     split at hq
     ·rename_i e; exact .inl e
     ·exact .inr hq
 ·-- it grows
  have keep : ∀ {a : Option Addr} {n c : Nat} {t : Tok} {l : List AV} {vs : Array Value}, Rep ι (Foot ι S) w (.slice a n c) (.list sz t l) → (Builtin.firstCells sz n (.slice a n c)).run P w = .ok vs w →
    ∀ w', w'.heap = w.heap → (Builtin.firstCells sz n (.slice a n c)).run P w' = .ok vs w' := by
   intro a n c t l vs hrep hrun w' hw'
   have hrep' : Rep ι (Foot ι S) w' (.slice a n c) (.list sz t l) := hrep.keep (fun _ _ h => h) (fun b off _ _ => by simp [World.cell?, hw']) (fun _ _ _ h => h) (fun b k h => by simpa [BlockOf, hw'] using h) (fun b ces c h _ => by simpa [hw'] using h)
   have e : ∀ vs', (Builtin.firstCells sz n (.slice a n c)).run P w' = .ok vs' w' → vs' = vs := by
    intro vs' h'
    cases a with
    | none => simp [Builtin.firstCells] at hrun h'; rw [hrun, h'] <;> rfl
    | some ad =>
     simp only [Builtin.firstCells] at hrun h'
     cases hrep with
     | list cs h1 h2 h3 h4 h5 h6 h7 =>
      have r1 := run_loadCells (P := P) w ad (n * sz) cs (fun j hj => by obtain ⟨ad', k1, k2, k3, _⟩ := h6 j hj; cases k1; rw [addr_add ad k2]; exact k3)
      have r2 := run_loadCells (P := P) w' ad (n * sz) cs (fun j hj => by obtain ⟨ad', k1, k2, k3, _⟩ := h6 j hj; cases k1; rw [addr_add ad k2]; simpa [World.cell?, hw'] using k3)
      rw [r1] at hrun
      rw [r2] at h'
      cases hrun
      cases h'
      rfl
   obtain ⟨vs', h1, _⟩ := firstCells_list (P := P) hrep' n rfl
   rw [h1, e vs' h1]
  have hrun := run_append_lists (P := P) (w := w) (rt := rt) hu hu2 hi hz (a := a) (len := len) (cap := cap) (a2 := a2) (len2 := len2) (cap2 := cap2) (olds := olds) (news := news)
   (by rw [hsz]; exact keep hx' hnew) (by rw [hsz]; exact keep hs' hold) (by omega) (by omega) (by rw [hlen, hlen2]; exact hb)
  have hge := grownCap_ge w (len + len2) cap e
  generalize hc : grownCap w (len + len2) cap e = nc at hrun hge
  let cells : Array Value := olds ++ news ++ Builtin.zeroCells z.cells (nc - (len + len2))
  have hcs : cells.size = nc * sz := by
   simp only [cells, Array.size_append, size_zeroCells, holdn, hnewn, hzc]
   rw [← Nat.add_mul, ← Nat.add_mul]
   congr 1
   omega
  have hd : Step ι S w ι S1 w.drew := (drop_step S S1 hsub ι w).trans (drew_step ι S1 w)
  have hwf1 : WF ι S1 w.drew := (hwf.drop hsub).drew
  have hnew_step := alloc_obj_step hwf1 hn (.cells cells e) (.spare ((xs.length + ys.length) * sz))
  have hst := hd.trans hnew_step
  rw [← hS'] at hst
  have hsize : w.drew.heap.size = w.heap.size := rfl
  have hblk : (w.drew.alloc (.cells cells e)).heap[w.heap.size]? = some (.cells cells e (0, 0)) := heap_alloc_eq w.drew _
  have hfit : (len + len2) * sz ≤ nc * sz := Nat.mul_le_mul_right _ hge
  have hwf2 : WF (putι ι nid w.heap.size) S' (w.drew.alloc (.cells cells e)) := by
   rw [hS']
   refine alloc_obj_wf hwf1 hn _ _ ?_
   exact ⟨cells, e, hblk, by rw [hcs, ← hlen, ← hlen2]; exact hfit⟩
  refine ⟨_, _, putι ι nid w.heap.size, hrun, hst, hwf2, ?_, ?_⟩
  ·refine Rep.list_of_block (vs := cells) (e := e) (by simp [hlen, hlen2]) hge hmem (.inr ⟨_, by simp [putι], rfl, cells, e, hblk, by rw [hcs]; exact Nat.le_refl _⟩) hblk (fun j hj hf => ?_) (fun j v x hv hx => ?_) (fun j v hj hv => ?_) (by rw [hcs]; exact hfit)
   ·rw [hS'] at hf
    obtain ⟨q, ob, h1, h2, h3⟩ := hf
    unfold putS at h1
    unfold putι at h2
    by_cases hq : q = nid
    ·simp only [hq, if_true] at h1
     simp at h1
     subst h1
     simp only [AObj.mut] at h3
     rw [hlen, hlen2] at hj
     omega
    ·simp only [hq, if_false] at h2
     have := hwf.blt q _ h2
     omega
   ·rw [flat_append] at hx
    have hfl : (flat xs).length = len * sz := by rw [← holdr.1, holdn]
    have hfl2 : (flat ys).length = len2 * sz := by rw [← hnewr.1, hnewn]
    have hj : j < len * sz + len2 * sz := by
     have := (List.getElem?_eq_some_iff.1 hx).1
     simp only [List.length_append, hfl, hfl2] at this
     exact this
    simp only [cells, Array.append_assoc] at hv
    by_cases h1 : j < len * sz
    ·rw [Array.getElem?_append_left (by omega)] at hv
     rw [List.getElem?_append_left (by omega)] at hx
     exact (holdr.2 j v x hv hx).step hst
    ·rw [Array.getElem?_append_right (by omega), Array.getElem?_append_left (by omega), holdn] at hv
     rw [List.getElem?_append_right (by omega), hfl] at hx
     exact (hnewr.2 _ v x hv hx).step hst
   ·rw [Nat.add_mul] at hj
    simp only [cells, Array.append_assoc] at hv
    by_cases h1 : j < len * sz
    ·rw [Array.getElem?_append_left (by omega)] at hv
     exact hold1 j v hv
    ·rw [Array.getElem?_append_right (by omega), Array.getElem?_append_left (by omega), holdn] at hv
     exact hnew1 _ v hv
  ·intro q c hq
   unfold putι at hq
   split at hq
   ·rename_i e; exact .inl e
   ·exact .inr hq
end Go.AL
namespace Go.AL
variable {ι ι' : Nat → Option Nat} {S S' : Store} {F : Nat → Nat → Prop} {w w' : World} {P : Program}
theorem firstCells_heap [Glob] {a : Option Addr} {n c sz : Nat} {t : Tok} {l : List AV} {vs : Array Value} (hrep : Rep ι F w (.slice a n c) (.list sz t l))
  (hrun : (Builtin.firstCells sz n (.slice a n c)).run P w = .ok vs w) : ∀ w', w'.heap = w.heap → (Builtin.firstCells sz n (.slice a n c)).run P w' = .ok vs w' := by
 intro w' hw'
 have hrep' : Rep ι F w' (.slice a n c) (.list sz t l) := hrep.keep (fun _ _ h => h) (fun b off _ _ => by simp [World.cell?, hw']) (fun _ _ _ h => h) (fun b k h => by simpa [BlockOf, hw'] using h) (fun b ces c h _ => by simpa [hw'] using h)
 have e : ∀ vs', (Builtin.firstCells sz n (.slice a n c)).run P w' = .ok vs' w' → vs' = vs := by
  intro vs' h'
  cases a with
  | none => simp [Builtin.firstCells] at hrun h'; rw [hrun, h'] <;> rfl
  | some ad =>
   simp only [Builtin.firstCells] at hrun h'
   cases hrep with
   | list cs h1 h2 h3 h4 h5 h6 h7 =>
    have r1 := run_loadCells (P := P) w ad (n * sz) cs (fun j hj => by obtain ⟨ad', k1, k2, k3, _⟩ := h6 j hj; cases k1; rw [addr_add ad k2]; exact k3)
    have r2 := run_loadCells (P := P) w' ad (n * sz) cs (fun j hj => by obtain ⟨ad', k1, k2, k3, _⟩ := h6 j hj; cases k1; rw [addr_add ad k2]; simpa [World.cell?, hw'] using k3)
    rw [r1] at hrun
    rw [r2] at h'
    cases hrun
    cases h'
    rfl
 obtain ⟨vs', h1, _⟩ := firstCells_list (P := P) hrep' n rfl
 rw [h1, e vs' h1]
theorem mref_facts [Glob] (hwf : WF ι S w) {sv : Value} {sz o len : Nat} {cs : List AV} (hs : Rep ι F w sv (.mref sz o 0 len)) (hSo : S o = some (.box cs)) (hcs : cs.length = len * sz) :
  ∃ (a : Option Addr) (cap : Nat) (olds : Array Value), sv = .slice a len cap ∧ len ≤ cap ∧ (∀ w', w'.heap = w.heap → (Builtin.firstCells sz len (.slice a len cap)).run P w' = .ok olds w') ∧
   RepL ι (Foot ι S) w olds cs ∧ (∀ (j : Nat) v, olds[j]? = some v → v.oneCell' = true) ∧ olds.size = len * sz ∧
   (cap = 0 ∨ ∃ b vs e, a = some ⟨b, 0, none⟩ ∧ ι o = some b ∧ w.heap[b]? = some (.cells vs e (0, 0)) ∧ cap * sz ≤ vs.size ∧ ∀ j, j < len * sz → vs[j]? = olds[j]?) := by
 cases hs with
 | @mref _ _ b _ _ cap h hcap hb =>
  obtain ⟨vs, e, h1, h2, h3, h4⟩ := hwf.rep o _ b hSo h
  obtain ⟨vs', e', k1, k2⟩ := hb
  rw [h1] at k1
  cases k1
  simp only [Nat.zero_add, Nat.zero_mul] at k2 ⊢
  have hj : ∀ j, j < len * sz → j < vs.size := fun j hj => by omega
  refine ⟨_, cap, ((List.range (len * sz)).map fun j => vs.getD j undef).toArray, rfl, hcap, fun w' hw' => ?_, ⟨by simp [hcs], fun j v x hv hx => ?_⟩, fun j v hv => ?_, by simp, .inr ⟨b, vs, _, rfl, h, h1, k2, fun j hjl => ?_⟩⟩
  ·exact run_loadCells (P := P) w' ⟨b, 0, none⟩ (len * sz) (fun j => vs.getD j undef) fun j hjl => by
    rw [addr_add _ rfl]
    simp [World.cell?, hw', h1, hj j hjl]
  ·have hjl : j < len * sz := by rw [← hcs]; exact (List.getElem?_eq_some_iff.1 hx).1
   simp [List.getElem?_range, hjl] at hv
   have := hj j hjl
   refine h3 j v x ?_ hx
   rw [← hv]; simp [this]
  ·have hjl : j < len * sz := by simpa using (Array.getElem?_eq_some_iff.1 hv).1
   simp [List.getElem?_range, hjl] at hv
   have := hj j hjl
   refine h4 j v (by rw [hcs]; exact hjl) ?_
   rw [← hv]; simp [this]
  ·have := hj j hjl
   simp [List.getElem?_range, hjl, this]
 | mnil =>
  simp only [Nat.zero_mul] at hcs
  have : cs = [] := List.length_eq_zero_iff.1 hcs
  subst this
  rename_i a
  exact ⟨a, 0, #[], rfl, Nat.le_refl _, fun w' _ => by cases a <;> simp [Builtin.firstCells, loadCells, loadCellsFrom], ⟨rfl, by simp⟩, by simp, by simp, .inl rfl⟩
theorem append_msound [Glob] (hwf : WF ι S w) {nid : Nat} (hn : ι nid = none) (hSn : S nid = none) {sv xv : Value} {sz1 sz o len : Nat} {t1 : Tok} {cs ys : List AV}
  (hs : Rep ι (Foot ι S) w sv (.mref sz o 0 len)) (hx : Rep ι (Foot ι S) w xv (.list sz1 t1 ys)) (hz1 : sz1 = sz ∨ ys = [])
  {ty ty2 rt e d : TypeId} {i : TypeInfo} {z : Value} (hu : P.underlying ty = some (.slice e)) (hu2 : P.underlying ty2 = some (.slice d)) (hi : P.info? e = some i) (hz : i.zero = some z)
  (hsz : i.size = sz) (hzc : z.cells.size = sz) (hb : (len + ys.length) * i.bytes ≤ 140737488355328) (h63 : len + ys.length ≤ 9223372036854775807)
  (hSo : S o = some (.box cs)) (hcs : cs.length = len * sz) (hS : S' = putS (delS S o) nid (.box (cs ++ flat ys))) :
  ∃ v' w' ι', (Builtin.append_ #[ty, ty2] rt #[sv, xv]).run P w = .ok v' w' ∧ Step ι S w ι' S' w' ∧ WF ι' S' w' ∧ Rep ι' (Foot ι' S') w' v' (.mref sz nid 0 (len + ys.length)) ∧
   ∀ q b, ι' q = some b → q = nid ∨ ι q = some b := by
 have hx' : Rep ι (Foot ι S) w xv (.list sz .none ys) := by
  rcases hz1 with rfl | rfl
  ·cases hx with
   | list cs hlen hcap hsz0 ht hnone hc hr => exact .list cs hlen hcap hsz0 trivial hnone hc hr
  ·cases hx with
   | list cs hlen hcap hsz0 ht hnone hc hr =>
    simp only [List.length_nil] at hlen
    subst hlen
    exact .list cs rfl hcap (by simp) trivial hnone (fun j hj => by omega) (by simp)
 clear hx hz1
 obtain ⟨a, cap, olds, rfl, hcap, hold, holdr, hold1, holdn, hblk⟩ := mref_facts (P := P) hwf hs hSo hcs
 cases xv <;> try (cases hx'; done)
 rename_i a2 len2 cap2
 obtain ⟨news, hnew, hnewr, hnew1, hnewn⟩ := firstCells_list (P := P) hx' len2 rfl
 have hlen2 : len2 = ys.length := by cases hx' with | list _ h => exact h
 have hmem : ∀ x ∈ ys, x.cells.length = sz := by cases hx' with | list _ _ _ h => exact h
 have hfl2 : (flat ys).length = len2 * sz := by rw [← hnewr.1, hnewn]
 have hsub := delS_sub S o
 have hS1n : delS S o nid = none := by unfold delS; split <;> first | rfl | exact hSn
 by_cases hroom : len + len2 ≤ cap
 ·rcases hblk with rfl | ⟨b, vs, e', rfl, hob, hh, hvs, hvo⟩
  ·-- nothing, nowhere
   have h2 : len2 = 0 := by omega
   have h0 : len = 0 := by omega
   subst h2 h0
   have hys : ys = [] := List.length_eq_zero_iff.1 hlen2.symm
   subst hys
   have hd := drop_step S (delS S o) hsub ι w
   have hwf1 := hwf.drop hsub
   have hv := virtual_step hn (delS S o) w (.box (cs ++ flat []))
   have hst : Step ι S w ι S' w := by rw [hS]; exact hd.trans hv
   refine ⟨.slice a 0 0, w, ι, ?_, hst, by rw [hS]; exact hwf1.virtual hn _, .mnil, fun q b h => .inr h⟩
   have e0 : news = #[] := by
    apply Array.eq_empty_of_size_eq_zero
    rw [hnewn]; simp
   subst e0
   subst hsz
   cases a <;> simp [Builtin.append_, run_underlying hu, run_underlying hu2, sizeOf, typeInfo, hi, Builtin.lenOf, hnew, storeCells]
  ·-- room in the block
   have hblt : b < w.heap.size := hwf.blt o b hob
   have hbig : (len + len2) * sz ≤ cap * sz := Nat.mul_le_mul_right _ hroom
   rw [Nat.add_mul] at hbig
   have hstore := run_storeCells_at P b (len * sz) e' news.toList 0 vs w hh (by simp; omega) (fun u hum => by
    obtain ⟨j, hj⟩ := List.mem_iff_getElem?.1 hum
    exact hnew1 j u (by simpa using hj))
   simp only [Nat.add_zero, Array.length_toList, hnewn] at hstore
   let arr : Array Value := (vs.toList.take (len * sz) ++ news.toList ++ vs.toList.drop (len * sz + len2 * sz)).toArray
   have harr : arr.size = vs.size := by simp [arr]; omega
   have hget : ∀ j : Nat, arr[j]? = if j < len * sz then vs[j]? else if j < len * sz + len2 * sz then news[j - len * sz]? else vs[j]? := by
    intro j
    have := seg_get vs.toList news.toList (len * sz) (by simp; omega) j
    simp only [Array.length_toList, hnewn, Array.getElem?_toList] at this
    simpa [arr] using this
   have hfoot : ∀ b' off, Foot (putι ι nid b) S' b' off → b' = b ∨ (b' ≠ b ∧ Foot ι S b' off) := by
    rintro b' off ⟨q, ob, h1, h2, h3⟩
    rw [hS] at h1
    unfold putS at h1
    unfold putι at h2
    by_cases hq : q = nid
    ·simp only [hq, if_true] at h1 h2
     simp at h1 h2
     subst h2
     exact .inl rfl
    ·simp only [hq, if_false] at h1 h2
     have h1' := delS_sub S o q ob h1
     have hqo : q ≠ o := by
      intro e
      simp [delS, e] at h1
     refine .inr ⟨fun e => hqo (hwf.inj q o ob _ b h1' hSo (e ▸ h2) hob), q, ob, h1', h2, h3⟩
   have hst : Step ι S w (putι ι nid b) S' (w.setRow b arr) := by
    refine write_step hSo hob hh harr (fun j hj => (hj trivial).elim) (putι_ext hn) (fun b' off hb' hf => ?_) (fun b' hb' hf => ?_)
    ·rcases hfoot b' off hf with rfl | ⟨_, h⟩
     ·exact ⟨o, _, hSo, hob, trivial⟩
     ·exact h
    ·obtain ⟨q, ob, h1, h2⟩ := hf
     rw [hS] at h1
     unfold putS at h1
     unfold putι at h2
     by_cases hq : q = nid
     ·simp only [hq, if_true] at h2
      simp at h2
      subst h2
      exact ⟨o, _, hSo, hob⟩
     ·simp only [hq, if_false] at h1 h2
      exact ⟨q, ob, delS_sub S o q ob h1, h2⟩
   have hheap := setRow_heap w b vs arr e' (0, 0) hh
   refine ⟨.slice (some ⟨b, 0, none⟩) (len + len2) cap, w.setRow b arr, putι ι nid b, ?_, hst, ?_, ?_, ?_⟩
   ·have hz0 : ({ block := b, off := 0, spot := none } : Addr).add (len * sz) = ⟨b, len * sz, none⟩ := by rw [addr_add _ rfl]; simp
    subst hsz
    simp [Builtin.append_, run_underlying hu, run_underlying hu2, sizeOf, typeInfo, hi, Builtin.lenOf, hroom, hnew, hz0, hstore, arr]
   ·refine hwf.of_step hst ?_ ?_ ?_
    ·intro q c hq
     unfold putι at hq
     split at hq
     ·simp at hq; subst hq; simpa using hblt
     ·have := hwf.blt q c hq; simpa using this
    ·intro q q' ob ob' c h1 h2 h3 h4
     rw [hS] at h1 h2
     unfold putS at h1 h2
     unfold putι at h3 h4
     have key : ∀ q ob, q ≠ nid → delS S o q = some ob → ι q = some b → False := by
      intro q ob _ k1 k2
      have hqo : q ≠ o := by intro e; simp [delS, e] at k1
      exact hqo (hwf.inj q o ob _ b (delS_sub S o q ob k1) hSo k2 hob)
     by_cases eq : q = nid <;> by_cases eq' : q' = nid <;> simp only [eq, eq', if_true, if_false] at h1 h2 h3 h4 ⊢
     ·simp at h3; subst h3; exact (key q' ob' eq' h2 h4).elim
     ·simp at h4; subst h4; exact (key q ob eq h1 h3).elim
     ·exact hwf.inj q q' ob ob' c (delS_sub S o _ _ h1) (delS_sub S o _ _ h2) h3 h4
    ·intro q ob c h1 h2
     rw [hS] at h1
     unfold putS at h1
     unfold putι at h2
     by_cases eq : q = nid
     ·simp only [eq, if_true] at h1 h2
      simp at h1 h2
      subst h1 h2
      refine .inr ⟨arr, e', hheap, ?_, fun j v x hv hx => ?_, fun j v hj hv => ?_⟩
      ·rw [harr, List.length_append, hcs, hfl2]
       omega
      ·rw [hget] at hv
       by_cases hj : j < len * sz
       ·rw [if_pos hj, hvo j hj] at hv
        rw [List.getElem?_append_left (by omega)] at hx
        exact (holdr.2 j v x hv hx).step hst
       ·rw [if_neg hj] at hv
        rw [List.getElem?_append_right (by omega), hcs] at hx
        have hj2 : j < len * sz + len2 * sz := by
         have h3 := (List.getElem?_eq_some_iff.1 hx).1
         omega
        rw [if_pos hj2] at hv
        exact (hnewr.2 _ v x hv hx).step hst
      ·rw [hget] at hv
       rw [List.length_append, hcs, hfl2] at hj
       by_cases hj1 : j < len * sz
       ·rw [if_pos hj1, hvo j hj1] at hv
        exact hold1 j v hv
       ·rw [if_neg hj1, if_pos hj] at hv
        exact hnew1 _ v hv
     ·simp only [eq, if_false] at h1 h2
      have h1' := delS_sub S o q ob h1
      have hqo : q ≠ o := by intro e; simp [delS, e] at h1
      have hne : c ≠ b := fun e => hqo (hwf.inj q o ob _ b h1' hSo (e ▸ h2) hob)
      exact .inl ⟨h1', h2, setRow_other w b c arr hne⟩
   ·rw [← hlen2]
    have := Rep.mref (ι := putι ι nid b) (F := Foot (putι ι nid b) S') (w := w.setRow b arr) (sz := sz) (o := nid) (b := b) (off := 0) (len := len + len2) (cap := cap) (by simp [putι]) hroom
     ⟨arr, e', hheap, by rw [harr, Nat.zero_add]; exact hvs⟩
    rwa [Nat.zero_mul] at this
   ·intro q c hq
    unfold putι at hq
    split at hq
    ·rename_i e; exact .inl e
    ·exact .inr hq
 ·-- it grows
  have hrun := run_append_lists (P := P) (w := w) (rt := rt) hu hu2 hi hz (a := a) (len := len) (cap := cap) (a2 := a2) (len2 := len2) (cap2 := cap2) (olds := olds) (news := news)
   (by rw [hsz]; exact firstCells_heap hx' hnew) (by rw [hsz]; exact hold) (by omega) (by omega) (by rw [hlen2]; exact hb)
  have hge := grownCap_ge w (len + len2) cap e
  generalize hc : grownCap w (len + len2) cap e = nc at hrun hge
  let cells : Array Value := olds ++ news ++ Builtin.zeroCells z.cells (nc - (len + len2))
  have hcsz : cells.size = nc * sz := by
   simp only [cells, Array.size_append, size_zeroCells, holdn, hnewn, hzc]
   rw [← Nat.add_mul, ← Nat.add_mul]
   congr 1
   omega
  have hd : Step ι S w ι (delS S o) w.drew := (drop_step S (delS S o) hsub ι w).trans (drew_step ι (delS S o) w)
  have hwf1 : WF ι (delS S o) w.drew := (hwf.drop hsub).drew
  have hnew_step := alloc_obj_step hwf1 hn (.cells cells e) (.box (cs ++ flat ys))
  have hst := hd.trans hnew_step
  rw [← hS] at hst
  have hblk' : (w.drew.alloc (.cells cells e)).heap[w.heap.size]? = some (.cells cells e (0, 0)) := heap_alloc_eq w.drew _
  have hfit : (len + len2) * sz ≤ nc * sz := Nat.mul_le_mul_right _ hge
  have hfit' := hfit
  rw [Nat.add_mul] at hfit'
  have hwf2 : WF (putι ι nid w.heap.size) S' (w.drew.alloc (.cells cells e)) := by
   rw [hS]
   refine alloc_obj_wf hwf1 hn _ _ ?_
   rw [← hS]
   refine ⟨cells, e, hblk', by rw [hcsz, List.length_append, hcs, hfl2]; exact hfit', fun j v x hv hx => ?_, fun j v hj hv => ?_⟩
   ·simp only [cells, Array.append_assoc] at hv
    by_cases h1 : j < len * sz
    ·rw [Array.getElem?_append_left (by omega)] at hv
     rw [List.getElem?_append_left (by omega)] at hx
     exact (holdr.2 j v x hv hx).step hst
    ·rw [List.getElem?_append_right (by omega), hcs] at hx
     have := (List.getElem?_eq_some_iff.1 hx).1
     rw [Array.getElem?_append_right (by omega), Array.getElem?_append_left (by omega), holdn] at hv
     exact (hnewr.2 _ v x hv hx).step hst
   ·rw [List.length_append, hcs, hfl2] at hj
    simp only [cells, Array.append_assoc] at hv
    by_cases h1 : j < len * sz
    ·rw [Array.getElem?_append_left (by omega)] at hv
     exact hold1 j v hv
    ·rw [Array.getElem?_append_right (by omega), Array.getElem?_append_left (by omega), holdn] at hv
     exact hnew1 _ v hv
  refine ⟨_, _, putι ι nid w.heap.size, hrun, hst, hwf2, ?_, ?_⟩
  ·rw [← hlen2]
   have := Rep.mref (ι := putι ι nid w.heap.size) (F := Foot (putι ι nid w.heap.size) S') (w := w.drew.alloc (.cells cells e)) (sz := sz) (o := nid) (b := w.heap.size) (off := 0) (len := len + len2) (cap := nc) (by simp [putι]) hge
    ⟨cells, e, hblk', by rw [hcsz, Nat.zero_add]; exact Nat.le_refl _⟩
   rwa [Nat.zero_mul] at this
  ·intro q c hq
   unfold putι at hq
   split at hq
   ·rename_i e; exact .inl e
   ·exact .inr hq
end Go.AL
namespace Go.AL
def opd [Glob] (gs : List Nat) : Operand → Option AOpd
 | .tmp t => some (if gs.contains t then .g t else .l t)
 | .const v => (constAV v).map .c
 | .func f => some (.c (.fn f [] []))
 | .global g => (Glob.gt g).map .c
def opds [Glob] (gs : List Nat) (xs : Array Operand) : Option (List AOpd) := xs.toList.mapM (opd gs)
def optOpd [Glob] (gs : List Nat) : Option Operand → Option (Option AOpd)
 | none => some none
 | some x => (opd gs x).map some
def szOf (P : Program) (t : TypeId) : Option Nat := (P.info? t).map (·.size)
def aggOf (P : Program) (t : TypeId) : Option Bool := (P.underlying t).map fun d => match d with | .struct _ | .array _ _ => true | _ => false
def boolEq (P : Program) (op : BinOp) (t : TypeId) : Option Bool :=
 match P.underlying t, op with
 | some .bool, .eql => some false
 | some .bool, .neq => some true
 | _, _ => none
def boolT (P : Program) (t : TypeId) : Bool := match P.underlying t with | some .bool => true | _ => false
def arrEq (P : Program) (op : BinOp) (t : TypeId) : Option (Bool × Nat) :=
 match P.underlying t with
 | some (.array n e) =>
  if boolT P e = true ∧ szOf P e = some 1 ∧ P.eqGuardType P.depth t = false then
   (match op with | .eql => some (false, n) | .neq => some (true, n) | _ => none)
  else none
 | _ => none
def partsOf [Glob] (P : Program) (gs : List Nat) (places : List (Nat × Nat)) : List (Nat × Operand) → Option (List (Nat × Nat × AOpd))
 | [] => some []
 | (i, x) :: r =>
  match places[i]?, opd gs x, partsOf P gs places r with
  | some (off, n), some y, some r' => some ((off, n, y) :: r')
  | _, _, _ => none
def elemsOf [Glob] (gs : List Nat) : List (Nat × Operand) → Option (List (Nat × AOpd))
 | [] => some []
 | (i, x) :: r =>
  match opd gs x, elemsOf gs r with
  | some y, some r' => some ((i, y) :: r')
  | _, _ => none
def aggZ (P : Program) (t : TypeId) : Option Bool := (P.info? t).bind fun i => i.zero.map fun z => match z with | .agg _ => true | _ => false
def keyStr (P : Program) (t : TypeId) : Option Bool :=
 match P.underlying t with
 | some (.int .i64) => some false
 | some .string => some true
 | _ => none
def markOf (gs : List Nat) : Option Tmp → Option Nat
 | none => none
 | some t => (gs.find? fun x => x / 1000000 == t + 1).map (· % 1000000)
def compileOp [Glob] (P : Program) (gs : List Nat) (o : Oper) : Option AOp :=
 match o.op with
 | .move x =>
  match markOf gs o.dst, x with
  | some sz, .const (.slice none 0 0) => some (.mkslice sz 0 [] true (.c .any) (.c .any))
  | _, _ => (opd gs x).map .mv
 | .assign x =>
  match markOf gs o.dst, x with
  | some sz, .const (.slice none 0 0) => some (.mkslice sz 0 [] true (.c .any) (.c .any))
  | _, _ => (opd gs x).map .mv
 | .pick c a b => do some (.pick (← opd gs c) (← opd gs a) (← opd gs b))
 | .alloc e => (zeroAV P e).map .alloc
 | .box e x => (opd gs x).map .box
 | .build t parts =>
  match P.underlying t, zeroAV P t with
  | some (.struct fields), some zs =>
   match fields.toList.mapM (fun f => (P.info? f.type).map fun i => (f.offset, i.size)) with
   | some places => (partsOf P gs places parts.toList).map (.build zs)
   | none => none
  | _, _ => none
 | .buildSlice t len parts =>
  match P.underlying t with
  | some (.slice e) =>
   match szOf P e, aggOf P e, zeroAV P e, elemsOf gs parts.toList with
   | some sz, some agg, some zs, some ps => if zs.length = sz ∧ 0 < sz ∧ len * sz ≤ 2 ^ 24 ∧ (agg = true ∨ sz = 1) then some (.buildSlice sz agg zs len ps) else none
   | _, _, _, _ => none
  | _ => none
 | .load t a => do some (.load (← szOf P t) (← aggOf P t) (← opd gs a))
 | .store t a x => do some (.store (← szOf P t) (← opd gs a) (← opd gs x))
 | .nilCheck x => (opd gs x).map .nilCheck
 | .binOp op t x y _ =>
  match boolEq P op t with
  | some neg => do some (.eqb neg (← opd gs x) (← opd gs y))
  | none =>
   match arrEq P op t with
   | some (neg, n) => do some (.eqa neg n (← opd gs x) (← opd gs y))
   | none => do some (.bin op (← opd gs x) (← opd gs y))
 | .unOp op _ x => do some (.un op (← opd gs x))
 | .convert src dst x =>
  match P.underlying src, P.underlying dst with
  | some (.int _), some (.int k) => (opd gs x).map (.conv k)
  | _, _ => none
 | .makeFunc (.func f) first captured => do some (.mkfn f (← opds gs first) (← opds gs captured))
 | .slice t x lo hi mx =>
  match P.underlying t with
  | some (.slice e) => do some (.slice (← szOf P e) (← opd gs x) (← optOpd gs lo) (← optOpd gs hi) (← optOpd gs mx))
  | some .string => if mx.isNone then do some (.sliceStr (← opd gs x) (← optOpd gs lo) (← optOpd gs hi)) else none
  | some (.array n e) =>
   match lo, hi, mx with
   | none, some h, none => if szOf P e = some 1 then do some (.sliceArr n (← opd gs x) (← opd gs h)) else none
   | _, _, _ => none
  | _ => none
 | .fieldAddr s x f =>
  match P.underlying s with
  | some (.struct fields) =>
   match fields[f]? with
   | some fd => (match szOf P fd.type with | some n => if n ≠ 0 then (opd gs x).map (.fieldAddr fd.offset) else none | none => none)
   | none => none
  | _ => none
 | .field s x f =>
  match P.underlying s with
  | some (.struct fields) =>
   match fields[f]? with
   | some fd => do some (.field fd.offset (← szOf P fd.type) (← aggOf P fd.type) (← opd gs x))
   | none => none
  | _ => none
 | .indexAddr t x i =>
  match P.underlying t with
  | some (.slice e) => (match szOf P e with | some sz => if 0 < sz then (do some (.indexAddr sz (← opd gs x) (← opd gs i))) else none | none => none)
  | some (.array n e) => do some (.arrAddr (← szOf P e) n (← opd gs x) (← opd gs i))
  | _ => none
 | .index t x i =>
  match P.underlying t with
  | some .string => do some (.indexStr (← opd gs x) (← opd gs i))
  | _ => none
 | .extract x i => (opd gs x).map (.extract · i)
 | .makeMap _ none => some .mkmap
 | .makeSlice t l c =>
  match P.underlying t with
  | some (.slice e) =>
   match P.info? e, zeroAV P e with
   | some i, some zs => if zs.length = i.size ∧ 0 < i.size then (do some (.mkslice i.size i.bytes zs false (← opd gs l) (← opd gs c))) else none
   | _, _ => none
  | _ => none
 | .lookup t m k ok =>
  match P.underlying t with
  | some (.map kt et) => do some (.lookup (← keyStr P kt) ok (← zeroAV P et) (← aggZ P et) (← opd gs m) (← opd gs k))
  | _ => none
 | .mapUpdate t m k x =>
  match P.underlying t with
  | some (.map kt _) => do some (.mapUpdate (← keyStr P kt) (← opd gs m) (← opd gs k) (← opd gs x))
  | _ => none
 | .insert t m k x =>
  match P.underlying t with
  | some (.map kt _) => do some (.mapUpdate (← keyStr P kt) (← opd gs m) (← opd gs k) (← opd gs x))
  | _ => none
 | .range t x =>
  match P.underlying t with
  | some (.map _ _) => (opd gs x).map .range
  | _ => none
 | .call c =>
  match c.callee with
  | .builtin .delete =>
   match c.args.toList, (c.argTypes[0]?).bind P.underlying with
   | [m, k], some (.map kt _) => do some (.delete (← keyStr P kt) (← opd gs m) (← opd gs k))
   | _, _ => none
  | .builtin .len =>
   match c.args.toList, (c.argTypes[0]?).bind P.underlying with
   | [x], some (.slice _) => (opd gs x).map .len
   | [x], some .string => (opd gs x).map .lenStr
   | [x], some (.map _ _) => (opd gs x).map .lenMap
   | _, _ => none
  | .builtin .append =>
   match c.args.toList, c.argTypes.toList with
   | [s, x], [t, t2] =>
    match P.underlying t, P.underlying t2 with
    | some (.slice e), some (.slice _) =>
     match P.info? e with
     | some i => (match i.zero with | some z => if z.cells.size = i.size then (do some (.append i.size i.bytes (← opd gs s) (← opd gs x))) else none | none => none)
     | none => none
    | _, _ => none
   | _, _ => none
  | .builtin .min =>
   match c.args.toList with
   | [x, y] => do some (.min (← opd gs x) (← opd gs y))
   | _ => none
  | .builtin .max =>
   match c.args.toList with
   | [x, y] => do some (.max (← opd gs x) (← opd gs y))
   | _ => none
  | _ => none
 | _ => none
def valueCall : Op → Option (Operand × Array Operand)
 | .call c => (match c.callee with | .value f => some (f, c.args) | _ => none)
 | _ => none
def AOp.isCall : AOp → Bool
 | .call .. | .next _ | .entry _ | .isnil .. => true
 | _ => false
def iterOp : Op → Option (Bool × Operand)
 | .next x false => some (true, x)
 | .entry x => some (false, x)
 | _ => none
def nilOp (P : Program) : Op → Option (Bool × Operand)
 | .binOp op t x (.const (.slice none 0 0)) _ =>
  match P.underlying t with
  | some (.slice _) => (match op with | .eql => some (false, x) | .neq => some (true, x) | _ => none)
  | _ => none
 | _ => none
def compileAny [Glob] (P : Program) (gs : List Nat) (pure : Bool) (o : Oper) : Option AOp :=
 match valueCall o.op with
 | some (f, args) => do some (.call pure (← opd gs f) (← opds gs args))
 | none =>
  match nilOp P o.op with
  | some (neg, x) => if pure then none else (opd gs x).map (.isnil neg)
  | none =>
  match iterOp o.op with
  | some (n, x) => if pure then none else (opd gs x).map (if n then .next else .entry)
  | none => (compileOp P gs o).filter (!·.isCall)
variable {ι ι' : Nat → Option Nat} {S S' : Store} {F : Nat → Nat → Prop} {w w' : World} {P : Program}
theorem run_isAgg {t : TypeId} {b : Bool} (h : aggOf P t = some b) : (isAgg t).run P w = .ok b w := by
 unfold aggOf at h
 cases hu : P.underlying t with
 | none => simp [hu] at h
 | some d =>
  simp only [hu, Option.map_some, Option.some.injEq] at h
  unfold isAgg
  rw [Sem.run_bind, run_underlying hu w]
  subst h
  cases d <;> rfl
theorem run_sizeOf {t : TypeId} {n : Nat} (h : szOf P t = some n) : (sizeOf t).run P w = .ok n w := by
 unfold szOf at h
 cases hi : P.info? t with
 | none => simp [hi] at h
 | some i =>
  simp only [hi, Option.map_some, Option.some.injEq] at h
  simp [sizeOf, typeInfo, hi, h]
theorem slice_list [Glob] {a : Option Addr} {len cap sz : Nat} {t : Tok} {xs : List AV} (h : Rep ι F w (.slice a len cap) (.list sz t xs)) (l hh m : Nat) (h1 : l ≤ hh) (h2 : hh ≤ len) (h3 : hh ≤ m) (h4 : m ≤ cap)
  (t' : Tok) (ht : t' = .none ∨ (t' = .full ∧ m = hh)) : Rep ι F w (.slice (if m = l then a else a.map (·.add (l * sz))) (hh - l) (m - l)) (.list sz t' ((xs.take hh).drop l)) := by
 obtain ⟨_, _, _, cs, e0, k1, k2, k3, k4, k5, k6, k7⟩ := h.list_inv
 cases e0
 have hfl : flat ((xs.take hh).drop l) = ((flat xs).take (hh * sz)).drop (l * sz) := by
  apply List.ext_getElem?
  intro j
  have hmem : ∀ x ∈ (xs.take hh).drop l, x.cells.length = sz := fun x hx => k3 x (List.mem_of_mem_take (List.mem_of_mem_drop hx))
  by_cases hz : sz = 0
  ·subst hz
   have e1 : flat ((xs.take hh).drop l) = [] := List.length_eq_zero_iff.1 (by rw [flat_length hmem]; simp)
   simp [e1]
  ·have hpos : 0 < sz := Nat.pos_of_ne_zero hz
   have e : j = j / sz * sz + j % sz := by rw [Nat.mul_comm]; exact (Nat.div_add_mod j sz).symm
   have hlt := Nat.mod_lt j hpos
   have g1 := flat_get hmem (j / sz) (j % sz) hlt
   rw [← e] at g1
   rw [g1, List.getElem?_drop, List.getElem?_drop, List.getElem?_take, List.getElem?_take]
   have g2 := flat_get k3 (l + j / sz) (j % sz) hlt
   have e2 : (l + j / sz) * sz + j % sz = l * sz + j := by rw [Nat.add_mul]; omega
   rw [e2] at g2
   by_cases hc : l + j / sz < hh
   ·have hc2 : l * sz + j < hh * sz := by
     have : (l + j / sz + 1) * sz ≤ hh * sz := Nat.mul_le_mul_right _ hc
     rw [Nat.succ_mul] at this
     omega
    rw [if_pos hc, if_pos hc2, g2]
   ·have hc2 : ¬ (l * sz + j < hh * sz) := by
     intro h'
     have : hh * sz ≤ (l + j / sz) * sz := Nat.mul_le_mul_right _ (by omega)
     omega
    rw [if_neg hc, if_neg hc2]
    rfl
 refine .list (fun j => cs (l * sz + j)) (by simp; omega) (by omega) (fun x hx => k3 x (List.mem_of_mem_take (List.mem_of_mem_drop hx))) ?_ (fun hn => ?_) (fun j hj => ?_) (fun j x hx => ?_)
 ·rcases ht with rfl | ⟨rfl, rfl⟩
  ·trivial
  ·rfl
 ·cases a with
  | none => have := k5 rfl; omega
  | some ad => split at hn <;> simp at hn
 ·rw [Nat.sub_mul] at hj
  have hj' : l * sz + j < len * sz := by
   have : hh * sz ≤ len * sz := Nat.mul_le_mul_right _ h2
   omega
  obtain ⟨ad, e1, e2, e3, e4, e5⟩ := k6 _ hj'
  subst e1
  have hml : ¬ m = l := by
   intro e
   subst e
   have : hh = m := by omega
   subst this
   omega
  rw [if_neg hml]
  refine ⟨ad.add (l * sz), rfl, by rw [addr_add ad e2], ?_, ?_, e5⟩
  ·rw [addr_add ad e2]; simpa [Nat.add_assoc] using e3
  ·rw [addr_add ad e2]; simpa [Nat.add_assoc] using e4
 ·rw [hfl] at hx
  rw [List.getElem?_drop] at hx
  have hx' : (flat xs)[l * sz + j]? = some x := by
   rw [List.getElem?_take] at hx
   split at hx
   ·exact hx
   ·cases hx
  exact k7 _ x hx'
end Go.AL
namespace Go.AL
variable {ι ι' : Nat → Option Nat} {S S' : Store} {F : Nat → Nat → Prop} {w w' : World} {P : Program}
def Sound1 [Glob] (P : Program) (ρ : Operand → Value) (o : Oper) (ι : Nat → Option Nat) (S : Store) (w : World) (nid : Nat) (S' : Store) (new : Bool) (v : AV) : Prop :=
 ∃ n cv w' ι', (execOp ρ o).run P w = .ok n w' ∧ (n = .value cv ∨ (n = .skip ∧ cv = undef)) ∧ Step ι S w ι' S' w' ∧ WF ι' S' w' ∧ Rep ι' (Foot ι' S') w' cv v ∧
  ∀ q b, ι' q = some b → (new = true ∧ q = nid) ∨ ι q = some b
theorem sound_val [Glob] {ρ : Operand → Value} {o : Oper} {nid : Nat} (hwf : WF ι S w) {cv : Value} {v : AV} (hr : (execOp ρ o).run P w = .ok (.value cv) w) (hv : Rep ι (Foot ι S) w cv v) : Sound1 P ρ o ι S w nid S false v :=
 ⟨_, cv, w, ι, hr, .inl rfl, Step.refl _ _ _, hwf, hv, fun _ _ h => .inr h⟩
theorem opds_rep [Glob] {gs : List Nat} {ρ : Operand → Value} {α : AOpd → AV} (hα : ∀ x y, opd gs x = some y → Rep ι F w (ρ x) (α y)) {xs : Array Operand} {ys : List AOpd} (h : opds gs xs = some ys) :
  RepL ι F w (xs.map ρ) (ys.map α) := by
 have key : ∀ (l : List Operand) (ys : List AOpd), l.mapM (opd gs) = some ys → l.length = ys.length ∧ ∀ (j : Nat) x y, l[j]? = some x → ys[j]? = some y → opd gs x = some y := by
  intro l
  induction l with
  | nil => intro ys h; simp at h; subst h; simp
  | cons x l ih =>
   intro ys h
   simp only [List.mapM_cons, Option.bind_eq_bind, Option.pure_def] at h
   cases hx : opd gs x with
   | none => simp [hx] at h
   | some y =>
    cases hr : l.mapM (opd gs) with
    | none => simp [hx, hr] at h
    | some r =>
     simp [hx, hr] at h
     subst h
     obtain ⟨h1, h2⟩ := ih r hr
     refine ⟨by simp [h1], fun j a b ha hb => ?_⟩
     cases j with
     | zero => simp at ha hb; subst ha hb; exact hx
     | succ j => simp at ha hb; exact h2 j a b ha hb
 obtain ⟨h1, h2⟩ := key _ _ h
 refine ⟨by simpa using h1, fun j v x hv hx => ?_⟩
 simp only [Array.getElem?_map, Option.map_eq_some_iff] at hv
 simp only [List.getElem?_map, Option.map_eq_some_iff] at hx
 obtain ⟨a, ha, rfl⟩ := hv
 obtain ⟨b, hb, rfl⟩ := hx
 exact hα a b (h2 j a b (by simpa using ha) hb)
theorem bind2 {α β γ : Type} {x : Option α} {y : Option β} {f : α → β → γ} {z : γ} (h : (do let a ← x; let b ← y; some (f a b)) = some z) : ∃ a b, x = some a ∧ y = some b ∧ z = f a b := by
 cases x <;> cases y <;> simp_all
theorem rep_bool {v : Value} {b : Bool} (h : Rep ι F w v (.bool b)) : v = .bool b := by cases h; rfl
theorem rep_int {v : Value} {k : IntKind} {n : Int} (h : Rep ι F w v (.int k n)) : v = .int k n := by cases h; rfl
theorem rep_str {v : Value} {s : ByteArray} (h : Rep ι F w v (.str s)) : v = .string s := by cases h; rfl
theorem rep_ptr {v : Value} {o off : Nat} (h : Rep ι F w v (.ptr o off)) : ∃ b, ι o = some b ∧ v = .pointer (some ⟨b, off, none⟩) := by cases h with | ptr _ h => exact ⟨_, h, rfl⟩
theorem rep_cptr {v : Value} {l : List AV} (h : Rep ι F w v (.cptr l)) : ∃ a, v = .pointer (some a) ∧ Rep ι F w (.pointer (some a)) (.cptr l) := by
 cases h with | cptr cs ha hc hr => exact ⟨_, rfl, .cptr cs ha hc hr⟩
theorem rep_agg {v : Value} {l : List AV} (h : Rep ι F w v (.agg l)) : ∃ vs, v = .agg vs ∧ RepL ι F w vs l ∧ ∀ (j : Nat) v, vs[j]? = some v → v.oneCell' = true := by
 cases h with | agg hl hc hr => exact ⟨_, rfl, ⟨hl, hr⟩, hc⟩
theorem rep_tup {v : Value} {l : List AV} (h : Rep ι F w v (.tup l)) : ∃ vs, v = .tuple vs ∧ RepL ι F w vs l := by
 cases h with | tup hl hr => exact ⟨_, rfl, ⟨hl, hr⟩⟩
theorem rep_pick [Glob] {va vb : Value} {a b : AV} (t : Bool) (ha : Rep ι F w va a) (hb : Rep ι F w vb b) : Rep ι F w (if t then va else vb) (pickAV t a b) := by
 by_cases h : (∃ x, a = .bool x) ∧ ∃ y, b = .bool y
 ·obtain ⟨⟨x, rfl⟩, y, rfl⟩ := h
  rw [rep_bool ha, rep_bool hb]
  cases t <;> exact .bool _
 ·have e : pickAV t a b = if t then a else b := by
   unfold pickAV
   split
   ·exact (h ⟨⟨_, rfl⟩, _, rfl⟩).elim
   ·rfl
  rw [e]
  cases t
  ·exact hb
  ·exact ha
theorem toList_eq_of (a b : ByteArray) : (a.toList == b.toList) = decide (a = b) := by
 by_cases h : a = b
 ·subst h; simp
 ·have : a.toList ≠ b.toList := by
   intro e
   apply h
   rw [ByteArray.toList_eq, ByteArray.toList_eq] at e
   cases a; cases b
   simp only [ByteArray.mk.injEq]
   exact Array.toList_inj.1 e
  simp [h, this]
theorem bin_sound [Glob] {op : BinOp} {t : TypeId} (ox oy : Operand) {a b : Value} {x y v : AV} (ha : Rep ι F w a x) (hb : Rep ι F w b y) (h : binAV op x y = some v) (hs : binSide op x y) :
  ∃ cv, (binOp op t a b).run P w = .ok cv w ∧ Rep ι F w cv v ∧ eqGuard op t ox oy a b = pure () := by
 unfold binAV at h
 split at h
 ·rename_i k n k' m
  rw [rep_int ha, rep_int hb]
  obtain ⟨rfl, hs⟩ : k = k' ∧ _ := hs
  have hne := eqGuard_at_int op t ox oy (.int k m) k n
  cases op <;> simp only [Option.some.injEq, reduceCtorEq] at h <;> subst h <;> simp only at hs
  case quo => exact ⟨_, by simp [binOp, Op.intDiv, hs], .int _ _, hne⟩
  case rem => exact ⟨_, by simp [binOp, Op.intDiv, hs], .int _ _, hne⟩
  case add => exact ⟨_, by simp [binOp, Op.intArith], .int _ _, hne⟩
  case sub => exact ⟨_, by simp [binOp, Op.intArith], .int _ _, hne⟩
  case mul => exact ⟨_, by simp [binOp, Op.intArith], .int _ _, hne⟩
  case eql => exact ⟨.bool (n == m), by simp [binOp, Op.intCmp], by rw [show (n == m) = decide (n = m) from rfl]; exact .bool _, hne⟩
  case neq => exact ⟨.bool (n != m), by simp [binOp, Op.intCmp], by rw [show (n != m) = !decide (n = m) from rfl]; exact .bool _, hne⟩
  case lss => exact ⟨.bool (n < m), by simp [binOp, Op.intCmp], .bool _, hne⟩
  case leq => exact ⟨.bool (n ≤ m), by simp [binOp, Op.intCmp], .bool _, hne⟩
  case gtr => exact ⟨.bool (n > m), by simp [binOp, Op.intCmp], .bool _, hne⟩
  case geq => exact ⟨.bool (n ≥ m), by simp [binOp, Op.intCmp], .bool _, hne⟩
 ·rename_i s u
  rw [rep_str ha, rep_str hb]
  have hne : eqGuard op t ox oy (.string s) (.string u) = pure () := by cases op <;> rfl
  have he := toList_eq_of s u
  cases op <;> simp only [Option.some.injEq, reduceCtorEq] at h <;> subst h
  case eql => exact ⟨_, by simp only [binOp, Op.stringOp, he]; rfl, .bool _, hne⟩
  case neq => exact ⟨_, by simp only [binOp, Op.stringOp, he]; rfl, .bool _, hne⟩
  case lss => exact ⟨_, by simp only [binOp, Op.stringOp, he]; rfl, .bool _, hne⟩
  case gtr => exact ⟨_, by simp only [binOp, Op.stringOp, he]; rfl, .bool _, hne⟩
 ·cases h
end Go.AL
namespace Go.AL
variable {ι ι' : Nat → Option Nat} {S S' : Store} {F : Nat → Nat → Prop} {w w' : World} {P : Program}
theorem partsOf_spec [Glob] {gs : List Nat} {places : List (Nat × Nat)} : ∀ {l : List (Nat × Operand)} {ps : List (Nat × Nat × AOpd)}, partsOf P gs places l = some ps →
  l.length = ps.length ∧ ∀ (j : Nat) x p, l[j]? = some x → ps[j]? = some p → places[x.1]? = some (p.1, p.2.1) ∧ opd gs x.2 = some p.2.2
 | [], ps, h => by simp [partsOf] at h; subst h; simp
 | (i, x) :: r, ps, h => by
  simp only [partsOf] at h
  split at h
  ·rename_i off n y r' h1 h2 h3
   simp only [Option.some.injEq] at h
   subst h
   obtain ⟨k1, k2⟩ := partsOf_spec h3
   refine ⟨by simp [k1], fun j a p ha hp => ?_⟩
   cases j with
   | zero => simp at ha hp; subst ha hp; exact ⟨h1, h2⟩
   | succ j => simp at ha hp; exact k2 j a p ha hp
  ·cases h
theorem elemsOf_spec [Glob] {gs : List Nat} : ∀ {l : List (Nat × Operand)} {ps : List (Nat × AOpd)}, elemsOf gs l = some ps →
  l.length = ps.length ∧ ∀ (j : Nat) x p, l[j]? = some x → ps[j]? = some p → x.1 = p.1 ∧ opd gs x.2 = some p.2
 | [], ps, h => by simp [elemsOf] at h; subst h; simp
 | (i, x) :: r, ps, h => by
  simp only [elemsOf] at h
  split at h
  ·rename_i y r' h2 h3
   simp only [Option.some.injEq] at h
   subst h
   obtain ⟨k1, k2⟩ := elemsOf_spec h3
   refine ⟨by simp [k1], fun j a p ha hp => ?_⟩
   cases j with
   | zero => simp at ha hp; subst ha hp; exact ⟨rfl, h2⟩
   | succ j => simp at ha hp; exact k2 j a p ha hp
  ·cases h
theorem box_sound [Glob] (hwf : WF ι S w) {n : Nat} (hι : ι n = none) {v : Value} {x : AV} (hv : Rep ι (Foot ι S) w v x) (hx : x.isVal = true) (e : TypeId) :
  ∃ w', (Instr.box e v).run P w = .ok (.pointer (some ⟨w.heap.size, 0, none⟩)) w' ∧ Step ι S w (putι ι n w.heap.size) (putS S n (.box x.cells)) w' ∧ WF (putι ι n w.heap.size) (putS S n (.box x.cells)) w' := by
 obtain ⟨h1, h2⟩ := hv.cells hx
 obtain ⟨h3, h4⟩ := new_box hwf hι h1 h2 e
 exact ⟨w.alloc (.cells v.cells e), by simp [Instr.box, newVar, newRow], h3, h4⟩
theorem putι_inv {n b : Nat} : ∀ q c, putι ι n b q = some c → (true = true ∧ q = n) ∨ ι q = some c := by
 intro q c h
 unfold putι at h
 split at h
 ·rename_i e; exact .inl ⟨rfl, e⟩
 ·exact .inr h
theorem optInt_some {α : AOpd → AV} {x : Option AOpd} {o : Option Int} (h : optInt (x.map α) = some o) :
  (x = none ∧ o = none) ∨ ∃ y k n, x = some y ∧ α y = .int k n ∧ o = some n := by
 cases x with
 | none => simp [optInt] at h; exact .inl ⟨rfl, h.symm⟩
 | some y =>
  simp only [Option.map_some] at h
  cases hy : α y <;> simp [optInt, hy] at h
  exact .inr ⟨y, _, _, rfl, hy, h.symm⟩
theorem optOpd_inv [Glob] {gs : List Nat} {x : Option Operand} {y : Option AOpd} (h : optOpd gs x = some y) : (x = none ∧ y = none) ∨ ∃ a b, x = some a ∧ y = some b ∧ opd gs a = some b := by
 cases x with
 | none => simp [optOpd] at h; exact .inl ⟨rfl, h.symm⟩
 | some a =>
  simp only [optOpd] at h
  cases hb : opd gs a with
  | none => simp [hb] at h
  | some b => simp [hb] at h; exact .inr ⟨a, b, rfl, h.symm, hb⟩
def optN : Option Int → Nat → Nat
 | some l, _ => l.toNat
 | none, d => d
@[simp] theorem optN_some (l : Int) (d : Nat) : optN (some l) d = l.toNat := rfl
@[simp] theorem optN_none (d : Nat) : optN none d = d := rfl
theorem run_bounds [Glob] {isSlice : Bool} {len cap : Nat} {ρ : Operand → Value} {α : AOpd → AV} {gs : List Nat} (hα : ∀ x y, opd gs x = some y → Rep ι F w (ρ x) (α y))
  {lo hi mx : Option Operand} {lo' hi' mx' : Option AOpd} (h1 : optOpd gs lo = some lo') (h2 : optOpd gs hi = some hi') (h3 : optOpd gs mx = some mx')
  {l h m : Option Int} (e1 : optInt (lo'.map α) = some l) (e2 : optInt (hi'.map α) = some h) (e3 : optInt (mx'.map α) = some m)
  (b1 : match l with | some l => 0 ≤ l ∧ l ≤ (match h with | some h => h | none => (len : Int)) | none => True)
  (b2 : match h with | some h => 0 ≤ h ∧ h ≤ (match m with | some m => m | none => (cap : Int)) | none => m = none) (b3 : match m with | some m => 0 ≤ m ∧ m ≤ (cap : Int) | none => True) (b4 : len ≤ cap) :
  (Instr.sliceBounds isSlice len cap (lo.map ρ) (hi.map ρ) (mx.map ρ)).run P w =
   .ok (optN l 0, optN h len, optN m cap) w := by
 have val : ∀ {x : Option Operand} {x' : Option AOpd} {n : Option Int}, optOpd gs x = some x' → optInt (x'.map α) = some n → (x = none ∧ n = none) ∨ ∃ a k i, x = some a ∧ n = some i ∧ ρ a = .int k i := by
  intro x x' n hx hn
  rcases optOpd_inv hx with ⟨rfl, rfl⟩ | ⟨a, b, rfl, rfl, hab⟩
  ·simp [optInt] at hn; exact .inl ⟨rfl, hn.symm⟩
  ·rcases optInt_some hn with ⟨h, _⟩ | ⟨y, k, i, hy, hyk, rfl⟩
   ·cases h
   ·cases hy
    have := hα a b hab
    rw [hyk] at this
    exact .inr ⟨a, k, i, rfl, rfl, rep_int this⟩
 rcases val h1 e1 with ⟨rfl, rfl⟩ | ⟨al, kl, il, rfl, rfl, vl⟩ <;> rcases val h2 e2 with ⟨rfl, rfl⟩ | ⟨ah, kh, ih, rfl, rfl, vh⟩ <;> rcases val h3 e3 with ⟨rfl, rfl⟩ | ⟨am, km, im, rfl, rfl, vm⟩ <;>
  simp only at b1 b2 b3 <;> (try cases b2; done)
 ·simp [Instr.sliceBounds]
 ·have r2 := run_sliceBound (P := P) w kh ih cap (if isSlice = true then .sliceAcap else .sliceAlen) b2.1 b2.2
  simp [Instr.sliceBounds, vh, r2]
 ·have r2 := run_sliceBound (P := P) w kh ih im.toNat .slice3B b2.1 (by omega)
  have r3 := run_sliceBound (P := P) w km im cap (if isSlice = true then .slice3Acap else .slice3Alen) b3.1 b3.2
  simp [Instr.sliceBounds, vh, vm, r2, r3]
 ·have r1 := run_sliceBound (P := P) w kl il len .sliceB b1.1 b1.2
  simp [Instr.sliceBounds, vl, r1]
 ·have r1 := run_sliceBound (P := P) w kl il ih.toNat .sliceB b1.1 (by omega)
  have r2 := run_sliceBound (P := P) w kh ih cap (if isSlice = true then .sliceAcap else .sliceAlen) b2.1 b2.2
  simp [Instr.sliceBounds, vl, vh, r1, r2]
 ·have r1 := run_sliceBound (P := P) w kl il ih.toNat .slice3C b1.1 (by omega)
  have r2 := run_sliceBound (P := P) w kh ih im.toNat .slice3B b2.1 (by omega)
  have r3 := run_sliceBound (P := P) w km im cap (if isSlice = true then .slice3Acap else .slice3Alen) b3.1 b3.2
  simp [Instr.sliceBounds, vl, vh, vm, r1, r2, r3]
end Go.AL
