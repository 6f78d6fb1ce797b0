/- The abstract layer: what becomes of a state where a block is made, an object is made, an object is written. -/
import Derived.Test.YtkegioliclbbhaaA1
set_option linter.unusedVariables false
namespace Go.AL
variable {ι ι' : Nat → Option Nat} {S S' : Store} {w w' : World} {P : Program}

theorem Inc.refl (ι : Nat → Option Nat) (n : Nat) : Inc ι ι n n := ⟨Nat.le_refl _, fun _ _ h _ => h⟩
theorem Inc.trans {ι ι₁ ι₂ : Nat → Option Nat} {a b c : Nat} (h : Inc ι ι₁ a b) (k : Inc ι₁ ι₂ b c) : Inc ι ι₂ a c :=
  ⟨Nat.le_trans h.1 k.1, fun q x hq hlt => h.2 q x (k.2 q x hq (Nat.lt_of_lt_of_le hlt h.1)) hlt⟩

theorem addr_add (a : Addr) (ha : a.spot = none) (j : Nat) : a.add j = ⟨a.block, a.off + j, none⟩ := by
  cases a with
  | mk b o s =>
    simp only at ha
    subst ha
    unfold Addr.add
    split <;> simp_all

theorem WF.of_step (hwf : WF ι S w) (hs : Step ι S w ι' S' w') (hblt : ∀ o b, ι' o = some b → b < w'.heap.size)
    (hinj : ∀ o o' obj obj' b, S' o = some obj → S' o' = some obj' → ι' o = some b → ι' o' = some b → o = o')
    (hobj : ∀ o obj b, S' o = some obj → ι' o = some b → (S o = some obj ∧ ι o = some b ∧ w'.heap[b]? = w.heap[b]?) ∨ ObjRep ι' (Foot ι' S') w' b obj) : WF ι' S' w' := by
  refine ⟨hblt, hinj, fun o obj b ho hb => ?_⟩
  rcases hobj o obj b ho hb with ⟨h1, h2, h3⟩ | h
  · exact (hwf.rep o obj b h1 h2).keep (fun v x hv => hv.step hs) h3
  · exact h

theorem drew_step (ι : Nat → Option Nat) (S : Store) (w : World) : Step ι S w ι S w.drew :=
  ⟨rfl, rfl, rfl, Nat.le_refl _, fun _ _ _ => rfl, fun _ _ _ _ => rfl, fun _ _ h => h, fun _ _ h => h, fun _ _ _ h => h, fun _ _ h => h⟩

theorem WF.drew (hwf : WF ι S w) : WF ι S w.drew :=
  hwf.of_step (drew_step ι S w) hwf.blt hwf.inj fun _ _ _ h1 h2 => .inl ⟨h1, h2, rfl⟩

theorem heap_alloc_lt (w : World) (o : Obj) {b : Nat} (h : b < w.heap.size) : (w.alloc o).heap[b]? = w.heap[b]? := by
  show (w.heap.push o)[b]? = w.heap[b]?
  rw [Array.getElem?_push, if_neg (Nat.ne_of_lt h)]

theorem heap_alloc_eq (w : World) (o : Obj) : (w.alloc o).heap[w.heap.size]? = some o := by
  show (w.heap.push o)[w.heap.size]? = some o
  simp

theorem blockOf_lt {w : World} {b n : Nat} (h : BlockOf w b n) : b < w.heap.size := by
  obtain ⟨c, e, h, _⟩ := h
  exact (Array.getElem?_eq_some_iff.1 h).1

/-- Whatever is made behind what there is: nothing that was turns. -/
theorem grow_step (hsz : w.heap.size ≤ w'.heap.size) (hos : w'.os = w.os) (htape : w'.tape = w.tape) (hout : w'.output = w.output)
    (hh : ∀ b, b < w.heap.size → w'.heap[b]? = w.heap[b]?) (hext : ∀ o b, ι o = some b → ι' o = some b)
    (hfoot : ∀ b off, b < w.heap.size → Foot ι' S' b off → Foot ι S b off) (hnblk : ∀ b, b < w.heap.size → Blk ι' S' b → Blk ι S b) : Step ι S w ι' S' w' where
  os := hos
  tape := htape
  output := hout
  size := hsz
  blk b hb _ := hh b hb
  cell b off hb _ := by simp [World.cell?, hh b hb]
  shape b n h := by
    have hb := blockOf_lt h
    obtain ⟨c, e, h1, h2⟩ := h
    exact ⟨c, e, (hh b hb).trans h1, h2⟩
  ext := hext
  foot := hfoot
  nblk := hnblk

theorem alloc_step (ι : Nat → Option Nat) (S : Store) (w : World) (o : Obj) : Step ι S w ι S (w.alloc o) :=
  grow_step (by simp) rfl rfl rfl (fun b hb => heap_alloc_lt w o hb) (fun _ _ h => h) (fun _ _ _ h => h) (fun _ _ h => h)

theorem WF.alloc (hwf : WF ι S w) (o : Obj) : WF ι S (w.alloc o) :=
  hwf.of_step (alloc_step ι S w o) (fun o b h => by have := hwf.blt o b h; simp; omega) hwf.inj fun _ _ b h1 h2 => .inl ⟨h1, h2, heap_alloc_lt w o (hwf.blt _ b h2)⟩

def putι (ι : Nat → Option Nat) (n b : Nat) : Nat → Option Nat := fun q => if q = n then some b else ι q
def putS (S : Store) (n : Nat) (obj : AObj) : Store := fun q => if q = n then some obj else S q
def delS (S : Store) (n : Nat) : Store := fun q => if q = n then none else S q

theorem putι_ext {n b : Nat} (h : ι n = none) : ∀ o c, ι o = some c → putι ι n b o = some c := by
  intro o c ho
  unfold putι
  split
  · rename_i e; subst e; rw [h] at ho; cases ho
  · exact ho

theorem alloc_obj_step (hwf : WF ι S w) {n : Nat} (hι : ι n = none) (o : Obj) (obj : AObj) :
    Step ι S w (putι ι n w.heap.size) (putS S n obj) (w.alloc o) := by
  refine grow_step (by simp) rfl rfl rfl (fun b hb => heap_alloc_lt w o hb) (putι_ext hι) ?_ ?_
  · rintro b off hb ⟨q, ob, h1, h2, h3⟩
    unfold putι at h2
    unfold putS at h1
    split at h2
    · simp at h2; omega
    · rename_i hq
      simp only [hq, if_false] at h1
      exact ⟨q, ob, h1, h2, h3⟩
  · rintro b hb ⟨q, ob, h1, h2⟩
    unfold putι at h2
    unfold putS at h1
    split at h2
    · simp at h2; omega
    · rename_i hq
      simp only [hq, if_false] at h1
      exact ⟨q, ob, h1, h2⟩

theorem alloc_obj_wf (hwf : WF ι S w) {n : Nat} (hι : ι n = none) (o : Obj) (obj : AObj)
    (hrep : ObjRep (putι ι n w.heap.size) (Foot (putι ι n w.heap.size) (putS S n obj)) (w.alloc o) w.heap.size obj) :
    WF (putι ι n w.heap.size) (putS S n obj) (w.alloc o) := by
  refine hwf.of_step (alloc_obj_step hwf hι o obj) ?_ ?_ ?_
  · intro q b hq
    unfold putι at hq
    split at hq
    · simp at hq; subst hq; simp
    · have := hwf.blt q b hq; simp; omega
  · intro q q' ob ob' b h1 h2 h3 h4
    unfold putι at h3 h4
    unfold putS at h1 h2
    by_cases e : q = n <;> by_cases e' : q' = n <;> simp only [e, e', if_true, if_false] at h1 h2 h3 h4 ⊢
    · simp at h3; subst h3; have := hwf.blt q' _ h4; omega
    · simp at h4; subst h4; have := hwf.blt q _ h3; omega
    · exact hwf.inj q q' ob ob' b h1 h2 h3 h4
  · intro q ob b h1 h2
    unfold putι at h2
    unfold putS at h1
    split at h2
    · rename_i e
      simp only [e, if_true] at h1
      simp at h1 h2
      subst h1 h2
      exact .inr hrep
    · rename_i e
      simp only [e, if_false] at h1
      exact .inl ⟨h1, h2, heap_alloc_lt w o (hwf.blt q b h2)⟩

/-- An object without a block. -/
theorem virtual_step {n : Nat} (hι : ι n = none) (S : Store) (w : World) (obj : AObj) : Step ι S w ι (putS S n obj) w := by
  refine grow_step (Nat.le_refl _) rfl rfl rfl (fun _ _ => rfl) (fun _ _ h => h) ?_ ?_
  · rintro b off hb ⟨q, ob, h1, h2, h3⟩
    unfold putS at h1
    split at h1
    · rename_i e; subst e; rw [hι] at h2; cases h2
    · exact ⟨q, ob, h1, h2, h3⟩
  · rintro b hb ⟨q, ob, h1, h2⟩
    unfold putS at h1
    split at h1
    · rename_i e; subst e; rw [hι] at h2; cases h2
    · exact ⟨q, ob, h1, h2⟩

theorem WF.virtual (hwf : WF ι S w) {n : Nat} (hι : ι n = none) (obj : AObj) : WF ι (putS S n obj) w := by
  refine hwf.of_step (virtual_step hι S w obj) hwf.blt ?_ ?_
  · intro q q' ob ob' b h1 h2 h3 h4
    unfold putS at h1 h2
    by_cases e : q = n <;> by_cases e' : q' = n <;> simp only [e, e', if_true, if_false] at h1 h2 h3 h4 ⊢
    · rw [hι] at h3; cases h3
    · rw [hι] at h4; cases h4
    · exact hwf.inj q q' ob ob' b h1 h2 h3 h4
  · intro q ob b h1 h2
    unfold putS at h1
    split at h1
    · rename_i e; subst e; rw [hι] at h2; cases h2
    · exact .inl ⟨h1, h2, rfl⟩

/-- Objects that are forgotten. -/
theorem drop_step (S S' : Store) (hS : ∀ o obj, S' o = some obj → S o = some obj) (ι : Nat → Option Nat) (w : World) : Step ι S w ι S' w := by
  refine grow_step (Nat.le_refl _) rfl rfl rfl (fun _ _ => rfl) (fun _ _ h => h) ?_ ?_
  · rintro b off hb ⟨q, ob, h1, h2, h3⟩
    exact ⟨q, ob, hS _ _ h1, h2, h3⟩
  · rintro b hb ⟨q, ob, h1, h2⟩
    exact ⟨q, ob, hS _ _ h1, h2⟩

theorem WF.drop (hwf : WF ι S w) {S' : Store} (hS : ∀ o obj, S' o = some obj → S o = some obj) : WF ι S' w :=
  hwf.of_step (drop_step S S' hS ι w) hwf.blt (fun o o' obj obj' b h1 h2 => hwf.inj o o' obj obj' b (hS _ _ h1) (hS _ _ h2)) fun o obj b h1 h2 => .inl ⟨hS _ _ h1, h2, rfl⟩

/-- The block of an object is written. -/
theorem write_step {o b : Nat} {obj : AObj} {vs cs : Array Value} {e : TypeId} (ho : S o = some obj) (hb : ι o = some b) (hh : w.heap[b]? = some (.cells vs e (0, 0)))
    (hsz : cs.size = vs.size) (hkeep : ∀ j, ¬ obj.mut j → cs[j]? = vs[j]?) (hext : ∀ o b, ι o = some b → ι' o = some b)
    (hfoot : ∀ b off, b < w.heap.size → Foot ι' S' b off → Foot ι S b off) (hnblk : ∀ b, b < w.heap.size → Blk ι' S' b → Blk ι S b) :
    Step ι S w ι' S' (w.setRow b cs) where
  os := rfl
  tape := rfl
  output := rfl
  size := by simp
  blk k hk hn := setRow_other w b k cs (fun e => hn (e ▸ ⟨o, obj, ho, hb⟩))
  cell k off hk hn := by
    by_cases e : k = b
    · subst e
      rw [cell_setRow_same w k off vs cs _ (0, 0) hh]
      simp only [World.cell?, hh]
      exact hkeep off (fun hm => hn ⟨o, obj, ho, hb, hm⟩)
    · simp [World.cell?, setRow_other w b k cs e]
  shape k n h := by
    obtain ⟨c, e', h1, h2⟩ := h
    by_cases e : k = b
    · subst e
      rw [hh] at h1
      cases h1
      exact ⟨cs, _, setRow_heap w k vs cs _ (0, 0) hh, by omega⟩
    · exact ⟨c, e', (setRow_other w b k cs e).trans h1, h2⟩
  ext := hext
  foot := hfoot
  nblk := hnblk

theorem foot_set {o : Nat} {obj obj' : AObj} (ho : S o = some obj) (hm : ∀ j, obj'.mut j → obj.mut j) (b off : Nat) (h : Foot ι (putS S o obj') b off) : Foot ι S b off := by
  obtain ⟨q, ob, h1, h2, h3⟩ := h
  unfold putS at h1
  split at h1
  · rename_i e; subst e; simp at h1; subst h1; exact ⟨q, obj, ho, h2, hm _ h3⟩
  · exact ⟨q, ob, h1, h2, h3⟩

theorem blk_set {o : Nat} {obj obj' : AObj} (ho : S o = some obj) (b : Nat) (h : Blk ι (putS S o obj') b) : Blk ι S b := by
  obtain ⟨q, ob, h1, h2⟩ := h
  unfold putS at h1
  split at h1
  · rename_i e; subst e; exact ⟨q, obj, ho, h2⟩
  · exact ⟨q, ob, h1, h2⟩

/-- An object of cells (a box, an array) is written. -/
theorem write_obj {o b : Nat} {obj obj' : AObj} {vs cs : Array Value} {e : TypeId} (hwf : WF ι S w) (ho : S o = some obj) (hb : ι o = some b)
    (hh : w.heap[b]? = some (.cells vs e (0, 0))) (hsz : cs.size = vs.size) (hmut : ∀ j, obj.mut j) 
    (hrep : (∀ v x, Rep ι (Foot ι S) w v x → Rep ι (Foot ι (putS S o obj')) (w.setRow b cs) v x) → (w.setRow b cs).heap[b]? = some (.cells cs e (0, 0)) →
      ObjRep ι (Foot ι (putS S o obj')) (w.setRow b cs) b obj') :
    Step ι S w ι (putS S o obj') (w.setRow b cs) ∧ WF ι (putS S o obj') (w.setRow b cs) := by
  have hs : Step ι S w ι (putS S o obj') (w.setRow b cs) :=
    write_step ho hb hh hsz (fun j hj => (hj (hmut j)).elim) (fun _ _ h => h) (fun b off _ h => foot_set ho (fun j _ => hmut j) b off h) (fun b _ h => blk_set ho b h)
  refine ⟨hs, hwf.of_step hs ?_ ?_ ?_⟩
  · intro q c hq; have := hwf.blt q c hq; simpa using this
  · intro q q' ob ob' c h1 h2 h3 h4
    have lift : ∀ {q ob}, putS S o obj' q = some ob → ∃ ob, S q = some ob := by
      intro q ob h
      unfold putS at h
      split at h
      · rename_i e; exact ⟨obj, e ▸ ho⟩
      · exact ⟨ob, h⟩
    obtain ⟨_, k1⟩ := lift h1
    obtain ⟨_, k2⟩ := lift h2
    exact hwf.inj q q' _ _ c k1 k2 h3 h4
  · intro q ob c h1 h2
    by_cases eq : q = o
    · subst eq
      rw [hb] at h2
      simp at h2
      subst h2
      simp [putS] at h1
      subst h1
      exact .inr (hrep (fun v x h => h.step hs) (setRow_heap w b vs cs e (0, 0) hh))
    · have h1' : S q = some ob := by simpa [putS, eq] using h1
      have hne : c ≠ b := fun e => eq (hwf.inj q o ob obj b h1' ho (e ▸ h2) hb)
      exact .inl ⟨h1', h2, setRow_other w b c cs hne⟩

end Go.AL
