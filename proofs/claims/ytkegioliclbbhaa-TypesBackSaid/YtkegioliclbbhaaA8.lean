/- The abstract layer: every operation comes to what its abstract one says: the cases joined. -/
import Derived.Test.YtkegioliclbbhaaA7
import Derived.Laws.Slices
set_option linter.unusedVariables false
set_option linter.unusedSimpArgs false
namespace Go.AL
variable {ι ι' : Nat → Option Nat} {S S' : Store} {F : Nat → Nat → Prop} {w w' : World} {P : Program}

theorem partsOf_spec {gs : List Nat} {places : List (Nat × Nat)} : ∀ {l : List (Nat × Operand)} {ps : List (Nat × Nat × AOpd)}, partsOf P gs places l = some ps →
    l.length = ps.length ∧ ∀ (j : Nat) x p, l[j]? = some x → ps[j]? = some p → places[x.1]? = some (p.1, p.2.1) ∧ opd gs x.2 = some p.2.2
  | [], ps, h => by simp [partsOf] at h; subst h; simp
  | (i, x) :: r, ps, h => by
    simp only [partsOf] at h
    split at h
    · rename_i off n y r' h1 h2 h3
      simp only [Option.some.injEq] at h
      subst h
      obtain ⟨k1, k2⟩ := partsOf_spec h3
      refine ⟨by simp [k1], fun j a p ha hp => ?_⟩
      cases j with
      | zero => simp at ha hp; subst ha hp; exact ⟨h1, h2⟩
      | succ j => simp at ha hp; exact k2 j a p ha hp
    · cases h

theorem elemsOf_spec {gs : List Nat} : ∀ {l : List (Nat × Operand)} {ps : List (Nat × AOpd)}, elemsOf gs l = some ps →
    l.length = ps.length ∧ ∀ (j : Nat) x p, l[j]? = some x → ps[j]? = some p → x.1 = p.1 ∧ opd gs x.2 = some p.2
  | [], ps, h => by simp [elemsOf] at h; subst h; simp
  | (i, x) :: r, ps, h => by
    simp only [elemsOf] at h
    split at h
    · rename_i y r' h2 h3
      simp only [Option.some.injEq] at h
      subst h
      obtain ⟨k1, k2⟩ := elemsOf_spec h3
      refine ⟨by simp [k1], fun j a p ha hp => ?_⟩
      cases j with
      | zero => simp at ha hp; subst ha hp; exact ⟨rfl, h2⟩
      | succ j => simp at ha hp; exact k2 j a p ha hp
    · cases h

theorem box_sound (hwf : WF ι S w) {n : Nat} (hι : ι n = none) {v : Value} {x : AV} (hv : Rep ι (Foot ι S) w v x) (hx : x.isVal = true) (e : TypeId) :
    ∃ w', (Instr.box e v).run P w = .ok (.pointer (some ⟨w.heap.size, 0, none⟩)) w' ∧ Step ι S w (putι ι n w.heap.size) (putS S n (.box x.cells)) w' ∧ WF (putι ι n w.heap.size) (putS S n (.box x.cells)) w' := by
  obtain ⟨h1, h2⟩ := hv.cells hx
  obtain ⟨h3, h4⟩ := new_box hwf hι h1 h2 e
  exact ⟨w.alloc (.cells v.cells e), by simp [Instr.box, newVar, newRow], h3, h4⟩

theorem putι_inv {n b : Nat} : ∀ q c, putι ι n b q = some c → (true = true ∧ q = n) ∨ ι q = some c := by
  intro q c h
  unfold putι at h
  split at h
  · rename_i e; exact .inl ⟨rfl, e⟩
  · exact .inr h

theorem optInt_some {α : AOpd → AV} {x : Option AOpd} {o : Option Int} (h : optInt (x.map α) = some o) :
    (x = none ∧ o = none) ∨ ∃ y k n, x = some y ∧ α y = .int k n ∧ o = some n := by
  cases x with
  | none => simp [optInt] at h; exact .inl ⟨rfl, h.symm⟩
  | some y =>
    simp only [Option.map_some] at h
    cases hy : α y <;> simp [optInt, hy] at h
    exact .inr ⟨y, _, _, rfl, hy, h.symm⟩

theorem optOpd_inv {gs : List Nat} {x : Option Operand} {y : Option AOpd} (h : optOpd gs x = some y) : (x = none ∧ y = none) ∨ ∃ a b, x = some a ∧ y = some b ∧ opd gs a = some b := by
  cases x with
  | none => simp [optOpd] at h; exact .inl ⟨rfl, h.symm⟩
  | some a =>
    simp only [optOpd] at h
    cases hb : opd gs a with
    | none => simp [hb] at h
    | some b => simp [hb] at h; exact .inr ⟨a, b, rfl, h.symm, hb⟩

def optN : Option Int → Nat → Nat
  | some l, _ => l.toNat
  | none, d => d
@[simp] theorem optN_some (l : Int) (d : Nat) : optN (some l) d = l.toNat := rfl
@[simp] theorem optN_none (d : Nat) : optN none d = d := rfl

/-- The bounds of a slice expression, as the abstract operation has them. -/
theorem run_bounds {isSlice : Bool} {len cap : Nat} {ρ : Operand → Value} {α : AOpd → AV} {gs : List Nat} (hα : ∀ x y, opd gs x = some y → Rep ι F w (ρ x) (α y))
    {lo hi mx : Option Operand} {lo' hi' mx' : Option AOpd} (h1 : optOpd gs lo = some lo') (h2 : optOpd gs hi = some hi') (h3 : optOpd gs mx = some mx')
    {l h m : Option Int} (e1 : optInt (lo'.map α) = some l) (e2 : optInt (hi'.map α) = some h) (e3 : optInt (mx'.map α) = some m)
    (b1 : match l with | some l => 0 ≤ l ∧ l ≤ (match h with | some h => h | none => (len : Int)) | none => True)
    (b2 : match h with | some h => 0 ≤ h ∧ h ≤ (match m with | some m => m | none => (cap : Int)) | none => m = none) (b3 : match m with | some m => 0 ≤ m ∧ m ≤ (cap : Int) | none => True) (b4 : len ≤ cap) :
    (Instr.sliceBounds isSlice len cap (lo.map ρ) (hi.map ρ) (mx.map ρ)).run P w =
      .ok (optN l 0, optN h len, optN m cap) w := by
  have val : ∀ {x : Option Operand} {x' : Option AOpd} {n : Option Int}, optOpd gs x = some x' → optInt (x'.map α) = some n → (x = none ∧ n = none) ∨ ∃ a k i, x = some a ∧ n = some i ∧ ρ a = .int k i := by
    intro x x' n hx hn
    rcases optOpd_inv hx with ⟨rfl, rfl⟩ | ⟨a, b, rfl, rfl, hab⟩
    · simp [optInt] at hn; exact .inl ⟨rfl, hn.symm⟩
    · rcases optInt_some hn with ⟨h, _⟩ | ⟨y, k, i, hy, hyk, rfl⟩
      · cases h
      · cases hy
        have := hα a b hab
        rw [hyk] at this
        exact .inr ⟨a, k, i, rfl, rfl, rep_int this⟩
  rcases val h1 e1 with ⟨rfl, rfl⟩ | ⟨al, kl, il, rfl, rfl, vl⟩ <;> rcases val h2 e2 with ⟨rfl, rfl⟩ | ⟨ah, kh, ih, rfl, rfl, vh⟩ <;> rcases val h3 e3 with ⟨rfl, rfl⟩ | ⟨am, km, im, rfl, rfl, vm⟩ <;>
    simp only at b1 b2 b3 <;> (try cases b2; done)
  · simp [Instr.sliceBounds]
  · have r2 := run_sliceBound (P := P) w kh ih cap (if isSlice = true then .sliceAcap else .sliceAlen) b2.1 b2.2
    simp [Instr.sliceBounds, vh, r2]
  · have r2 := run_sliceBound (P := P) w kh ih im.toNat .slice3B b2.1 (by omega)
    have r3 := run_sliceBound (P := P) w km im cap (if isSlice = true then .slice3Acap else .slice3Alen) b3.1 b3.2
    simp [Instr.sliceBounds, vh, vm, r2, r3]
  · have r1 := run_sliceBound (P := P) w kl il len .sliceB b1.1 b1.2
    simp [Instr.sliceBounds, vl, r1]
  · have r1 := run_sliceBound (P := P) w kl il ih.toNat .sliceB b1.1 (by omega)
    have r2 := run_sliceBound (P := P) w kh ih cap (if isSlice = true then .sliceAcap else .sliceAlen) b2.1 b2.2
    simp [Instr.sliceBounds, vl, vh, r1, r2]
  · have r1 := run_sliceBound (P := P) w kl il ih.toNat .slice3C b1.1 (by omega)
    have r2 := run_sliceBound (P := P) w kh ih im.toNat .slice3B b2.1 (by omega)
    have r3 := run_sliceBound (P := P) w km im cap (if isSlice = true then .slice3Acap else .slice3Alen) b3.1 b3.2
    simp [Instr.sliceBounds, vl, vh, vm, r1, r2, r3]

end Go.AL
