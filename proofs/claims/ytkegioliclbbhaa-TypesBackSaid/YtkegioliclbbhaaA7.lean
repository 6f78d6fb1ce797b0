/- The abstract layer: every operation comes to what its abstract one says. -/
import Derived.Test.YtkegioliclbbhaaA6
import Derived.Laws.Strings
import Derived.Laws.Small
set_option linter.unusedVariables false
set_option linter.unusedSimpArgs false
namespace Go.AL
variable {ι ι' : Nat → Option Nat} {S S' : Store} {F : Nat → Nat → Prop} {w w' : World} {P : Program}

def Sound1 (P : Program) (ρ : Operand → Value) (o : Oper) (ι : Nat → Option Nat) (S : Store) (w : World) (nid : Nat) (S' : Store) (new : Bool) (v : AV) : Prop :=
  ∃ n cv w' ι', (execOp ρ o).run P w = .ok n w' ∧ (n = .value cv ∨ (n = .skip ∧ cv = undef)) ∧ Step ι S w ι' S' w' ∧ WF ι' S' w' ∧ Rep ι' (Foot ι' S') w' cv v ∧
    ∀ q b, ι' q = some b → (new = true ∧ q = nid) ∨ ι q = some b

theorem sound_val {ρ : Operand → Value} {o : Oper} {nid : Nat} (hwf : WF ι S w) {cv : Value} {v : AV} (hr : (execOp ρ o).run P w = .ok (.value cv) w) (hv : Rep ι (Foot ι S) w cv v) : Sound1 P ρ o ι S w nid S false v :=
  ⟨_, cv, w, ι, hr, .inl rfl, Step.refl _ _ _, hwf, hv, fun _ _ h => .inr h⟩

theorem opds_rep {gs : List Nat} {ρ : Operand → Value} {α : AOpd → AV} (hα : ∀ x y, opd gs x = some y → Rep ι F w (ρ x) (α y)) {xs : Array Operand} {ys : List AOpd} (h : opds gs xs = some ys) :
    RepL ι F w (xs.map ρ) (ys.map α) := by
  have key : ∀ (l : List Operand) (ys : List AOpd), l.mapM (opd gs) = some ys → l.length = ys.length ∧ ∀ (j : Nat) x y, l[j]? = some x → ys[j]? = some y → opd gs x = some y := by
    intro l
    induction l with
    | nil => intro ys h; simp at h; subst h; simp
    | cons x l ih =>
      intro ys h
      simp only [List.mapM_cons, Option.bind_eq_bind, Option.pure_def] at h
      cases hx : opd gs x with
      | none => simp [hx] at h
      | some y =>
        cases hr : l.mapM (opd gs) with
        | none => simp [hx, hr] at h
        | some r =>
          simp [hx, hr] at h
          subst h
          obtain ⟨h1, h2⟩ := ih r hr
          refine ⟨by simp [h1], fun j a b ha hb => ?_⟩
          cases j with
          | zero => simp at ha hb; subst ha hb; exact hx
          | succ j => simp at ha hb; exact h2 j a b ha hb
  obtain ⟨h1, h2⟩ := key _ _ h
  refine ⟨by simpa using h1, fun j v x hv hx => ?_⟩
  simp only [Array.getElem?_map, Option.map_eq_some_iff] at hv
  simp only [List.getElem?_map, Option.map_eq_some_iff] at hx
  obtain ⟨a, ha, rfl⟩ := hv
  obtain ⟨b, hb, rfl⟩ := hx
  exact hα a b (h2 j a b (by simpa using ha) hb)

theorem bind2 {α β γ : Type} {x : Option α} {y : Option β} {f : α → β → γ} {z : γ} (h : (do let a ← x; let b ← y; some (f a b)) = some z) : ∃ a b, x = some a ∧ y = some b ∧ z = f a b := by
  cases x <;> cases y <;> simp_all

theorem rep_bool {v : Value} {b : Bool} (h : Rep ι F w v (.bool b)) : v = .bool b := by cases h; rfl
theorem rep_int {v : Value} {k : IntKind} {n : Int} (h : Rep ι F w v (.int k n)) : v = .int k n := by cases h; rfl
theorem rep_str {v : Value} {s : ByteArray} (h : Rep ι F w v (.str s)) : v = .string s := by cases h; rfl
theorem rep_ptr {v : Value} {o off : Nat} (h : Rep ι F w v (.ptr o off)) : ∃ b, ι o = some b ∧ v = .pointer (some ⟨b, off, none⟩) := by cases h with | ptr _ h => exact ⟨_, h, rfl⟩
theorem rep_cptr {v : Value} {l : List AV} (h : Rep ι F w v (.cptr l)) : ∃ a, v = .pointer (some a) ∧ Rep ι F w (.pointer (some a)) (.cptr l) := by
  cases h with | cptr cs ha hc hr => exact ⟨_, rfl, .cptr cs ha hc hr⟩
theorem rep_agg {v : Value} {l : List AV} (h : Rep ι F w v (.agg l)) : ∃ vs, v = .agg vs ∧ RepL ι F w vs l ∧ ∀ (j : Nat) v, vs[j]? = some v → v.oneCell' = true := by
  cases h with | agg hl hc hr => exact ⟨_, rfl, ⟨hl, hr⟩, hc⟩
theorem rep_tup {v : Value} {l : List AV} (h : Rep ι F w v (.tup l)) : ∃ vs, v = .tuple vs ∧ RepL ι F w vs l := by
  cases h with | tup hl hr => exact ⟨_, rfl, ⟨hl, hr⟩⟩

theorem rep_pick {va vb : Value} {a b : AV} (t : Bool) (ha : Rep ι F w va a) (hb : Rep ι F w vb b) : Rep ι F w (if t then va else vb) (pickAV t a b) := by
  by_cases h : (∃ x, a = .bool x) ∧ ∃ y, b = .bool y
  · obtain ⟨⟨x, rfl⟩, y, rfl⟩ := h
    rw [rep_bool ha, rep_bool hb]
    cases t <;> exact .bool _
  · have e : pickAV t a b = if t then a else b := by
      unfold pickAV
      split
      · exact (h ⟨⟨_, rfl⟩, _, rfl⟩).elim
      · rfl
    rw [e]
    cases t
    · exact hb
    · exact ha

theorem toList_eq_of (a b : ByteArray) : (a.toList == b.toList) = decide (a = b) := by
  by_cases h : a = b
  · subst h; simp
  · have : a.toList ≠ b.toList := by
      intro e
      apply h
      rw [ByteArray.toList_eq, ByteArray.toList_eq] at e
      cases a; cases b
      simp only [ByteArray.mk.injEq]
      exact Array.toList_inj.1 e
    simp [h, this]

theorem bin_sound {op : BinOp} {t : TypeId} (ox oy : Operand) {a b : Value} {x y v : AV} (ha : Rep ι F w a x) (hb : Rep ι F w b y) (h : binAV op x y = some v) (hs : binSide op x y) :
    ∃ cv, (binOp op t a b).run P w = .ok cv w ∧ Rep ι F w cv v ∧ eqGuard op t ox oy a b = pure () := by
  unfold binAV at h
  split at h
  · rename_i k n k' m
    rw [rep_int ha, rep_int hb]
    obtain ⟨rfl, hs⟩ : k = k' ∧ _ := hs
    have hne := eqGuard_at_int op t ox oy (.int k m) k n
    cases op <;> simp only [Option.some.injEq, reduceCtorEq] at h <;> subst h <;> simp only at hs
    case quo => exact ⟨_, by simp [binOp, Op.intDiv, hs], .int _ _, hne⟩
    case rem => exact ⟨_, by simp [binOp, Op.intDiv, hs], .int _ _, hne⟩
    case add => exact ⟨_, by simp [binOp, Op.intArith], .int _ _, hne⟩
    case sub => exact ⟨_, by simp [binOp, Op.intArith], .int _ _, hne⟩
    case mul => exact ⟨_, by simp [binOp, Op.intArith], .int _ _, hne⟩
    case eql => exact ⟨.bool (n == m), by simp [binOp, Op.intCmp], by rw [show (n == m) = decide (n = m) from rfl]; exact .bool _, hne⟩
    case neq => exact ⟨.bool (n != m), by simp [binOp, Op.intCmp], by rw [show (n != m) = !decide (n = m) from rfl]; exact .bool _, hne⟩
    case lss => exact ⟨.bool (n < m), by simp [binOp, Op.intCmp], .bool _, hne⟩
    case leq => exact ⟨.bool (n ≤ m), by simp [binOp, Op.intCmp], .bool _, hne⟩
    case gtr => exact ⟨.bool (n > m), by simp [binOp, Op.intCmp], .bool _, hne⟩
    case geq => exact ⟨.bool (n ≥ m), by simp [binOp, Op.intCmp], .bool _, hne⟩
  · rename_i s u
    rw [rep_str ha, rep_str hb]
    have hne : eqGuard op t ox oy (.string s) (.string u) = pure () := by cases op <;> rfl
    have he := toList_eq_of s u
    cases op <;> simp only [Option.some.injEq, reduceCtorEq] at h <;> subst h
    case eql => exact ⟨_, by simp only [binOp, Op.stringOp, he]; rfl, .bool _, hne⟩
    case neq => exact ⟨_, by simp only [binOp, Op.stringOp, he]; rfl, .bool _, hne⟩
    case lss => exact ⟨_, by simp only [binOp, Op.stringOp, he]; rfl, .bool _, hne⟩
    case gtr => exact ⟨_, by simp only [binOp, Op.stringOp, he]; rfl, .bool _, hne⟩
  · cases h

end Go.AL
