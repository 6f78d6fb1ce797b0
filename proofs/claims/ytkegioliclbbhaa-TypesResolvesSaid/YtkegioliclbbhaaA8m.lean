/- The abstract layer: every operation comes to what its abstract one says. -/
import Derived.Test.YtkegioliclbbhaaA6
import Derived.Laws.Strings
import Derived.Laws.Small
import Derived.Laws.Slices
import Derived.MapKept
set_option linter.unusedVariables false
set_option linter.unusedSimpArgs false
namespace Go.AL
variable {ι ι' : Nat → Option Nat} {S S' : Store} {F : Nat → Nat → Prop} {w w' : World} {P : Program}

def Sound1 (P : Program) (ρ : Operand → Value) (o : Oper) (ι : Nat → Option Nat) (S : Store) (w : World) (nid : Nat) (S' : Store) (new : Bool) (v : AV) : Prop :=
  ∃ n cv w' ι', (execOp ρ o).run P w = .ok n w' ∧ (n = .value cv ∨ (n = .skip ∧ cv = undef)) ∧ Step ι S w ι' S' w' ∧ WF ι' S' w' ∧ Rep ι' (Foot ι' S') w' cv v ∧
    ∀ q b, ι' q = some b → (new = true ∧ q = nid) ∨ ι q = some b

theorem sound_val {ρ : Operand → Value} {o : Oper} {nid : Nat} (hwf : WF ι S w) {cv : Value} {v : AV} (hr : (execOp ρ o).run P w = .ok (.value cv) w) (hv : Rep ι (Foot ι S) w cv v) : Sound1 P ρ o ι S w nid S false v :=
  ⟨_, cv, w, ι, hr, .inl rfl, Step.refl _ _ _, hwf, hv, fun _ _ h => .inr h⟩

theorem opds_rep {gs : List Nat} {ρ : Operand → Value} {α : AOpd → AV} (hα : ∀ x y, opd gs x = some y → Rep ι F w (ρ x) (α y)) {xs : Array Operand} {ys : List AOpd} (h : opds gs xs = some ys) :
    RepL ι F w (xs.map ρ) (ys.map α) := by
  have key : ∀ (l : List Operand) (ys : List AOpd), l.mapM (opd gs) = some ys → l.length = ys.length ∧ ∀ (j : Nat) x y, l[j]? = some x → ys[j]? = some y → opd gs x = some y := by
    intro l
    induction l with
    | nil => intro ys h; simp at h; subst h; simp
    | cons x l ih =>
      intro ys h
      simp only [List.mapM_cons, Option.bind_eq_bind, Option.pure_def] at h
      cases hx : opd gs x with
      | none => simp [hx] at h
      | some y =>
        cases hr : l.mapM (opd gs) with
        | none => simp [hx, hr] at h
        | some r =>
          simp [hx, hr] at h
          subst h
          obtain ⟨h1, h2⟩ := ih r hr
          refine ⟨by simp [h1], fun j a b ha hb => ?_⟩
          cases j with
          | zero => simp at ha hb; subst ha hb; exact hx
          | succ j => simp at ha hb; exact h2 j a b ha hb
  obtain ⟨h1, h2⟩ := key _ _ h
  refine ⟨by simpa using h1, fun j v x hv hx => ?_⟩
  simp only [Array.getElem?_map, Option.map_eq_some_iff] at hv
  simp only [List.getElem?_map, Option.map_eq_some_iff] at hx
  obtain ⟨a, ha, rfl⟩ := hv
  obtain ⟨b, hb, rfl⟩ := hx
  exact hα a b (h2 j a b (by simpa using ha) hb)

theorem bind2 {α β γ : Type} {x : Option α} {y : Option β} {f : α → β → γ} {z : γ} (h : (do let a ← x; let b ← y; some (f a b)) = some z) : ∃ a b, x = some a ∧ y = some b ∧ z = f a b := by
  cases x <;> cases y <;> simp_all

theorem rep_bool {v : Value} {b : Bool} (h : Rep ι F w v (.bool b)) : v = .bool b := by cases h; rfl
theorem rep_int {v : Value} {k : IntKind} {n : Int} (h : Rep ι F w v (.int k n)) : v = .int k n := by cases h; rfl
theorem rep_str {v : Value} {s : ByteArray} (h : Rep ι F w v (.str s)) : v = .string s := by cases h; rfl
theorem rep_ptr {v : Value} {o off : Nat} (h : Rep ι F w v (.ptr o off)) : ∃ b, ι o = some b ∧ v = .pointer (some ⟨b, off, none⟩) := by cases h with | ptr _ h => exact ⟨_, h, rfl⟩
theorem rep_cptr {v : Value} {l : List AV} (h : Rep ι F w v (.cptr l)) : ∃ a, v = .pointer (some a) ∧ Rep ι F w (.pointer (some a)) (.cptr l) := by
  cases h with | cptr cs ha hc hr => exact ⟨_, rfl, .cptr cs ha hc hr⟩
theorem rep_agg {v : Value} {l : List AV} (h : Rep ι F w v (.agg l)) : ∃ vs, v = .agg vs ∧ RepL ι F w vs l ∧ ∀ (j : Nat) v, vs[j]? = some v → v.oneCell' = true := by
  cases h with | agg hl hc hr => exact ⟨_, rfl, ⟨hl, hr⟩, hc⟩
theorem rep_tup {v : Value} {l : List AV} (h : Rep ι F w v (.tup l)) : ∃ vs, v = .tuple vs ∧ RepL ι F w vs l := by
  cases h with | tup hl hr => exact ⟨_, rfl, ⟨hl, hr⟩⟩

theorem rep_pick {va vb : Value} {a b : AV} (t : Bool) (ha : Rep ι F w va a) (hb : Rep ι F w vb b) : Rep ι F w (if t then va else vb) (pickAV t a b) := by
  by_cases h : (∃ x, a = .bool x) ∧ ∃ y, b = .bool y
  · obtain ⟨⟨x, rfl⟩, y, rfl⟩ := h
    rw [rep_bool ha, rep_bool hb]
    cases t <;> exact .bool _
  · have e : pickAV t a b = if t then a else b := by
      unfold pickAV
      split
      · exact (h ⟨⟨_, rfl⟩, _, rfl⟩).elim
      · rfl
    rw [e]
    cases t
    · exact hb
    · exact ha

theorem toList_eq_of (a b : ByteArray) : (a.toList == b.toList) = decide (a = b) := by
  by_cases h : a = b
  · subst h; simp
  · have : a.toList ≠ b.toList := by
      intro e
      apply h
      rw [ByteArray.toList_eq, ByteArray.toList_eq] at e
      cases a; cases b
      simp only [ByteArray.mk.injEq]
      exact Array.toList_inj.1 e
    simp [h, this]

theorem bin_sound {op : BinOp} {t : TypeId} (ox oy : Operand) {a b : Value} {x y v : AV} (ha : Rep ι F w a x) (hb : Rep ι F w b y) (h : binAV op x y = some v) (hs : binSide op x y) :
    ∃ cv, (binOp op t a b).run P w = .ok cv w ∧ Rep ι F w cv v ∧ eqGuard op t ox oy a b = pure () := by
  unfold binAV at h
  split at h
  · rename_i k n k' m
    rw [rep_int ha, rep_int hb]
    obtain ⟨rfl, hs⟩ : k = k' ∧ _ := hs
    have hne := eqGuard_at_int op t ox oy (.int k m) k n
    cases op <;> simp only [Option.some.injEq, reduceCtorEq] at h <;> subst h <;> simp only at hs
    case quo => exact ⟨_, by simp [binOp, Op.intDiv, hs], .int _ _, hne⟩
    case rem => exact ⟨_, by simp [binOp, Op.intDiv, hs], .int _ _, hne⟩
    case add => exact ⟨_, by simp [binOp, Op.intArith], .int _ _, hne⟩
    case sub => exact ⟨_, by simp [binOp, Op.intArith], .int _ _, hne⟩
    case mul => exact ⟨_, by simp [binOp, Op.intArith], .int _ _, hne⟩
    case eql => exact ⟨.bool (n == m), by simp [binOp, Op.intCmp], by rw [show (n == m) = decide (n = m) from rfl]; exact .bool _, hne⟩
    case neq => exact ⟨.bool (n != m), by simp [binOp, Op.intCmp], by rw [show (n != m) = !decide (n = m) from rfl]; exact .bool _, hne⟩
    case lss => exact ⟨.bool (n < m), by simp [binOp, Op.intCmp], .bool _, hne⟩
    case leq => exact ⟨.bool (n ≤ m), by simp [binOp, Op.intCmp], .bool _, hne⟩
    case gtr => exact ⟨.bool (n > m), by simp [binOp, Op.intCmp], .bool _, hne⟩
    case geq => exact ⟨.bool (n ≥ m), by simp [binOp, Op.intCmp], .bool _, hne⟩
  · rename_i s u
    rw [rep_str ha, rep_str hb]
    have hne : eqGuard op t ox oy (.string s) (.string u) = pure () := by cases op <;> rfl
    have he := toList_eq_of s u
    cases op <;> simp only [Option.some.injEq, reduceCtorEq] at h <;> subst h
    case eql => exact ⟨_, by simp only [binOp, Op.stringOp, he]; rfl, .bool _, hne⟩
    case neq => exact ⟨_, by simp only [binOp, Op.stringOp, he]; rfl, .bool _, hne⟩
    case lss => exact ⟨_, by simp only [binOp, Op.stringOp, he]; rfl, .bool _, hne⟩
    case gtr => exact ⟨_, by simp only [binOp, Op.stringOp, he]; rfl, .bool _, hne⟩
  · cases h

end Go.AL
/- The abstract layer: every operation comes to what its abstract one says: the cases joined. -/
set_option linter.unusedVariables false
set_option linter.unusedSimpArgs false
namespace Go.AL
variable {ι ι' : Nat → Option Nat} {S S' : Store} {F : Nat → Nat → Prop} {w w' : World} {P : Program}

theorem partsOf_spec {gs : List Nat} {places : List (Nat × Nat)} : ∀ {l : List (Nat × Operand)} {ps : List (Nat × Nat × AOpd)}, partsOf P gs places l = some ps →
    l.length = ps.length ∧ ∀ (j : Nat) x p, l[j]? = some x → ps[j]? = some p → places[x.1]? = some (p.1, p.2.1) ∧ opd gs x.2 = some p.2.2
  | [], ps, h => by simp [partsOf] at h; subst h; simp
  | (i, x) :: r, ps, h => by
    simp only [partsOf] at h
    split at h
    · rename_i off n y r' h1 h2 h3
      simp only [Option.some.injEq] at h
      subst h
      obtain ⟨k1, k2⟩ := partsOf_spec h3
      refine ⟨by simp [k1], fun j a p ha hp => ?_⟩
      cases j with
      | zero => simp at ha hp; subst ha hp; exact ⟨h1, h2⟩
      | succ j => simp at ha hp; exact k2 j a p ha hp
    · cases h

theorem elemsOf_spec {gs : List Nat} : ∀ {l : List (Nat × Operand)} {ps : List (Nat × AOpd)}, elemsOf gs l = some ps →
    l.length = ps.length ∧ ∀ (j : Nat) x p, l[j]? = some x → ps[j]? = some p → x.1 = p.1 ∧ opd gs x.2 = some p.2
  | [], ps, h => by simp [elemsOf] at h; subst h; simp
  | (i, x) :: r, ps, h => by
    simp only [elemsOf] at h
    split at h
    · rename_i y r' h2 h3
      simp only [Option.some.injEq] at h
      subst h
      obtain ⟨k1, k2⟩ := elemsOf_spec h3
      refine ⟨by simp [k1], fun j a p ha hp => ?_⟩
      cases j with
      | zero => simp at ha hp; subst ha hp; exact ⟨rfl, h2⟩
      | succ j => simp at ha hp; exact k2 j a p ha hp
    · cases h

theorem box_sound (hwf : WF ι S w) {n : Nat} (hι : ι n = none) {v : Value} {x : AV} (hv : Rep ι (Foot ι S) w v x) (hx : x.isVal = true) (e : TypeId) :
    ∃ w', (Instr.box e v).run P w = .ok (.pointer (some ⟨w.heap.size, 0, none⟩)) w' ∧ Step ι S w (putι ι n w.heap.size) (putS S n (.box x.cells)) w' ∧ WF (putι ι n w.heap.size) (putS S n (.box x.cells)) w' := by
  obtain ⟨h1, h2⟩ := hv.cells hx
  obtain ⟨h3, h4⟩ := new_box hwf hι h1 h2 e
  exact ⟨w.alloc (.cells v.cells e), by simp [Instr.box, newVar, newRow], h3, h4⟩

theorem putι_inv {n b : Nat} : ∀ q c, putι ι n b q = some c → (true = true ∧ q = n) ∨ ι q = some c := by
  intro q c h
  unfold putι at h
  split at h
  · rename_i e; exact .inl ⟨rfl, e⟩
  · exact .inr h

theorem optInt_some {α : AOpd → AV} {x : Option AOpd} {o : Option Int} (h : optInt (x.map α) = some o) :
    (x = none ∧ o = none) ∨ ∃ y k n, x = some y ∧ α y = .int k n ∧ o = some n := by
  cases x with
  | none => simp [optInt] at h; exact .inl ⟨rfl, h.symm⟩
  | some y =>
    simp only [Option.map_some] at h
    cases hy : α y <;> simp [optInt, hy] at h
    exact .inr ⟨y, _, _, rfl, hy, h.symm⟩

theorem optOpd_inv {gs : List Nat} {x : Option Operand} {y : Option AOpd} (h : optOpd gs x = some y) : (x = none ∧ y = none) ∨ ∃ a b, x = some a ∧ y = some b ∧ opd gs a = some b := by
  cases x with
  | none => simp [optOpd] at h; exact .inl ⟨rfl, h.symm⟩
  | some a =>
    simp only [optOpd] at h
    cases hb : opd gs a with
    | none => simp [hb] at h
    | some b => simp [hb] at h; exact .inr ⟨a, b, rfl, h.symm, hb⟩

def optN : Option Int → Nat → Nat
  | some l, _ => l.toNat
  | none, d => d
@[simp] theorem optN_some (l : Int) (d : Nat) : optN (some l) d = l.toNat := rfl
@[simp] theorem optN_none (d : Nat) : optN none d = d := rfl

/-- The bounds of a slice expression, as the abstract operation has them. -/
theorem run_bounds {isSlice : Bool} {len cap : Nat} {ρ : Operand → Value} {α : AOpd → AV} {gs : List Nat} (hα : ∀ x y, opd gs x = some y → Rep ι F w (ρ x) (α y))
    {lo hi mx : Option Operand} {lo' hi' mx' : Option AOpd} (h1 : optOpd gs lo = some lo') (h2 : optOpd gs hi = some hi') (h3 : optOpd gs mx = some mx')
    {l h m : Option Int} (e1 : optInt (lo'.map α) = some l) (e2 : optInt (hi'.map α) = some h) (e3 : optInt (mx'.map α) = some m)
    (b1 : match l with | some l => 0 ≤ l ∧ l ≤ (match h with | some h => h | none => (len : Int)) | none => True)
    (b2 : match h with | some h => 0 ≤ h ∧ h ≤ (match m with | some m => m | none => (cap : Int)) | none => m = none) (b3 : match m with | some m => 0 ≤ m ∧ m ≤ (cap : Int) | none => True) (b4 : len ≤ cap) :
    (Instr.sliceBounds isSlice len cap (lo.map ρ) (hi.map ρ) (mx.map ρ)).run P w =
      .ok (optN l 0, optN h len, optN m cap) w := by
  have val : ∀ {x : Option Operand} {x' : Option AOpd} {n : Option Int}, optOpd gs x = some x' → optInt (x'.map α) = some n → (x = none ∧ n = none) ∨ ∃ a k i, x = some a ∧ n = some i ∧ ρ a = .int k i := by
    intro x x' n hx hn
    rcases optOpd_inv hx with ⟨rfl, rfl⟩ | ⟨a, b, rfl, rfl, hab⟩
    · simp [optInt] at hn; exact .inl ⟨rfl, hn.symm⟩
    · rcases optInt_some hn with ⟨h, _⟩ | ⟨y, k, i, hy, hyk, rfl⟩
      · cases h
      · cases hy
        have := hα a b hab
        rw [hyk] at this
        exact .inr ⟨a, k, i, rfl, rfl, rep_int this⟩
  rcases val h1 e1 with ⟨rfl, rfl⟩ | ⟨al, kl, il, rfl, rfl, vl⟩ <;> rcases val h2 e2 with ⟨rfl, rfl⟩ | ⟨ah, kh, ih, rfl, rfl, vh⟩ <;> rcases val h3 e3 with ⟨rfl, rfl⟩ | ⟨am, km, im, rfl, rfl, vm⟩ <;>
    simp only at b1 b2 b3 <;> (try cases b2; done)
  · simp [Instr.sliceBounds]
  · have r2 := run_sliceBound (P := P) w kh ih cap (if isSlice = true then .sliceAcap else .sliceAlen) b2.1 b2.2
    simp [Instr.sliceBounds, vh, r2]
  · have r2 := run_sliceBound (P := P) w kh ih im.toNat .slice3B b2.1 (by omega)
    have r3 := run_sliceBound (P := P) w km im cap (if isSlice = true then .slice3Acap else .slice3Alen) b3.1 b3.2
    simp [Instr.sliceBounds, vh, vm, r2, r3]
  · have r1 := run_sliceBound (P := P) w kl il len .sliceB b1.1 b1.2
    simp [Instr.sliceBounds, vl, r1]
  · have r1 := run_sliceBound (P := P) w kl il ih.toNat .sliceB b1.1 (by omega)
    have r2 := run_sliceBound (P := P) w kh ih cap (if isSlice = true then .sliceAcap else .sliceAlen) b2.1 b2.2
    simp [Instr.sliceBounds, vl, vh, r1, r2]
  · have r1 := run_sliceBound (P := P) w kl il ih.toNat .slice3C b1.1 (by omega)
    have r2 := run_sliceBound (P := P) w kh ih im.toNat .slice3B b2.1 (by omega)
    have r3 := run_sliceBound (P := P) w km im cap (if isSlice = true then .slice3Acap else .slice3Alen) b3.1 b3.2
    simp [Instr.sliceBounds, vl, vh, vm, r1, r2, r3]

end Go.AL
/- The abstract layer: maps. -/
set_option linter.unusedVariables false
set_option linter.unusedSimpArgs false
namespace Go.AL
variable {ι ι' : Nat → Option Nat} {S S' : Store} {F : Nat → Nat → Prop} {w w' : World} {P : Program}

def keyDesc (str : Bool) : TypeDesc := if str then .string else .int .i64

theorem isKey {str : Bool} {k : AV} {v : Value} (h : Rep ι F w v k) (hk : keyOK str k) : MapKept.IsKey (keyDesc str) v := by
  unfold keyOK at hk
  split at hk
  · cases h; subst hk; exact rfl
  · cases h; subst hk; trivial
  · exact hk.elim

theorem byteArray_beq (a b : ByteArray) : (a == b) = decide (a = b) := by
  cases a with | mk a => cases b with | mk b =>
  show (a == b) = _
  by_cases h : a = b
  · subst h; simp
  · simp [h]

theorem keq_now {str : Bool} {k k' : AV} {v v' : Value} (h : Rep ι F w v k) (h' : Rep ι F w v' k') (hk : keyOK str k) {b : Bool} (hq : keq k k' = some b) : Instr.sameNow (keyDesc str) v v' = some b := by
  unfold keyOK at hk
  split at hk
  · subst hk
    cases h
    cases k' <;> simp only [keq] at hq <;> try (cases hq; done)
    cases h'
    split at hq
    · rename_i e
      cases hq
      subst e
      rename_i x y
      by_cases h : x = y <;> simp [Instr.sameNow, keyDesc, h]
    · cases hq
  · subst hk
    cases h
    cases k' <;> simp only [keq] at hq <;> try (cases hq; done)
    cases h'
    cases hq
    simp [Instr.sameNow, keyDesc, byteArray_beq]
  · exact hk.elim

theorem keq_eq {k k' : AV} {v v' : Value} (h : Rep ι F w v k) (h' : Rep ι F w v' k') (hq : keq k k' = some true) : v' = v := by
  cases k <;> cases k' <;> simp only [keq] at hq <;> try (cases hq; done)
  · cases h; cases h'
    split at hq
    · rename_i e
      simp at hq
      rw [e, hq]
    · cases hq
  · cases h; cases h'
    simp at hq
    rw [hq]

theorem mfind_now {str : Bool} {k : AV} {v : Value} (hv : Rep ι F w v k) (hk : keyOK str k) : ∀ (es : List (Nat × AV × AV)) (ces : List MapEntry) (i : Nat), ces.length = es.length →
    (∀ (j : Nat) (e : MapEntry) p, ces[j]? = some e → es[j]? = some p → Rep ι F w e.key p.2.1) → ∀ r, mfind k es i = some r →
    (match r with | none => Instr.findNow (keyDesc str) v ces i = some none | some j => i ≤ j ∧ j - i < es.length ∧ ∃ e, ces[j - i]? = some e ∧ e.key = v ∧ Instr.findNow (keyDesc str) v ces i = some (some (j, e.val))) := by
  intro es
  induction es with
  | nil =>
    intro ces i hl _ r hr
    simp [mfind] at hr
    subst hr
    have : ces = [] := List.length_eq_zero_iff.1 (by simpa using hl)
    subst this
    rfl
  | cons p es ih =>
    intro ces i hl hrep r hr
    cases ces with
    | nil => simp at hl
    | cons e ces =>
      have h0 := hrep 0 e p rfl rfl
      simp only [mfind] at hr
      split at hr
      · rename_i hq
        cases hr
        have := keq_now hv h0 hk hq
        exact ⟨Nat.le_refl _, by simp, e, by simp, keq_eq hv h0 hq, by simp [Instr.findNow, this]⟩
      · rename_i hq
        have hs := keq_now hv h0 hk hq
        have := ih ces (i + 1) (by simpa using hl) (fun j e' p' h1 h2 => hrep (j + 1) e' p' (by simpa using h1) (by simpa using h2)) r hr
        cases r with
        | none => simp only at this ⊢; simp [Instr.findNow, hs, this]
        | some j =>
          obtain ⟨h1, h2, e', h3, h3', h4⟩ := this
          refine ⟨by omega, by simp; omega, e', ?_, h3', by simp [Instr.findNow, hs, h4]⟩
          have : j - i = (j - (i + 1)) + 1 := by omega
          rw [this]; simpa using h3
      · cases hr

/-- What is known of a map's block. -/
theorem map_inv (hwf : WF ι S w) {o b clock : Nat} {es : List (Nat × AV × AV)} (ho : S o = some (.map es clock)) (hb : ι o = some b) :
    ∃ ces, w.heap[b]? = some (.map ces clock) ∧ ces.size = es.length ∧ ∀ (j : Nat) (e : MapEntry) p, ces[j]? = some e → es[j]? = some p → e.born = p.1 ∧ Rep ι (Foot ι S) w e.key p.2.1 ∧ Rep ι (Foot ι S) w e.val p.2.2 :=
  hwf.rep o _ b ho hb

theorem map_find (hwf : WF ι S w) {o b clock : Nat} {es : List (Nat × AV × AV)} (ho : S o = some (.map es clock)) (hb : ι o = some b) {str : Bool} {k : AV} {v : Value} (hv : Rep ι (Foot ι S) w v k) (hk : keyOK str k) {kt : TypeId}
    (hd : P.underlying kt = some (keyDesc str)) {r : Option Nat} (hr : mfind k es 0 = some r) {ces : Array MapEntry} (hh : w.heap[b]? = some (.map ces clock)) :
    (match r with | none => (Instr.findKey kt v ces.toList).run P w = .ok none w | some j => j < es.length ∧ ∃ e, ces[j]? = some e ∧ e.key = v ∧ (Instr.findKey kt v ces.toList).run P w = .ok (some (j, e.val)) w) := by
  obtain ⟨ces', h1, h2, h3⟩ := map_inv hwf ho hb
  rw [hh] at h1
  cases h1
  have := mfind_now hv hk es ces.toList 0 (by simpa using h2) (fun j e p he hp => (h3 j e p (by simpa using he) hp).2.1) r hr
  cases r with
  | none => exact MapKept.run_findKey hd this
  | some j =>
    obtain ⟨_, h5, e, h6, h6', h7⟩ := this
    exact ⟨by simpa using h5, e, by simpa using h6, h6', MapKept.run_findKey hd h7⟩

theorem rep_map {v : Value} {o : Nat} (h : Rep ι F w v (.map o)) : ∃ b, ι o = some b ∧ v = .map (some b) := by cases h with | map h => exact ⟨_, h, rfl⟩
theorem rep_nilmap {v : Value} (h : Rep ι F w v .nilmap) : v = .map none := by cases h; rfl

theorem look_rep {ok agg : Bool} {zs : List AV} {z : Value} {i : TypeInfo} (hz : RepL ι F w z.cells zs) (hz1 : ∀ (j : Nat) v, z.cells[j]? = some v → v.oneCell' = true)
    (hagg : (agg = true ∧ ∃ cs, z = .agg cs) ∨ (agg = false ∧ z.oneCell' = true)) {v : Option AV} {cv : Value} (hv : match v with | some x => Rep ι F w cv x | none => cv = z) :
    Rep ι F w (if ok then .tuple #[cv, .bool v.isSome] else cv) (lookAV ok zs agg v) := by
  have hx : Rep ι F w cv (v.getD (if agg = true then .agg zs else zs.headD .any)) := by
    cases v with
    | some x => exact hv
    | none =>
      simp only at hv
      subst hv
      simp only [Option.getD_none]
      rcases hagg with ⟨rfl, cs, rfl⟩ | ⟨rfl, h1⟩
      · exact .agg hz.1 hz1 hz.2
      · rw [Value.cells_of_isCell h1] at hz
        match zs, hz with
        | [x], hz => exact hz.2 0 _ x rfl rfl
        | [], hz => simp; exact .any _
        | _ :: _ :: _, hz => have := hz.1; simp at this
  unfold lookAV
  dsimp only
  generalize v.getD (if agg = true then AV.agg zs else zs.headD .any) = x at hx
  cases ok with
  | false => exact hx
  | true =>
    refine .tup rfl fun j u y hu hy => ?_
    cases j with
    | zero => simp at hu hy; subst hu hy; exact hx
    | succ j =>
      cases j with
      | zero => simp at hu hy; subst hu hy; exact .bool _
      | succ j => simp at hu

theorem noCells_map (es : Array MapEntry) (c : Nat) : noCells (.map es c) := fun _ _ _ h => by cases h
theorem noCells_iter (m : Option Nat) (a : Nat) (b : Array Nat) (c : Nat) : noCells (.mapIter m a b c) := fun _ _ _ h => by cases h

theorem mkmap_sound (hwf : WF ι S w) {n : Nat} (hι : ι n = none) : Step ι S w (putι ι n w.heap.size) (putS S n (.map [] 0)) (w.alloc (.map #[] 0)) ∧ WF (putι ι n w.heap.size) (putS S n (.map [] 0)) (w.alloc (.map #[] 0)) :=
  ⟨alloc_obj_step hwf hι _ _, alloc_obj_wf hwf hι _ _ ⟨#[], heap_alloc_eq w _, rfl, fun j e p he => by simp at he⟩⟩

theorem range_sound (hwf : WF ι S w) {n : Nat} (hι : ι n = none) {o b since : Nat} (hb : ι o = some b) : Step ι S w (putι ι n w.heap.size) (putS S n (.iter (some o) since [] since)) (w.alloc (.mapIter (some b) since #[] since)) ∧
    WF (putι ι n w.heap.size) (putS S n (.iter (some o) since [] since)) (w.alloc (.mapIter (some b) since #[] since)) :=
  ⟨alloc_obj_step hwf hι _ _, alloc_obj_wf hwf hι _ _ ⟨some b, heap_alloc_eq w _, b, putι_ext hι _ _ hb, rfl⟩⟩
theorem range_nil_sound (hwf : WF ι S w) {n : Nat} (hι : ι n = none) : Step ι S w (putι ι n w.heap.size) (putS S n (.iter none 0 [] 0)) (w.alloc (.mapIter none 0 #[] 0)) ∧
    WF (putι ι n w.heap.size) (putS S n (.iter none 0 [] 0)) (w.alloc (.mapIter none 0 #[] 0)) :=
  ⟨alloc_obj_step hwf hι _ _, alloc_obj_wf hwf hι _ _ ⟨none, heap_alloc_eq w _, rfl⟩⟩

theorem sameBits_key {str : Bool} {k : AV} {v : Value} (hv : Rep ι F w v k) (hk : keyOK str k) : Instr.sameBits 10000 v v = true := by
  unfold keyOK at hk
  split at hk
  · cases hv; simp [Instr.sameBits]
  · cases hv; simp [Instr.sameBits, byteArray_beq]
  · exact hk.elim

theorem update_sound (hwf : WF ι S w) {o b clock : Nat} {es : List (Nat × AV × AV)} (ho : S o = some (.map es clock)) (hb : ι o = some b) {str : Bool} {k x : AV} {kv xv : Value} (hv : Rep ι (Foot ι S) w kv k) (hk : keyOK str k) (hx : Rep ι (Foot ι S) w xv x)
    {t kt et : TypeId} (ht : P.underlying t = some (.map kt et)) (hd : P.underlying kt = some (keyDesc str)) {r : Option Nat} (hr : mfind k es 0 = some r) :
    ∃ w', (Instr.mapUpdate t (.map (some b)) kv xv).run P w = .ok () w' ∧
      Step ι S w ι (putS S o (mapSet es clock k x r)) w' ∧
      WF ι (putS S o (mapSet es clock k x r)) w' := by
  obtain ⟨ces, h1, h2, h3⟩ := map_inv hwf ho hb
  have hf := map_find (P := P) hwf ho hb hv hk hd hr h1
  have hck := MapKept.run_checkKey (P := P) (w := w) hd (isKey hv hk) false 9999
  cases r with
  | none =>
    refine ⟨putW w b (.map (ces.push { key := kv, val := xv, born := clock }) (clock + 1)), ?_, put_obj hwf ho hb h1 (noCells_map _ _) (noCells_map _ _) (fun _ => trivial) fun hR hh => ⟨_, hh, by simp [h2], fun j e p he hp => ?_⟩⟩
    · simp only at hf
      simp [Instr.mapUpdate, run_underlying ht, MapKept.run_getObj_map h1, hck, hf, MapKept.run_setObj_map _ h1, putW]
    · rw [Array.getElem?_push] at he
      split at he
      · rename_i hj
        cases he
        rw [hj, h2] at hp
        simp at hp
        subst hp
        exact ⟨rfl, hR _ _ hv, hR _ _ hx⟩
      · rename_i hj
        have hjl : j < es.length := by rw [← h2]; have := (Array.getElem?_eq_some_iff.1 he).1; omega
        rw [List.getElem?_append_left hjl] at hp
        obtain ⟨q1, q2, q3⟩ := h3 j e p he hp
        exact ⟨q1, hR _ _ q2, hR _ _ q3⟩
  | some i =>
    obtain ⟨hi, e0, he0, hkey, hf⟩ := hf
    refine ⟨putW w b (.map (ces.modify i fun e => { e with key := kv, val := xv }) clock), ?_, put_obj hwf ho hb h1 (noCells_map _ _) (noCells_map _ _) (fun _ => trivial) fun hR hh => ⟨_, hh, by simp [h2], fun j e p he hp => ?_⟩⟩
    · have hkt : (Instr.keyThatStays kv kv).run P w = .ok kv w := by simp [Instr.keyThatStays, sameBits_key hv hk]
      simp [Instr.mapUpdate, run_underlying ht, MapKept.run_getObj_map h1, hck, hf, he0, hkey, hkt, MapKept.run_setObj_map _ h1, putW]
    · rw [Array.getElem?_modify] at he
      rw [List.getElem?_modify] at hp
      cases hp1 : es[j]? with
      | none => rw [hp1] at hp; cases hp
      | some p1 =>
      rw [hp1] at hp
      simp only [Option.map_eq_map, Option.map_some, Option.some.injEq] at hp
      by_cases hij : i = j
      · subst hij
        simp only [if_true, Option.map_eq_some_iff] at he hp
        obtain ⟨e1, he1, rfl⟩ := he
        subst hp
        exact ⟨(h3 i e1 p1 he1 hp1).1, hR _ _ hv, hR _ _ hx⟩
      · simp only [hij, if_false] at he hp
        subst hp
        obtain ⟨q1, q2, q3⟩ := h3 j e p1 he hp1
        exact ⟨q1, hR _ _ q2, hR _ _ q3⟩

theorem delete_sound (hwf : WF ι S w) {o b clock : Nat} {es : List (Nat × AV × AV)} (ho : S o = some (.map es clock)) (hb : ι o = some b) {str : Bool} {k : AV} {kv : Value} (hv : Rep ι (Foot ι S) w kv k) (hk : keyOK str k)
    {t kt et rt : TypeId} {tys : Array TypeId} (ht0 : tys[0]? = some t) (ht : P.underlying t = some (.map kt et)) (hd : P.underlying kt = some (keyDesc str)) {r : Option Nat} (hr : mfind k es 0 = some r) :
    ∃ w', (Builtin.delete_ tys rt #[.map (some b), kv]).run P w = .ok (.tuple #[]) w' ∧
      Step ι S w ι (putS S o (mapDel es clock r)) w' ∧ WF ι (putS S o (mapDel es clock r)) w' := by
  obtain ⟨ces, h1, h2, h3⟩ := map_inv hwf ho hb
  have hf := map_find (P := P) hwf ho hb hv hk hd hr h1
  have hck := fun em => MapKept.run_checkKey (P := P) (w := w) hd (isKey hv hk) em 9999
  have h0 : (0 : Nat) < tys.size := (Array.getElem?_eq_some_iff.1 ht0).1
  have ht0' : tys[0] = t := (Array.getElem?_eq_some_iff.1 ht0).2
  cases r with
  | none =>
    refine ⟨putW w b (.map ces clock), ?_, put_obj hwf ho hb h1 (noCells_map _ _) (noCells_map _ _) (fun _ => trivial) fun hR hh => ⟨_, hh, h2, fun j e p he hp => ?_⟩⟩
    · simp only at hf
      simp [Builtin.delete_, ht0, ht0', h0, run_underlying ht, MapKept.run_getObj_map h1, hck, hf, MapKept.run_setObj_map _ h1, putW]
    · obtain ⟨q1, q2, q3⟩ := h3 j e p he hp
      exact ⟨q1, hR _ _ q2, hR _ _ q3⟩
  | some i =>
    obtain ⟨hi, e0, he0, hkey, hf⟩ := hf
    have hi' : i < ces.size := by omega
    refine ⟨putW w b (.map (ces.eraseIdxIfInBounds i) clock), ?_, put_obj hwf ho hb h1 (noCells_map _ _) (noCells_map _ _) (fun _ => trivial) fun hR hh => ⟨_, hh, ?_, fun j e p he hp => ?_⟩⟩
    · simp [Builtin.delete_, ht0, ht0', h0, run_underlying ht, MapKept.run_getObj_map h1, hck, hf, MapKept.run_setObj_map _ h1, putW]
    · simp [Array.eraseIdxIfInBounds, hi', List.length_eraseIdx, hi, h2]
    · have he' : (ces.toList.eraseIdx i)[j]? = some e := by
        have : (ces.eraseIdxIfInBounds i).toList = ces.toList.eraseIdx i := by simp [Array.eraseIdxIfInBounds, hi']
        rw [← this, Array.getElem?_toList]
        exact he
      rw [List.getElem?_eraseIdx] at he' hp
      split at he'
      · rename_i hlt
        rw [if_pos hlt] at hp
        obtain ⟨q1, q2, q3⟩ := h3 j e p (by simpa using he') hp
        exact ⟨q1, hR _ _ q2, hR _ _ q3⟩
      · rename_i hlt
        rw [if_neg hlt] at hp
        obtain ⟨q1, q2, q3⟩ := h3 (j + 1) e p (by simpa using he') hp
        exact ⟨q1, hR _ _ q2, hR _ _ q3⟩

theorem delete_nil {str : Bool} {k : AV} {kv : Value} (hv : Rep ι F w kv k) (hk : keyOK str k) {t kt et rt : TypeId} {tys : Array TypeId} (ht0 : tys[0]? = some t) (ht : P.underlying t = some (.map kt et)) (hd : P.underlying kt = some (keyDesc str)) :
    (Builtin.delete_ tys rt #[.map none, kv]).run P w = .ok (.tuple #[]) w := by
  have hck := fun em => MapKept.run_checkKey (P := P) (w := w) hd (isKey hv hk) em 9999
  have h0 : (0 : Nat) < tys.size := (Array.getElem?_eq_some_iff.1 ht0).1
  have ht0' : tys[0] = t := (Array.getElem?_eq_some_iff.1 ht0).2
  simp [Builtin.delete_, ht0, ht0', h0, run_underlying ht, hck]

theorem lookup_sound (hwf : WF ι S w) {o b clock : Nat} {es : List (Nat × AV × AV)} (ho : S o = some (.map es clock)) (hb : ι o = some b) {str : Bool} {k : AV} {kv : Value} (hv : Rep ι (Foot ι S) w kv k) (hk : keyOK str k)
    {t kt et : TypeId} (ht : P.underlying t = some (.map kt et)) (hd : P.underlying kt = some (keyDesc str)) {r : Option Nat} (hr : mfind k es 0 = some r) {ok agg : Bool} {zs : List AV} (hz : zeroAV P et = some zs) (ha : aggZ P et = some agg) :
    ∃ cv, (Instr.lookup t (.map (some b)) kv ok).run P w = .ok cv w ∧ Rep ι (Foot ι S) w cv (lookAV ok zs agg (r.bind fun i => (es[i]?).map (·.2.2))) := by
  obtain ⟨ces, h1, h2, h3⟩ := map_inv hwf ho hb
  have hf := map_find (P := P) hwf ho hb hv hk hd hr h1
  have hck := fun em => MapKept.run_checkKey (P := P) (w := w) hd (isKey hv hk) em 9999
  obtain ⟨i, z, hi, hiz, hzr, hz1, hzv, _⟩ := zeroAV_spec (ι := ι) (F := Foot ι S) (w := w) hz
  have hag : (agg = true ∧ ∃ cs, z = .agg cs) ∨ (agg = false ∧ z.oneCell' = true) := by
    simp only [aggZ, hi, hiz, Option.bind_some, Option.map_some, Option.some.injEq] at ha
    cases z <;> simp at ha <;> subst ha <;> first | exact .inl ⟨rfl, _, rfl⟩ | exact .inr ⟨rfl, hz1 0 _ rfl⟩
  cases r with
  | none =>
    refine ⟨_, ?_, look_rep (i := i) (cv := z) (v := none) hzr hz1 hag rfl⟩
    simp only at hf
    simp [Instr.lookup, run_underlying ht, MapKept.run_getObj_map h1, hck, hf, hzv]
  | some j =>
    obtain ⟨hj, e0, he0, hkey, hf⟩ := hf
    have hp : es[j]? = some es[j] := by simp [hj]
    have e1 : ((some j).bind fun i => (es[i]?).map (·.2.2)) = some es[j].2.2 := by simp [hp]
    rw [e1]
    refine ⟨_, ?_, look_rep (i := i) (cv := e0.val) (v := some es[j].2.2) hzr hz1 hag (h3 j e0 _ he0 hp).2.2⟩
    simp [Instr.lookup, run_underlying ht, MapKept.run_getObj_map h1, hck, hf, hzv]

theorem lookup_nil {str : Bool} {k : AV} {kv : Value} (hv : Rep ι F w kv k) (hk : keyOK str k)
    {t kt et : TypeId} (ht : P.underlying t = some (.map kt et)) (hd : P.underlying kt = some (keyDesc str)) {ok agg : Bool} {zs : List AV} (hz : zeroAV P et = some zs) (ha : aggZ P et = some agg) :
    ∃ cv, (Instr.lookup t (.map none) kv ok).run P w = .ok cv w ∧ Rep ι F w cv (lookAV ok zs agg none) := by
  have hck := fun em => MapKept.run_checkKey (P := P) (w := w) hd (isKey hv hk) em 9999
  obtain ⟨i, z, hi, hiz, hzr, hz1, hzv, _⟩ := zeroAV_spec (ι := ι) (F := F) (w := w) hz
  have hag : (agg = true ∧ ∃ cs, z = .agg cs) ∨ (agg = false ∧ z.oneCell' = true) := by
    simp only [aggZ, hi, hiz, Option.bind_some, Option.map_some, Option.some.injEq] at ha
    cases z <;> simp at ha <;> subst ha <;> first | exact .inl ⟨rfl, _, rfl⟩ | exact .inr ⟨rfl, hz1 0 _ rfl⟩
  refine ⟨_, ?_, look_rep (i := i) (cv := z) (v := none) hzr hz1 hag rfl⟩
  have hf : (Instr.findKey kt kv []).run P w = .ok none w := MapKept.run_findKey hd rfl
  simp [Instr.lookup, run_underlying ht, hck, hf, hzv]

theorem keyStr_spec {kt : TypeId} {str : Bool} (h : keyStr P kt = some str) : P.underlying kt = some (keyDesc str) := by
  unfold keyStr at h
  split at h
  · cases h; assumption
  · cases h; assumption
  · cases h

theorem flatten_get {zs : List AV} {sz : Nat} (hz : zs.length = sz) (hs : 0 < sz) : ∀ (n j : Nat) (x : AV), (List.replicate n zs).flatten[j]? = some x → j < n * sz ∧ zs[j % sz]? = some x := by
  intro n
  induction n with
  | zero => intro j x h; simp at h
  | succ n ih =>
    intro j x h
    rw [List.replicate_succ, List.flatten_cons] at h
    rw [Nat.succ_mul]
    by_cases hj : j < sz
    · rw [List.getElem?_append_left (by omega)] at h
      rw [Nat.mod_eq_of_lt hj]
      exact ⟨by omega, h⟩
    · rw [List.getElem?_append_right (by omega)] at h
      obtain ⟨h1, h2⟩ := ih _ x h
      rw [hz] at h1 h2
      refine ⟨by omega, ?_⟩
      have : j % sz = (j - sz) % sz := by
        conv => lhs; rw [show j = (j - sz) + sz by omega]
        exact Nat.add_mod_right _ _
      rw [this]; exact h2

theorem make_rep {z : Array Value} {zs : List AV} {sz n : Nat} (h : RepL ι F w z zs) (h1 : ∀ (j : Nat) v, z[j]? = some v → v.oneCell' = true) (hz : zs.length = sz) (hs : 0 < sz) :
    RepL ι F w (madeCells z (n * sz)) (List.replicate n zs).flatten ∧ ∀ (j : Nat) v, (madeCells z (n * sz))[j]? = some v → v.oneCell' = true := by
  have hsz : z.size = sz := h.1.trans hz
  have hget : ∀ (j : Nat) v, (madeCells z (n * sz))[j]? = some v → z[j % sz]? = some v := by
    intro j v hv
    simp only [madeCells, Array.getElem?_map, Option.map_eq_some_iff] at hv
    obtain ⟨k, hk, rfl⟩ := hv
    have hkj : k = j := by
      rw [Array.getElem?_range] at hk
      split at hk
      · cases hk; rfl
      · cases hk
    subst hkj
    have : k % z.size < z.size := Nat.mod_lt _ (by omega)
    rw [← hsz, getElem!_pos z _ this]
    simp [this]
  refine ⟨⟨?_, fun j v x hv hx => ?_⟩, fun j v hv => h1 _ v (hget j v hv)⟩
  · rw [size_madeCells]; simp [hz]
  · obtain ⟨_, h3⟩ := flatten_get hz hs n j x hx
    exact h.2 _ v x (hget j v hv) h3
end Go.AL
