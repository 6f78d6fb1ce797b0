/- The abstract layer: regions whose order is open: whatever order, the same comes out. -/
import Derived.Test.YtkegioliclbbhaaA12a
set_option linter.unusedVariables false
set_option linter.unusedSimpArgs false
namespace Go.AL

/-! ## The last writer among some -/
section
variable {α : Type}
def lw (L : Nat → Bool) (w : Nat → Option α) : Nat → Option α
  | 0 => none
  | k + 1 => if L k then (match w k with | some x => some x | none => lw L w k) else lw L w k

theorem lw_congr {L L' : Nat → Bool} {w : Nat → Option α} : ∀ {n : Nat}, (∀ j, j < n → w j ≠ none → L j = L' j) → lw L w n = lw L' w n
  | 0, _ => rfl
  | n + 1, h => by
    have ih := lw_congr (n := n) fun j hj => h j (by omega)
    simp only [lw]
    cases hw : w n with
    | none => simp [ih]
    | some x =>
      have := h n (by omega) (by simp [hw])
      rw [this, ih]

def addL (i : Nat) (L : Nat → Bool) : Nat → Bool := fun j => L j || j == i

theorem lw_add_none {L : Nat → Bool} {w : Nat → Option α} {i n : Nat} (h : w i = none) : lw (addL i L) w n = lw L w n :=
  lw_congr fun j _ hj => by
    have : j ≠ i := fun e => hj (e ▸ h)
    simp [addL, this]

theorem lw_add_some {L : Nat → Bool} {w : Nat → Option α} {i : Nat} {x : α} (h : w i = some x) : ∀ {n : Nat}, i < n → (∀ j, i < j → j < n → L j = true → w j = none) → lw (addL i L) w n = some x
  | n + 1, hi, hl => by
    simp only [lw]
    by_cases e : i = n
    · subst e
      simp [addL, h]
    · have ih := lw_add_some h (n := n) (by omega) fun j h1 h2 => hl j h1 (by omega)
      rw [ih]
      cases hL : addL i L n with
      | false => rfl
      | true =>
        have hn : L n = true := by
          have : (n == i) = false := by simp; omega
          simpa [addL, this] using hL
        rw [hl n (by omega) (by omega) hn]
        rfl
end

def pre (i : Nat) : Nat → Bool := fun j => decide (j < i)
theorem pre_succ (i : Nat) : pre (i + 1) = addL i (pre i) := by
  funext j
  simp only [pre, addL]
  by_cases h : j < i
  · simp [h, Nat.lt_succ_of_lt h]
  · by_cases e : j = i
    · subst e; simp
    · have h1 : ¬ j < i + 1 := by omega
      simp [h, h1, e]

def slotW (dst : Nat → Option (Bool × Nat)) (rec : Nat → Rec) (t : Nat) (j : Nat) : Option AV :=
  match dst j with
  | some (_, u) => if u = t then some (rec j).v else none
  | none => none

def objW (rec : Nat → Rec) (q : Nat) (j : Nat) : Option (Option AObj) :=
  if (rec j).new.isSome = true ∧ (rec j).nid = q then some (rec j).new
  else if (rec j).t = some q then (match (rec j).u with | .set ob => some (some ob) | .del => some none | .keep => none) else none

def EL (dst : Nat → Option (Bool × Nat)) (rec : Nat → Rec) (E0 : Nat → AV) (n : Nat) (L : Nat → Bool) (t : Nat) : AV := (lw L (slotW dst rec t) n).getD (E0 t)
def SL (rec : Nat → Rec) (S0 : Store) (n : Nat) (L : Nat → Bool) : Store := fun q => (lw L (objW rec q) n).getD (S0 q)

/-! ## What must come ahead -/

theorem befores_spec : ∀ (l : List Oper) (acc : List (List Nat)), (befores l acc).length = acc.length + l.length ∧ (befores l acc).take acc.length = acc ∧
    ∀ (i : Nat) o, l[i]? = some o → (befores l acc).getD (acc.length + i) [] = o.after.toList.foldl (fun s e => if Region.binds .any e then ins (e.on :: ((befores l acc).take (acc.length + i)).getD e.on []) s else s) []
  | [], acc => by simp [befores]
  | o :: r, acc => by
    obtain ⟨h1, h2, h3⟩ := befores_spec r (acc ++ [o.after.toList.foldl (fun s e => if Region.binds .any e then ins (e.on :: acc.getD e.on []) s else s) []])
    simp only [List.length_append, List.length_cons, List.length_nil, Nat.zero_add] at h1 h2 h3
    refine ⟨by simp only [befores]; rw [h1]; simp; omega, ?_, ?_⟩
    · simp only [befores]
      have := congrArg (List.take acc.length) h2
      rw [List.take_take, Nat.min_eq_left (by omega)] at this
      rw [this]; simp
    · intro i o' ho
      simp only [befores]
      cases i with
      | zero =>
        simp only [List.getElem?_cons_zero, Option.some.injEq] at ho
        subst ho
        have e1 : (befores r (acc ++ [o.after.toList.foldl (fun s e => if Region.binds .any e then ins (e.on :: acc.getD e.on []) s else s) []])).take acc.length = acc := by
          have := congrArg (List.take acc.length) h2
          rw [List.take_take, Nat.min_eq_left (by omega)] at this
          rw [this]; simp
        rw [Nat.add_zero, e1]
        have e2 : (befores r (acc ++ [o.after.toList.foldl (fun s e => if Region.binds .any e then ins (e.on :: acc.getD e.on []) s else s) []]))[acc.length]? = some (o.after.toList.foldl (fun s e => if Region.binds .any e then ins (e.on :: acc.getD e.on []) s else s) []) := by
          have := congrArg (fun l : List (List Nat) => l[acc.length]?) h2
          rw [List.getElem?_take_of_lt (by omega)] at this
          rw [this]; simp
        rw [List.getD_eq_getElem?_getD, e2]
        rfl
      | succ i =>
        simp only [List.getElem?_cons_succ] at ho
        have := h3 i o' ho
        rwa [show acc.length + 1 + i = acc.length + (i + 1) by omega] at this

theorem mem_fold_after {f : Nat → List Nat} {j : Nat} : ∀ (l : List Edge) (s : List Nat), j ∈ l.foldl (fun s e => if Region.binds .any e then ins (e.on :: f e.on) s else s) s → j ∈ s ∨ ∃ e ∈ l, Region.binds .any e = true ∧ (j = e.on ∨ j ∈ f e.on)
  | [], s, h => .inl h
  | e :: l, s, h => by
    rcases mem_fold_after l _ h with h | ⟨e', h1, h2⟩
    · dsimp only at h
      split at h
      · rename_i hb
        rcases mem_ins h with h | h
        · simp only [List.mem_cons] at h
          rcases h with h | h
          · exact .inr ⟨e, by simp, hb, .inl h⟩
          · exact .inr ⟨e, by simp, hb, .inr h⟩
        · exact .inl h
      · exact .inl h
    · exact .inr ⟨e', by simp [h1], h2⟩

theorem mem_before {ops : Array Oper} {i j : Nat} {o : Oper} (ho : ops[i]? = some o) (h : j ∈ (befores ops.toList []).getD i []) :
    ∃ e ∈ o.after.toList, Region.binds .any e = true ∧ (j = e.on ∨ (e.on < i ∧ j ∈ (befores ops.toList []).getD e.on [])) := by
  obtain ⟨_, _, h3⟩ := befores_spec ops.toList []
  have := h3 i o (by simpa using ho)
  simp only [List.length_nil, Nat.zero_add] at this
  rw [this] at h
  rcases mem_fold_after (f := fun k => (List.take i (befores ops.toList [])).getD k []) _ _ h with h | ⟨e, h1, h2, h4⟩
  · simp at h
  · refine ⟨e, h1, h2, ?_⟩
    rcases h4 with h4 | h4
    · exact .inl h4
    · by_cases hlt : e.on < i
      · refine .inr ⟨hlt, ?_⟩
        rw [List.getD_eq_getElem?_getD, List.getElem?_take_of_lt hlt, ← List.getD_eq_getElem?_getD] at h4
        exact h4
      · rw [List.getD_eq_getElem?_getD, List.getElem?_eq_none (by simp; omega)] at h4
        simp at h4

/-- What is listed is closed: with an operation all that must come ahead of it. -/
def Closed (ops : Array Oper) (L : Nat → Bool) : Prop := ∀ (i : Nat) o, ops[i]? = some o → L i = true → ∀ e ∈ o.after.toList, Region.binds .any e = true → L e.on = true

theorem closed_before {ops : Array Oper} {L : Nat → Bool} (hc : Closed ops L) (hin : ∀ i, L i = true → i < ops.size) : ∀ (i : Nat) o, ops[i]? = some o → (∀ e ∈ o.after.toList, Region.binds .any e = true → L e.on = true) →
    ∀ j ∈ (befores ops.toList []).getD i [], L j = true := by
  intro i
  induction i using Nat.strongRecOn with
  | _ i ih =>
    intro o ho hd j hj
    obtain ⟨e, h1, h2, h3⟩ := mem_before ho hj
    rcases h3 with rfl | ⟨hlt, h3⟩
    · exact hd e h1 h2
    · have hL := hd e h1 h2
      have hsz := hin _ hL
      have ho' : ops[e.on]? = some ops[e.on] := by simp [hsz]
      exact ih e.on hlt _ ho' (hc e.on _ ho' hL) j h3

/-! ## What operations look at and write -/

theorem touch_looks {op : AOp} {α : AOpd → AV} {q : Nat} (h : op.touch α = some q) : op.looks = true := by
  cases op <;> simp only [AOp.touch] at h <;> first | rfl | cases h

theorem ev_writes {op : AOp} {α : AOpd → AV} {nx : Nat} {obj : Option AObj} {r : Res} (h : op.ev α nx obj = some r) (hu : r.upd ≠ .keep) : op.writes = true := by
  cases op <;> simp only [AOp.ev] at h <;> (try rfl) <;> exfalso <;> (try (cases h; done)) <;> (try (cases h; exact hu rfl))
  all_goals (repeat' (split at h)) <;> (try (cases h; done)) <;> (try (cases h; exact hu rfl))
  all_goals
    simp only [Option.map_eq_some_iff] at h
    obtain ⟨v, _, rfl⟩ := h
    exact hu rfl

theorem ev_makes {op : AOp} {α : AOpd → AV} {nx : Nat} {obj : Option AObj} {r : Res} (h : op.ev α nx obj = some r) (hu : r.new.isSome = true) : op.makes = true := by
  cases op <;> simp only [AOp.ev] at h <;> (try rfl) <;> exfalso <;> (try (cases h; done)) <;> (try (cases h; simp at hu; done))
  all_goals (repeat' (split at h)) <;> (try (cases h; done)) <;> (try (cases h; simp at hu; done))
  all_goals
    simp only [Option.map_eq_some_iff] at h
    obtain ⟨v, _, rfl⟩ := h
    simp at hu

/-- Where nothing is made the number is not asked for. -/
theorem ev_any {op : AOp} {α : AOpd → AV} {nx : Nat} {obj : Option AObj} {r : Res} (h : op.ev α nx obj = some r) (hn : r.new = none) (m : Nat) : op.ev α m obj = some r := by
  cases hm : op.makes with
  | false => cases op <;> first | exact h | (simp [AOp.makes] at hm; done)
  | true =>
    exfalso
    cases op <;> simp [AOp.makes] at hm <;> simp only [AOp.ev] at h <;> (try (cases h; done)) <;> (try (cases h; cases hn; done))
    all_goals (repeat' (split at h)) <;> (try (cases h; done)) <;> (try (cases h; cases hn; done))

theorem compileAny_flag {P : Program} {gs : List Nat} {o : Oper} {a b : AOp} (ha : compileAny P gs true o = some a) (hb : compileAny P gs false o = some b) :
    a.isCall = b.isCall ∧ (a.isCall = true → ∃ f as, a = .call true f as) ∧ (a.isCall = false → a = b) := by
  unfold compileAny at ha hb
  split at ha
  · rename_i f args hv
    simp only [hv] at hb
    simp only [Option.bind_eq_bind] at ha hb
    cases h1 : opd gs f <;> cases h2 : opds gs args <;> simp [h1, h2] at ha hb
    subst ha hb
    exact ⟨rfl, fun _ => ⟨_, _, rfl⟩, fun h => by cases h⟩
  · rename_i hv
    simp only [hv] at hb
    rw [ha] at hb
    cases hb
    refine ⟨rfl, fun h => ?_, fun _ => rfl⟩
    cases hc : compileOp P gs o with
    | none => simp [hc] at ha
    | some x =>
      simp only [hc, Option.filter] at ha
      split at ha
      · rename_i hx
        cases ha
        simp [h] at hx
      · cases ha

end Go.AL
