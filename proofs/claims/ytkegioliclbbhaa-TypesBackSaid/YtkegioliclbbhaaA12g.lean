/- The abstract layer: regions of open order that end in order. -/
import Derived.Test.YtkegioliclbbhaaA12
set_option linter.unusedVariables false
set_option linter.unusedSimpArgs false
namespace Go.AL
variable {P : Program} {gs : List Nat} {N : Nat} {ι ι' : Nat → Option Nat} {g l : Env} {s s' : St} {a : Act} {w w' : World}

structure Suf (ops : Array Oper) (k : Nat) : Prop where
  le : k ≤ ops.size
  back : ∀ (j : Nat) o, ops[j]? = some o → ∀ e ∈ o.after.toList, Region.binds .any e = true → e.on < j
  all : ∀ j, k ≤ j → j < ops.size → ∀ i, i < j → i ∈ (befores ops.toList []).getD j []
  guard : ∀ (j : Nat) o, ops[j]? = some o → j < k → ∀ i want, o.guard = some (i, want) → i < k

theorem sufOK_spec {ops : Array Oper} {k : Nat} (h : sufOK ops k = true) : Suf ops k := by
  simp only [sufOK, Bool.and_eq_true, decide_eq_true_eq, List.all_eq_true, List.mem_range] at h
  obtain ⟨h1, h2⟩ := h
  have get : ∀ (j : Nat) o, ops[j]? = some o → _ := fun j o ho => h2 j (Array.getElem?_eq_some_iff.1 ho).1
  refine ⟨h1, fun j o ho e he hb => ?_, fun j hkj hj i hij => ?_, fun j o ho hjk i want hg => ?_⟩
  · have := get j o ho
    rw [ho] at this
    simp only [List.all_eq_true] at this
    have := this.1.1 e he
    simpa [hb] using this
  · have := (h2 j hj).1.2
    simp only [Bool.or_eq_true, decide_eq_true_eq, List.all_eq_true, List.mem_range, List.contains_iff_mem] at this
    rcases this with h | h
    · omega
    · exact h i hij
  · have := get j o ho
    rw [ho] at this
    have := this.2
    simp only [hg, Bool.or_eq_true, decide_eq_true_eq] at this
    omega


theorem preOps_get {ops : Array Oper} {k i : Nat} (h : i < k) : (preOps ops k)[i]? = ops[i]? := by
  simp [preOps, List.getElem?_take_of_lt h]
theorem preOps_size {ops : Array Oper} {k : Nat} (h : k ≤ ops.size) : (preOps ops k).size = k := by simp [preOps]; omega

theorem wpOp_pre {ops : Array Oper} {k i : Nat} (hs : Suf ops k) (hi : i < k) {Q : Exit → Act → World → Prop} {K : Act → World → Prop} (h : wpOp P (preOps ops k) Q i K a w) : wpOp P ops Q i K a w := by
  unfold wpOp at h ⊢
  rw [preOps_get hi] at h
  cases ho : ops[i]? with
  | none => simpa only [ho] using h
  | some o =>
    simp only [ho] at h ⊢
    have : Region.wanted o (yielded (preOps ops k) a.tmps) = Region.wanted o (yielded ops a.tmps) := by
      unfold Region.wanted
      cases hg : o.guard with
      | none => rfl
      | some jw =>
        obtain ⟨j, want⟩ := jw
        have := hs.guard i o ho hi j want hg
        simp only [yielded, preOps_get this]
    rw [this] at h
    exact h

def firstN (n m : Nat) : Array Bool := ((List.replicate m true) ++ List.replicate (n - m) false).toArray
theorem LA_firstN {n m : Nat} : LA (firstN n m) = fun j => decide (j < m) := by
  funext j
  simp only [LA, firstN, Array.getD_eq_getD_getElem?, List.getElem?_toArray]
  by_cases h : j < m
  · rw [List.getElem?_append_left (by simpa using h)]; simp [h]
  · rw [List.getElem?_append_right (by simp; omega)]
    by_cases h2 : j - m < n - m <;> simp [h, List.getElem?_replicate, h2]
theorem size_firstN {n m : Nat} (h : m ≤ n) : (firstN n m).size = n := by simp [firstN]; omega
theorem firstN_get {n m j : Nat} : (firstN n m)[j]? = if j < m then some true else if j < n then some false else none := by
  simp only [firstN, List.getElem?_toArray]
  by_cases h : j < m
  · rw [List.getElem?_append_left (by simpa using h)]; simp [h]
  · rw [List.getElem?_append_right (by simp; omega), if_neg h]
    simp only [List.length_replicate, List.getElem?_replicate]
    by_cases h2 : j < n
    · rw [if_pos h2, if_pos (by omega)]
    · rw [if_neg h2, if_neg (by omega)]
theorem firstN_set {n m : Nat} (h : m < n) : (firstN n m).setIfInBounds m true = firstN n (m + 1) := by
  apply Array.ext_getElem?
  intro j
  have hs := size_firstN (n := n) (m := m) (by omega)
  by_cases e : m = j
  · subst e
    rw [firstN_get, if_pos (by omega)]
    simp [hs, h]
  · rw [Array.getElem?_setIfInBounds_ne e, firstN_get, firstN_get]
    by_cases h1 : j < m
    · rw [if_pos h1, if_pos (by omega)]
    · rw [if_neg h1, if_neg (by omega : ¬ j < m + 1)]

theorem mem_ready {ops : Array Oper} {listed : Array Bool} {i : Nat} {o : Oper} (hsz : listed.size = ops.size) (ho : ops[i]? = some o) (hL : LA listed i = false)
    (hd : ∀ e ∈ o.after.toList, Region.binds .any e = true → LA listed e.on = true) : i ∈ Region.ready .any ops listed := by
  have hi := (Array.getElem?_eq_some_iff.1 ho).1
  simp only [Region.ready, List.mem_filter, List.mem_range, Bool.and_eq_true, Bool.not_eq_true']
  refine ⟨hi, ?_, ?_⟩
  · have hlt' : i < listed.size := by rw [hsz]; exact hi
    have e1 : listed.getD i true = listed[i] := by simp [hlt']
    have e2 : listed.getD i false = listed[i] := by simp [hlt']
    simp only [LA] at hL
    rw [e1, ← e2]; exact hL
  · rw [ho]
    simp only [Option.map_some, Option.getD_some, Array.all_eq_true', Bool.or_eq_true, Bool.not_eq_true']
    intro e he
    cases hb : Region.binds .any e with
    | false => exact .inl rfl
    | true => exact .inr (hd e (by simpa using he) hb)

/-- What is in order is listed in order. -/
theorem wpAny_seq {ops : Array Oper} {k : Nat} (hs : Suf ops k) {Q : Exit → Act → World → Prop} : ∀ (fuel m : Nat) (a : Act) (w : World), k ≤ m → m ≤ ops.size → ops.size - m ≤ fuel → wpOps P ops Q (List.range' m (ops.size - m)) a w → wpAny P .any ops Q fuel (firstN ops.size m) a w := by
  have hready : ∀ m, k ≤ m → m ≤ ops.size → ∀ i ∈ Region.ready .any ops (firstN ops.size m), i = m := by
    intro m hkm hm i hi
    obtain ⟨o, ho, hL, hd⟩ := ready_mem (size_firstN hm) hi
    have hin : ∀ i, LA (firstN ops.size m) i = true → i < ops.size := fun i h => by rw [LA_firstN] at h; simp at h; omega
    have hcl : Closed ops (LA (firstN ops.size m)) := by
      intro j o' ho' hj e he hb
      rw [LA_firstN] at hj ⊢
      simp at hj ⊢
      have := hs.back j o' ho' e he hb
      omega
    have hb := closed_before hcl hin i o ho hd
    have hil := (Array.getElem?_eq_some_iff.1 ho).1
    rw [LA_firstN] at hL hb
    simp at hL hb
    rcases Nat.lt_or_ge m i with h | h
    · have := hb m (hs.all i (by omega) hil m h)
      omega
    · omega
  intro fuel
  induction fuel with
  | zero =>
    intro m a w hkm hm hf h
    have e : m = ops.size := by omega
    subst e
    refine ⟨?_, by simpa [wpOps] using h⟩
    cases hr : Region.ready .any ops (firstN ops.size ops.size) with
    | nil => rfl
    | cons i r =>
      obtain ⟨o, ho, hL, hd⟩ := ready_mem (size_firstN hm) (by rw [hr]; simp : i ∈ _)
      rw [LA_firstN] at hL
      have := (Array.getElem?_eq_some_iff.1 ho).1
      simp at hL
      omega
  | succ fuel ih =>
    intro m a w hkm hm hf h
    rcases Nat.lt_or_ge m ops.size with hlt | hge
    · have ho : ops[m]? = some ops[m] := by simp [hlt]
      refine ⟨fun hr => ?_, fun i hi => ?_⟩
      · have := mem_ready (listed := firstN ops.size m) (size_firstN hm) ho (by rw [LA_firstN]; simp) (fun e he hb => by
          rw [LA_firstN]; simpa using hs.back m _ ho e he hb)
        rw [hr] at this
        cases this
      · have := hready m hkm hm i hi
        subst this
        rw [show ops.size - i = (ops.size - (i + 1)) + 1 by omega, List.range'_succ, wpOps_cons] at h
        rw [firstN_set hlt]
        exact wpOp_mono (fun a w h => ih (i + 1) a w (by omega) (by omega) (by omega) h) h
    · have e : m = ops.size := by omega
      subst e
      refine ⟨fun _ => by simpa [wpOps] using h, fun i hi => ?_⟩
      obtain ⟨o, ho, hL, hd⟩ := ready_mem (size_firstN hm) hi
      rw [LA_firstN] at hL
      have := (Array.getElem?_eq_some_iff.1 ho).1
      simp at hL
      omega

def padA (n : Nat) (l : Array Bool) : Array Bool := l ++ Array.replicate (n - l.size) false
theorem LA_pad {n : Nat} {l : Array Bool} : LA (padA n l) = LA l := by
  funext j
  simp only [LA, padA, Array.getD_eq_getD_getElem?]
  by_cases h : j < l.size
  · simp [Array.getElem?_append_left, h]
  · rw [Array.getElem?_append_right (by omega)]
    by_cases h2 : j - l.size < n - l.size <;> simp [h, Array.getElem?_replicate, h2]
theorem pad_size {n : Nat} {l : Array Bool} (h : l.size ≤ n) : (padA n l).size = n := by simp [padA]; omega
theorem pad_set {n i : Nat} {l : Array Bool} (h : i < l.size) : (padA n l).setIfInBounds i true = padA n (l.setIfInBounds i true) := by
  apply Array.ext_getElem?
  intro j
  have h1 : i < (padA n l).size := by simp [padA]; omega
  by_cases e : j = i
  · subst e; simp [padA, h, Array.getElem?_append_left]
  · have e' : i ≠ j := fun h => e h.symm
    rw [Array.getElem?_setIfInBounds_ne e']
    simp only [padA, Array.size_setIfInBounds]
    by_cases hj : j < l.size
    · rw [Array.getElem?_append_left hj, Array.getElem?_append_left (by simpa using hj), Array.getElem?_setIfInBounds_ne e']
    · rw [Array.getElem?_append_right (by omega), Array.getElem?_append_right (by simp; omega)]; simp
theorem pad_full {n : Nat} {l : Array Bool} (h : ∀ i, i < l.size → LA l i = true) : padA n l = firstN n l.size := by
  apply Array.ext_getElem?
  intro j
  rw [firstN_get]
  simp only [padA]
  by_cases hj : j < l.size
  · rw [Array.getElem?_append_left hj, if_pos hj]
    have := h j hj
    simp only [LA, Array.getD_eq_getD_getElem?, Array.getElem?_eq_getElem hj, Option.getD_some] at this
    rw [Array.getElem?_eq_getElem hj, this]
  · rw [Array.getElem?_append_right (by omega), if_neg hj, Array.getElem?_replicate]
    by_cases h2 : j < n
    · rw [if_pos h2, if_pos (by omega)]
    · rw [if_neg h2, if_neg (by omega)]

theorem draw_pre {ops : Array Oper} {k : Nat} (hs : Suf ops k) {os : List AOper} {rec : Nat → Rec} {E : Nat → Nat → AV} {S : Nat → Store} {nx : Nat → Nat} {ac : Nat → List (Nat × Nat)} {ι0 : Nat → Option Nat} {s0 : St} {w0 : World} {Q : Exit → Act → World → Prop}
    (D : Draw P gs N (preOps ops k) os rec E S nx ac) (hs0 : s0.nx ≤ nx 0)
    (hQ : ∀ listed ι M a w, DI gs N (preOps ops k) os rec E S nx ι0 s0 w0 listed ι M a w → (∀ i, i < (preOps ops k).size → LA listed i = true) → wpOps P ops Q (List.range' k (ops.size - k)) a w) :
    ∀ (fuel : Nat) (listed : Array Bool) (ι : Nat → Option Nat) (M : Nat) (a : Act) (w : World), ((List.range k).filter fun i => !LA listed i).length + (ops.size - k) ≤ fuel →
      DI gs N (preOps ops k) os rec E S nx ι0 s0 w0 listed ι M a w → wpAny P .any ops Q fuel (padA ops.size listed) a w := by
  have hpsz := preOps_size hs.le
  intro fuel
  induction fuel with
  | zero =>
    intro listed ι M a w hf h
    have hsz : listed.size = k := by rw [h.sz, hpsz]
    have hall : ∀ i, i < listed.size → LA listed i = true := by
      intro i hi
      cases hL : LA listed i with
      | true => rfl
      | false =>
        exfalso
        have : i ∈ (List.range k).filter fun i => !LA listed i := by rw [hsz] at hi; simp [List.mem_filter, hi, hL]
        have := List.length_pos_of_mem this
        omega
    rw [pad_full hall, hsz]
    exact wpAny_seq hs 0 k a w (Nat.le_refl _) hs.le (by omega) (hQ listed ι M a w h (by rw [hpsz, ← hsz]; exact hall))
  | succ fuel ih =>
    intro listed ι M a w hf h
    have hsz : listed.size = k := by rw [h.sz, hpsz]
    by_cases hall : ∀ i, i < listed.size → LA listed i = true
    · rw [pad_full hall, hsz]
      exact wpAny_seq hs (fuel + 1) k a w (Nat.le_refl _) hs.le (by omega) (hQ listed ι M a w h (by rw [hpsz, ← hsz]; exact hall))
    · have hin := LA_in h.sz
      have hcl : Closed ops (LA (padA ops.size listed)) := by
        rw [LA_pad]
        intro j o ho hj e he hb
        have hjk := hin j hj
        rw [hpsz] at hjk
        exact h.closed j o (by rw [preOps_get hjk]; exact ho) hj e he hb
      have hpad : (padA ops.size listed).size = ops.size := pad_size (by rw [hsz]; exact hs.le)
      have hless : ∃ i, i ∈ Region.ready .any (preOps ops k) listed := by
        cases hr : Region.ready .any (preOps ops k) listed with
        | nil => exact (hall fun i hi => all_listed D h.sz hr i (by rw [← h.sz]; exact hi)).elim
        | cons i r => exact ⟨i, by simp⟩
      refine ⟨fun hr => ?_, fun i hi => ?_⟩
      · exfalso
        obtain ⟨i, hi⟩ := hless
        obtain ⟨o, ho, hL, hd⟩ := ready_mem h.sz hi
        have hik := (Array.getElem?_eq_some_iff.1 ho).1
        rw [hpsz] at hik
        rw [preOps_get hik] at ho
        have := mem_ready (listed := padA ops.size listed) hpad ho (by rw [LA_pad]; exact hL) (by rw [LA_pad]; exact hd)
        rw [hr] at this
        cases this
      · obtain ⟨o, ho, hL, hd⟩ := ready_mem hpad hi
        have hio := (Array.getElem?_eq_some_iff.1 ho).1
        rw [LA_pad] at hL hd
        by_cases hik : i < k
        · rw [pad_set (by rw [hsz]; exact hik)]
          refine wpOp_pre hs hik (draw_step D h hs0 (by rw [preOps_get hik]; exact ho) hL hd fun ι' M' a' w' h' => ih _ ι' M' a' w' ?_ h')
          rw [LA_set (by rw [hsz]; exact hik)]
          have hlt : ((List.range k).filter fun j => !addL i (LA listed) j).length < ((List.range k).filter fun j => !LA listed j).length := by
            have hsub : ((List.range k).filter fun j => !addL i (LA listed) j) = (((List.range k).filter fun j => !LA listed j).filter fun j => j != i) := by
              rw [List.filter_filter]
              congr 1
              funext j
              simp only [addL, Bool.not_or]
              cases LA listed j <;> simp [bne]
            rw [hsub]
            have hmem : i ∈ (List.range k).filter fun j => !LA listed j := by simp [List.mem_filter, hik, hL]
            exact List.length_filter_lt_length_iff_exists.2 ⟨i, hmem, by simp⟩
          omega
        · exfalso
          apply hall
          intro j hj
          rw [hsz] at hj
          have hin' : ∀ i, LA (padA ops.size listed) i = true → i < ops.size := fun i h' => by rw [LA_pad] at h'; have := hin i h'; rw [hpsz] at this; have := hs.le; omega
          have := closed_before hcl hin' i o ho (by rw [LA_pad]; exact hd) j (hs.all i (by omega) hio j (by omega))
          rwa [LA_pad] at this

theorem suf_sound {ops : Array Oper} {k : Nat} {os suf : List AOper} {kinds : List AOp} {id : Nat} {ι0 : Nat → Option Nat} {s0 : St} {w0 : World} {K : Env → Env → St → Prop} {Q : Exit → Act → World → Prop} (hdraws : P.follows .mixedOrders = true)
    (hs : sufOK ops k = true) (hchk : (slotsOK (preOps ops k) (befores (preOps ops k).toList []) && edgesOK (preOps ops k) (befores (preOps ops k).toList [])) = true) (hk : kindsOf P gs (preOps ops k).toList = some kinds)
    (hc : compileDraw P gs N (preOps ops k) (befores (preOps ops k).toList []) kinds 0 (preOps ops k).toList = some os) (hsuf : compileSeq P gs N ops (ops.toList.drop k) = some suf)
    (hQ : ∀ ι' g' l' s' a' w', Rel gs N ι' g' l' s' a' w' → Step ι0 s0.m w0 ι' s'.m w' → Inc ι0 ι' s0.nx s'.nx → K g' l' s' → Q .normal a' w')
    (h : aopsD P 0 [] os (aops P suf K) g l s) (hrel : Rel gs N ι g l s a w) (hst : Step ι0 s0.m w0 ι s.m w) (hn : Inc ι0 ι s0.nx s.nx) : (Code.region id ops true).wp P Q a w := by
  have hS := sufOK_spec hs
  obtain ⟨rec, E, S, nx, ac, M, D, hs0, hdi, hend⟩ := draw_setup hchk hk hc h hrel hst hn
  have hpsz := preOps_size hS.le
  have key := draw_pre hS D hs0 (Q := Q) (fun listed ι' M a' w' k1 k2 => by
    obtain ⟨g', l', s', h1, h2, h3, h4⟩ := hend listed ι' M a' w' k1 k2
    have := seq_from hQ (ops.toList.drop k) k suf rfl hsuf ι' g' l' s' a' w' h4 h1 h2 h3
    simpa using this) ops.size _ ι M a _ (by
      have := List.length_filter_le (fun i => !LA (Array.replicate (preOps ops k).size false) i) (List.range k)
      have := hS.le
      simp only [List.length_range] at *
      omega) hdi
  have e : padA ops.size (Array.replicate (preOps ops k).size false) = Array.replicate ops.size false := by
    have := hS.le
    apply Array.ext_getElem?
    intro j
    simp only [padA, hpsz, Array.size_replicate]
    by_cases hj : j < k
    · rw [Array.getElem?_append_left (by simpa using hj)]
      have : j < ops.size := by omega
      simp [Array.getElem?_replicate, hj, this]
    · rw [Array.getElem?_append_right (by simp; omega)]
      simp only [Array.getElem?_replicate, Array.size_replicate]
      by_cases h2 : j < ops.size
      · rw [if_pos (by omega), if_pos h2]
      · rw [if_neg (by omega), if_neg h2]
  rw [e] at key
  exact wp_region_any hdraws key

end Go.AL
