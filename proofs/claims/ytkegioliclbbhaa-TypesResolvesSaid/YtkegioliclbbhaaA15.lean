/- The abstract layer: the stages of a walk, for simp. -/
import Derived.Test.YtkegioliclbbhaaA14
set_option linter.unusedVariables false
set_option linter.unusedSimpArgs false
namespace Go.AL
variable {P : Program}

section
variable {g l g' l' : Env} {s s' : St} {K : KS}

/-! ## simp does not look into what comes later -/
@[congr] theorem step_congr (op : AOp) (hg : g = g') (hl : l = l') (hs : s = s') : AOp.step P op g l s K = AOp.step P op g' l' s' K := by rw [hg, hl, hs]
@[congr] theorem aops_congr (os : List AOper) {K : Env → Env → St → Prop} (hg : g = g') (hl : l = l') (hs : s = s') : aops P os K g l s = aops P os K g' l' s' := by rw [hg, hl, hs]
@[congr] theorem aopsD_congr (i : Nat) {acc acc' : List (Nat × Nat)} (os : List AOper) {K : Env → Env → St → Prop} (ha : acc = acc') (hg : g = g') (hl : l = l') (hs : s = s') : aopsD P i acc os K g l s = aopsD P i acc' os K g' l' s' := by rw [hg, hl, hs, ha]
@[congr] theorem awp_congr (c : ACode) {Q : AExit → Env → St → Prop} (hg : g = g') (hs : s = s') : awp P c Q g s = awp P c Q g' s' := by rw [hg, hs]
@[congr] theorem guarded_congr (gd : Option (Bool × Nat × Bool)) {a b : Env → Env → Prop} (hg : g = g') (hl : l = l') : guarded gd g l a b = guarded gd g' l' a b := by rw [hg, hl]
@[congr] theorem setDst_congr (d : Option (Bool × Nat)) {v v' : AV} {a : Env → Env → Prop} (hv : v = v') (hg : g = g') (hl : l = l') : setDst d v g l a = setDst d v' g' l' a := by rw [hg, hl, hv]
section
variable {v v' u u' c c' : AV} {n n' : Nat} {agg : Bool} {ob ob' : Option AObj} {cs cs' : List AV}
@[congr] theorem ldK_congr (hc : cs = cs') (hs : s = s') : ldK n agg cs s K = ldK n agg cs' s' K := by rw [hc, hs]
@[congr] theorem ldO_congr {off off' : Nat} (hf : off = off') (hc : ob = ob') (hs : s = s') : ldO n agg off ob s K = ldO n agg off' ob' s' K := by rw [hc, hs, hf]
@[congr] theorem ldV_congr (hc : v = v') (hs : s = s') : ldV n agg v s K = ldV n agg v' s' K := by rw [hc, hs]
@[congr] theorem stO_congr {o o' off off' : Nat} (ho : o = o') (hf : off = off') (hx : v = v') (hc : ob = ob') (hs : s = s') : stO n o off v ob s K = stO n o' off' v' ob' s' K := by rw [ho, hf, hc, hs, hx]
@[congr] theorem stV_congr (hc : u = u') (hx : v = v') (hs : s = s') : stV n u v s K = stV n u' v' s' K := by rw [hc, hs, hx]
@[congr] theorem bxV_congr (hc : v = v') (hs : s = s') : bxV v s K = bxV v' s' K := by rw [hc, hs]
@[congr] theorem pkV_congr (h : c = c') (hc : v = v') (hx : u = u') (hs : s = s') : pkV c v u s K = pkV c' v' u' s' K := by rw [h, hc, hs, hx]
@[congr] theorem bdV_congr {zs : List AV} {ps ps' : List (Nat × Nat × AV)} (hc : ps = ps') (hs : s = s') : bdV zs ps s K = bdV zs ps' s' K := by rw [hc, hs]
@[congr] theorem bsV_congr {sz m : Nat} {z z' : AV} {ps ps' : List (Nat × AV)} (hz : z = z') (hc : ps = ps') (hs : s = s') : bsV sz z m ps s K = bsV sz z' m ps' s' K := by rw [hc, hs, hz]
@[congr] theorem ncV_congr (hc : v = v') (hs : s = s') : ncV v s K = ncV v' s' K := by rw [hc, hs]
@[congr] theorem bnV_congr {op : BinOp} (hc : v = v') (hx : u = u') (hs : s = s') : bnV op v u s K = bnV op v' u' s' K := by rw [hc, hs, hx]
@[congr] theorem eqV_congr {b : Bool} (hc : v = v') (hx : u = u') (hs : s = s') : eqV b v u s K = eqV b v' u' s' K := by rw [hc, hs, hx]
@[congr] theorem unV_congr {op : UnOp} (hc : v = v') (hs : s = s') : unV op v s K = unV op v' s' K := by rw [hc, hs]
@[congr] theorem cvV_congr {k : IntKind} (hc : v = v') (hs : s = s') : cvV k v s K = cvV k v' s' K := by rw [hc, hs]
@[congr] theorem faV_congr (hc : v = v') (hs : s = s') : faV n v s K = faV n v' s' K := by rw [hc, hs]
@[congr] theorem fdV_congr {off : Nat} (hc : v = v') (hs : s = s') : fdV off n agg v s K = fdV off n agg v' s' K := by rw [hc, hs]
@[congr] theorem iaV_congr (hc : v = v') (hx : u = u') (hs : s = s') : iaV n v u s K = iaV n v' u' s' K := by rw [hc, hs, hx]
@[congr] theorem isV_congr (hc : v = v') (hx : u = u') (hs : s = s') : isV v u s K = isV v' u' s' K := by rw [hc, hs, hx]
@[congr] theorem exV_congr (hc : v = v') (hs : s = s') : exV n v s K = exV n v' s' K := by rw [hc, hs]
@[congr] theorem lnV_congr (hc : v = v') (hs : s = s') : lnV v s K = lnV v' s' K := by rw [hc, hs]
@[congr] theorem lsV_congr (hc : v = v') (hs : s = s') : lsV v s K = lsV v' s' K := by rw [hc, hs]
@[congr] theorem apO_congr {sz o o' : Nat} {xs xs' ys ys' : List AV} (h : o = o') (h1 : xs = xs') (h2 : ys = ys') (hc : ob = ob') (hs : s = s') : apO sz o xs ys ob s K = apO sz o' xs' ys' ob' s' K := by rw [h, h1, h2, hc, hs]
@[congr] theorem amO_congr {sz m m' : Nat} {ys ys' : List AV} {s1 s1' : St} (h : m = m') (h2 : ys = ys') (hc : ob = ob') (hs : s = s') (hs1 : s1 = s1') : amO sz m ys ob s s1 K = amO sz m' ys' ob' s' s1' K := by rw [h, h2, hc, hs, hs1]
@[congr] theorem apV_congr {sz bytes : Nat} (hc : v = v') (hx : u = u') (hs : s = s') : apV sz bytes v u s K = apV sz bytes v' u' s' K := by rw [hc, hs, hx]
@[congr] theorem mnV_congr (hc : v = v') (hx : u = u') (hs : s = s') : mnV v u s K = mnV v' u' s' K := by rw [hc, hs, hx]
@[congr] theorem mxV_congr (hc : v = v') (hx : u = u') (hs : s = s') : mxV v u s K = mxV v' u' s' K := by rw [hc, hs, hx]
@[congr] theorem clV_congr {as as' : List AV} (hc : v = v') (hx : as = as') (hs : s = s') : clV P v as s K = clV P v' as' s' K := by rw [hc, hs, hx]
@[congr] theorem cpV_congr {as as' : List AV} (hc : v = v') (hx : as = as') (hs : s = s') : cpV P v as s K = cpV P v' as' s' K := by rw [hc, hs, hx]
@[congr] theorem ACalls_congr (f : FuncId) {as as' : List AV} (hx : as = as') (hs : s = s') : ACalls P f as s K = ACalls P f as' s' K := by rw [hs, hx]
end

/-! ## The stages -/
section
variable (n off o sz bytes : Nat) (cs xs ys : List AV) (x y v : AV) (i j : Int) (k k' : IntKind) (a b : Bool) (t t1 : Tok) (str str' : ByteArray) (f : FuncId) (as : List AV)
/-- What must be so, and the rest of the walk behind it. -/
def ok (A X : Prop) : Prop := A ∧ X
@[congr] theorem ok_congr {A A' X : Prop} (h : A = A') : ok A X = ok A' X := by rw [h]
@[simp] theorem ok_of {A X : Prop} (h : A) : ok A X = X := by simp [ok, h]
@[simp] theorem ok_true {X : Prop} : ok True X = X := by simp [ok]
@[simp] theorem ok_false {X : Prop} : ok False X = False := by simp [ok]
theorem ok_intro {A X : Prop} (h : A) (hx : go X) : go (ok A X) := ⟨h, hx⟩
/-- A call that only computes. -/
def pcV (P : Program) (f : FuncId) (as : List AV) (s : St) (K : KS) : Prop := ∃ r, PureC P f as r ∧ K r s
@[congr] theorem pcV_congr {P : Program} {f : FuncId} {as as' : List AV} {s s' : St} {K : KS} (ha : as = as') (hs : s = s') : pcV P f as s K = pcV P f as' s' K := by rw [ha, hs]
theorem pcV_intro {P : Program} {f : FuncId} {as : List AV} {s : St} {K : KS} {r : AV} (h : PureC P f as r) (hk : go (K r s)) : go (pcV P f as s K) := ⟨r, h, hk⟩
def oneK (cs : List AV) (s : St) (K : KS) : Prop := match cs with | x :: _ => K x s | [] => False
@[congr] theorem oneK_congr {cs cs' : List AV} (hc : cs = cs') (hs : s = s') : oneK cs s K = oneK cs' s' K := by rw [hc, hs]
theorem oneK_cons : oneK (x :: cs) s K = K x s := rfl
@[simp] theorem go_oneK_cons  : go (oneK (x :: cs) s K) = go (K x s) := by rw [oneK_cons]
theorem ldV_ptr (agg : Bool) : ldV n agg (.ptr o off) s K = ldO n agg off (s.m o) s K := rfl
@[simp] theorem go_ldV_ptr (agg : Bool)  : go (ldV n agg (.ptr o off) s K) = go (ldO n agg off (s.m o) s K) := by rw [ldV_ptr]
theorem ldV_cptr (agg : Bool) : ldV n agg (.cptr cs) s K = ldK n agg cs s K := rfl
@[simp] theorem go_ldV_cptr (agg : Bool)  : go (ldV n agg (.cptr cs) s K) = go (ldK n agg cs s K) := by rw [ldV_cptr]
theorem ldK_agg : ldK n true cs s K = ok (n ≤ cs.length) (K (.agg (cs.take n)) s) := rfl
@[simp] theorem go_ldK_agg  : go (ldK n true cs s K) = go (ok (n ≤ cs.length) (K (.agg (cs.take n)) s)) := by rw [ldK_agg]
theorem ldK_one : ldK n false cs s K = ok (n ≤ cs.length) (oneK cs s K) := by unfold ldK oneK; cases cs <;> rfl
@[simp] theorem go_ldK_one  : go (ldK n false cs s K) = go (ok (n ≤ cs.length) (oneK cs s K)) := by rw [ldK_one]
theorem ldO_agg : ldO n true off (some (.box cs)) s K = ok (off + n ≤ cs.length) (K (.agg ((cs.drop off).take n)) s) := rfl
@[simp] theorem go_ldO_agg  : go (ldO n true off (some (.box cs)) s K) = go (ok (off + n ≤ cs.length) (K (.agg ((cs.drop off).take n)) s)) := by rw [ldO_agg]
theorem ldO_one : ldO n false off (some (.box cs)) s K = ok (off + n ≤ cs.length) (oneK (cs.drop off) s K) := by simp only [ldO, oneK, loadAV, Bool.false_eq_true, if_false]; cases cs.drop off <;> rfl
@[simp] theorem go_ldO_one  : go (ldO n false off (some (.box cs)) s K) = go (ok (off + n ≤ cs.length) (oneK (cs.drop off) s K)) := by rw [ldO_one]
theorem stV_ptr : stV n (.ptr o off) x s K = stO n o off x (s.m o) s K := rfl
@[simp] theorem go_stV_ptr  : go (stV n (.ptr o off) x s K) = go (stO n o off x (s.m o) s K) := by rw [stV_ptr]
theorem stO_box : stO n o off x (some (.box cs)) s K = ok (x.isVal = true ∧ x.cells.length = n ∧ off + n ≤ cs.length) (K (.tup []) (s.set o (.box (cs.take off ++ x.cells ++ cs.drop (off + x.cells.length))))) := by simp only [stO, ok, storeAV, and_assoc]
@[simp] theorem go_stO_box  : go (stO n o off x (some (.box cs)) s K) = go (ok (x.isVal = true ∧ x.cells.length = n ∧ off + n ≤ cs.length) (K (.tup []) (s.set o (.box (cs.take off ++ x.cells ++ cs.drop (off + x.cells.length)))))) := by rw [stO_box]
theorem bxV_eq : bxV x s K = ok (x.isVal = true) (K (.ptr s.nx 0) (s.new (.box x.cells))) := rfl
@[simp] theorem go_bxV_eq  : go (bxV x s K) = go (ok (x.isVal = true) (K (.ptr s.nx 0) (s.new (.box x.cells)))) := by rw [bxV_eq]
theorem pkV_true : pkV (.bool true) x y s K = K x s := by unfold pkV pickAV; cases x <;> cases y <;> rfl
@[simp] theorem go_pkV_true  : go (pkV (.bool true) x y s K) = go (K x s) := by rw [pkV_true]
theorem pkV_false : pkV (.bool false) x y s K = K y s := by unfold pkV pickAV; cases x <;> cases y <;> rfl
@[simp] theorem go_pkV_false  : go (pkV (.bool false) x y s K) = go (K y s) := by rw [pkV_false]
theorem pkV_bool (c : Bool) : pkV (.bool c) (.bool a) (.bool b) s K = K (.bool (bif c then a else b)) s := rfl
theorem bdV_eq (zs : List AV) (ps : List (Nat × Nat × AV)) : bdV zs ps s K = ok (∀ p ∈ ps, p.2.2.isVal = true ∧ p.2.2.cells.length = p.2.1 ∧ p.1 + p.2.1 ≤ zs.length) (K (.agg (fillAV zs (ps.map fun p => (p.1, p.2.2)))) s) := rfl
@[simp] theorem go_bdV_eq (zs : List AV) (ps : List (Nat × Nat × AV))  : go (bdV zs ps s K) = go (ok (∀ p ∈ ps, p.2.2.isVal = true ∧ p.2.2.cells.length = p.2.1 ∧ p.1 + p.2.1 ≤ zs.length) (K (.agg (fillAV zs (ps.map fun p => (p.1, p.2.2)))) s)) := by rw [bdV_eq]
theorem bsV_eq (z : AV) (m : Nat) (ps : List (Nat × AV)) : bsV sz z m ps s K = ok (∀ p ∈ ps, p.2.isVal = true ∧ p.2.cells.length = sz ∧ p.1 < m) (K (.list sz .full (ps.foldl (fun xs p => xs.set p.1 p.2) (List.replicate m z))) s) := rfl
@[simp] theorem go_bsV_eq (z : AV) (m : Nat) (ps : List (Nat × AV))  : go (bsV sz z m ps s K) = go (ok (∀ p ∈ ps, p.2.isVal = true ∧ p.2.cells.length = sz ∧ p.1 < m) (K (.list sz .full (ps.foldl (fun xs p => xs.set p.1 p.2) (List.replicate m z))) s)) := by rw [bsV_eq]
theorem ncV_ptr : ncV (.ptr o off) s K = K (.ptr o off) s := rfl
@[simp] theorem go_ncV_ptr  : go (ncV (.ptr o off) s K) = go (K (.ptr o off) s) := by rw [ncV_ptr]
theorem ncV_cptr : ncV (.cptr cs) s K = K (.cptr cs) s := rfl
@[simp] theorem go_ncV_cptr  : go (ncV (.cptr cs) s K) = go (K (.cptr cs) s) := by rw [ncV_cptr]
theorem ncV_fn : ncV (.fn f xs ys) s K = K (.fn f xs ys) s := rfl
@[simp] theorem go_ncV_fn  : go (ncV (.fn f xs ys) s K) = go (K (.fn f xs ys) s) := by rw [ncV_fn]
theorem bn_add : bnV .add (.int k i) (.int k j) s K = K (.int k (k.wrap (i + j))) s := by simp [bnV, binSide, binAV]
@[simp] theorem go_bn_add  : go (bnV .add (.int k i) (.int k j) s K) = go (K (.int k (k.wrap (i + j))) s) := by rw [bn_add]
theorem bn_sub : bnV .sub (.int k i) (.int k j) s K = K (.int k (k.wrap (i - j))) s := by simp [bnV, binSide, binAV]
@[simp] theorem go_bn_sub  : go (bnV .sub (.int k i) (.int k j) s K) = go (K (.int k (k.wrap (i - j))) s) := by rw [bn_sub]
theorem bn_mul : bnV .mul (.int k i) (.int k j) s K = K (.int k (k.wrap (i * j))) s := by simp [bnV, binSide, binAV]
@[simp] theorem go_bn_mul  : go (bnV .mul (.int k i) (.int k j) s K) = go (K (.int k (k.wrap (i * j))) s) := by rw [bn_mul]
theorem bn_quo : bnV .quo (.int k i) (.int k j) s K = ok (j ≠ 0) (K (.int k (k.wrap (i.tdiv j))) s) := by simp [bnV, binSide, binAV, ok]
@[simp] theorem go_bn_quo  : go (bnV .quo (.int k i) (.int k j) s K) = go (ok (j ≠ 0) (K (.int k (k.wrap (i.tdiv j))) s)) := by rw [bn_quo]
theorem bn_rem : bnV .rem (.int k i) (.int k j) s K = ok (j ≠ 0) (K (.int k (i.tmod j)) s) := by simp [bnV, binSide, binAV, ok]
@[simp] theorem go_bn_rem  : go (bnV .rem (.int k i) (.int k j) s K) = go (ok (j ≠ 0) (K (.int k (i.tmod j)) s)) := by rw [bn_rem]
theorem bn_eql : bnV .eql (.int k i) (.int k j) s K = K (.bool (decide (i = j))) s := by simp [bnV, binSide, binAV]
@[simp] theorem go_bn_eql  : go (bnV .eql (.int k i) (.int k j) s K) = go (K (.bool (decide (i = j))) s) := by rw [bn_eql]
theorem bn_neq : bnV .neq (.int k i) (.int k j) s K = K (.bool (!decide (i = j))) s := by simp [bnV, binSide, binAV]
@[simp] theorem go_bn_neq  : go (bnV .neq (.int k i) (.int k j) s K) = go (K (.bool (!decide (i = j))) s) := by rw [bn_neq]
theorem bn_lss : bnV .lss (.int k i) (.int k j) s K = K (.bool (decide (i < j))) s := by simp [bnV, binSide, binAV]
@[simp] theorem go_bn_lss  : go (bnV .lss (.int k i) (.int k j) s K) = go (K (.bool (decide (i < j))) s) := by rw [bn_lss]
theorem bn_leq : bnV .leq (.int k i) (.int k j) s K = K (.bool (decide (i ≤ j))) s := by simp [bnV, binSide, binAV]
@[simp] theorem go_bn_leq  : go (bnV .leq (.int k i) (.int k j) s K) = go (K (.bool (decide (i ≤ j))) s) := by rw [bn_leq]
theorem bn_gtr : bnV .gtr (.int k i) (.int k j) s K = K (.bool (decide (j < i))) s := by simp [bnV, binSide, binAV]
@[simp] theorem go_bn_gtr  : go (bnV .gtr (.int k i) (.int k j) s K) = go (K (.bool (decide (j < i))) s) := by rw [bn_gtr]
theorem bn_geq : bnV .geq (.int k i) (.int k j) s K = K (.bool (decide (j ≤ i))) s := by simp [bnV, binSide, binAV]
@[simp] theorem go_bn_geq  : go (bnV .geq (.int k i) (.int k j) s K) = go (K (.bool (decide (j ≤ i))) s) := by rw [bn_geq]
theorem bs_eql : bnV .eql (.str str) (.str str') s K = K (.bool (decide (str = str'))) s := by simp [bnV, binSide, binAV]
@[simp] theorem go_bs_eql  : go (bnV .eql (.str str) (.str str') s K) = go (K (.bool (decide (str = str'))) s) := by rw [bs_eql]
theorem bs_neq : bnV .neq (.str str) (.str str') s K = K (.bool (!decide (str = str'))) s := by simp [bnV, binSide, binAV]
@[simp] theorem go_bs_neq  : go (bnV .neq (.str str) (.str str') s K) = go (K (.bool (!decide (str = str'))) s) := by rw [bs_neq]
theorem bs_lss : bnV .lss (.str str) (.str str') s K = K (.bool (Op.bytesLess str.toList str'.toList)) s := by simp [bnV, binSide, binAV]
@[simp] theorem go_bs_lss  : go (bnV .lss (.str str) (.str str') s K) = go (K (.bool (Op.bytesLess str.toList str'.toList)) s) := by rw [bs_lss]
theorem bs_gtr : bnV .gtr (.str str) (.str str') s K = K (.bool (!(Op.bytesLess str.toList str'.toList || decide (str = str')))) s := by simp [bnV, binSide, binAV]
@[simp] theorem go_bs_gtr  : go (bnV .gtr (.str str) (.str str') s K) = go (K (.bool (!(Op.bytesLess str.toList str'.toList || decide (str = str')))) s) := by rw [bs_gtr]
theorem eqV_f : eqV false (.bool a) (.bool b) s K = K (.bool (decide (a = b))) s := rfl
@[simp] theorem go_eqV_f  : go (eqV false (.bool a) (.bool b) s K) = go (K (.bool (decide (a = b))) s) := by rw [eqV_f]
theorem eqV_t : eqV true (.bool a) (.bool b) s K = K (.bool (!decide (a = b))) s := rfl
@[simp] theorem go_eqV_t  : go (eqV true (.bool a) (.bool b) s K) = go (K (.bool (!decide (a = b))) s) := by rw [eqV_t]
theorem unV_not : unV .not (.bool a) s K = K (.bool (!a)) s := rfl
@[simp] theorem go_unV_not  : go (unV .not (.bool a) s K) = go (K (.bool (!a)) s) := by rw [unV_not]
theorem unV_neg : unV .neg (.int k i) s K = K (.int k (k.wrap (0 - i))) s := rfl
@[simp] theorem go_unV_neg  : go (unV .neg (.int k i) s K) = go (K (.int k (k.wrap (0 - i))) s) := by rw [unV_neg]
theorem cvV_eq : cvV k (.int k' i) s K = K (.int k (k.wrap i)) s := rfl
@[simp] theorem go_cvV_eq  : go (cvV k (.int k' i) s K) = go (K (.int k (k.wrap i)) s) := by rw [cvV_eq]
theorem faV_ptr : faV n (.ptr o off) s K = K (.ptr o (off + n)) s := rfl
@[simp] theorem go_faV_ptr  : go (faV n (.ptr o off) s K) = go (K (.ptr o (off + n)) s) := by rw [faV_ptr]
theorem faV_cptr : faV n (.cptr cs) s K = ok (n < cs.length) (K (.cptr (cs.drop n)) s) := rfl
@[simp] theorem go_faV_cptr  : go (faV n (.cptr cs) s K) = go (ok (n < cs.length) (K (.cptr (cs.drop n)) s)) := by rw [faV_cptr]
theorem fdV_agg : fdV off n true (.agg cs) s K = ok (off + n ≤ cs.length) (K (.agg ((cs.drop off).take n)) s) := rfl
@[simp] theorem go_fdV_agg  : go (fdV off n true (.agg cs) s K) = go (ok (off + n ≤ cs.length) (K (.agg ((cs.drop off).take n)) s)) := by rw [fdV_agg]
theorem fdV_one : fdV off n false (.agg cs) s K = ok (off + n ≤ cs.length) (oneK (cs.drop off) s K) := by simp only [fdV, oneK, loadAV, Bool.false_eq_true, if_false]; cases cs.drop off <;> rfl
@[simp] theorem go_fdV_one  : go (fdV off n false (.agg cs) s K) = go (ok (off + n ≤ cs.length) (oneK (cs.drop off) s K)) := by rw [fdV_one]
theorem iaV_list (sz' : Nat) : iaV sz (.list sz' t xs) (.int k i) s K = ok (sz' = sz ∧ 0 ≤ i ∧ i < xs.length) (K (.cptr (xs.getD i.toNat .any).cells) s) := rfl
@[simp] theorem go_iaV_list (sz' : Nat)  : go (iaV sz (.list sz' t xs) (.int k i) s K) = go (ok (sz' = sz ∧ 0 ≤ i ∧ i < xs.length) (K (.cptr (xs.getD i.toNat .any).cells) s)) := by rw [iaV_list]
theorem isV_eq : isV (.str str) (.int k i) s K = ok (0 ≤ i ∧ i < str.size) (K (.int .u8 ((str.data.toList.getD i.toNat 0).toNat)) s) := rfl
@[simp] theorem go_isV_eq  : go (isV (.str str) (.int k i) s K) = go (ok (0 ≤ i ∧ i < str.size) (K (.int .u8 ((str.data.toList.getD i.toNat 0).toNat)) s)) := by rw [isV_eq]
theorem exV_zero : exV 0 (.tup (x :: cs)) s K = K x s := rfl
@[simp] theorem go_exV_zero  : go (exV 0 (.tup (x :: cs)) s K) = go (K x s) := by rw [exV_zero]
theorem exV_succ : exV (n + 1) (.tup (x :: cs)) s K = exV n (.tup cs) s K := rfl
@[simp] theorem go_exV_succ  : go (exV (n + 1) (.tup (x :: cs)) s K) = go (exV n (.tup cs) s K) := by rw [exV_succ]
theorem exV_one : exV 1 (.tup (x :: y :: cs)) s K = K y s := rfl
@[simp] theorem go_exV_one  : go (exV 1 (.tup (x :: y :: cs)) s K) = go (K y s) := by rw [exV_one]
theorem exV_two : exV 2 (.tup (x :: y :: v :: cs)) s K = K v s := rfl
@[simp] theorem go_exV_two  : go (exV 2 (.tup (x :: y :: v :: cs)) s K) = go (K v s) := by rw [exV_two]
theorem lnV_eq : lnV (.list sz t xs) s K = K (.int .i64 xs.length) s := rfl
@[simp] theorem go_lnV_eq  : go (lnV (.list sz t xs) s K) = go (K (.int .i64 xs.length) s) := by rw [lnV_eq]
theorem lsV_eq : lsV (.str str) s K = K (.int .i64 str.size) s := rfl
@[simp] theorem go_lsV_eq  : go (lsV (.str str) s K) = go (K (.int .i64 str.size) s) := by rw [lsV_eq]
@[simp] theorem apS_eq (sz0 sz1 : Nat) : apS sz bytes sz0 t xs sz1 ys = ((sz0 = sz ∨ (xs = [] ∧ t = .full)) ∧ (sz1 = sz ∨ ys = []) ∧ (xs.length + ys.length) * bytes ≤ 140737488355328 ∧ xs.length + ys.length ≤ 9223372036854775807) := rfl
theorem apV_full (sz0 sz1 : Nat) : apV sz bytes (.list sz0 .full xs) (.list sz1 t ys) s K = ok (apS sz bytes sz0 .full xs sz1 ys) (K (.list sz (.own s.nx) (xs ++ ys)) (s.new (.spare ((xs.length + ys.length) * sz)))) := rfl
@[simp] theorem go_apV_full (sz0 sz1 : Nat)  : go (apV sz bytes (.list sz0 .full xs) (.list sz1 t ys) s K) = go (ok (apS sz bytes sz0 .full xs sz1 ys) (K (.list sz (.own s.nx) (xs ++ ys)) (s.new (.spare ((xs.length + ys.length) * sz))))) := by rw [apV_full]
theorem apV_own (sz0 sz1 : Nat) : apV sz bytes (.list sz0 (.own o) xs) (.list sz1 t ys) s K = ok (apS sz bytes sz0 (.own o) xs sz1 ys) (apO sz o xs ys (s.m o) s K) := rfl
@[simp] theorem go_apV_own (sz0 sz1 : Nat)  : go (apV sz bytes (.list sz0 (.own o) xs) (.list sz1 t ys) s K) = go (ok (apS sz bytes sz0 (.own o) xs sz1 ys) (apO sz o xs ys (s.m o) s K)) := by rw [apV_own]
theorem apO_eq (m : Nat) : apO sz o xs ys (some (.spare m)) s K = ok (m = xs.length * sz) (K (.list sz (.own s.nx) (xs ++ ys)) ((s.del o).new (.spare ((xs.length + ys.length) * sz)))) := rfl
@[simp] theorem go_apO_eq (m : Nat)  : go (apO sz o xs ys (some (.spare m)) s K) = go (ok (m = xs.length * sz) (K (.list sz (.own s.nx) (xs ++ ys)) ((s.del o).new (.spare ((xs.length + ys.length) * sz))))) := by rw [apO_eq]
theorem mnV_eq : mnV (.int k i) (.int k' j) s K = ok (k = k') (K (.int k (if j < i then j else i)) s) := rfl
@[simp] theorem go_mnV_eq  : go (mnV (.int k i) (.int k' j) s K) = go (ok (k = k') (K (.int k (if j < i then j else i)) s)) := by rw [mnV_eq]
theorem mxV_eq : mxV (.int k i) (.int k' j) s K = ok (k = k') (K (.int k (if i < j then j else i)) s) := rfl
@[simp] theorem go_mxV_eq  : go (mxV (.int k i) (.int k' j) s K) = go (ok (k = k') (K (.int k (if i < j then j else i)) s)) := by rw [mxV_eq]
theorem clV_fn : clV P (.fn f xs ys) as s K = ACalls P f (xs ++ as ++ ys) s K := rfl
@[simp] theorem go_clV_fn  : go (clV P (.fn f xs ys) as s K) = go (ACalls P f (xs ++ as ++ ys) s K) := by rw [clV_fn]
theorem cpV_fn : cpV P (.fn f xs ys) as s K = ∃ r, PureC P f (xs ++ as ++ ys) r ∧ K r s := rfl
@[simp] theorem go_cpV_fn  : go (cpV P (.fn f xs ys) as s K) = go (pcV P f (xs ++ as ++ ys) s K) := rfl
theorem iaV_mref (sz' m : Nat) : iaV sz (.mref sz' o off m) (.int k i) s K = ok (sz' = sz ∧ 0 ≤ i ∧ i < m) (K (.ptr o ((off + i.toNat) * sz)) s) := rfl
@[simp] theorem go_iaV_mref (sz' m : Nat)  : go (iaV sz (.mref sz' o off m) (.int k i) s K) = go (ok (sz' = sz ∧ 0 ≤ i ∧ i < m) (K (.ptr o ((off + i.toNat) * sz)) s)) := by rw [iaV_mref]
theorem lnV_mref (m : Nat) : lnV (.mref sz o off m) s K = K (.int .i64 m) s := rfl
@[simp] theorem go_lnV_mref (m : Nat)  : go (lnV (.mref sz o off m) s K) = go (K (.int .i64 m) s) := by rw [lnV_mref]
@[simp] theorem apV_mref (sz0 sz1 m : Nat) (ys : List AV) : apV sz bytes (.mref sz0 o off m) (.list sz1 t ys) s K =
    ok (sz0 = sz ∧ off = 0 ∧ (sz1 = sz ∨ ys = []) ∧ (m + ys.length) * bytes ≤ 140737488355328 ∧ m + ys.length ≤ 9223372036854775807) (amO sz m ys (s.m o) s (s.del o) K) := rfl
theorem amO_eq (m : Nat) (ys : List AV) (s1 : St) : amO sz m ys (some (.box cs)) s s1 K = ok (cs.length = m * sz) (K (.mref sz s.nx 0 (m + ys.length)) (s1.new (.box (cs ++ flat ys)))) := rfl
@[simp] theorem go_amO_eq (m : Nat) (ys : List AV) (s1 : St)  : go (amO sz m ys (some (.box cs)) s s1 K) = go (ok (cs.length = m * sz) (K (.mref sz s.nx 0 (m + ys.length)) (s1.new (.box (cs ++ flat ys))))) := by rw [amO_eq]
section
variable {str cc' agg' : Bool} {zs' : List AV} {es es' : List (Nat × AV × AV)} {r' : Option (Option Nat)} {kk kk' mm mm' : AV} {q' since last clock : Nat} {seen seen' : List Nat} {oo oo' : Nat} {ob1 ob2 : Option AObj} {s1 s2 : St}
@[congr] theorem lkR_congr {r1 r2 : Option (Option Nat)} (he : es = es') (hr : r1 = r2) (hs : s1 = s2) : lkR cc' zs' agg' es r1 s1 K = lkR cc' zs' agg' es' r2 s2 K := by rw [he, hr, hs]
@[congr] theorem lkO_congr (hk : kk = kk') (ho : ob1 = ob2) (hs : s1 = s2) : lkO cc' zs' agg' kk ob1 s1 K = lkO cc' zs' agg' kk' ob2 s2 K := by rw [hk, ho, hs]
@[congr] theorem lkV_congr (hm : mm = mm') (hk : kk = kk') (hs : s1 = s2) : lkV str cc' zs' agg' mm kk s1 K = lkV str cc' zs' agg' mm' kk' s2 K := by rw [hm, hk, hs]
@[congr] theorem upR_congr {x1 x2 : AV} {r1 r2 : Option (Option Nat)} (ho : oo = oo') (he : es = es') (hk : kk = kk') (hx : x1 = x2) (hr : r1 = r2) (hs : s1 = s2) : upR oo es clock kk x1 r1 s1 K = upR oo' es' clock kk' x2 r2 s2 K := by rw [ho, he, hk, hx, hr, hs]
@[congr] theorem upO_congr {x1 x2 : AV} (ho : oo = oo') (hk : kk = kk') (hx : x1 = x2) (hb : ob1 = ob2) (hs : s1 = s2) : upO oo kk x1 ob1 s1 K = upO oo' kk' x2 ob2 s2 K := by rw [ho, hk, hx, hb, hs]
@[congr] theorem upV_congr {x1 x2 : AV} (hm : mm = mm') (hk : kk = kk') (hx : x1 = x2) (hs : s1 = s2) : upV str mm kk x1 s1 K = upV str mm' kk' x2 s2 K := by rw [hm, hk, hx, hs]
@[congr] theorem dlR_congr {r1 r2 : Option (Option Nat)} (ho : oo = oo') (he : es = es') (hr : r1 = r2) (hs : s1 = s2) : dlR oo es clock r1 s1 K = dlR oo' es' clock r2 s2 K := by rw [ho, he, hr, hs]
@[congr] theorem dlO_congr (ho : oo = oo') (hk : kk = kk') (hb : ob1 = ob2) (hs : s1 = s2) : dlO oo kk ob1 s1 K = dlO oo' kk' ob2 s2 K := by rw [ho, hk, hb, hs]
@[congr] theorem dlV_congr (hm : mm = mm') (hk : kk = kk') (hs : s1 = s2) : dlV str mm kk s1 K = dlV str mm' kk' s2 K := by rw [hm, hk, hs]
@[congr] theorem lmO_congr (hb : ob1 = ob2) (hs : s1 = s2) : lmO ob1 s1 K = lmO ob2 s2 K := by rw [hb, hs]
@[congr] theorem lmV_congr (hm : mm = mm') (hs : s1 = s2) : lmV mm s1 K = lmV mm' s2 K := by rw [hm, hs]
@[congr] theorem rgO_congr (ho : oo = oo') (hb : ob1 = ob2) (hs : s1 = s2) : rgO oo ob1 s1 K = rgO oo' ob2 s2 K := by rw [ho, hb, hs]
@[congr] theorem rgV_congr (hm : mm = mm') (hs : s1 = s2) : rgV mm s1 K = rgV mm' s2 K := by rw [hm, hs]
@[congr] theorem nxM_congr (ho : oo = oo') (hse : seen = seen') (hb : ob1 = ob2) (hs : s1 = s2) : nxM q' oo since seen last ob1 s1 K = nxM q' oo' since seen' last ob2 s2 K := by rw [ho, hse, hb, hs]
@[congr] theorem nxO_congr {q1 q2 : Nat} (hq : q1 = q2) (hb : ob1 = ob2) (hs : s1 = s2) : nxO q1 ob1 s1 K = nxO q2 ob2 s2 K := by rw [hq, hb, hs]
@[congr] theorem nxV_congr (hm : mm = mm') (hs : s1 = s2) : nxV mm s1 K = nxV mm' s2 K := by rw [hm, hs]
@[congr] theorem enM_congr (hse : seen = seen') (hb : ob1 = ob2) (hs : s1 = s2) : enM seen last ob1 s1 K = enM seen' last ob2 s2 K := by rw [hse, hb, hs]
@[congr] theorem enO_congr (hb : ob1 = ob2) (hs : s1 = s2) : enO ob1 s1 K = enO ob2 s2 K := by rw [hb, hs]
@[congr] theorem enV_congr (hm : mm = mm') (hs : s1 = s2) : enV mm s1 K = enV mm' s2 K := by rw [hm, hs]
@[congr] theorem msV_congr {sz0 by0 : Nat} {x1 x2 y1 y2 : AV} (hx : x1 = x2) (hy : y1 = y2) (hs : s1 = s2) : msV sz0 by0 zs' x1 y1 s1 K = msV sz0 by0 zs' x2 y2 s2 K := by rw [hx, hy, hs]
@[simp] theorem keyOK_int (n : Int) : keyOK false (.int .i64 n) = True := by simp [keyOK]
@[simp] theorem keyOK_str (b : ByteArray) : keyOK true (.str b) = True := by simp [keyOK]
@[simp] theorem lookAV_f (x : AV) : lookAV false zs' agg' (some x) = x := rfl
@[simp] theorem lookAV_t (x : AV) : lookAV true zs' agg' (some x) = .tup [x, .bool true] := rfl
@[simp] theorem lookAV_fa : lookAV false zs' true none = .agg zs' := rfl
@[simp] theorem lookAV_ta : lookAV true zs' true none = .tup [.agg zs', .bool false] := rfl
@[simp] theorem lookAV_fn (x : AV) : lookAV false (x :: zs') false none = x := rfl
@[simp] theorem lookAV_tn (x : AV) : lookAV true (x :: zs') false none = .tup [x, .bool false] := rfl
theorem lkV_map : lkV str cc' zs' agg' (.map oo) kk s1 K = ok (keyOK str kk) (lkO cc' zs' agg' kk (s1.m oo) s1 K) := rfl
@[simp] theorem go_lkV_map  : go (lkV str cc' zs' agg' (.map oo) kk s1 K) = go (ok (keyOK str kk) (lkO cc' zs' agg' kk (s1.m oo) s1 K)) := by rw [lkV_map]
theorem lkV_nil : lkV str cc' zs' agg' .nilmap kk s1 K = ok (keyOK str kk) (K (lookAV cc' zs' agg' none) s1) := rfl
@[simp] theorem go_lkV_nil  : go (lkV str cc' zs' agg' .nilmap kk s1 K) = go (ok (keyOK str kk) (K (lookAV cc' zs' agg' none) s1)) := by rw [lkV_nil]
theorem lkO_map : lkO cc' zs' agg' kk (some (.map es clock)) s1 K = lkR cc' zs' agg' es (mfind kk es 0) s1 K := rfl
@[simp] theorem go_lkO_map  : go (lkO cc' zs' agg' kk (some (.map es clock)) s1 K) = go (lkR cc' zs' agg' es (mfind kk es 0) s1 K) := by rw [lkO_map]
theorem lkR_none : lkR cc' zs' agg' es (some none) s1 K = K (lookAV cc' zs' agg' none) s1 := rfl
@[simp] theorem go_lkR_none  : go (lkR cc' zs' agg' es (some none) s1 K) = go (K (lookAV cc' zs' agg' none) s1) := by rw [lkR_none]
theorem lkR_some (i : Nat) : lkR cc' zs' agg' es (some (some i)) s1 K = K (lookAV cc' zs' agg' ((es[i]?).map (·.2.2))) s1 := rfl
@[simp] theorem go_lkR_some (i : Nat)  : go (lkR cc' zs' agg' es (some (some i)) s1 K) = go (K (lookAV cc' zs' agg' ((es[i]?).map (·.2.2))) s1) := by rw [lkR_some]
theorem upV_map (x : AV) : upV str (.map oo) kk x s1 K = ok (keyOK str kk) (upO oo kk x (s1.m oo) s1 K) := rfl
@[simp] theorem go_upV_map (x : AV)  : go (upV str (.map oo) kk x s1 K) = go (ok (keyOK str kk) (upO oo kk x (s1.m oo) s1 K)) := by rw [upV_map]
theorem upO_map (x : AV) : upO oo kk x (some (.map es clock)) s1 K = upR oo es clock kk x (mfind kk es 0) s1 K := rfl
@[simp] theorem go_upO_map (x : AV)  : go (upO oo kk x (some (.map es clock)) s1 K) = go (upR oo es clock kk x (mfind kk es 0) s1 K) := by rw [upO_map]
theorem upR_none (x : AV) : upR oo es clock kk x (some none) s1 K = K (.tup []) (s1.set oo (.map (es ++ [(clock, kk, x)]) (clock + 1))) := rfl
@[simp] theorem go_upR_none (x : AV)  : go (upR oo es clock kk x (some none) s1 K) = go (K (.tup []) (s1.set oo (.map (es ++ [(clock, kk, x)]) (clock + 1)))) := by rw [upR_none]
theorem upR_some (x : AV) (i : Nat) : upR oo es clock kk x (some (some i)) s1 K = K (.tup []) (s1.set oo (.map (es.modify i fun e => (e.1, kk, x)) clock)) := rfl
@[simp] theorem go_upR_some (x : AV) (i : Nat)  : go (upR oo es clock kk x (some (some i)) s1 K) = go (K (.tup []) (s1.set oo (.map (es.modify i fun e => (e.1, kk, x)) clock))) := by rw [upR_some]
theorem dlV_map : dlV str (.map oo) kk s1 K = ok (keyOK str kk) (dlO oo kk (s1.m oo) s1 K) := rfl
@[simp] theorem go_dlV_map  : go (dlV str (.map oo) kk s1 K) = go (ok (keyOK str kk) (dlO oo kk (s1.m oo) s1 K)) := by rw [dlV_map]
theorem dlV_nil : dlV str .nilmap kk s1 K = ok (keyOK str kk) (K (.tup []) s1) := rfl
@[simp] theorem go_dlV_nil  : go (dlV str .nilmap kk s1 K) = go (ok (keyOK str kk) (K (.tup []) s1)) := by rw [dlV_nil]
theorem dlO_map : dlO oo kk (some (.map es clock)) s1 K = dlR oo es clock (mfind kk es 0) s1 K := rfl
@[simp] theorem go_dlO_map  : go (dlO oo kk (some (.map es clock)) s1 K) = go (dlR oo es clock (mfind kk es 0) s1 K) := by rw [dlO_map]
theorem dlR_none : dlR oo es clock (some none) s1 K = K (.tup []) (s1.set oo (.map es clock)) := rfl
@[simp] theorem go_dlR_none  : go (dlR oo es clock (some none) s1 K) = go (K (.tup []) (s1.set oo (.map es clock))) := by rw [dlR_none]
theorem dlR_some (i : Nat) : dlR oo es clock (some (some i)) s1 K = K (.tup []) (s1.set oo (.map (es.eraseIdx i) clock)) := rfl
@[simp] theorem go_dlR_some (i : Nat)  : go (dlR oo es clock (some (some i)) s1 K) = go (K (.tup []) (s1.set oo (.map (es.eraseIdx i) clock))) := by rw [dlR_some]
theorem lmV_map : lmV (.map oo) s1 K = lmO (s1.m oo) s1 K := rfl
@[simp] theorem go_lmV_map  : go (lmV (.map oo) s1 K) = go (lmO (s1.m oo) s1 K) := by rw [lmV_map]
theorem lmV_nil : lmV .nilmap s1 K = K (.int .i64 0) s1 := rfl
@[simp] theorem go_lmV_nil  : go (lmV .nilmap s1 K) = go (K (.int .i64 0) s1) := by rw [lmV_nil]
theorem lmO_map : lmO (some (.map es clock)) s1 K = K (.int .i64 es.length) s1 := rfl
@[simp] theorem go_lmO_map  : go (lmO (some (.map es clock)) s1 K) = go (K (.int .i64 es.length) s1) := by rw [lmO_map]
theorem rgV_map : rgV (.map oo) s1 K = rgO oo (s1.m oo) s1 K := rfl
@[simp] theorem go_rgV_map  : go (rgV (.map oo) s1 K) = go (rgO oo (s1.m oo) s1 K) := by rw [rgV_map]
theorem rgV_nil : rgV .nilmap s1 K = K (.ptr s1.nx 0) (s1.new (.iter none 0 [] 0)) := rfl
@[simp] theorem go_rgV_nil  : go (rgV .nilmap s1 K) = go (K (.ptr s1.nx 0) (s1.new (.iter none 0 [] 0))) := by rw [rgV_nil]
theorem rgO_map : rgO oo (some (.map es clock)) s1 K = K (.ptr s1.nx 0) (s1.new (.iter (some oo) clock [] clock)) := rfl
@[simp] theorem go_rgO_map  : go (rgO oo (some (.map es clock)) s1 K) = go (K (.ptr s1.nx 0) (s1.new (.iter (some oo) clock [] clock))) := by rw [rgO_map]
theorem nxV_ptr : nxV (.ptr q' 0) s1 K = nxO q' (s1.m q') s1 K := rfl
@[simp] theorem go_nxV_ptr  : go (nxV (.ptr q' 0) s1 K) = go (nxO q' (s1.m q') s1 K) := by rw [nxV_ptr]
theorem nxO_none : nxO q' (some (.iter none since seen last)) s1 K = K (.tup [.bool false]) s1 := rfl
@[simp] theorem go_nxO_none  : go (nxO q' (some (.iter none since seen last)) s1 K) = go (K (.tup [.bool false]) s1) := by rw [nxO_none]
theorem nxO_some : nxO q' (some (.iter (some oo) since seen last)) s1 K = nxM q' oo since seen last (s1.m oo) s1 K := rfl
@[simp] theorem go_nxO_some  : go (nxO q' (some (.iter (some oo) since seen last)) s1 K) = go (nxM q' oo since seen last (s1.m oo) s1 K) := by rw [nxO_some]
theorem enV_ptr : enV (.ptr q' 0) s1 K = enO (s1.m q') s1 K := rfl
@[simp] theorem go_enV_ptr  : go (enV (.ptr q' 0) s1 K) = go (enO (s1.m q') s1 K) := by rw [enV_ptr]
theorem enO_some : enO (some (.iter (some oo) since seen last)) s1 K = enM seen last (s1.m oo) s1 K := rfl
@[simp] theorem go_enO_some  : go (enO (some (.iter (some oo) since seen last)) s1 K) = go (enM seen last (s1.m oo) s1 K) := by rw [enO_some]
theorem msV_eq {sz0 by0 : Nat} {n0 m0 : Int} {k1 k2 : IntKind} : msV sz0 by0 zs' (.int k1 n0) (.int k2 m0) s1 K = ok (n0 = m0 ∧ 0 ≤ n0 ∧ n0.toNat * by0 ≤ 140737488355328 ∧ n0 ≤ 9223372036854775807) (K (.mref sz0 s1.nx 0 n0.toNat) (s1.new (.box (List.replicate n0.toNat zs').flatten))) := rfl
@[simp] theorem go_msV_eq {sz0 by0 : Nat} {n0 m0 : Int} {k1 k2 : IntKind}  : go (msV sz0 by0 zs' (.int k1 n0) (.int k2 m0) s1 K) = go (ok (n0 = m0 ∧ 0 ≤ n0 ∧ n0.toNat * by0 ≤ 140737488355328 ∧ n0 ≤ 9223372036854775807) (K (.mref sz0 s1.nx 0 n0.toNat) (s1.new (.box (List.replicate n0.toNat zs').flatten)))) := by rw [msV_eq]
/-- A step of a walk over a map. -/
theorem nx_intro (hc : seen = [] ∨ es = [] ∨ ∃ e ∈ es, e.1 < last) (he : (∀ e ∈ es, e.1 < since → e.1 ∈ seen) → go (K (.tup [.bool false]) s1))
    (hn : ∀ e ∈ es, e.1 ∉ seen → go (K (.tup [.bool true, e.2.1, e.2.2]) (s1.set q' (.iter (some oo) since (seen ++ [e.1]) clock)))) : go (nxM q' oo since seen last (some (.map es clock)) s1 K) := ⟨hc, he, hn⟩
/-- The entry that a walk stands at. -/
theorem en_intro {st : Nat} {e : Nat × AV × AV} (hs : seen.getLast? = some st) (hc : clock = last) (hf : (es.find? fun e => e.1 == st) = some e) (hk : go (K (.tup [e.2.1, e.2.2]) s1)) : go (enM seen last (some (.map es clock)) s1 K) := by
  show enM _ _ _ _ _
  simp only [enM, hs, hf]
  exact ⟨hc, hk⟩
end
/-- Slices of lists. -/
def slS (sz : Nat) (v : AV) (lo hi mx : Option (Option Int)) : Option (Prop × AV) :=
  match v, lo, hi, mx with
  | .list sz0 t xs, some lo, some hi, some mx =>
    some ((sz0 = sz ∨ xs = []) ∧ (match lo with | some l => 0 ≤ l ∧ l ≤ (match hi with | some h => h | none => xs.length) | none => True) ∧
      (match hi with | some h => 0 ≤ h ∧ h ≤ xs.length ∧ (match mx with | some m => m = h | none => True) | none => mx = none),
      .list sz0 (match mx, hi with | some m, some h => if m = h then .full else .none | none, none => t.keep | _, _ => .none)
                    ((xs.take (match hi with | some h => h.toNat | none => xs.length)).drop (match lo with | some l => l.toNat | none => 0)))
  | _, _, _, _ => none
def slV (sz : Nat) (v : AV) (lo hi mx : Option AV) (s : St) (K : KS) : Prop :=
  match slS sz v (optInt lo) (optInt hi) (optInt mx) with
  | some (p, r) => p ∧ K r s
  | none => False
end
section
variable {s : St} {K : KS} {sz : Nat} {t : Tok} {xs : List AV} {h i : Int} {k k' : IntKind}
@[congr] theorem slV_congr {v v' : AV} {a a' b b' c c' : Option AV} {s' : St} (h1 : v = v') (h2 : a = a') (h3 : b = b') (h4 : c = c') (hs : s = s') : slV sz v a b c s K = slV sz v' a' b' c' s' K := by rw [h1, h2, h3, h4, hs]
theorem slV_all (sz0 : Nat) : slV sz (.list sz0 t xs) none none none s K = ok (sz0 = sz ∨ xs = []) (K (.list sz0 t.keep xs) s) := by simp [slV, slS, optInt, ok]
@[simp] theorem go_slV_all (sz0 : Nat)  : go (slV sz (.list sz0 t xs) none none none s K) = go (ok (sz0 = sz ∨ xs = []) (K (.list sz0 t.keep xs) s)) := by rw [slV_all]
theorem slV_hi (sz0 : Nat) : slV sz (.list sz0 t xs) none (some (.int k h)) none s K = ok ((sz0 = sz ∨ xs = []) ∧ 0 ≤ h ∧ h ≤ xs.length) (K (.list sz0 .none (xs.take h.toNat)) s) := by simp [slV, slS, optInt, and_assoc, ok]
@[simp] theorem go_slV_hi (sz0 : Nat)  : go (slV sz (.list sz0 t xs) none (some (.int k h)) none s K) = go (ok ((sz0 = sz ∨ xs = []) ∧ 0 ≤ h ∧ h ≤ xs.length) (K (.list sz0 .none (xs.take h.toNat)) s)) := by rw [slV_hi]
theorem slV_lo (sz0 : Nat) : slV sz (.list sz0 t xs) (some (.int k i)) none none s K = ok ((sz0 = sz ∨ xs = []) ∧ 0 ≤ i ∧ i ≤ xs.length) (K (.list sz0 t.keep (xs.drop i.toNat)) s) := by simp [slV, slS, optInt, and_assoc, ok]
@[simp] theorem go_slV_lo (sz0 : Nat)  : go (slV sz (.list sz0 t xs) (some (.int k i)) none none s K) = go (ok ((sz0 = sz ∨ xs = []) ∧ 0 ≤ i ∧ i ≤ xs.length) (K (.list sz0 t.keep (xs.drop i.toNat)) s)) := by rw [slV_lo]
theorem slV_lohi (sz0 : Nat) : slV sz (.list sz0 t xs) (some (.int k i)) (some (.int k' h)) none s K = ok ((sz0 = sz ∨ xs = []) ∧ 0 ≤ i ∧ i ≤ h ∧ 0 ≤ h ∧ h ≤ xs.length) (K (.list sz0 .none ((xs.take h.toNat).drop i.toNat)) s) := by simp [slV, slS, optInt, and_assoc, ok]
@[simp] theorem go_slV_lohi (sz0 : Nat)  : go (slV sz (.list sz0 t xs) (some (.int k i)) (some (.int k' h)) none s K) = go (ok ((sz0 = sz ∨ xs = []) ∧ 0 ≤ i ∧ i ≤ h ∧ 0 ≤ h ∧ h ≤ xs.length) (K (.list sz0 .none ((xs.take h.toNat).drop i.toNat)) s)) := by rw [slV_lohi]
theorem slV_full (sz0 : Nat) (h1 : sz0 = sz ∨ xs = []) (h2 : 0 ≤ h) (h3 : h ≤ xs.length) (hk : K (.list sz0 .full (xs.take h.toNat)) s) : slV sz (.list sz0 t xs) none (some (.int k h)) (some (.int k' h)) s K := by simpa [slV, slS, optInt, and_assoc] using ⟨h1, h2, h3, hk⟩
@[simp] theorem keep_none : Tok.keep .none = .none := rfl
@[simp] theorem keep_full : Tok.keep .full = .full := rfl
@[simp] theorem keep_own (o : Nat) : Tok.keep (.own o) = .none := rfl
theorem step_slice {P : Program} {g l : Env} (x : AOpd) (lo hi mx : Option AOpd) : AOp.step P (.slice sz x lo hi mx) g l s K = slV sz (x.val g l) (lo.map (AOpd.val g l)) (hi.map (AOpd.val g l)) (mx.map (AOpd.val g l)) s K := by
  simp only [AOp.step, AOp.stepP, AOp.touch, AOp.ev, AOp.side, St.app2, slV, slS]
  cases x.val g l <;> try rfl
  cases optInt (lo.map (AOpd.val g l)) <;> try rfl
  cases optInt (hi.map (AOpd.val g l)) <;> try rfl
  cases optInt (mx.map (AOpd.val g l)) <;> rfl
@[simp] theorem go_step_slice {P : Program} {g l : Env} (x : AOpd) (lo hi mx : Option AOpd)  : go (AOp.step P (.slice sz x lo hi mx) g l s K) = go (slV sz (x.val g l) (lo.map (AOpd.val g l)) (hi.map (AOpd.val g l)) (mx.map (AOpd.val g l)) s K) := by rw [step_slice]
end
section
end

/-! ## Slots -/
theorem setDst_none (v : AV) (g l : Env) (K : Env → Env → Prop) : setDst none v g l K = K g l := rfl
@[simp] theorem go_setDst_none (v : AV) (g l : Env) (K : Env → Env → Prop)  : go (setDst none v g l K) = go (K g l) := by rw [setDst_none]
theorem setDst_g (t : Nat) (v : AV) (g l : Env) (K : Env → Env → Prop) : setDst (some (true, t)) v g l K = K ((t, v) :: g) l := rfl
@[simp] theorem go_setDst_g (t : Nat) (v : AV) (g l : Env) (K : Env → Env → Prop)  : go (setDst (some (true, t)) v g l K) = go (K ((t, v) :: g) l) := by rw [setDst_g]
theorem setDst_l (t : Nat) (v : AV) (g l : Env) (K : Env → Env → Prop) : setDst (some (false, t)) v g l K = K g ((t, v) :: l) := rfl
@[simp] theorem go_setDst_l (t : Nat) (v : AV) (g l : Env) (K : Env → Env → Prop)  : go (setDst (some (false, t)) v g l K) = go (K g ((t, v) :: l)) := by rw [setDst_l]

def gdV (v : AV) (gl : Bool) (t : Nat) (want : Bool) (g l : Env) (run skip : Env → Env → Prop) : Prop :=
  match v with
  | .bool b => (b = want → envSet (gl, t) (.bool want) g l run) ∧ (b = !want → envSet (gl, t) (.bool !want) g l skip)
  | .tup [] => skip g l
  | _ => False
@[congr] theorem gdV_congr {v v' : AV} {gl : Bool} {t : Nat} {want : Bool} {a b : Env → Env → Prop} (hv : v = v') (hg : g = g') (hl : l = l') : gdV v gl t want g l a b = gdV v' gl t want g' l' a b := by rw [hv, hg, hl]
theorem guarded_none (a b : Env → Env → Prop) : guarded none g l a b = a g l := rfl
@[simp] theorem go_guarded_none (a b : Env → Env → Prop)  : go (guarded none g l a b) = go (a g l) := by rw [guarded_none]
theorem guarded_g (t : Nat) (want : Bool) (a b : Env → Env → Prop) : guarded (some (true, t, want)) g l a b = gdV (g.get t) true t want g l a b := rfl
@[simp] theorem go_guarded_g (t : Nat) (want : Bool) (a b : Env → Env → Prop)  : go (guarded (some (true, t, want)) g l a b) = go (gdV (g.get t) true t want g l a b) := by rw [guarded_g]
theorem guarded_l (t : Nat) (want : Bool) (a b : Env → Env → Prop) : guarded (some (false, t, want)) g l a b = gdV (l.get t) false t want g l a b := rfl
@[simp] theorem go_guarded_l (t : Nat) (want : Bool) (a b : Env → Env → Prop)  : go (guarded (some (false, t, want)) g l a b) = go (gdV (l.get t) false t want g l a b) := by rw [guarded_l]
section
variable (t : Nat) (b : Bool) (run skip : Env → Env → Prop)
theorem gdV_gtt : gdV (.bool true) true t true g l run skip = run ((t, .bool true) :: g) l := by simp [gdV, envSet]
@[simp] theorem go_gdV_gtt  : go (gdV (.bool true) true t true g l run skip) = go (run ((t, .bool true) :: g) l) := by rw [gdV_gtt]
theorem gdV_gtf : gdV (.bool true) true t false g l run skip = skip ((t, .bool true) :: g) l := by simp [gdV, envSet]
@[simp] theorem go_gdV_gtf  : go (gdV (.bool true) true t false g l run skip) = go (skip ((t, .bool true) :: g) l) := by rw [gdV_gtf]
theorem gdV_gft : gdV (.bool false) true t true g l run skip = skip ((t, .bool false) :: g) l := by simp [gdV, envSet]
@[simp] theorem go_gdV_gft  : go (gdV (.bool false) true t true g l run skip) = go (skip ((t, .bool false) :: g) l) := by rw [gdV_gft]
theorem gdV_gff : gdV (.bool false) true t false g l run skip = run ((t, .bool false) :: g) l := by simp [gdV, envSet]
@[simp] theorem go_gdV_gff  : go (gdV (.bool false) true t false g l run skip) = go (run ((t, .bool false) :: g) l) := by rw [gdV_gff]
theorem gdV_ltt : gdV (.bool true) false t true g l run skip = run g ((t, .bool true) :: l) := by simp [gdV, envSet]
@[simp] theorem go_gdV_ltt  : go (gdV (.bool true) false t true g l run skip) = go (run g ((t, .bool true) :: l)) := by rw [gdV_ltt]
theorem gdV_ltf : gdV (.bool true) false t false g l run skip = skip g ((t, .bool true) :: l) := by simp [gdV, envSet]
@[simp] theorem go_gdV_ltf  : go (gdV (.bool true) false t false g l run skip) = go (skip g ((t, .bool true) :: l)) := by rw [gdV_ltf]
theorem gdV_lft : gdV (.bool false) false t true g l run skip = skip g ((t, .bool false) :: l) := by simp [gdV, envSet]
@[simp] theorem go_gdV_lft  : go (gdV (.bool false) false t true g l run skip) = go (skip g ((t, .bool false) :: l)) := by rw [gdV_lft]
theorem gdV_lff : gdV (.bool false) false t false g l run skip = run g ((t, .bool false) :: l) := by simp [gdV, envSet]
@[simp] theorem go_gdV_lff  : go (gdV (.bool false) false t false g l run skip) = go (run g ((t, .bool false) :: l)) := by rw [gdV_lff]
theorem gdV_gt : gdV (.bool b) true t true g l run skip = ((b = true → run ((t, .bool true) :: g) l) ∧ (b = false → skip ((t, .bool false) :: g) l)) := by simp [gdV, envSet]
@[simp low] theorem go_gdV_gt  : go (gdV (.bool b) true t true g l run skip) = ((b = true → go (run ((t, .bool true) :: g) l)) ∧ (b = false → go (skip ((t, .bool false) :: g) l))) := by rw [gdV_gt]; rfl
theorem gdV_gf : gdV (.bool b) true t false g l run skip = ((b = false → run ((t, .bool false) :: g) l) ∧ (b = true → skip ((t, .bool true) :: g) l)) := by simp [gdV, envSet]
@[simp low] theorem go_gdV_gf  : go (gdV (.bool b) true t false g l run skip) = ((b = false → go (run ((t, .bool false) :: g) l)) ∧ (b = true → go (skip ((t, .bool true) :: g) l))) := by rw [gdV_gf]; rfl
theorem gdV_lt : gdV (.bool b) false t true g l run skip = ((b = true → run g ((t, .bool true) :: l)) ∧ (b = false → skip g ((t, .bool false) :: l))) := by simp [gdV, envSet]
@[simp low] theorem go_gdV_lt  : go (gdV (.bool b) false t true g l run skip) = ((b = true → go (run g ((t, .bool true) :: l))) ∧ (b = false → go (skip g ((t, .bool false) :: l)))) := by rw [gdV_lt]; rfl
theorem gdV_lf : gdV (.bool b) false t false g l run skip = ((b = false → run g ((t, .bool false) :: l)) ∧ (b = true → skip g ((t, .bool true) :: l))) := by simp [gdV, envSet]
@[simp low] theorem go_gdV_lf  : go (gdV (.bool b) false t false g l run skip) = ((b = false → go (run g ((t, .bool false) :: l))) ∧ (b = true → go (skip g ((t, .bool true) :: l)))) := by rw [gdV_lf]; rfl
end

/-! ## Code -/
def regQ (Q : AExit → Env → St → Prop) (g : Env) (_ : Env) (s : St) : Prop := Q .normal g s
def seqQ (P : Program) (b : ACode) (Q : AExit → Env → St → Prop) (e : AExit) (g : Env) (s : St) : Prop := match e with | .normal => awp P b Q g s | e => Q e g s
def blockQ (id : Nat) (Q : AExit → Env → St → Prop) (e : AExit) (g : Env) (s : St) : Prop := match e with | .exit i => if i = id then Q .normal g s else Q (.exit i) g s | e => Q e g s
def loopQ (n : Nat) (I : Nat → Env → St → Prop) (Q : AExit → Env → St → Prop) (e : AExit) (g : Env) (s : St) : Prop := match e with | .normal => ∃ m, m < n ∧ I m g s | e => Q e g s
def retV (vs : Option (List AV)) (s : St) (K : KS) : Prop := match vs with | some vs => K (oneOf vs) s | none => False
def finQ (rs : List ARes) (K : KS) (e : AExit) (g : Env) (s : St) : Prop := match e with | .exit _ => False | _ => retV (resVals rs g s) s K
def cdV (P : Program) (v : AV) (a b : ACode) (Q : AExit → Env → St → Prop) (g : Env) (s : St) : Prop := match v with | .bool t => (t = true → awp P a Q g s) ∧ (t = false → awp P b Q g s) | _ => False

/-- Operations in order behind those of open order. -/
def sufQ (P : Program) (suf : List AOper) (Q : AExit → Env → St → Prop) (g l : Env) (s : St) : Prop := aops P suf (regQ Q) g l s
@[congr] theorem sufQ_congr {suf : List AOper} {Q : AExit → Env → St → Prop} {l' : Env} (hg : g = g') (hl : l = l') (hs : s = s') : sufQ P suf Q g l s = sufQ P suf Q g' l' s' := by rw [hg, hl, hs]
/-- A box that is never written again. -/
def frO (t : Nat) (off : Nat) (ob : Option AObj) (Q : AExit → Env → St → Prop) (g : Env) (s : St) : Prop := match ob with | some (.box cs) => Q .normal ((t, .cptr (cs.drop off)) :: g) s | _ => False
def frV (t : Nat) (v : AV) (Q : AExit → Env → St → Prop) (g : Env) (s : St) : Prop := match v with | .ptr o off => frO t off (s.m o) Q g (s.del o) | _ => False
def lateC (P : Program) (gl : Bool) (dc : Option (Bool × Nat)) (t : Nat) (zs : List AV) (X : Nat) (suf : List AOper) (Q : AExit → Env → St → Prop) (g l : Env) (v : AV) (s' : St) : Prop :=
  s'.m X = some (.box zs) ∧ setDst dc v g l fun g1 l1 => setDst (some (gl, t)) (.ptr X 0) g1 l1 fun g2 l2 => aops P suf (regQ Q) g2 l2 s'
@[congr] theorem lateC_congr {gl : Bool} {dc : Option (Bool × Nat)} {t : Nat} {zs : List AV} {X X' : Nat} {suf : List AOper} {Q : AExit → Env → St → Prop} {l' : Env} {v v' : AV} (hx : X = X') (hg : g = g') (hl : l = l') (hv : v = v') (hs : s = s') : lateC P gl dc t zs X suf Q g l v s = lateC P gl dc t zs X' suf Q g' l' v' s' := by rw [hx, hg, hl, hv, hs]
def lateQ (P : Program) (gl : Bool) (op : AOp) (dc : Option (Bool × Nat)) (t : Nat) (zs : List AV) (X : Nat) (suf : List AOper) (Q : AExit → Env → St → Prop) (g l : Env) (s : St) : Prop := op.step P g l s (lateC P gl dc t zs X suf Q g l)
@[congr] theorem lateQ_congr {gl : Bool} {op : AOp} {dc : Option (Bool × Nat)} {t : Nat} {zs : List AV} {X X' : Nat} {suf : List AOper} {Q : AExit → Env → St → Prop} {l' : Env} (hx : X = X') (hg : g = g') (hl : l = l') (hs : s = s') : lateQ P gl op dc t zs X suf Q g l s = lateQ P gl op dc t zs X' suf Q g' l' s' := by rw [hx, hg, hl, hs]
/-- An object is as it was. -/
def sameO (t : Option Nat) (s' s2 : St) : Prop := match t with | some q => s2.m q = s'.m q | none => True
def floatC (P : Program) (fr : List AOp) (dc : Option (Bool × Nat)) (k : Nat) (post suf : List AOper) (Q : AExit → Env → St → Prop) (g l : Env) (s' : St) (v : AV) (s2 : St) : Prop :=
  frs g l s' s2 fr ∧ setDst dc v g l fun g1 l1 => aopsD P (k + 1) [] post (sufQ P suf Q) g1 l1 s2
@[congr] theorem floatC_congr {fr : List AOp} {dc : Option (Bool × Nat)} {k : Nat} {post suf : List AOper} {Q : AExit → Env → St → Prop} {l' : Env} {v v' : AV} {s0 s0' : St} (hg : g = g') (hl : l = l') (h0 : s0 = s0') (hv : v = v') (hs : s = s') : floatC P fr dc k post suf Q g l s0 v s = floatC P fr dc k post suf Q g' l' s0' v' s' := by rw [hg, hl, h0, hv, hs]
def floatQ (P : Program) (fr : List AOp) (op : AOp) (dc : Option (Bool × Nat)) (k : Nat) (post suf : List AOper) (Q : AExit → Env → St → Prop) (g l : Env) (s : St) : Prop := op.step P g l s (floatC P fr dc k post suf Q g l s)
@[congr] theorem floatQ_congr {fr : List AOp} {op : AOp} {dc : Option (Bool × Nat)} {k : Nat} {post suf : List AOper} {Q : AExit → Env → St → Prop} {l' : Env} (hg : g = g') (hl : l = l') (hs : s = s') : floatQ P fr op dc k post suf Q g l s = floatQ P fr op dc k post suf Q g' l' s' := by rw [hg, hl, hs]
@[congr] theorem frO_congr {t off off' : Nat} {ob ob' : Option AObj} {Q : AExit → Env → St → Prop} (ho : off = off') (hb : ob = ob') (hg : g = g') (hs : s = s') : frO t off ob Q g s = frO t off' ob' Q g' s' := by rw [ho, hb, hg, hs]
@[congr] theorem frV_congr {t : Nat} {v v' : AV} {Q : AExit → Env → St → Prop} (hv : v = v') (hg : g = g') (hs : s = s') : frV t v Q g s = frV t v' Q g' s' := by rw [hv, hg, hs]
@[congr] theorem regQ_congr {Q : AExit → Env → St → Prop} (hg : g = g') (hs : s = s') : regQ Q g l s = regQ Q g' l s' := by rw [hg, hs]
@[congr] theorem seqQ_congr {b : ACode} {Q : AExit → Env → St → Prop} {e : AExit} (hg : g = g') (hs : s = s') : seqQ P b Q e g s = seqQ P b Q e g' s' := by rw [hg, hs]
@[congr] theorem blockQ_congr {n : Nat} {Q : AExit → Env → St → Prop} {e : AExit} (hg : g = g') (hs : s = s') : blockQ n Q e g s = blockQ n Q e g' s' := by rw [hg, hs]
@[congr] theorem loopQ_congr {n : Nat} {I : Nat → Env → St → Prop} {Q : AExit → Env → St → Prop} {e : AExit} (hg : g = g') (hs : s = s') : loopQ n I Q e g s = loopQ n I Q e g' s' := by rw [hg, hs]
@[congr] theorem retV_congr {v v' : Option (List AV)} (hv : v = v') (hs : s = s') : retV v s K = retV v' s' K := by rw [hv, hs]
@[congr] theorem finQ_congr {rs : List ARes} {e : AExit} (hg : g = g') (hs : s = s') : finQ rs K e g s = finQ rs K e g' s' := by rw [hg, hs]
@[congr] theorem cdV_congr {v v' : AV} {a b : ACode} {Q : AExit → Env → St → Prop} (hv : v = v') (hg : g = g') (hs : s = s') : cdV P v a b Q g s = cdV P v' a b Q g' s' := by rw [hv, hg, hs]

section
variable (Q : AExit → Env → St → Prop) (a b : ACode) (id i : Nat)
theorem awp_skip : awp P .skip Q g s = Q .normal g s := rfl
@[simp] theorem go_awp_skip  : go (awp P .skip Q g s) = go (Q .normal g s) := by rw [awp_skip]
theorem awp_reg (os : List AOper) : awp P (.reg false os) Q g s = aops P os (regQ Q) g [] s := rfl
@[simp] theorem go_awp_reg (os : List AOper)  : go (awp P (.reg false os) Q g s) = go (aops P os (regQ Q) g [] s) := by rw [awp_reg]
theorem awp_regD (os : List AOper) : awp P (.reg true os) Q g s = aopsD P 0 [] os (regQ Q) g [] s := rfl
@[simp] theorem go_awp_regD (os : List AOper)  : go (awp P (.reg true os) Q g s) = go (aopsD P 0 [] os (regQ Q) g [] s) := by rw [awp_regD]
theorem awp_reg2 (pre suf : List AOper) : awp P (.reg2 pre suf) Q g s = aopsD P 0 [] pre (sufQ P suf Q) g [] s := rfl
@[simp] theorem go_awp_reg2 (pre suf : List AOper)  : go (awp P (.reg2 pre suf) Q g s) = go (aopsD P 0 [] pre (sufQ P suf Q) g [] s) := by rw [awp_reg2]
theorem sufQ_eq (suf : List AOper) : sufQ P suf Q g l s = aops P suf (regQ Q) g l s := rfl
@[simp] theorem go_sufQ_eq (suf : List AOper)  : go (sufQ P suf Q g l s) = go (aops P suf (regQ Q) g l s) := by rw [sufQ_eq]
theorem awp_reg3 (pre suf : List AOper) (zs : List AV) (gl : Bool) (t : Nat) (c : AOper) : awp P (.reg3 pre zs gl t c suf) Q g s = aopsD P 0 [] pre (lateQ P gl c.op c.dst t zs s.nx suf Q) (clrE gl t g) [] (s.new (.box zs)) := rfl
@[simp] theorem go_awp_reg3 (pre suf : List AOper) (zs : List AV) (gl : Bool) (t : Nat) (c : AOper)  : go (awp P (.reg3 pre zs gl t c suf) Q g s) = go (aopsD P 0 [] pre (lateQ P gl c.op c.dst t zs s.nx suf Q) (clrE gl t g) [] (s.new (.box zs))) := by rw [awp_reg3]
@[simp] theorem clrE_true (t : Nat) (g : Env) : clrE true t g = (t, .any) :: g := rfl
@[simp] theorem clrE_false (t : Nat) (g : Env) : clrE false t g = g := rfl
theorem lateQ_eq (gl : Bool) (op : AOp) (dc : Option (Bool × Nat)) (t : Nat) (zs : List AV) (X : Nat) (suf : List AOper) : lateQ P gl op dc t zs X suf Q g l s = AOp.step P op g l s (lateC P gl dc t zs X suf Q g l) := rfl
@[simp] theorem go_lateQ_eq (gl : Bool) (op : AOp) (dc : Option (Bool × Nat)) (t : Nat) (zs : List AV) (X : Nat) (suf : List AOper)  : go (lateQ P gl op dc t zs X suf Q g l s) = go (AOp.step P op g l s (lateC P gl dc t zs X suf Q g l)) := by rw [lateQ_eq]
theorem lateC_eq (gl : Bool) (dc : Option (Bool × Nat)) (t : Nat) (zs : List AV) (X : Nat) (suf : List AOper) (v : AV) : lateC P gl dc t zs X suf Q g l v s = ok (s.m X = some (.box zs)) (setDst dc v g l fun g1 l1 => setDst (some (gl, t)) (.ptr X 0) g1 l1 fun g2 l2 => aops P suf (regQ Q) g2 l2 s) := rfl
@[simp] theorem go_lateC_eq (gl : Bool) (dc : Option (Bool × Nat)) (t : Nat) (zs : List AV) (X : Nat) (suf : List AOper) (v : AV)  : go (lateC P gl dc t zs X suf Q g l v s) = go (ok (s.m X = some (.box zs)) (setDst dc v g l fun g1 l1 => setDst (some (gl, t)) (.ptr X 0) g1 l1 fun g2 l2 => aops P suf (regQ Q) g2 l2 s)) := by rw [lateC_eq]
theorem awp_reg4 (pre : List AOper) (fr : List AOp) (c : AOper) (post suf : List AOper) : awp P (.reg4 pre fr c post suf) Q g s = aopsD P 0 [] pre (floatQ P fr c.op c.dst pre.length post suf Q) g [] s := rfl
@[simp] theorem go_awp_reg4 (pre : List AOper) (fr : List AOp) (c : AOper) (post suf : List AOper)  : go (awp P (.reg4 pre fr c post suf) Q g s) = go (aopsD P 0 [] pre (floatQ P fr c.op c.dst pre.length post suf Q) g [] s) := by rw [awp_reg4]
theorem floatQ_eq (fr : List AOp) (op : AOp) (dc : Option (Bool × Nat)) (k : Nat) (post suf : List AOper) : floatQ P fr op dc k post suf Q g l s = AOp.step P op g l s (floatC P fr dc k post suf Q g l s) := rfl
@[simp] theorem go_floatQ_eq (fr : List AOp) (op : AOp) (dc : Option (Bool × Nat)) (k : Nat) (post suf : List AOper)  : go (floatQ P fr op dc k post suf Q g l s) = go (AOp.step P op g l s (floatC P fr dc k post suf Q g l s)) := by rw [floatQ_eq]
theorem floatC_eq (fr : List AOp) (dc : Option (Bool × Nat)) (k : Nat) (post suf : List AOper) (s0 : St) (v : AV) : floatC P fr dc k post suf Q g l s0 v s = ok (frs g l s0 s fr) (setDst dc v g l fun g1 l1 => aopsD P (k + 1) [] post (sufQ P suf Q) g1 l1 s) := rfl
@[simp] theorem go_floatC_eq (fr : List AOp) (dc : Option (Bool × Nat)) (k : Nat) (post suf : List AOper) (s0 : St) (v : AV)  : go (floatC P fr dc k post suf Q g l s0 v s) = go (ok (frs g l s0 s fr) (setDst dc v g l fun g1 l1 => aopsD P (k + 1) [] post (sufQ P suf Q) g1 l1 s)) := by rw [floatC_eq]
@[simp] theorem frs_nil (s0 : St) : frs g l s0 s [] = True := rfl
@[simp] theorem frs_cons (s0 : St) (op : AOp) (r : List AOp) : frs g l s0 s (op :: r) = (sameO (op.touch (AOpd.val g l)) s0 s ∧ frs g l s0 s r) := rfl
@[simp] theorem sameO_none (s0 : St) : sameO none s0 s = True := rfl
@[simp] theorem sameO_some (q : Nat) (s0 : St) : sameO (some q) s0 s = (s.m q = s0.m q) := rfl
theorem awp_frz (t : Nat) : awp P (.frz t) Q g s = frV t (g.get t) Q g s := by
  simp only [awp, frV]
  cases g.get t <;> rfl
@[simp] theorem go_awp_frz (t : Nat)  : go (awp P (.frz t) Q g s) = go (frV t (g.get t) Q g s) := by rw [awp_frz]
theorem frV_ptr (t o off : Nat) : frV t (.ptr o off) Q g s = frO t off (s.m o) Q g (s.del o) := rfl
@[simp] theorem go_frV_ptr (t o off : Nat)  : go (frV t (.ptr o off) Q g s) = go (frO t off (s.m o) Q g (s.del o)) := by rw [frV_ptr]
theorem frO_box (t off : Nat) (cs : List AV) : frO t off (some (.box cs)) Q g s = Q .normal ((t, .cptr (cs.drop off)) :: g) s := rfl
@[simp] theorem go_frO_box (t off : Nat) (cs : List AV)  : go (frO t off (some (.box cs)) Q g s) = go (Q .normal ((t, .cptr (cs.drop off)) :: g) s) := by rw [frO_box]
theorem awp_seq : awp P (.seq a b) Q g s = awp P a (seqQ P b Q) g s := rfl
@[simp] theorem go_awp_seq  : go (awp P (.seq a b) Q g s) = go (awp P a (seqQ P b Q) g s) := by rw [awp_seq]
theorem awp_cond (c : AOpd) : awp P (.cond c a b) Q g s = cdV P (c.val g []) a b Q g s := rfl
@[simp] theorem go_awp_cond (c : AOpd)  : go (awp P (.cond c a b) Q g s) = go (cdV P (c.val g []) a b Q g s) := by rw [awp_cond]
theorem awp_block : awp P (.block id b) Q g s = awp P b (blockQ id Q) g s := rfl
@[simp] theorem go_awp_block  : go (awp P (.block id b) Q g s) = go (awp P b (blockQ id Q) g s) := by rw [awp_block]
theorem awp_exit : awp P (.exit id) Q g s = Q (.exit id) g s := rfl
@[simp] theorem go_awp_exit  : go (awp P (.exit id) Q g s) = go (Q (.exit id) g s) := by rw [awp_exit]
theorem awp_ret : awp P .ret Q g s = Q .ret g s := rfl
@[simp] theorem go_awp_ret  : go (awp P .ret Q g s) = go (Q .ret g s) := by rw [awp_ret]
theorem regQ_eq : regQ Q g l s = Q .normal g s := rfl
@[simp] theorem go_regQ_eq  : go (regQ Q g l s) = go (Q .normal g s) := by rw [regQ_eq]
theorem seqQ_normal : seqQ P b Q .normal g s = awp P b Q g s := rfl
@[simp] theorem go_seqQ_normal  : go (seqQ P b Q .normal g s) = go (awp P b Q g s) := by rw [seqQ_normal]
theorem seqQ_exit : seqQ P b Q (.exit i) g s = Q (.exit i) g s := rfl
@[simp] theorem go_seqQ_exit  : go (seqQ P b Q (.exit i) g s) = go (Q (.exit i) g s) := by rw [seqQ_exit]
theorem seqQ_ret : seqQ P b Q .ret g s = Q .ret g s := rfl
@[simp] theorem go_seqQ_ret  : go (seqQ P b Q .ret g s) = go (Q .ret g s) := by rw [seqQ_ret]
theorem blockQ_normal : blockQ id Q .normal g s = Q .normal g s := rfl
@[simp] theorem go_blockQ_normal  : go (blockQ id Q .normal g s) = go (Q .normal g s) := by rw [blockQ_normal]
theorem blockQ_ret : blockQ id Q .ret g s = Q .ret g s := rfl
@[simp] theorem go_blockQ_ret  : go (blockQ id Q .ret g s) = go (Q .ret g s) := by rw [blockQ_ret]
theorem blockQ_exit : blockQ id Q (.exit i) g s = if i = id then Q .normal g s else Q (.exit i) g s := rfl
@[simp] theorem go_blockQ_exit  : go (blockQ id Q (.exit i) g s) = go (if i = id then Q .normal g s else Q (.exit i) g s) := by rw [blockQ_exit]
theorem loopQ_exit (n : Nat) (I : Nat → Env → St → Prop) : loopQ n I Q (.exit i) g s = Q (.exit i) g s := rfl
@[simp] theorem go_loopQ_exit (n : Nat) (I : Nat → Env → St → Prop)  : go (loopQ n I Q (.exit i) g s) = go (Q (.exit i) g s) := by rw [loopQ_exit]
theorem loopQ_ret (n : Nat) (I : Nat → Env → St → Prop) : loopQ n I Q .ret g s = Q .ret g s := rfl
@[simp] theorem go_loopQ_ret (n : Nat) (I : Nat → Env → St → Prop)  : go (loopQ n I Q .ret g s) = go (Q .ret g s) := by rw [loopQ_ret]
theorem loopQ_normal (n : Nat) (I : Nat → Env → St → Prop) : loopQ n I Q .normal g s = ∃ m, m < n ∧ I m g s := rfl
theorem finQ_normal (rs : List ARes) : finQ rs K .normal g s = retV (resVals rs g s) s K := rfl
@[simp] theorem go_finQ_normal (rs : List ARes)  : go (finQ rs K .normal g s) = go (retV (resVals rs g s) s K) := by rw [finQ_normal]
theorem finQ_ret (rs : List ARes) : finQ rs K .ret g s = retV (resVals rs g s) s K := rfl
@[simp] theorem go_finQ_ret (rs : List ARes)  : go (finQ rs K .ret g s) = go (retV (resVals rs g s) s K) := by rw [finQ_ret]
theorem retV_some (vs : List AV) : retV (some vs) s K = K (oneOf vs) s := rfl
@[simp] theorem go_retV_some (vs : List AV)  : go (retV (some vs) s K) = K (oneOf vs) s := by rw [retV_some]; rfl
theorem cdV_true : cdV P (.bool true) a b Q g s = awp P a Q g s := by simp [cdV]
@[simp] theorem go_cdV_true  : go (cdV P (.bool true) a b Q g s) = go (awp P a Q g s) := by rw [cdV_true]
theorem cdV_false : cdV P (.bool false) a b Q g s = awp P b Q g s := by simp [cdV]
@[simp] theorem go_cdV_false  : go (cdV P (.bool false) a b Q g s) = go (awp P b Q g s) := by rw [cdV_false]
theorem cdV_bool (t : Bool) : cdV P (.bool t) a b Q g s = ((t = true → awp P a Q g s) ∧ (t = false → awp P b Q g s)) := rfl
@[simp low] theorem go_cdV_bool (t : Bool)  : go (cdV P (.bool t) a b Q g s) = ((t = true → go (awp P a Q g s)) ∧ (t = false → go (awp P b Q g s))) := by rw [cdV_bool]; rfl
theorem aops_nil (K : Env → Env → St → Prop) : aops P [] K g l s = K g l s := rfl
@[simp] theorem go_aops_nil (K : Env → Env → St → Prop)  : go (aops P [] K g l s) = go (K g l s) := by rw [aops_nil]
theorem aopsD_nil (k : Nat) (acc : List (Nat × Nat)) (K : Env → Env → St → Prop) : aopsD P k acc [] K g l s = ∀ m, s.nx ≤ m → K g l (s.bump m) := rfl
@[simp] theorem go_aopsD_nil (k : Nat) (acc : List (Nat × Nat)) (K : Env → Env → St → Prop)  : go (aopsD P k acc [] K g l s) = ∀ m, s.nx ≤ m → go (K g l (s.bump m)) := rfl
/-- What an operation may not look at. -/
def farFrom (acc : List (Nat × Nat)) (conc : List Nat) (t : Option Nat) : Prop := match t with | some q => ∀ p ∈ acc, p.1 ∈ conc → p.2 ≠ q | none => True
@[simp] theorem farFrom_none (acc : List (Nat × Nat)) (conc : List Nat) : farFrom acc conc none = True := rfl
@[simp] theorem farFrom_nil (acc : List (Nat × Nat)) (t : Option Nat) : farFrom acc [] t = True := by cases t <;> simp [farFrom]
@[simp] theorem farFrom_some (acc : List (Nat × Nat)) (conc : List Nat) (q : Nat) : farFrom acc conc (some q) = ∀ p ∈ acc, p.1 ∈ conc → p.2 ≠ q := rfl
@[simp] theorem accTo_none (i nx : Nat) (acc : List (Nat × Nat)) : accTo i none false nx acc = acc := rfl
@[simp] theorem accTo_some (i q nx : Nat) (acc : List (Nat × Nat)) : accTo i (some q) false nx acc = (i, q) :: acc := rfl
@[simp] theorem accTo_noneM (i nx : Nat) (acc : List (Nat × Nat)) : accTo i none true nx acc = (i, nx) :: acc := rfl
@[simp] theorem accTo_someM (i q nx : Nat) (acc : List (Nat × Nat)) : accTo i (some q) true nx acc = (i, q) :: (i, nx) :: acc := rfl
end

section
variable (dst : Option (Bool × Nat)) (op : AOp) (cc : List Nat) (os : List AOper) (K : Env → Env → St → Prop) (t k : Nat) (want : Bool) (acc : List (Nat × Nat)) (v : AV)
/-- What is left behind an operation. -/
def kA (P : Program) (dst : Option (Bool × Nat)) (os : List AOper) (K : Env → Env → St → Prop) (g l : Env) (v : AV) (s : St) : Prop := setDst dst v g l fun g' l' => aops P os K g' l' s
def kD (P : Program) (k : Nat) (acc : List (Nat × Nat)) (dst : Option (Bool × Nat)) (os : List AOper) (K : Env → Env → St → Prop) (g l : Env) (v : AV) (s : St) : Prop := setDst dst v g l fun g' l' => aopsD P k acc os K g' l' s
def opD (P : Program) (k : Nat) (acc : List (Nat × Nat)) (dst : Option (Bool × Nat)) (op : AOp) (cc : List Nat) (os : List AOper) (K : Env → Env → St → Prop) (g l : Env) (s : St) : Prop :=
  ok (farFrom acc cc (op.touch (AOpd.val g l))) (AOp.step P op g l s (kD P (k + 1) (accTo k (op.touch (AOpd.val g l)) op.makes s.nx acc) dst os K g l))
def gdA (P : Program) (v : AV) (gl : Bool) (t : Nat) (want : Bool) (dst : Option (Bool × Nat)) (op : AOp) (os : List AOper) (K : Env → Env → St → Prop) (g l : Env) (s : St) : Prop :=
  gdV v gl t want g l (fun g l => AOp.step P op g l s (kA P dst os K g l)) (fun g l => kA P dst os K g l (.tup []) s)
def gdD (P : Program) (v : AV) (gl : Bool) (t : Nat) (want : Bool) (k : Nat) (acc : List (Nat × Nat)) (dst : Option (Bool × Nat)) (op : AOp) (cc : List Nat) (os : List AOper) (K : Env → Env → St → Prop) (g l : Env) (s : St) : Prop :=
  gdV v gl t want g l (fun g l => opD P k acc dst op cc os K g l s) (fun g l => kD P (k + 1) acc dst os K g l (.tup []) s)
@[congr] theorem kA_congr {v v' : AV} (hg : g = g') (hl : l = l') (hv : v = v') (hs : s = s') : kA P dst os K g l v s = kA P dst os K g' l' v' s' := by rw [hg, hl, hv, hs]
@[congr] theorem gdA_congr {v v' : AV} {gl : Bool} (hv : v = v') (hg : g = g') (hl : l = l') (hs : s = s') : gdA P v gl t want dst op os K g l s = gdA P v' gl t want dst op os K g' l' s' := by rw [hg, hl, hv, hs]
@[simp] theorem gokA_none : go (kA P none os K g l v s) = go (aops P os K g l s) := rfl
@[simp] theorem gokA_g : go (kA P (some (true, t)) os K g l v s) = go (aops P os K ((t, v) :: g) l s) := rfl
@[simp] theorem gokA_l : go (kA P (some (false, t)) os K g l v s) = go (aops P os K g ((t, v) :: l) s) := rfl
@[simp] theorem gokD_none : go (kD P k acc none os K g l v s) = go (aopsD P k acc os K g l s) := rfl
@[simp] theorem gokD_g : go (kD P k acc (some (true, t)) os K g l v s) = go (aopsD P k acc os K ((t, v) :: g) l s) := rfl
@[simp] theorem gokD_l : go (kD P k acc (some (false, t)) os K g l v s) = go (aopsD P k acc os K g ((t, v) :: l) s) := rfl
@[simp] theorem goopD : go (opD P k acc dst op cc os K g l s) = go (ok (farFrom acc cc (op.touch (AOpd.val g l))) (AOp.step P op g l s (kD P (k + 1) (accTo k (op.touch (AOpd.val g l)) op.makes s.nx acc) dst os K g l))) := rfl
theorem aops_cons : aops P (⟨dst, op, none, cc⟩ :: os) K g l s = AOp.step P op g l s (kA P dst os K g l) := rfl
@[simp] theorem go_aops_cons  : go (aops P (⟨dst, op, none, cc⟩ :: os) K g l s) = go (AOp.step P op g l s (kA P dst os K g l)) := by rw [aops_cons]
theorem aops_consg : aops P (⟨dst, op, some (true, t, want), cc⟩ :: os) K g l s = gdA P (g.get t) true t want dst op os K g l s := rfl
@[simp] theorem go_aops_consg  : go (aops P (⟨dst, op, some (true, t, want), cc⟩ :: os) K g l s) = go (gdA P (g.get t) true t want dst op os K g l s) := by rw [aops_consg]
theorem aops_consl : aops P (⟨dst, op, some (false, t, want), cc⟩ :: os) K g l s = gdA P (l.get t) false t want dst op os K g l s := rfl
@[simp] theorem go_aops_consl  : go (aops P (⟨dst, op, some (false, t, want), cc⟩ :: os) K g l s) = go (gdA P (l.get t) false t want dst op os K g l s) := by rw [aops_consl]
theorem aopsD_cons : aopsD P k acc (⟨dst, op, none, cc⟩ :: os) K g l s = opD P k acc dst op cc os K g l s := rfl
@[simp] theorem go_aopsD_cons  : go (aopsD P k acc (⟨dst, op, none, cc⟩ :: os) K g l s) = go (opD P k acc dst op cc os K g l s) := by rw [aopsD_cons]
theorem aopsD_consg : aopsD P k acc (⟨dst, op, some (true, t, want), cc⟩ :: os) K g l s = gdD P (g.get t) true t want k acc dst op cc os K g l s := rfl
@[simp] theorem go_aopsD_consg  : go (aopsD P k acc (⟨dst, op, some (true, t, want), cc⟩ :: os) K g l s) = go (gdD P (g.get t) true t want k acc dst op cc os K g l s) := by rw [aopsD_consg]
theorem aopsD_consl : aopsD P k acc (⟨dst, op, some (false, t, want), cc⟩ :: os) K g l s = gdD P (l.get t) false t want k acc dst op cc os K g l s := rfl
@[simp] theorem go_aopsD_consl  : go (aopsD P k acc (⟨dst, op, some (false, t, want), cc⟩ :: os) K g l s) = go (gdD P (l.get t) false t want k acc dst op cc os K g l s) := by rw [aopsD_consl]
@[simp] theorem gogdA_ttt : go (gdA P (.bool true) true t true dst op os K g l s) = go (AOp.step P op ((t, .bool true) :: g) l s (kA P dst os K ((t, .bool true) :: g) l)) := by simp [gdA, gdV, envSet]
@[simp] theorem gogdA_ttf : go (gdA P (.bool true) true t false dst op os K g l s) = go (kA P dst os K ((t, .bool true) :: g) l (.tup []) s) := by simp [gdA, gdV, envSet]
@[simp] theorem gogdA_tft : go (gdA P (.bool false) true t true dst op os K g l s) = go (kA P dst os K ((t, .bool false) :: g) l (.tup []) s) := by simp [gdA, gdV, envSet]
@[simp] theorem gogdA_tff : go (gdA P (.bool false) true t false dst op os K g l s) = go (AOp.step P op ((t, .bool false) :: g) l s (kA P dst os K ((t, .bool false) :: g) l)) := by simp [gdA, gdV, envSet]
@[simp low] theorem gogdA_tt (b : Bool) : go (gdA P (.bool b) true t true dst op os K g l s) = ((b = true → go (AOp.step P op ((t, .bool true) :: g) l s (kA P dst os K ((t, .bool true) :: g) l))) ∧ (b = false → go (kA P dst os K ((t, .bool false) :: g) l (.tup []) s))) := by simp [gdA, gdV, envSet, go]
@[simp low] theorem gogdA_tf (b : Bool) : go (gdA P (.bool b) true t false dst op os K g l s) = ((b = false → go (AOp.step P op ((t, .bool false) :: g) l s (kA P dst os K ((t, .bool false) :: g) l))) ∧ (b = true → go (kA P dst os K ((t, .bool true) :: g) l (.tup []) s))) := by simp [gdA, gdV, envSet, go]
@[simp] theorem gogdA_ftt : go (gdA P (.bool true) false t true dst op os K g l s) = go (AOp.step P op g ((t, .bool true) :: l) s (kA P dst os K g ((t, .bool true) :: l))) := by simp [gdA, gdV, envSet]
@[simp] theorem gogdA_ftf : go (gdA P (.bool true) false t false dst op os K g l s) = go (kA P dst os K g ((t, .bool true) :: l) (.tup []) s) := by simp [gdA, gdV, envSet]
@[simp] theorem gogdA_fft : go (gdA P (.bool false) false t true dst op os K g l s) = go (kA P dst os K g ((t, .bool false) :: l) (.tup []) s) := by simp [gdA, gdV, envSet]
@[simp] theorem gogdA_fff : go (gdA P (.bool false) false t false dst op os K g l s) = go (AOp.step P op g ((t, .bool false) :: l) s (kA P dst os K g ((t, .bool false) :: l))) := by simp [gdA, gdV, envSet]
@[simp low] theorem gogdA_ft (b : Bool) : go (gdA P (.bool b) false t true dst op os K g l s) = ((b = true → go (AOp.step P op g ((t, .bool true) :: l) s (kA P dst os K g ((t, .bool true) :: l)))) ∧ (b = false → go (kA P dst os K g ((t, .bool false) :: l) (.tup []) s))) := by simp [gdA, gdV, envSet, go]
@[simp low] theorem gogdA_ff (b : Bool) : go (gdA P (.bool b) false t false dst op os K g l s) = ((b = false → go (AOp.step P op g ((t, .bool false) :: l) s (kA P dst os K g ((t, .bool false) :: l)))) ∧ (b = true → go (kA P dst os K g ((t, .bool true) :: l) (.tup []) s))) := by simp [gdA, gdV, envSet, go]
@[simp] theorem gogdD_ttt : go (gdD P (.bool true) true t true k acc dst op cc os K g l s) = go (opD P k acc dst op cc os K ((t, .bool true) :: g) l s) := by simp [gdD, gdV, envSet]
@[simp] theorem gogdD_ttf : go (gdD P (.bool true) true t false k acc dst op cc os K g l s) = go (kD P (k + 1) acc dst os K ((t, .bool true) :: g) l (.tup []) s) := by simp [gdD, gdV, envSet]
@[simp] theorem gogdD_tft : go (gdD P (.bool false) true t true k acc dst op cc os K g l s) = go (kD P (k + 1) acc dst os K ((t, .bool false) :: g) l (.tup []) s) := by simp [gdD, gdV, envSet]
@[simp] theorem gogdD_tff : go (gdD P (.bool false) true t false k acc dst op cc os K g l s) = go (opD P k acc dst op cc os K ((t, .bool false) :: g) l s) := by simp [gdD, gdV, envSet]
@[simp low] theorem gogdD_tt (b : Bool) : go (gdD P (.bool b) true t true k acc dst op cc os K g l s) = ((b = true → go (opD P k acc dst op cc os K ((t, .bool true) :: g) l s)) ∧ (b = false → go (kD P (k + 1) acc dst os K ((t, .bool false) :: g) l (.tup []) s))) := by simp [gdD, gdV, envSet, go]
@[simp low] theorem gogdD_tf (b : Bool) : go (gdD P (.bool b) true t false k acc dst op cc os K g l s) = ((b = false → go (opD P k acc dst op cc os K ((t, .bool false) :: g) l s)) ∧ (b = true → go (kD P (k + 1) acc dst os K ((t, .bool true) :: g) l (.tup []) s))) := by simp [gdD, gdV, envSet, go]
@[simp] theorem gogdD_ftt : go (gdD P (.bool true) false t true k acc dst op cc os K g l s) = go (opD P k acc dst op cc os K g ((t, .bool true) :: l) s) := by simp [gdD, gdV, envSet]
@[simp] theorem gogdD_ftf : go (gdD P (.bool true) false t false k acc dst op cc os K g l s) = go (kD P (k + 1) acc dst os K g ((t, .bool true) :: l) (.tup []) s) := by simp [gdD, gdV, envSet]
@[simp] theorem gogdD_fft : go (gdD P (.bool false) false t true k acc dst op cc os K g l s) = go (kD P (k + 1) acc dst os K g ((t, .bool false) :: l) (.tup []) s) := by simp [gdD, gdV, envSet]
@[simp] theorem gogdD_fff : go (gdD P (.bool false) false t false k acc dst op cc os K g l s) = go (opD P k acc dst op cc os K g ((t, .bool false) :: l) s) := by simp [gdD, gdV, envSet]
@[simp low] theorem gogdD_ft (b : Bool) : go (gdD P (.bool b) false t true k acc dst op cc os K g l s) = ((b = true → go (opD P k acc dst op cc os K g ((t, .bool true) :: l) s)) ∧ (b = false → go (kD P (k + 1) acc dst os K g ((t, .bool false) :: l) (.tup []) s))) := by simp [gdD, gdV, envSet, go]
@[simp low] theorem gogdD_ff (b : Bool) : go (gdD P (.bool b) false t false k acc dst op cc os K g l s) = ((b = false → go (opD P k acc dst op cc os K g ((t, .bool false) :: l) s)) ∧ (b = true → go (kD P (k + 1) acc dst os K g ((t, .bool true) :: l) (.tup []) s))) := by simp [gdD, gdV, envSet, go]
@[simp] theorem gogdA_u (gl : Bool) : go (gdA P (.tup []) gl t want dst op os K g l s) = go (kA P dst os K g l (.tup []) s) := rfl
@[simp] theorem gogdD_u (gl : Bool) : go (gdD P (.tup []) gl t want k acc dst op cc os K g l s) = go (kD P (k + 1) acc dst os K g l (.tup []) s) := rfl
end

/-! ## Results -/
def cellO (n : Nat) (agg : Bool) (off : Nat) : Option AObj → Option AV
  | some (.box cs) => if off + n ≤ cs.length then loadAV n agg (cs.drop off) else none
  | _ => none
def cellV (n : Nat) (agg : Bool) (v : AV) (s : St) : Option AV := match v with | .ptr o off => cellO n agg off (s.m o) | _ => none
def consO : Option AV → Option (List AV) → Option (List AV)
  | some v, some l => some (v :: l)
  | _, _ => none
@[simp] theorem resVals_nil : resVals [] g s = some [] := rfl
@[simp] theorem resVals_tmp (t : Nat) (r : List ARes) : resVals (.tmp (true, t) :: r) g s = consO (some (g.get t)) (resVals r g s) := by simp [resVals, consO]; cases resVals r g s <;> rfl
@[simp] theorem resVals_cell (t n : Nat) (agg : Bool) (r : List ARes) : resVals (.cell (true, t) n agg :: r) g s = consO (cellV n agg (g.get t) s) (resVals r g s) := by
  simp only [resVals, cellV]
  cases g.get t <;> try rfl
  rename_i o off
  simp only [cellO]
  cases s.m o with
  | none => rfl
  | some ob =>
    cases ob <;> try rfl
    rename_i cs
    simp only
    by_cases h : off + n ≤ cs.length
    · simp only [h, if_true]
      cases loadAV n agg (cs.drop off) <;> cases resVals r g s <;> rfl
    · simp only [h, if_false]
      rfl
@[simp] theorem consO_some (v : AV) (l : List AV) : consO (some v) (some l) = some (v :: l) := rfl
@[simp] theorem cellV_ptr (n : Nat) (agg : Bool) (o off : Nat) : cellV n agg (.ptr o off) s = cellO n agg off (s.m o) := rfl
@[simp] theorem cellO_agg (n off : Nat) (cs : List AV) : cellO n true off (some (.box cs)) = if off + n ≤ cs.length then some (.agg ((cs.drop off).take n)) else none := rfl
@[simp] theorem cellO_one (n off : Nat) (cs : List AV) : cellO n false off (some (.box cs)) = if off + n ≤ cs.length then (cs.drop off).head? else none := by simp only [cellO, loadAV]; cases cs.drop off <;> simp
@[simp] theorem oneOf_one (v : AV) : oneOf [v] = v := rfl
@[simp] theorem oneOf_two (v w : AV) : oneOf [v, w] = .tup [v, w] := rfl
@[simp] theorem oneOf_three (v w x : AV) : oneOf [v, w, x] = .tup [v, w, x] := rfl

/-! ## What is made -/
section
@[simp] theorem makes_alloc (zs : List AV) : AOp.makes (.alloc zs) = true := rfl
@[simp] theorem makes_box (x : AOpd) : AOp.makes (.box x) = true := rfl
@[simp] theorem makes_append (n m : Nat) (a x : AOpd) : AOp.makes (.append n m a x) = true := rfl
@[simp] theorem makes_mkslice (n m : Nat) (zs : List AV) (b : Bool) (x y : AOpd) : AOp.makes (.mkslice n m zs b x y) = true := rfl
@[simp] theorem makes_load (n : Nat) (agg : Bool) (a : AOpd) : AOp.makes (.load n agg a) = false := rfl
@[simp] theorem makes_store (n : Nat) (a x : AOpd) : AOp.makes (.store n a x) = false := rfl
@[simp] theorem makes_mv (x : AOpd) : AOp.makes (.mv x) = false := rfl
@[simp] theorem makes_pick (x y z : AOpd) : AOp.makes (.pick x y z) = false := rfl
@[simp] theorem makes_build (zs : List AV) (ps : List (Nat × Nat × AOpd)) : AOp.makes (.build zs ps) = false := rfl
@[simp] theorem makes_buildSlice (sz : Nat) (agg : Bool) (zs : List AV) (m : Nat) (ps : List (Nat × AOpd)) : AOp.makes (.buildSlice sz agg zs m ps) = false := rfl
@[simp] theorem makes_nilCheck (x : AOpd) : AOp.makes (.nilCheck x) = false := rfl
@[simp] theorem makes_bin (op : BinOp) (x y : AOpd) : AOp.makes (.bin op x y) = false := rfl
@[simp] theorem makes_eqb (op : Bool) (x y : AOpd) : AOp.makes (.eqb op x y) = false := rfl
@[simp] theorem makes_un (op : UnOp) (x : AOpd) : AOp.makes (.un op x) = false := rfl
@[simp] theorem makes_conv (k : IntKind) (x : AOpd) : AOp.makes (.conv k x) = false := rfl
@[simp] theorem makes_mkfn (f : FuncId) (x y : List AOpd) : AOp.makes (.mkfn f x y) = false := rfl
@[simp] theorem makes_slice (n : Nat) (x : AOpd) (a b c : Option AOpd) : AOp.makes (.slice n x a b c) = false := rfl
@[simp] theorem makes_sliceStr (x : AOpd) (a b : Option AOpd) : AOp.makes (.sliceStr x a b) = false := rfl
@[simp] theorem makes_fieldAddr (n : Nat) (x : AOpd) : AOp.makes (.fieldAddr n x) = false := rfl
@[simp] theorem makes_field (n m : Nat) (b : Bool) (x : AOpd) : AOp.makes (.field n m b x) = false := rfl
@[simp] theorem makes_indexAddr (n : Nat) (x y : AOpd) : AOp.makes (.indexAddr n x y) = false := rfl
@[simp] theorem makes_arrAddr (n m : Nat) (x y : AOpd) : AOp.makes (.arrAddr n m x y) = false := rfl
@[simp] theorem makes_indexStr (x y : AOpd) : AOp.makes (.indexStr x y) = false := rfl
@[simp] theorem makes_extract (x : AOpd) (n : Nat) : AOp.makes (.extract x n) = false := rfl
@[simp] theorem makes_len (x : AOpd) : AOp.makes (.len x) = false := rfl
@[simp] theorem makes_lenStr (x : AOpd) : AOp.makes (.lenStr x) = false := rfl
@[simp] theorem makes_call (p : Bool) (f : AOpd) (as : List AOpd) : AOp.makes (.call p f as) = false := rfl
@[simp] theorem makes_min (x y : AOpd) : AOp.makes (.min x y) = false := rfl
@[simp] theorem makes_max (x y : AOpd) : AOp.makes (.max x y) = false := rfl
@[simp] theorem makes_mkmap : AOp.makes .mkmap = true := rfl
@[simp] theorem makes_range (x : AOpd) : AOp.makes (.range x) = true := rfl
@[simp] theorem makes_lookup (a b : Bool) (zs : List AV) (c : Bool) (x y : AOpd) : AOp.makes (.lookup a b zs c x y) = false := rfl
@[simp] theorem makes_mapUpdate (a : Bool) (x y z : AOpd) : AOp.makes (.mapUpdate a x y z) = false := rfl
@[simp] theorem makes_delete (a : Bool) (x y : AOpd) : AOp.makes (.delete a x y) = false := rfl
@[simp] theorem makes_lenMap (x : AOpd) : AOp.makes (.lenMap x) = false := rfl
end

/-! ## Touches -/
section
variable (α : AOpd → AV)
def ptrOf : AV → Option Nat
  | .ptr o _ => some o
  | .aptr _ o _ _ => some o
  | _ => none
def ownOf : AV → Option Nat
  | .list _ (.own o) _ => some o
  | .mref _ o _ _ => some o
  | _ => none
@[simp] theorem ownOf_mref (sz o off n : Nat) : ownOf (.mref sz o off n) = some o := rfl
@[simp] theorem ownOf_none (sz : Nat) (xs : List AV) : ownOf (.list sz .none xs) = none := rfl
@[simp] theorem ptrOf_ptr (o off : Nat) : ptrOf (.ptr o off) = some o := rfl
@[simp] theorem ptrOf_cptr (cs : List AV) : ptrOf (.cptr cs) = none := rfl
@[simp] theorem ownOf_own (sz o : Nat) (xs : List AV) : ownOf (.list sz (.own o) xs) = some o := rfl
@[simp] theorem ownOf_full (sz : Nat) (xs : List AV) : ownOf (.list sz .full xs) = none := rfl
def mapOf : AV → Option Nat
  | .map o => some o
  | _ => none
@[simp] theorem mapOf_map (o : Nat) : mapOf (.map o) = some o := rfl
@[simp] theorem mapOf_nil : mapOf .nilmap = none := rfl
@[simp] theorem touch_lookup (a b : Bool) (zs : List AV) (c : Bool) (x y : AOpd) : AOp.touch (.lookup a b zs c x y) α = mapOf (α x) := rfl
@[simp] theorem touch_mapUpdate (a : Bool) (x y z : AOpd) : AOp.touch (.mapUpdate a x y z) α = mapOf (α x) := rfl
@[simp] theorem touch_delete (a : Bool) (x y : AOpd) : AOp.touch (.delete a x y) α = mapOf (α x) := rfl
@[simp] theorem touch_lenMap (x : AOpd) : AOp.touch (.lenMap x) α = mapOf (α x) := rfl
@[simp] theorem touch_range (x : AOpd) : AOp.touch (.range x) α = mapOf (α x) := rfl
@[simp] theorem touch_mkmap : AOp.touch .mkmap α = none := rfl
@[simp] theorem touch_load (n : Nat) (agg : Bool) (a : AOpd) : AOp.touch (.load n agg a) α = ptrOf (α a) := rfl
@[simp] theorem touch_store (n : Nat) (a x : AOpd) : AOp.touch (.store n a x) α = ptrOf (α a) := rfl
@[simp] theorem touch_append (n m : Nat) (a x : AOpd) : AOp.touch (.append n m a x) α = ownOf (α a) := rfl
@[simp] theorem touch_mkslice (n m : Nat) (zs : List AV) (b : Bool) (x y : AOpd) : AOp.touch (.mkslice n m zs b x y) α = none := rfl
@[simp] theorem touch_mv (x : AOpd) : AOp.touch (.mv x) α = none := rfl
@[simp] theorem touch_pick (x y z : AOpd) : AOp.touch (.pick x y z) α = none := rfl
@[simp] theorem touch_alloc (zs : List AV) : AOp.touch (.alloc zs) α = none := rfl
@[simp] theorem touch_box (x : AOpd) : AOp.touch (.box x) α = none := rfl
@[simp] theorem touch_build (zs : List AV) (ps : List (Nat × Nat × AOpd)) : AOp.touch (.build zs ps) α = none := rfl
@[simp] theorem touch_buildSlice (sz : Nat) (agg : Bool) (zs : List AV) (m : Nat) (ps : List (Nat × AOpd)) : AOp.touch (.buildSlice sz agg zs m ps) α = none := rfl
@[simp] theorem touch_nilCheck (x : AOpd) : AOp.touch (.nilCheck x) α = none := rfl
@[simp] theorem touch_bin (op : BinOp) (x y : AOpd) : AOp.touch (.bin op x y) α = none := rfl
@[simp] theorem touch_eqb (op : Bool) (x y : AOpd) : AOp.touch (.eqb op x y) α = none := rfl
@[simp] theorem touch_un (op : UnOp) (x : AOpd) : AOp.touch (.un op x) α = none := rfl
@[simp] theorem touch_conv (k : IntKind) (x : AOpd) : AOp.touch (.conv k x) α = none := rfl
@[simp] theorem touch_mkfn (f : FuncId) (x y : List AOpd) : AOp.touch (.mkfn f x y) α = none := rfl
@[simp] theorem touch_slice (n : Nat) (x : AOpd) (a b c : Option AOpd) : AOp.touch (.slice n x a b c) α = none := rfl
@[simp] theorem touch_sliceStr (x : AOpd) (a b : Option AOpd) : AOp.touch (.sliceStr x a b) α = none := rfl
@[simp] theorem touch_fieldAddr (n : Nat) (x : AOpd) : AOp.touch (.fieldAddr n x) α = none := rfl
@[simp] theorem touch_field (n m : Nat) (b : Bool) (x : AOpd) : AOp.touch (.field n m b x) α = none := rfl
@[simp] theorem touch_indexAddr (n : Nat) (x y : AOpd) : AOp.touch (.indexAddr n x y) α = none := rfl
@[simp] theorem touch_arrAddr (n m : Nat) (x y : AOpd) : AOp.touch (.arrAddr n m x y) α = none := rfl
@[simp] theorem touch_indexStr (x y : AOpd) : AOp.touch (.indexStr x y) α = none := rfl
@[simp] theorem touch_extract (x : AOpd) (n : Nat) : AOp.touch (.extract x n) α = none := rfl
@[simp] theorem touch_len (x : AOpd) : AOp.touch (.len x) α = none := rfl
@[simp] theorem touch_lenStr (x : AOpd) : AOp.touch (.lenStr x) α = none := rfl
@[simp] theorem touch_call (p : Bool) (f : AOpd) (as : List AOpd) : AOp.touch (.call p f as) α = none := rfl
@[simp] theorem touch_min (x y : AOpd) : AOp.touch (.min x y) α = none := rfl
@[simp] theorem touch_max (x y : AOpd) : AOp.touch (.max x y) α = none := rfl
end

end

theorem awpFun_go (af : AFun) (args : List AV) (s : St) (K : KS) (h : go (awp P af.body (finQ af.results K) (argEnv 0 args) s)) : awpFun P af args s K := by
  have e : finQ af.results K = (fun e g s => match e with | .exit _ => False | _ => match resVals af.results g s with | some vs => K (oneOf vs) s | none => False) := by
    funext e g s
    cases e <;> rfl
  rw [e] at h
  exact h
theorem awpFun_eq (af : AFun) (args : List AV) (s : St) (K : KS) : awpFun P af args s K = awp P af.body (finQ af.results K) (argEnv 0 args) s := by
  show awp P af.body _ _ _ = awp P af.body _ _ _
  refine congrArg (fun Q => awp P af.body Q (argEnv 0 args) s) ?_
  funext e g s
  cases e <;> rfl

/-- A loop: what holds at its head, with a number that becomes smaller. -/
theorem awp_loop {b : ACode} {Q : AExit → Env → St → Prop} {g : Env} {s : St} (I : Nat → Env → St → Prop) (n : Nat) (h0 : I n g s) (h : ∀ n g s, I n g s → awp P b (loopQ n I Q) g s) : awp P (.loop b) Q g s :=
  ⟨I, n, h0, fun n g s hI => by
    have := h n g s hI
    have e : loopQ n I Q = fun e g' s' => match e with | .normal => ∃ m, m < n ∧ I m g' s' | e => Q e g' s' := by funext e g s; cases e <;> rfl
    rwa [e] at this⟩

/-- The same, where the walk is. -/
theorem go_loop {b : ACode} {Q : AExit → Env → St → Prop} {g : Env} {s : St} (I : Nat → Env → St → Prop) (n : Nat) (h0 : I n g s) (h : ∀ n g s, I n g s → go (awp P b (loopQ n I Q) g s)) : go (awp P (.loop b) Q g s) := awp_loop I n h0 h

@[simp] theorem argEnv_nil (i : Nat) : argEnv i [] = [] := rfl
@[simp] theorem argEnv_cons (i : Nat) (v : AV) (r : List AV) : argEnv i (v :: r) = (i, v) :: argEnv (i + 1) r := rfl

end Go.AL
