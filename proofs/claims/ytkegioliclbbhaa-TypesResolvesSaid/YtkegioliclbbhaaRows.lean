/-
  NARROWER THAN 'FOR EVERY INPUT', by the rows' own cells (each row's printed sentence says how): TypesPuts: loops · TypesShifts: loops · TypesBinds: loops · TypesSpines: loops · TypesBack: loops · TypesTotal: loops · TypesOrders: loops · TypesChecks: loops · TypesResolves: loops.
  DERIVED. THE GIVEN ROWS OF THIS SEAT. 9 by the template 'for every input the law returns true; each argument reads behind the call as it read before'; 0 by the template 'total and deterministic' (their statements: YtkegioliclbbhaaTotals.lean).
  GIVEN WITH THE SEED: the statements are not yours to turn. If you find one false, say at which input.
  Laid BY PROGRAM, IN A SANDBOX (cutbox-rows.mjs): the forced cells as the released guide's own fill.sh prints them over the translation 16134eed2eca6f9f… (all of the seat's roots in one cut). By AI agents, Wed Nov 11 2026. No macro, syntax, notation, axiom, sorry.
-/
import Derived.Test.YtkegioliclbbhaaChecked
import GoSem.Claim
import GoSem.ClaimJoined
import GoSem.ClaimMapViews
import Derived.JoinedTies
import Derived.KernelRfl
namespace Go.Proofs.Ytkegioliclbbhaa
/- THE CELL 'sum', in the pinned program and in every row, IS THE sha256 OF THE DUMP (.gsa) THAT YtkegioliclbbhaaProg.lean LOADS. Nothing in Lean hashes anything: it is a label: what it is worth is what the hold of that sum in a sandbox is worth. -/
noncomputable def Try.pinned : Pinned := { name := "ytkegioliclbbhaa", sum := "16134eed2eca6f9f07091d664f44e25dfb29e0705c56f2c9305c3df192731cc2", checked := Try.checked }
namespace Rows
def none {H : Type} : Left H := { results := [], args := [] }

/-- 'damasklaw05.TypesPuts': WHATEVER THE INPUT: true; the input reads as it did. -/
def typesPutsSpec : ChangeSpec := { name := "typesPuts", fn := fun _ => fun
  | [d1, d2] => { results := [.lit (.bool true)], args := [d1, d2] }
  | _ => none }
def typesPutsRow : OpenClaim := { program := "ytkegioliclbbhaa", sum := "16134eed2eca6f9f07091d664f44e25dfb29e0705c56f2c9305c3df192731cc2", func := "damask/damasklaw05.TypesPuts", spec := "typesPuts", unfollowed := true, recurses := true, loops := true, apart := false }
def TypesPutsSaid : Prop := typesPutsRow.holds Try.pinned (OpenSpec.ofChange typesPutsSpec)

/-- ITS FALSE NEIGHBOUR: 'it returns false'. Refute it at one input. -/
def typesPutsWrong : ChangeSpec := { name := "typesPuts", fn := fun _ => fun
  | [d1, d2] => { results := [.lit (.bool false)], args := [d1, d2] }
  | _ => none }
def TypesPutsWrongFalsely : Prop := typesPutsRow.holds Try.pinned (OpenSpec.ofChange typesPutsWrong)

/-- 'damasklaw05.TypesShifts': WHATEVER THE INPUT: true; the input reads as it did. -/
def typesShiftsSpec : ChangeSpec := { name := "typesShifts", fn := fun _ => fun
  | [d1, d2, d3] => { results := [.lit (.bool true)], args := [d1, d2, d3] }
  | _ => none }
def typesShiftsRow : OpenClaim := { program := "ytkegioliclbbhaa", sum := "16134eed2eca6f9f07091d664f44e25dfb29e0705c56f2c9305c3df192731cc2", func := "damask/damasklaw05.TypesShifts", spec := "typesShifts", unfollowed := true, recurses := true, loops := true, apart := false }
def TypesShiftsSaid : Prop := typesShiftsRow.holds Try.pinned (OpenSpec.ofChange typesShiftsSpec)

/-- ITS FALSE NEIGHBOUR: 'it returns false'. Refute it at one input. -/
def typesShiftsWrong : ChangeSpec := { name := "typesShifts", fn := fun _ => fun
  | [d1, d2, d3] => { results := [.lit (.bool false)], args := [d1, d2, d3] }
  | _ => none }
def TypesShiftsWrongFalsely : Prop := typesShiftsRow.holds Try.pinned (OpenSpec.ofChange typesShiftsWrong)

/-- 'damasklaw05.TypesBinds': WHATEVER THE INPUT: true; the input reads as it did. -/
def typesBindsSpec : ChangeSpec := { name := "typesBinds", fn := fun _ => fun
  | [d1, d2, d3] => { results := [.lit (.bool true)], args := [d1, d2, d3] }
  | _ => none }
def typesBindsRow : OpenClaim := { program := "ytkegioliclbbhaa", sum := "16134eed2eca6f9f07091d664f44e25dfb29e0705c56f2c9305c3df192731cc2", func := "damask/damasklaw05.TypesBinds", spec := "typesBinds", unfollowed := true, recurses := true, loops := true, apart := false }
def TypesBindsSaid : Prop := typesBindsRow.holds Try.pinned (OpenSpec.ofChange typesBindsSpec)

/-- ITS FALSE NEIGHBOUR: 'it returns false'. Refute it at one input. -/
def typesBindsWrong : ChangeSpec := { name := "typesBinds", fn := fun _ => fun
  | [d1, d2, d3] => { results := [.lit (.bool false)], args := [d1, d2, d3] }
  | _ => none }
def TypesBindsWrongFalsely : Prop := typesBindsRow.holds Try.pinned (OpenSpec.ofChange typesBindsWrong)

/-- 'damasklaw05.TypesSpines': WHATEVER THE INPUT: true; the input reads as it did. -/
def typesSpinesSpec : ChangeSpec := { name := "typesSpines", fn := fun _ => fun
  | [d1, d2] => { results := [.lit (.bool true)], args := [d1, d2] }
  | _ => none }
def typesSpinesRow : OpenClaim := { program := "ytkegioliclbbhaa", sum := "16134eed2eca6f9f07091d664f44e25dfb29e0705c56f2c9305c3df192731cc2", func := "damask/damasklaw05.TypesSpines", spec := "typesSpines", unfollowed := true, recurses := true, loops := true, apart := false }
def TypesSpinesSaid : Prop := typesSpinesRow.holds Try.pinned (OpenSpec.ofChange typesSpinesSpec)

/-- ITS FALSE NEIGHBOUR: 'it returns false'. Refute it at one input. -/
def typesSpinesWrong : ChangeSpec := { name := "typesSpines", fn := fun _ => fun
  | [d1, d2] => { results := [.lit (.bool false)], args := [d1, d2] }
  | _ => none }
def TypesSpinesWrongFalsely : Prop := typesSpinesRow.holds Try.pinned (OpenSpec.ofChange typesSpinesWrong)

/-- 'damasklaw05.TypesBack': WHATEVER THE INPUT: true; the input reads as it did. -/
def typesBackSpec : ChangeSpec := { name := "typesBack", fn := fun _ => fun
  | [d1, d2, d3] => { results := [.lit (.bool true)], args := [d1, d2, d3] }
  | _ => none }
def typesBackRow : OpenClaim := { program := "ytkegioliclbbhaa", sum := "16134eed2eca6f9f07091d664f44e25dfb29e0705c56f2c9305c3df192731cc2", func := "damask/damasklaw05.TypesBack", spec := "typesBack", unfollowed := true, recurses := true, loops := true, apart := false }
def TypesBackSaid : Prop := typesBackRow.holds Try.pinned (OpenSpec.ofChange typesBackSpec)

/-- ITS FALSE NEIGHBOUR: 'it returns false'. Refute it at one input. -/
def typesBackWrong : ChangeSpec := { name := "typesBack", fn := fun _ => fun
  | [d1, d2, d3] => { results := [.lit (.bool false)], args := [d1, d2, d3] }
  | _ => none }
def TypesBackWrongFalsely : Prop := typesBackRow.holds Try.pinned (OpenSpec.ofChange typesBackWrong)

/-- 'damasklaw05.TypesTotal': WHATEVER THE INPUT: true; the input reads as it did. -/
def typesTotalSpec : ChangeSpec := { name := "typesTotal", fn := fun _ => fun
  | [d1, d2, d3] => { results := [.lit (.bool true)], args := [d1, d2, d3] }
  | _ => none }
def typesTotalRow : OpenClaim := { program := "ytkegioliclbbhaa", sum := "16134eed2eca6f9f07091d664f44e25dfb29e0705c56f2c9305c3df192731cc2", func := "damask/damasklaw05.TypesTotal", spec := "typesTotal", unfollowed := true, recurses := true, loops := true, apart := false }
def TypesTotalSaid : Prop := typesTotalRow.holds Try.pinned (OpenSpec.ofChange typesTotalSpec)

/-- ITS FALSE NEIGHBOUR: 'it returns false'. Refute it at one input. -/
def typesTotalWrong : ChangeSpec := { name := "typesTotal", fn := fun _ => fun
  | [d1, d2, d3] => { results := [.lit (.bool false)], args := [d1, d2, d3] }
  | _ => none }
def TypesTotalWrongFalsely : Prop := typesTotalRow.holds Try.pinned (OpenSpec.ofChange typesTotalWrong)

/-- 'damasklaw05.TypesOrders': WHATEVER THE INPUT: true; the input reads as it did. -/
def typesOrdersSpec : ChangeSpec := { name := "typesOrders", fn := fun _ => fun
  | [d1, d2] => { results := [.lit (.bool true)], args := [d1, d2] }
  | _ => none }
def typesOrdersRow : OpenClaim := { program := "ytkegioliclbbhaa", sum := "16134eed2eca6f9f07091d664f44e25dfb29e0705c56f2c9305c3df192731cc2", func := "damask/damasklaw05.TypesOrders", spec := "typesOrders", unfollowed := true, recurses := true, loops := true, apart := false }
def TypesOrdersSaid : Prop := typesOrdersRow.holds Try.pinned (OpenSpec.ofChange typesOrdersSpec)

/-- ITS FALSE NEIGHBOUR: 'it returns false'. Refute it at one input. -/
def typesOrdersWrong : ChangeSpec := { name := "typesOrders", fn := fun _ => fun
  | [d1, d2] => { results := [.lit (.bool false)], args := [d1, d2] }
  | _ => none }
def TypesOrdersWrongFalsely : Prop := typesOrdersRow.holds Try.pinned (OpenSpec.ofChange typesOrdersWrong)

/-- 'damasklaw05.TypesChecks': WHATEVER THE INPUT: true; the input reads as it did. -/
def typesChecksSpec : ChangeSpec := { name := "typesChecks", fn := fun _ => fun
  | [d] => { results := [.lit (.bool true)], args := [d] }
  | _ => none }
def typesChecksRow : OpenClaim := { program := "ytkegioliclbbhaa", sum := "16134eed2eca6f9f07091d664f44e25dfb29e0705c56f2c9305c3df192731cc2", func := "damask/damasklaw05.TypesChecks", spec := "typesChecks", unfollowed := true, recurses := true, loops := true, apart := false }
def TypesChecksSaid : Prop := typesChecksRow.holds Try.pinned (OpenSpec.ofChange typesChecksSpec)

/-- ITS FALSE NEIGHBOUR: 'it returns false'. Refute it at one input. -/
def typesChecksWrong : ChangeSpec := { name := "typesChecks", fn := fun _ => fun
  | [d] => { results := [.lit (.bool false)], args := [d] }
  | _ => none }
def TypesChecksWrongFalsely : Prop := typesChecksRow.holds Try.pinned (OpenSpec.ofChange typesChecksWrong)

/-- 'damasklaw05.TypesResolves': WHATEVER THE INPUT: true; the input reads as it did. -/
def typesResolvesSpec : ChangeSpec := { name := "typesResolves", fn := fun _ => fun
  | [d1, d2] => { results := [.lit (.bool true)], args := [d1, d2] }
  | _ => none }
def typesResolvesRow : OpenClaim := { program := "ytkegioliclbbhaa", sum := "16134eed2eca6f9f07091d664f44e25dfb29e0705c56f2c9305c3df192731cc2", func := "damask/damasklaw05.TypesResolves", spec := "typesResolves", unfollowed := true, recurses := true, loops := true, apart := false }
def TypesResolvesSaid : Prop := typesResolvesRow.holds Try.pinned (OpenSpec.ofChange typesResolvesSpec)

/-- ITS FALSE NEIGHBOUR: 'it returns false'. Refute it at one input. -/
def typesResolvesWrong : ChangeSpec := { name := "typesResolves", fn := fun _ => fun
  | [d1, d2] => { results := [.lit (.bool false)], args := [d1, d2] }
  | _ => none }
def TypesResolvesWrongFalsely : Prop := typesResolvesRow.holds Try.pinned (OpenSpec.ofChange typesResolvesWrong)

/- THE SECOND FORM. 'bulk': how many values and letters a reading holds, each counted each time it is reached (what is shared counts as often as it is met; a slice's spare places count too). A statement '..UptoSaid' is the law's where the arguments, and the package variables that the reading takes, are together of bulk at most 1048576: NARROWER than '..Said'. Prove '..Said' where nothing that the law and all that it calls make is longer than what came in: it says more and counts as full. Else prove '..UptoSaid'. A law counts once. -/
mutual
def uptoBulk {H : Type} : DataW H → Nat
  | .lit (.string bytes) => bytes.length + 1
  | .lit _ => 1
  | .nil => 1
  | .ptr d => uptoBulk d + 1
  | .slice elems spare => uptoBulkAll elems + uptoBulkAll spare + 1
  | .agg parts => uptoBulkAll parts + 1
  | .iface _ d => uptoBulk d + 1
  | .map entries => uptoBulkEntries entries + 1
  | .held _ => 1
def uptoBulkAll {H : Type} : List (DataW H) → Nat
  | [] => 0
  | d :: r => uptoBulk d + uptoBulkAll r
def uptoBulkEntries {H : Type} : List (Lit × DataW H) → Nat
  | [] => 0
  | x :: r => uptoBulkEntry x + uptoBulkEntries r
def uptoBulkEntry {H : Type} : Lit × DataW H → Nat
  | (.string bytes, d) => bytes.length + uptoBulk d + 1
  | (_, d) => uptoBulk d + 1
 end
def uptoSmall : (H : Type) → List (DataW H) → Bool := fun _ ds => decide (uptoBulkAll ds ≤ 1048576)
def OpenSpec.upto (s : _root_.Go.ChangeSpec) : _root_.Go.OpenSpec := { _root_.Go.OpenSpec.ofChange s with cond := some uptoSmall }

/-- 'damasklaw05.TypesPuts', WHERE WHAT IT READS IS OF BULK AT MOST 1048576: true; the input reads as it did. -/
def typesPutsUptoRow : OpenClaim := { program := "ytkegioliclbbhaa", sum := "16134eed2eca6f9f07091d664f44e25dfb29e0705c56f2c9305c3df192731cc2", func := "damask/damasklaw05.TypesPuts", spec := "typesPuts", unfollowed := true, recurses := true, loops := true, apart := false, narrowed := true }
def TypesPutsUptoSaid : Prop := typesPutsUptoRow.holds Try.pinned (OpenSpec.upto typesPutsSpec)

/-- 'damasklaw05.TypesShifts', WHERE WHAT IT READS IS OF BULK AT MOST 1048576: true; the input reads as it did. -/
def typesShiftsUptoRow : OpenClaim := { program := "ytkegioliclbbhaa", sum := "16134eed2eca6f9f07091d664f44e25dfb29e0705c56f2c9305c3df192731cc2", func := "damask/damasklaw05.TypesShifts", spec := "typesShifts", unfollowed := true, recurses := true, loops := true, apart := false, narrowed := true }
def TypesShiftsUptoSaid : Prop := typesShiftsUptoRow.holds Try.pinned (OpenSpec.upto typesShiftsSpec)

/-- 'damasklaw05.TypesBinds', WHERE WHAT IT READS IS OF BULK AT MOST 1048576: true; the input reads as it did. -/
def typesBindsUptoRow : OpenClaim := { program := "ytkegioliclbbhaa", sum := "16134eed2eca6f9f07091d664f44e25dfb29e0705c56f2c9305c3df192731cc2", func := "damask/damasklaw05.TypesBinds", spec := "typesBinds", unfollowed := true, recurses := true, loops := true, apart := false, narrowed := true }
def TypesBindsUptoSaid : Prop := typesBindsUptoRow.holds Try.pinned (OpenSpec.upto typesBindsSpec)

/-- 'damasklaw05.TypesSpines', WHERE WHAT IT READS IS OF BULK AT MOST 1048576: true; the input reads as it did. -/
def typesSpinesUptoRow : OpenClaim := { program := "ytkegioliclbbhaa", sum := "16134eed2eca6f9f07091d664f44e25dfb29e0705c56f2c9305c3df192731cc2", func := "damask/damasklaw05.TypesSpines", spec := "typesSpines", unfollowed := true, recurses := true, loops := true, apart := false, narrowed := true }
def TypesSpinesUptoSaid : Prop := typesSpinesUptoRow.holds Try.pinned (OpenSpec.upto typesSpinesSpec)

/-- 'damasklaw05.TypesBack', WHERE WHAT IT READS IS OF BULK AT MOST 1048576: true; the input reads as it did. -/
def typesBackUptoRow : OpenClaim := { program := "ytkegioliclbbhaa", sum := "16134eed2eca6f9f07091d664f44e25dfb29e0705c56f2c9305c3df192731cc2", func := "damask/damasklaw05.TypesBack", spec := "typesBack", unfollowed := true, recurses := true, loops := true, apart := false, narrowed := true }
def TypesBackUptoSaid : Prop := typesBackUptoRow.holds Try.pinned (OpenSpec.upto typesBackSpec)

/-- 'damasklaw05.TypesTotal', WHERE WHAT IT READS IS OF BULK AT MOST 1048576: true; the input reads as it did. -/
def typesTotalUptoRow : OpenClaim := { program := "ytkegioliclbbhaa", sum := "16134eed2eca6f9f07091d664f44e25dfb29e0705c56f2c9305c3df192731cc2", func := "damask/damasklaw05.TypesTotal", spec := "typesTotal", unfollowed := true, recurses := true, loops := true, apart := false, narrowed := true }
def TypesTotalUptoSaid : Prop := typesTotalUptoRow.holds Try.pinned (OpenSpec.upto typesTotalSpec)

/-- 'damasklaw05.TypesOrders', WHERE WHAT IT READS IS OF BULK AT MOST 1048576: true; the input reads as it did. -/
def typesOrdersUptoRow : OpenClaim := { program := "ytkegioliclbbhaa", sum := "16134eed2eca6f9f07091d664f44e25dfb29e0705c56f2c9305c3df192731cc2", func := "damask/damasklaw05.TypesOrders", spec := "typesOrders", unfollowed := true, recurses := true, loops := true, apart := false, narrowed := true }
def TypesOrdersUptoSaid : Prop := typesOrdersUptoRow.holds Try.pinned (OpenSpec.upto typesOrdersSpec)

/-- 'damasklaw05.TypesChecks', WHERE WHAT IT READS IS OF BULK AT MOST 1048576: true; the input reads as it did. -/
def typesChecksUptoRow : OpenClaim := { program := "ytkegioliclbbhaa", sum := "16134eed2eca6f9f07091d664f44e25dfb29e0705c56f2c9305c3df192731cc2", func := "damask/damasklaw05.TypesChecks", spec := "typesChecks", unfollowed := true, recurses := true, loops := true, apart := false, narrowed := true }
def TypesChecksUptoSaid : Prop := typesChecksUptoRow.holds Try.pinned (OpenSpec.upto typesChecksSpec)

/-- 'damasklaw05.TypesResolves', WHERE WHAT IT READS IS OF BULK AT MOST 1048576: true; the input reads as it did. -/
def typesResolvesUptoRow : OpenClaim := { program := "ytkegioliclbbhaa", sum := "16134eed2eca6f9f07091d664f44e25dfb29e0705c56f2c9305c3df192731cc2", func := "damask/damasklaw05.TypesResolves", spec := "typesResolves", unfollowed := true, recurses := true, loops := true, apart := false, narrowed := true }
def TypesResolvesUptoSaid : Prop := typesResolvesUptoRow.holds Try.pinned (OpenSpec.upto typesResolvesSpec)

end Rows
end Go.Proofs.Ytkegioliclbbhaa
