/- What binds. -/
import Derived.Test.YtlledcnjfgcipaaGreatDoorF2
import Derived.Test.YtlledcnjfgcipaaGreatDoorProg
import Derived.KernelRfl
import Derived.Test.YtlledcnjfgcipaaGreatDoorF14
import Derived.Sort.Row
import Derived.Sort.Grow
import Derived.Sort.EncStr
import Derived.Lib.SlicesCompact
import Derived.ChangeMaps5
import Derived.Test.YtlledcnjfgcipaaGreatDoorRows
import Derived.WideKeyElems2
import Derived.OpenShut
import Derived.FnData
import Derived.MakeChecks
import Derived.Shelf.Sort.Plain
import Derived.Shelf.Slices.In.SortNone
import Derived.Shelf.Slices.CompactS
set_option linter.unusedVariables false
set_option linter.unusedSimpArgs false
namespace Go.AL.Dm
open Go.Proofs
/- damask/term.Parts -/
def a103r0 : Rg := [oT 1 (.box (.g 0)), oT 2 (.mv (.c .nilfn))]
def a103r1 : Rg := [oL 3 (.mkfn 143 [] [(.g 1)]), oT 2 (.mv (.l 3))]
def a103b : ACode := (.seq (.seq (rq a103r0) (.frz 1)) (.seq (rq a103r1) .ret))
def a103 : AFun := ⟨1, 4, a103b, [.tmp (true, 2)]⟩
theorem c103 : compileFun Tryz.prog [0, 1, 2, 1000000000001] Tryz.f103 = some a103 := by kernel_rfl
/- damask/term.Parts$1 -/
def a143r0 : Rg := [oL 8 (.load 5 true (.g 1)), oL 9 (.cf 141 [(.l 8)]), oT 3 (.mv (.l 9))]
def a143r1 : Rg := [oL 10 (.fa 3 (.g 1)), oT 11 (.ld (.l 10)), oT 12 (.len (.g 11)), oT 13 (.mv (ci 0))]
def a143r2 : Rg := [oT 14 (.bin .lss (.g 13) (.g 12))]
def a143r3 : Rg := [oL 15 (.ia 5 (.g 11) (.g 13)), oL 16 (.load 5 true (.l 15)), oT 5 (.alloc [i0, i0, s0, nl, nl]), oN (.store 5 (.g 5) (.l 16))]
def a143r4 : Rg := [oL 17 (.mv (.g 0)), oL 18 (.mv (.g 3)), oL 19 (.load 5 true (.g 5)), oL 20 (.call false (.l 17) [(.l 18), (.l 19)]), oT 21 (.un .not (.l 20))]
def a143r5 : Rg := [oL 22 (.bin .add (.g 13) (ci 1)), oT 13 (.mv (.l 22))]
def a143l6 : ACode := (.seq (rq a143r2) (.seq (.cond (.g 14) .skip (.exit 0)) (.seq (.block 1 (.seq (rq a143r3) (.seq (rq a143r4) (.cond (.g 21) .ret .skip)))) (rq a143r5))))
def a143r7 : Rg := [oL 23 (.fa 4 (.g 1)), oT 24 (.ld (.l 23)), oT 25 (.len (.g 24)), oT 26 (.mv (ci 0))]
def a143r8 : Rg := [oT 27 (.bin .lss (.g 26) (.g 25))]
def a143r9 : Rg := [oL 28 (.ia 8 (.g 24) (.g 26)), oL 29 (.load 8 true (.l 28)), oT 7 (.alloc [i0, s0, i0, i0, i0, s0, nl, nl]), oN (.store 8 (.g 7) (.l 29))]
def a143r10 : Rg := [oL 30 (.mv (.g 0)), oL 31 (.load 8 true (.g 7)), oL 32 (.ct 142 [(.l 31)]), oL 33 (.fa 3 (.g 7)), oL 34 (.load 5 true (.l 33))]
def a143s10 : Rg := [oL 35 (.call false (.l 30) [(.l 32), (.l 34)]), oT 36 (.un .not (.l 35))]
def a143r11 : Rg := [oL 37 (.bin .add (.g 26) (ci 1)), oT 26 (.mv (.l 37))]
def a143l12 : ACode := (.seq (rq a143r8) (.seq (.cond (.g 27) .skip (.exit 2)) (.seq (.block 3 (.seq (rq a143r9) (.seq (.reg2 a143r10 a143s10) (.cond (.g 36) .ret .skip)))) (rq a143r11))))
def a143b : ACode := (.seq (rq a143r0) (.seq (.seq (rq a143r1) (.block 0 (.loop a143l6))) (.seq (rq a143r7) (.block 2 (.loop a143l12)))))
def a143 : AFun := ⟨2, 38, a143b, []⟩
theorem c143 : compileFun Tryz.prog [0, 1, 3, 5, 7, 11, 12, 13, 14, 21, 24, 25, 26, 27, 36, 10000000999999] Tryz.f143 = some a143 := by kernel_rfl
/- damask/term.Free -/
def a104r0 : Rg := [oT 1 (.box (.g 0)), oT 2 (.mv (.c nl))]
def a104r1 : Rg := [oL 6 (.mkmap), oT 3 (.mv (.l 6))]
def a104r2 : Rg := [oL 7 (.mv (.g 3)), oL 8 (.load 5 true (.g 1)), oL 9 (.cf 144 [(.l 7), (.l 8), (ci 0)])]
def a104r3 : Rg := [oT 4 (.mkslice 1 0 [] true (.c .any) (.c .any))]
def a104r4 : Rg := [oL 10 (.mv (.g 3)), oT 11 (.range (.l 10))]
def a104r5 : Rg := [oL 12 (.next (.g 11)), oT 13 (.extract (.l 12) 0)]
def a104r6 : Rg := [oL 14 (.entry (.g 11)), oL 15 (.extract (.l 14) 0), oT 5 (.mv (.l 15))]
def a104r7 : Rg := [oL 16 (.mv (.g 4)), oL 17 (.mv (.g 5)), oL 18 (.buildSlice 1 false [i0] 1 [(0, (.l 17))]), oL 19 (.append 1 8 (.l 16) (.l 18)), oT 4 (.mv (.l 19))]
def a104l8 : ACode := (.seq (rq a104r5) (.seq (.cond (.g 13) .skip (.exit 0)) (.block 1 (.seq (rq a104r6) (rq a104r7)))))
def a104r9 : Rg := [oL 20 (.mv (.g 4)), oL 21 (.cf 50 [(.l 20)])]
def a104r10 : Rg := [oL 22 (.mv (.g 4)), oT 2 (.mv (.l 22))]
def a104b : ACode := (.seq (rq a104r0) (.seq (rq a104r1) (.seq (rq a104r2) (.seq (rq a104r3) (.seq (.seq (rq a104r4) (.block 0 (.loop a104l8))) (.seq (rq a104r9) (.seq (rq a104r10) .ret)))))))
def a104 : AFun := ⟨1, 23, a104b, [.tmp (true, 2)]⟩
theorem c104 : compileFun Tryz.prog [0, 1, 2, 3, 4, 5, 11, 13, 5000001] Tryz.f104 = some a104 := by kernel_rfl
/- (damask/term.free).add -/
def a144r0 : Rg := [oT 3 (.box (.g 0)), oT 4 (.box (.g 1)), oT 5 (.box (.g 2))]
def a144r1 : Rg := [oL 8 (.fa 0 (.g 4)), oL 9 (.ld (.l 8)), oT 10 (.bin .eql (.l 9) (ci 1))]
def a144r2 : Rg := [oL 11 (.fa 1 (.g 4)), oL 12 (.ld (.l 11)), oL 13 (.ld (.g 5)), oT 14 (.bin .geq (.l 12) (.l 13))]
def a144r3 : Rg := [oL 15 (.ld (.g 3)), oL 16 (.fa 1 (.g 4)), oL 17 (.ld (.l 16)), oL 18 (.ld (.g 5)), oL 19 (.bin .sub (.l 17) (.l 18)), oN (.mapUpdate false (.l 15) (.l 19) cT)]
def a144r4 : Rg := [oL 20 (.load 5 true (.g 4)), oT 21 (.cf 103 [(.l 20)])]
def a144r5 : Rg := [oT 6 (.mv (.g 22))]
def a144r6 : Rg := [oT 7 (.alloc [i0, i0, s0, nl, nl]), oN (.store 5 (.g 7) (.g 23))]
def a144r7 : Rg := [oL 24 (.ld (.g 3)), oL 25 (.load 5 true (.g 7)), oL 26 (.ld (.g 5)), oL 27 (.mv (.g 6)), oL 28 (.bin .add (.l 26) (.l 27)), oL 29 (.cf 144 [(.l 24), (.l 25), (.l 28)])]
def a144x8 : ACode := (.seq (rq a144r5) (rq a144r6))
def a144y8 : ACode := (.block 1 (rq a144r7))
def a144b : ACode := (.seq (rq a144r0) (.seq (.seq (rq a144r1) (.cond (.g 10) (.seq (.seq (rq a144r2) (.cond (.g 14) (rq a144r3) .skip)) .ret) .skip)) (.seq (rq a144r4) (.block 0 (.rfunc (.g 21) [22, 23] 30 [3, 5, 6, 7, 22, 23] a144x8 a144y8)))))
def a144 : AFun := ⟨3, 30, a144b, []⟩
theorem c144 : compileFun Tryz.prog [0, 1, 2, 3, 4, 5, 6, 7, 10, 14, 21, 22, 23] Tryz.f144 = some a144 := by kernel_rfl
/- damask/term.Globals -/
def a47r0 : Rg := [oT 1 (.box (.g 0)), oT 2 (.mv (.c nl))]
def a47r1 : Rg := [oT 3 (.alloc [nl])]
def a47r2 : Rg := [oL 5 (.load 5 true (.g 1)), oT 6 (.cf 84 [(.l 5)])]
def a47r3 : Rg := [oT 4 (.alloc [i0, i0, s0, nl, nl]), oN (.store 5 (.g 4) (.g 7))]
def a47r4 : Rg := [oL 8 (.fa 0 (.g 4)), oL 9 (.ld (.l 8)), oT 10 (.bin .eql (.l 9) (ci 2))]
def a47r5 : Rg := [oL 11 (.ld (.g 3)), oL 12 (.fa 2 (.g 4)), oL 13 (.ld (.l 12)), oL 14 (.buildSlice 1 false [s0] 1 [(0, (.l 13))]), oL 15 (.append 1 16 (.l 11) (.l 14)), oN (.store 1 (.g 3) (.l 15))]
def a47x6 : ACode := (rq a47r3)
def a47y6 : ACode := (.block 1 (.seq (rq a47r4) (.cond (.g 10) (rq a47r5) .skip)))
def a47r7 : Rg := [oL 16 (.ld (.g 3)), oL 17 (.cf 85 [(.l 16)])]
def a47r8 : Rg := [oL 18 (.ld (.g 3)), oL 19 (.cf 86 [(.l 18)]), oT 2 (.mv (.l 19))]
def a47b : ACode := (.seq (rq a47r0) (.seq (rq a47r1) (.seq (.seq (rq a47r2) (.block 0 (.rfunc (.g 6) [7] 20 [3, 4, 7, 10] a47x6 a47y6))) (.seq (rq a47r7) (.seq (rq a47r8) .ret)))))
def a47 : AFun := ⟨1, 20, a47b, [.tmp (true, 2)]⟩
theorem c47 : compileFun Tryz.prog [0, 1, 2, 3, 4, 6, 7, 10] Tryz.f47 = some a47 := by kernel_rfl
/- damask/term.All -/
def a84r0 : Rg := [oT 1 (.box (.g 0)), oT 2 (.mv (.c .nilfn))]
def a84r1 : Rg := [oL 3 (.mkfn 118 [] [(.g 1)]), oT 2 (.mv (.l 3))]
def a84b : ACode := (.seq (.seq (rq a84r0) (.frz 1)) (.seq (rq a84r1) .ret))
def a84 : AFun := ⟨1, 4, a84b, [.tmp (true, 2)]⟩
theorem c84 : compileFun Tryz.prog [0, 1, 2, 1000000000001] Tryz.f84 = some a84 := by kernel_rfl
/- damask/term.All$1 -/
def a118r0 : Rg := [oL 3 (.load 5 true (.g 1)), oL 4 (.mv (.g 0)), oL 5 (.cf 119 [(.l 3), (.l 4)])]
def a118b : ACode := (rq a118r0)
def a118 : AFun := ⟨2, 6, a118b, []⟩
theorem c118 : compileFun Tryz.prog [0, 1] Tryz.f118 = some a118 := by kernel_rfl
/- damask/term.all -/
def a119r0 : Rg := [oT 2 (.box (.g 0)), oT 3 (.box (.g 1)), oT 4 (.alloc [bF])]
def a119r1 : Rg := [oL 7 (.ld (.g 3)), oL 8 (.load 5 true (.g 2)), oL 9 (.call false (.l 7) [(.l 8)]), oT 10 (.un .not (.l 9))]
def a119r2 : Rg := [oN (.store 1 (.g 4) cF)]
def a119r3 : Rg := [oL 11 (.load 5 true (.g 2)), oT 12 (.cf 103 [(.l 11)])]
def a119r4 : Rg := [oT 6 (.alloc [i0, i0, s0, nl, nl]), oN (.store 5 (.g 6) (.g 14))]
def a119r5 : Rg := [oL 15 (.load 5 true (.g 6)), oL 16 (.ld (.g 3)), oL 17 (.cf 119 [(.l 15), (.l 16)]), oT 18 (.un .not (.l 17))]
def a119r6 : Rg := [oN (.store 1 (.g 4) cF)]
def a119x7 : ACode := (rq a119r4)
def a119y7 : ACode := (.block 1 (.seq (rq a119r5) (.cond (.g 18) (.seq (rq a119r6) .ret) .skip)))
def a119r8 : Rg := [oN (.store 1 (.g 4) cT)]
def a119b : ACode := (.seq (rq a119r0) (.seq (.seq (rq a119r1) (.cond (.g 10) (.seq (rq a119r2) .ret) .skip)) (.seq (.seq (rq a119r3) (.block 0 (.rfunc (.g 12) [13, 14] 19 [3, 4, 6, 14, 18] a119x7 a119y7))) (.seq (rq a119r8) .ret))))
def a119 : AFun := ⟨2, 19, a119b, [.cell (true, 4) 1 false]⟩
theorem c119 : compileFun Tryz.prog [0, 1, 2, 3, 4, 6, 10, 12, 14, 18] Tryz.f119 = some a119 := by kernel_rfl
/- damask/term.IsClosed -/
def a75r0 : Rg := [oT 2 (.box (.g 0)), oT 3 (.box (.g 1)), oT 4 (.mv cF)]
def a75r1 : Rg := [oL 5 (.load 5 true (.g 2)), oL 6 (.cf 104 [(.l 5)]), oL 7 (.len (.l 6)), oL 8 (.bin .eql (.l 7) (ci 0)), oL 9 (.mv (.l 8)), oLt 10 (.load 5 true (.g 2)) 9, oLt 11 (.cf 47 [(.l 10)]) 9, oLt 12 (.mkfn 109 [] [(.g 3)]) 9, oLt 13 (.cf 46 [(.l 11), (.l 12)]) 9, oLt 14 (.un .not (.l 13)) 9, oL 15 (.pick (.l 9) (.l 14) cF), oT 4 (.mv (.l 15))]
def a75b : ACode := (.seq (rq a75r0) (.seq (rq a75r1) .ret))
def a75 : AFun := ⟨2, 16, a75b, [.tmp (true, 4)]⟩
theorem c75 : compileFun Tryz.prog [0, 1, 2, 3, 4] Tryz.f75 = some a75 := by kernel_rfl
/- damask/term.IsClosed$1 -/
def a109r0 : Rg := [oT 3 (.mv cF)]
def a109r1 : Rg := [oL 4 (.ld (.g 1)), oL 5 (.mv (.g 0)), oL 6 (.lookup true false [bF] false (.l 4) (.l 5)), oL 7 (.un .not (.l 6)), oT 3 (.mv (.l 7))]
def a109b : ACode := (.seq (rq a109r0) (.seq (rq a109r1) .ret))
def a109 : AFun := ⟨2, 8, a109b, [.tmp (true, 3)]⟩
theorem c109 : compileFun Tryz.prog [0, 1, 3] Tryz.f109 = some a109 := by kernel_rfl
/- slices.ContainsFunc[[]string,string] -/
def a46r0 : Rg := [oT 4 (.mv cF)]
def a46r1 : Rg := [oL 5 (.mv (.g 0)), oL 6 (.mv (.g 1)), oL 7 (.cf 83 [(.l 5), (.l 6)]), oL 8 (.bin .geq (.l 7) (ci 0)), oT 4 (.mv (.l 8))]
def a46b : ACode := (.seq (rq a46r0) (.seq (rq a46r1) .ret))
def a46 : AFun := ⟨2, 9, a46b, [.tmp (true, 4)]⟩
theorem c46 : compileFun Tryz.prog [0, 1, 4] Tryz.f46 = some a46 := by kernel_rfl
/- slices.IndexFunc[[]string,string] -/
def a83r0 : Rg := [oT 4 (.mv (ci 0))]
def a83r1 : Rg := [oL 6 (.mv (.g 0)), oT 7 (.len (.l 6)), oT 8 (.mv (ci 0))]
def a83r2 : Rg := [oT 9 (.bin .lss (.g 8) (.g 7))]
def a83r3 : Rg := [oL 10 (.mv (.g 8)), oT 5 (.mv (.l 10))]
def a83r4 : Rg := [oL 11 (.mv (.g 1)), oL 12 (.mv (.g 0)), oL 13 (.mv (.g 5)), oL 14 (.ia 1 (.l 12) (.l 13)), oL 15 (.ld (.l 14)), oT 16 (.call false (.l 11) [(.l 15)])]
def a83r5 : Rg := [oL 17 (.mv (.g 5)), oT 4 (.mv (.l 17))]
def a83r6 : Rg := [oL 18 (.bin .add (.g 8) (ci 1)), oT 8 (.mv (.l 18))]
def a83l7 : ACode := (.seq (rq a83r2) (.seq (.cond (.g 9) .skip (.exit 0)) (.seq (.block 1 (.seq (rq a83r3) (.seq (rq a83r4) (.cond (.g 16) (.seq (rq a83r5) .ret) .skip)))) (rq a83r6))))
def a83r8 : Rg := [oT 4 (.mv (ci (-1)))]
def a83b : ACode := (.seq (rq a83r0) (.seq (.seq (rq a83r1) (.block 0 (.loop a83l7))) (.seq (rq a83r8) .ret)))
def a83 : AFun := ⟨2, 19, a83b, [.tmp (true, 4)]⟩
theorem c83 : compileFun Tryz.prog [0, 1, 4, 5, 7, 8, 9, 16] Tryz.f83 = some a83 := by kernel_rfl
/- damask/term.IsProgram -/
def a36r0 : Rg := [oT 2 (.mv cF)]
def a36r1 : Rg := [oL 8 (.mv (.g 0)), oL 9 (.len (.l 8)), oT 10 (.bin .gtr (.l 9) (ci 400))]
def a36r2 : Rg := [oT 2 (.mv cF)]
def a36r3 : Rg := [oL 11 (.mkmap), oT 3 (.mv (.l 11))]
def a36r4 : Rg := [oT 12 (.mv (.g 0)), oT 13 (.len (.g 12)), oT 14 (.mv (ci 0))]
def a36r5 : Rg := [oT 15 (.bin .lss (.g 14) (.g 13))]
def a36r6 : Rg := [oL 16 (.ia 6 (.g 12) (.g 14)), oL 17 (.load 6 true (.l 16)), oT 5 (.alloc [s0, i0, i0, s0, nl, nl]), oN (.store 6 (.g 5) (.l 17))]
def a36r7 : Rg := [oL 18 (.fa 0 (.g 5)), oL 19 (.ld (.l 18)), oL 20 (.cf 74 [(.l 19)]), oL 21 (.un .not (.l 20)), oL 22 (.mv (.l 21)), oLf 23 (.mv (.g 3)) 22, oLf 24 (.fa 0 (.g 5)) 22, oLf 25 (.ld (.l 24)) 22, oLf 26 (.lookup true false [bF] false (.l 23) (.l 25)) 22, oL 27 (.pick (.l 22) cT (.l 26)), oL 28 (.mv (.l 27)), oLf 29 (.fa 1 (.g 5)) 28, oLf 30 (.load 5 true (.l 29)) 28, oLf 31 (.cf 45 [(.l 30)]) 28, oLf 32 (.un .not (.l 31)) 28, oT 33 (.pick (.l 28) cT (.l 32))]
def a36r8 : Rg := [oT 2 (.mv cF)]
def a36r9 : Rg := [oL 34 (.mv (.g 3)), oL 35 (.fa 0 (.g 5)), oL 36 (.ld (.l 35)), oN (.mapUpdate true (.l 34) (.l 36) cT)]
def a36r10 : Rg := [oL 37 (.bin .add (.g 14) (ci 1)), oT 14 (.mv (.l 37))]
def a36l11 : ACode := (.seq (rq a36r5) (.seq (.cond (.g 15) .skip (.exit 0)) (.seq (.block 1 (.seq (rq a36r6) (.seq (.seq (rq a36r7) (.cond (.g 33) (.seq (rq a36r8) .ret) .skip)) (rq a36r9)))) (rq a36r10))))
def a36r12 : Rg := [oT 38 (.mv (.g 0)), oT 39 (.len (.g 38)), oT 40 (.mv (ci 0))]
def a36r13 : Rg := [oT 41 (.bin .lss (.g 40) (.g 39))]
def a36r14 : Rg := [oL 42 (.ia 6 (.g 38) (.g 40)), oL 43 (.load 6 true (.l 42)), oT 7 (.alloc [s0, i0, i0, s0, nl, nl]), oN (.store 6 (.g 7) (.l 43))]
def a36r15 : Rg := [oL 44 (.fa 1 (.g 7)), oL 45 (.load 5 true (.l 44)), oL 46 (.mv (.g 3)), oL 47 (.cf 75 [(.l 45), (.l 46)]), oT 48 (.un .not (.l 47))]
def a36r16 : Rg := [oT 2 (.mv cF)]
def a36r17 : Rg := [oL 49 (.bin .add (.g 40) (ci 1)), oT 40 (.mv (.l 49))]
def a36l18 : ACode := (.seq (rq a36r13) (.seq (.cond (.g 41) .skip (.exit 2)) (.seq (.block 3 (.seq (rq a36r14) (.seq (rq a36r15) (.cond (.g 48) (.seq (rq a36r16) .ret) .skip)))) (rq a36r17))))
def a36r19 : Rg := [oT 2 (.mv cT)]
def a36b : ACode := (.seq (rq a36r0) (.seq (.seq (rq a36r1) (.cond (.g 10) (.seq (rq a36r2) .ret) .skip)) (.seq (rq a36r3) (.seq (.seq (rq a36r4) (.block 0 (.loop a36l11))) (.seq (.seq (rq a36r12) (.block 2 (.loop a36l18))) (.seq (rq a36r19) .ret))))))
def a36 : AFun := ⟨1, 50, a36b, [.tmp (true, 2)]⟩
theorem c36 : compileFun Tryz.prog [0, 2, 3, 5, 7, 10, 12, 13, 14, 15, 33, 38, 39, 40, 41, 48] Tryz.f36 = some a36 := by kernel_rfl
/- damask/damaskref15.inner -/
def a101r0 : Rg := [oT 1 (.box (.g 0)), oT 2 (.mv (ci 0))]
def a101r1 : Rg := [oL 3 (.fa 0 (.g 1)), oT 4 (.ld (.l 3))]
def a101r2 : Rg := [oL 6 (.bin .eql (.g 4) (ci 5)), oT 5 (.mv (.l 6))]
def a101r3 : Rg := [oL 7 (.fa 1 (.g 1)), oL 8 (.ld (.l 7)), oT 2 (.mv (.l 8))]
def a101r4 : Rg := [oL 10 (.bin .eql (.g 4) (ci 7)), oT 9 (.mv (.l 10))]
def a101r5 : Rg := [oL 11 (.fa 3 (.g 1)), oL 12 (.ld (.l 11)), oL 13 (.len (.l 12)), oL 14 (.bin .sub (.l 13) (ci 1)), oT 2 (.mv (.l 14))]
def a101r6 : Rg := [oT 2 (.mv (ci 0))]
def a101b : ACode := (.seq (rq a101r0) (.seq (.seq (rq a101r1) (.block 0 (.seq (rq a101r2) (.cond (.g 5) (.seq (rq a101r3) .ret) (.seq (rq a101r4) (.cond (.g 9) (.seq (rq a101r5) .ret) .skip)))))) (.seq (rq a101r6) .ret)))
def a101 : AFun := ⟨1, 15, a101b, [.tmp (true, 2)]⟩
theorem c101 : compileFun Tryz.prog [0, 1, 2, 4, 5, 9] Tryz.f101 = some a101 := by kernel_rfl
/- damask/damaskref15.Binds -/
def a95r0 : Rg := [oT 1 (.box (.g 0)), oT 2 (.mv (ci 0))]
def a95r1 : Rg := [oL 3 (.fa 0 (.g 1)), oL 4 (.ld (.l 3)), oT 5 (.bin .eql (.l 4) (ci 2))]
def a95r2 : Rg := [oL 6 (.fa 2 (.g 1)), oL 7 (.ld (.l 6)), oL 8 (.bin .add (ci 1) (.l 7)), oT 2 (.mv (.l 8))]
def a95r3 : Rg := [oT 2 (.mv (ci 1))]
def a95b : ACode := (.seq (rq a95r0) (.seq (.seq (rq a95r1) (.cond (.g 5) (.seq (rq a95r2) .ret) .skip)) (.seq (rq a95r3) .ret)))
def a95 : AFun := ⟨1, 9, a95b, [.tmp (true, 2)]⟩
theorem c95 : compileFun Tryz.prog [0, 1, 2, 5] Tryz.f95 = some a95 := by kernel_rfl
/- sort.Ints -/
def a98r0 : Rg := [oL 2 (.mv (.g 0)), oL 3 (.cf 50 [(.l 2)])]
def a98b : ACode := (rq a98r0)
def a98 : AFun := ⟨1, 4, a98b, []⟩
theorem c98 : compileFun Tryz.prog [0] Tryz.f98 = some a98 := by kernel_rfl
/- damask/damaskref15.below -/
def a61r0 : Rg := [oT 2 (.box (.g 0)), oT 4 (.mv cF)]
def a61r1 : Rg := [oL 7 (.fa 0 (.g 2)), oL 8 (.ld (.l 7)), oT 9 (.bin .eql (.l 8) (ci 1))]
def a61r2 : Rg := [oL 10 (.fa 1 (.g 2)), oL 11 (.ld (.l 10)), oL 12 (.mv (.g 1)), oL 13 (.bin .lss (.l 11) (.l 12)), oT 4 (.mv (.l 13))]
def a61r3 : Rg := [oT 5 (.mv (ci 0))]
def a61r4 : Rg := [oL 14 (.mv (.g 5)), oL 15 (.fa 3 (.g 2)), oL 16 (.ld (.l 15)), oL 17 (.len (.l 16)), oT 18 (.bin .lss (.l 14) (.l 17))]
def a61r5 : Rg := [oL 21 (.fa 3 (.g 2)), oL 22 (.ld (.l 21)), oL 23 (.mv (.g 5)), oL 24 (.ia 5 (.l 22) (.l 23)), oL 25 (.load 5 true (.l 24)), oL 26 (.mv (.g 1)), oL 27 (.load 5 true (.g 2)), oL 28 (.ct 101 [(.l 27)]), oL 29 (.bin .add (.l 26) (.l 28)), oL 30 (.ct 61 [(.l 25), (.l 29)]), oT 31 (.un .not (.l 30))]
def a61r6 : Rg := [oT 4 (.mv cF)]
def a61r7 : Rg := [oL 19 (.mv (.g 5)), oL 20 (.bin .add (.l 19) (ci 1)), oT 5 (.mv (.l 20))]
def a61l8 : ACode := (.seq (.seq (rq a61r4) (.cond (.g 18) .skip (.exit 0))) (.seq (.block 1 (.seq (.reg true a61r5) (.cond (.g 31) (.seq (rq a61r6) .ret) .skip))) (rq a61r7)))
def a61r9 : Rg := [oT 6 (.mv (ci 0))]
def a61r10 : Rg := [oL 32 (.mv (.g 6)), oL 33 (.fa 4 (.g 2)), oL 34 (.ld (.l 33)), oL 35 (.len (.l 34)), oT 36 (.bin .lss (.l 32) (.l 35))]
def a61r11 : Rg := [oL 39 (.fa 4 (.g 2)), oL 40 (.ld (.l 39)), oL 41 (.mv (.g 6)), oL 42 (.ia 8 (.l 40) (.l 41)), oL 43 (.fa 3 (.l 42)), oL 44 (.load 5 true (.l 43)), oL 45 (.mv (.g 1)), oL 46 (.fa 4 (.g 2)), oL 47 (.ld (.l 46)), oL 48 (.mv (.g 6)), oL 49 (.ia 8 (.l 47) (.l 48)), oL 50 (.load 8 true (.l 49)), oL 51 (.ct 95 [(.l 50)]), oL 52 (.bin .add (.l 45) (.l 51)), oL 53 (.ct 61 [(.l 44), (.l 52)]), oT 54 (.un .not (.l 53))]
def a61r12 : Rg := [oT 4 (.mv cF)]
def a61r13 : Rg := [oL 37 (.mv (.g 6)), oL 38 (.bin .add (.l 37) (ci 1)), oT 6 (.mv (.l 38))]
def a61l14 : ACode := (.seq (.seq (rq a61r10) (.cond (.g 36) .skip (.exit 2))) (.seq (.block 3 (.seq (.reg true a61r11) (.cond (.g 54) (.seq (rq a61r12) .ret) .skip))) (rq a61r13)))
def a61r15 : Rg := [oT 4 (.mv cT)]
def a61b : ACode := (.seq (rq a61r0) (.seq (.seq (rq a61r1) (.cond (.g 9) (.seq (rq a61r2) .ret) .skip)) (.seq (.seq (rq a61r3) (.block 0 (.loop a61l8))) (.seq (.seq (rq a61r9) (.block 2 (.loop a61l14))) (.seq (rq a61r15) .ret)))))
def a61 : AFun := ⟨2, 55, a61b, [.tmp (true, 4)]⟩
theorem c61 : compileFun Tryz.prog [0, 1, 2, 4, 5, 6, 9, 18, 31, 36, 54] Tryz.f61 = some a61 := by kernel_rfl
/- damask/damaskref15.Term -/
def a31r0 : Rg := [oT 2 (.box (.g 0)), oT 4 (.mv cF)]
def a31r1 : Rg := [oL 8 (.load 5 true (.g 2)), oL 9 (.cf 27 [(.l 8)]), oT 10 (.un .not (.l 9))]
def a31r2 : Rg := [oT 4 (.mv cF)]
def a31r3 : Rg := [oL 11 (.mv (.g 1)), oT 12 (.bin .leq (.l 11) (ci 0))]
def a31r4 : Rg := [oL 13 (.load 5 true (.g 2)), oL 14 (.cf 61 [(.l 13), (ci 0)]), oT 4 (.mv (.l 14))]
def a31r5 : Rg := [oL 16 (.load 5 true (.g 2)), oL 17 (.cf 62 [(.l 16)]), oL 15 (.mv (.l 17)), oL 18 (.extract (.l 15) 0), oL 19 (.extract (.l 15) 1), oT 5 (.mv (.l 18)), oL 6 (.mv (.l 19))]
def a31r6 : Rg := [oT 7 (.mv (ci 0))]
def a31r7 : Rg := [oL 20 (.mv (.g 7)), oL 21 (.mv (.g 5)), oL 22 (.len (.l 21)), oT 23 (.bin .lss (.l 20) (.l 22))]
def a31r8 : Rg := [oL 26 (.mv (.g 5)), oL 27 (.mv (.g 7)), oL 28 (.ia 1 (.l 26) (.l 27)), oL 29 (.ld (.l 28)), oL 30 (.mv (.g 1)), oT 31 (.bin .geq (.l 29) (.l 30))]
def a31r9 : Rg := [oT 4 (.mv cF)]
def a31r10 : Rg := [oL 24 (.mv (.g 7)), oL 25 (.bin .add (.l 24) (ci 1)), oT 7 (.mv (.l 25))]
def a31l11 : ACode := (.seq (.seq (rq a31r7) (.cond (.g 23) .skip (.exit 0))) (.seq (.block 1 (.seq (rq a31r8) (.cond (.g 31) (.seq (rq a31r9) .ret) .skip))) (rq a31r10)))
def a31r12 : Rg := [oT 4 (.mv cT)]
def a31b : ACode := (.seq (rq a31r0) (.seq (.seq (rq a31r1) (.cond (.g 10) (.seq (rq a31r2) .ret) .skip)) (.seq (.seq (rq a31r3) (.cond (.g 12) (.seq (rq a31r4) .ret) .skip)) (.seq (rq a31r5) (.seq (.seq (rq a31r6) (.block 0 (.loop a31l11))) (.seq (rq a31r12) .ret))))))
def a31 : AFun := ⟨2, 32, a31b, [.tmp (true, 4)]⟩
theorem c31 : compileFun Tryz.prog [0, 1, 2, 4, 5, 7, 10, 12, 23, 31] Tryz.f31 = some a31 := by kernel_rfl
/- damask/damaskref15.Globals -/
def a52r0 : Rg := [oT 1 (.box (.g 0)), oT 2 (.mv (.c nl))]
def a52r1 : Rg := [oL 6 (.load 5 true (.g 1)), oL 7 (.cf 92 [(.l 6), (.c nl)]), oT 3 (.mv (.l 7))]
def a52r2 : Rg := [oL 8 (.mv (.g 3)), oL 9 (.cf 93 [(.l 8)])]
def a52r3 : Rg := [oT 4 (.mkslice 1 0 [] true (.c .any) (.c .any))]
def a52r4 : Rg := [oT 5 (.mv (ci 0))]
def a52r5 : Rg := [oL 10 (.mv (.g 5)), oL 11 (.mv (.g 3)), oL 12 (.len (.l 11)), oT 13 (.bin .lss (.l 10) (.l 12))]
def a52r6 : Rg := [oL 16 (.mv (.g 5)), oL 17 (.bin .eql (.l 16) (ci 0)), oL 18 (.mv (.l 17)), oLf 19 (.mv (.g 3)) 18, oLf 20 (.mv (.g 5)) 18, oLf 21 (.ia 1 (.l 19) (.l 20)) 18, oLf 22 (.ld (.l 21)) 18, oLf 23 (.mv (.g 3)) 18, oLf 24 (.mv (.g 5)) 18, oLf 25 (.bin .sub (.l 24) (ci 1)) 18, oLf 26 (.ia 1 (.l 23) (.l 25)) 18, oLf 27 (.ld (.l 26)) 18, oLf 28 (.bin .neq (.l 22) (.l 27)) 18, oT 29 (.pick (.l 18) cT (.l 28))]
def a52r7 : Rg := [oL 30 (.mv (.g 4)), oL 31 (.mv (.g 3)), oL 32 (.mv (.g 5)), oL 33 (.ia 1 (.l 31) (.l 32)), oL 34 (.ld (.l 33)), oL 35 (.buildSlice 1 false [s0] 1 [(0, (.l 34))]), oL 36 (.append 1 16 (.l 30) (.l 35)), oT 4 (.mv (.l 36))]
def a52r8 : Rg := [oL 14 (.mv (.g 5)), oL 15 (.bin .add (.l 14) (ci 1)), oT 5 (.mv (.l 15))]
def a52l9 : ACode := (.seq (.seq (rq a52r5) (.cond (.g 13) .skip (.exit 0))) (.seq (.block 1 (.seq (.reg true a52r6) (.cond (.g 29) (rq a52r7) .skip))) (rq a52r8)))
def a52r10 : Rg := [oL 37 (.mv (.g 4)), oT 2 (.mv (.l 37))]
def a52b : ACode := (.seq (rq a52r0) (.seq (rq a52r1) (.seq (rq a52r2) (.seq (rq a52r3) (.seq (.seq (rq a52r4) (.block 0 (.loop a52l9))) (.seq (rq a52r10) .ret))))))
def a52 : AFun := ⟨1, 38, a52b, [.tmp (true, 2)]⟩
theorem c52 : compileFun Tryz.prog [0, 1, 2, 3, 4, 5, 13, 29, 5000001] Tryz.f52 = some a52 := by kernel_rfl
/- damask/damaskref15.named -/
def a92r0 : Rg := [oT 2 (.box (.g 0)), oT 4 (.mv (.c nl))]
def a92r1 : Rg := [oL 7 (.fa 0 (.g 2)), oL 8 (.ld (.l 7)), oT 9 (.bin .eql (.l 8) (ci 2))]
def a92r2 : Rg := [oL 10 (.mv (.g 1)), oL 11 (.fa 2 (.g 2)), oL 12 (.ld (.l 11)), oL 13 (.buildSlice 1 false [s0] 1 [(0, (.l 12))]), oL 14 (.append 1 16 (.l 10) (.l 13)), oT 1 (.mv (.l 14))]
def a92r3 : Rg := [oT 5 (.mv (ci 0))]
def a92r4 : Rg := [oL 15 (.mv (.g 5)), oL 16 (.fa 3 (.g 2)), oL 17 (.ld (.l 16)), oL 18 (.len (.l 17)), oT 19 (.bin .lss (.l 15) (.l 18))]
def a92r5 : Rg := [oL 22 (.fa 3 (.g 2)), oL 23 (.ld (.l 22)), oL 24 (.mv (.g 5)), oL 25 (.ia 5 (.l 23) (.l 24)), oL 26 (.load 5 true (.l 25)), oL 27 (.mv (.g 1)), oL 28 (.cf 92 [(.l 26), (.l 27)]), oT 1 (.mv (.l 28))]
def a92r6 : Rg := [oL 20 (.mv (.g 5)), oL 21 (.bin .add (.l 20) (ci 1)), oT 5 (.mv (.l 21))]
def a92l7 : ACode := (.seq (.seq (rq a92r4) (.cond (.g 19) .skip (.exit 0))) (.seq (.block 1 (rq a92r5)) (rq a92r6)))
def a92r8 : Rg := [oT 6 (.mv (ci 0))]
def a92r9 : Rg := [oL 29 (.mv (.g 6)), oL 30 (.fa 4 (.g 2)), oL 31 (.ld (.l 30)), oL 32 (.len (.l 31)), oT 33 (.bin .lss (.l 29) (.l 32))]
def a92r10 : Rg := [oL 36 (.fa 4 (.g 2)), oL 37 (.ld (.l 36)), oL 38 (.mv (.g 6)), oL 39 (.ia 8 (.l 37) (.l 38)), oL 40 (.fa 3 (.l 39)), oL 41 (.load 5 true (.l 40)), oL 42 (.mv (.g 1)), oL 43 (.cf 92 [(.l 41), (.l 42)]), oT 1 (.mv (.l 43))]
def a92r11 : Rg := [oL 34 (.mv (.g 6)), oL 35 (.bin .add (.l 34) (ci 1)), oT 6 (.mv (.l 35))]
def a92l12 : ACode := (.seq (.seq (rq a92r9) (.cond (.g 33) .skip (.exit 2))) (.seq (.block 3 (rq a92r10)) (rq a92r11)))
def a92r13 : Rg := [oL 44 (.mv (.g 1)), oT 4 (.mv (.l 44))]
def a92b : ACode := (.seq (rq a92r0) (.seq (.seq (rq a92r1) (.cond (.g 9) (rq a92r2) .skip)) (.seq (.seq (rq a92r3) (.block 0 (.loop a92l7))) (.seq (.seq (rq a92r8) (.block 2 (.loop a92l12))) (.seq (rq a92r13) .ret)))))
def a92 : AFun := ⟨2, 45, a92b, [.tmp (true, 4)]⟩
theorem c92 : compileFun Tryz.prog [0, 1, 2, 4, 5, 6, 9, 19, 33] Tryz.f92 = some a92 := by kernel_rfl
/- sort.Strings -/
def a93r0 : Rg := [oL 2 (.mv (.g 0)), oL 3 (.cf 85 [(.l 2)])]
def a93b : ACode := (rq a93r0)
def a93 : AFun := ⟨1, 4, a93b, []⟩
theorem c93 : compileFun Tryz.prog [0] Tryz.f93 = some a93 := by kernel_rfl
/- damask/damaskref15.Defined -/
def a28r0 : Rg := [oT 3 (.box (.g 1)), oT 4 (.mv cF)]
def a28r1 : Rg := [oL 7 (.load 5 true (.g 3)), oL 8 (.cf 52 [(.l 7)]), oT 5 (.mv (.l 8))]
def a28r2 : Rg := [oT 6 (.mv (ci 0))]
def a28r3 : Rg := [oL 9 (.mv (.g 6)), oL 10 (.mv (.g 5)), oL 11 (.len (.l 10)), oT 12 (.bin .lss (.l 9) (.l 11))]
def a28r4 : Rg := [oL 15 (.mv (.g 0)), oL 16 (.mv (.g 5)), oL 17 (.mv (.g 6)), oL 18 (.ia 1 (.l 16) (.l 17)), oL 19 (.ld (.l 18)), oL 20 (.cf 23 [(.l 15), (.l 19)]), oT 21 (.bin .lss (.l 20) (ci 0))]
def a28r5 : Rg := [oT 4 (.mv cF)]
def a28r6 : Rg := [oL 13 (.mv (.g 6)), oL 14 (.bin .add (.l 13) (ci 1)), oT 6 (.mv (.l 14))]
def a28l7 : ACode := (.seq (.seq (rq a28r3) (.cond (.g 12) .skip (.exit 0))) (.seq (.block 1 (.seq (rq a28r4) (.cond (.g 21) (.seq (rq a28r5) .ret) .skip))) (rq a28r6)))
def a28r8 : Rg := [oT 4 (.mv cT)]
def a28b : ACode := (.seq (rq a28r0) (.seq (rq a28r1) (.seq (.seq (rq a28r2) (.block 0 (.loop a28l7))) (.seq (rq a28r8) .ret))))
def a28 : AFun := ⟨2, 22, a28b, [.tmp (true, 4)]⟩
theorem c28 : compileFun Tryz.prog [0, 1, 3, 4, 5, 6, 12, 21] Tryz.f28 = some a28 := by kernel_rfl
/- damask/damaskref15.Find -/
def a23r0 : Rg := [oT 4 (.mv (ci 0))]
def a23r1 : Rg := [oT 5 (.mv (ci 0))]
def a23r2 : Rg := [oL 6 (.mv (.g 5)), oL 7 (.mv (.g 0)), oL 8 (.len (.l 7)), oT 9 (.bin .lss (.l 6) (.l 8))]
def a23r3 : Rg := [oL 12 (.mv (.g 0)), oL 13 (.mv (.g 5)), oL 14 (.ia 6 (.l 12) (.l 13)), oL 15 (.fa 0 (.l 14)), oL 16 (.ld (.l 15)), oL 17 (.mv (.g 1)), oT 18 (.bin .eql (.l 16) (.l 17))]
def a23r4 : Rg := [oL 19 (.mv (.g 5)), oT 4 (.mv (.l 19))]
def a23r5 : Rg := [oL 10 (.mv (.g 5)), oL 11 (.bin .add (.l 10) (ci 1)), oT 5 (.mv (.l 11))]
def a23l6 : ACode := (.seq (.seq (rq a23r2) (.cond (.g 9) .skip (.exit 0))) (.seq (.block 1 (.seq (rq a23r3) (.cond (.g 18) (.seq (rq a23r4) .ret) .skip))) (rq a23r5)))
def a23r7 : Rg := [oT 4 (.mv (ci (-1)))]
def a23b : ACode := (.seq (rq a23r0) (.seq (.seq (rq a23r1) (.block 0 (.loop a23l6))) (.seq (rq a23r7) .ret)))
def a23 : AFun := ⟨2, 20, a23b, [.tmp (true, 4)]⟩
theorem c23 : compileFun Tryz.prog [0, 1, 4, 5, 9, 18] Tryz.f23 = some a23 := by kernel_rfl
/- damask/damaskref15.Check -/
def a9r0 : Rg := [oT 2 (.mv cF)]
def a9r1 : Rg := [oL 4 (.mv (.g 0)), oL 5 (.len (.l 4)), oT 6 (.bin .gtr (.l 5) (ci 400))]
def a9r2 : Rg := [oT 2 (.mv cF)]
def a9r3 : Rg := [oT 3 (.mv (ci 0))]
def a9r4 : Rg := [oL 7 (.mv (.g 3)), oL 8 (.mv (.g 0)), oL 9 (.len (.l 8)), oT 10 (.bin .lss (.l 7) (.l 9))]
def a9r5 : Rg := [oL 13 (.mv (.g 0)), oL 14 (.mv (.g 3)), oL 15 (.ia 6 (.l 13) (.l 14)), oL 16 (.fa 0 (.l 15)), oL 17 (.ld (.l 16)), oL 18 (.cf 34 [(.l 17)]), oL 19 (.un .not (.l 18)), oL 20 (.mv (.l 19)), oLf 21 (.mv (.g 0)) 20, oLf 22 (.mv (.g 0)) 20, oLf 23 (.mv (.g 3)) 20, oLf 24 (.ia 6 (.l 22) (.l 23)) 20, oLf 25 (.fa 0 (.l 24)) 20, oLf 26 (.ld (.l 25)) 20, oLf 27 (.cf 23 [(.l 21), (.l 26)]) 20, oLf 28 (.mv (.g 3)) 20, oLf 29 (.bin .lss (.l 27) (.l 28)) 20, oL 30 (.pick (.l 20) cT (.l 29)), oL 31 (.mv (.l 30)), oLf 32 (.mv (.g 0)) 31, oLf 33 (.mv (.g 3)) 31, oLf 34 (.ia 6 (.l 32) (.l 33)) 31, oLf 35 (.fa 1 (.l 34)) 31, oLf 36 (.load 5 true (.l 35)) 31, oLf 37 (.cf 31 [(.l 36), (ci 0)]) 31, oLf 38 (.un .not (.l 37)) 31, oL 39 (.pick (.l 31) cT (.l 38)), oL 40 (.mv (.l 39)), oLf 41 (.mv (.g 0)) 40, oLf 42 (.mv (.g 0)) 40, oLf 43 (.mv (.g 3)) 40, oLf 44 (.ia 6 (.l 42) (.l 43)) 40, oLf 45 (.fa 1 (.l 44)) 40, oLf 46 (.load 5 true (.l 45)) 40, oLf 47 (.cf 28 [(.l 41), (.l 46)]) 40, oLf 48 (.un .not (.l 47)) 40, oT 49 (.pick (.l 40) cT (.l 48))]
def a9r6 : Rg := [oT 2 (.mv cF)]
def a9r7 : Rg := [oL 11 (.mv (.g 3)), oL 12 (.bin .add (.l 11) (ci 1)), oT 3 (.mv (.l 12))]
def a9l8 : ACode := (.seq (.seq (rq a9r4) (.cond (.g 10) .skip (.exit 0))) (.seq (.block 1 (.seq (rq a9r5) (.cond (.g 49) (.seq (rq a9r6) .ret) .skip))) (rq a9r7)))
def a9r9 : Rg := [oT 2 (.mv cT)]
def a9b : ACode := (.seq (rq a9r0) (.seq (.seq (rq a9r1) (.cond (.g 6) (.seq (rq a9r2) .ret) .skip)) (.seq (.seq (rq a9r3) (.block 0 (.loop a9l8))) (.seq (rq a9r9) .ret))))
def a9 : AFun := ⟨1, 50, a9b, [.tmp (true, 2)]⟩
theorem c9 : compileFun Tryz.prog [0, 2, 3, 6, 10, 49] Tryz.f9 = some a9 := by kernel_rfl
/- damask/term.Inner -/
def a141r0 : Rg := [oT 1 (.box (.g 0)), oT 2 (.mv (ci 0))]
def a141r1 : Rg := [oL 3 (.fa 0 (.g 1)), oT 4 (.ld (.l 3))]
def a141r2 : Rg := [oL 6 (.bin .eql (.g 4) (ci 5)), oT 5 (.mv (.l 6))]
def a141r3 : Rg := [oL 7 (.fa 1 (.g 1)), oL 8 (.ld (.l 7)), oT 2 (.mv (.l 8))]
def a141r4 : Rg := [oL 10 (.bin .eql (.g 4) (ci 7)), oT 9 (.mv (.l 10))]
def a141r5 : Rg := [oL 11 (.fa 3 (.g 1)), oL 12 (.ld (.l 11)), oL 13 (.len (.l 12)), oL 14 (.bin .sub (.l 13) (ci 1)), oT 2 (.mv (.l 14))]
def a141r6 : Rg := [oT 2 (.mv (ci 0))]
def a141b : ACode := (.seq (rq a141r0) (.seq (.seq (rq a141r1) (.block 0 (.seq (rq a141r2) (.cond (.g 5) (.seq (rq a141r3) .ret) (.seq (rq a141r4) (.cond (.g 9) (.seq (rq a141r5) .ret) .skip)))))) (.seq (rq a141r6) .ret)))
def a141 : AFun := ⟨1, 15, a141b, [.tmp (true, 2)]⟩
theorem c141 : compileFun Tryz.prog [0, 1, 2, 4, 5, 9] Tryz.f141 = some a141 := by kernel_rfl
/- damask/term.Binds -/
def a142r0 : Rg := [oT 1 (.box (.g 0)), oT 2 (.mv (ci 0))]
def a142r1 : Rg := [oL 3 (.fa 0 (.g 1)), oL 4 (.ld (.l 3)), oT 5 (.bin .eql (.l 4) (ci 2))]
def a142r2 : Rg := [oL 6 (.fa 2 (.g 1)), oL 7 (.ld (.l 6)), oL 8 (.bin .add (.l 7) (ci 1)), oT 2 (.mv (.l 8))]
def a142r3 : Rg := [oT 2 (.mv (ci 1))]
def a142b : ACode := (.seq (rq a142r0) (.seq (.seq (rq a142r1) (.cond (.g 5) (.seq (rq a142r2) .ret) .skip)) (.seq (rq a142r3) .ret)))
def a142 : AFun := ⟨1, 9, a142b, [.tmp (true, 2)]⟩
theorem c142 : compileFun Tryz.prog [0, 1, 2, 5] Tryz.f142 = some a142 := by kernel_rfl
end Go.AL.Dm
namespace Go.AL.Dm
open Go Go.Proofs
def inn (t : Pl) : Int := if t.op = 5 then t.n else if t.op = 7 then (t.args.length : Int) - 1 else 0
def bnd (a : Hd) : Int := if a.op = 2 then a.n + 1 else 1
theorem p141 (t : Pl) (h : t.args.length ≤ 100000) : PureC Tryz.prog 141 [t.av] (.int .i64 (inn t)) := by
 refine PureC.intro fun s => fun_sound mixed Tryz.func141 Tryz.call141 c141 rfl (awpFun_go _ _ _ _ ?_)
 have w1 : IntKind.i64.wrap ((t.args.length : Int) - 1) = (t.args.length : Int) - 1 := wrap64 (by omega) (by omega)
 by_cases o5 : t.op = 5
 ·simp -implicitDefEqProofs (disch:=first|omega|simp only[nx4]<;>omega|fail) [a141, a141b, a141r0, a141r1, a141r2, a141r3, inn, o5]
 by_cases o7 : t.op = 7
 ·simp -implicitDefEqProofs (disch:=first|omega|simp only[nx4]<;>omega|fail) [a141, a141b, a141r0, a141r1, a141r2, a141r4, a141r5, inn, o7, w1]
 simp -implicitDefEqProofs (disch:=first|omega|simp only[nx4]<;>omega|fail) [a141, a141b, a141r0, a141r1, a141r2, a141r4, a141r6, inn, o5, o7]
theorem p101 (t : Pl) (h : t.args.length ≤ 100000) : PureC Tryz.prog 101 [t.av] (.int .i64 (inn t)) := by
 refine PureC.intro fun s => fun_sound mixed Tryz.func101 Tryz.call101 c101 rfl (awpFun_go _ _ _ _ ?_)
 have w1 : IntKind.i64.wrap ((t.args.length : Int) - 1) = (t.args.length : Int) - 1 := wrap64 (by omega) (by omega)
 by_cases o5 : t.op = 5
 ·simp -implicitDefEqProofs (disch:=first|omega|simp only[nx4]<;>omega|fail) [a101, a101b, a101r0, a101r1, a101r2, a101r3, inn, o5]
 by_cases o7 : t.op = 7
 ·simp -implicitDefEqProofs (disch:=first|omega|simp only[nx4]<;>omega|fail) [a101, a101b, a101r0, a101r1, a101r2, a101r4, a101r5, inn, o7, w1]
 simp -implicitDefEqProofs (disch:=first|omega|simp only[nx4]<;>omega|fail) [a101, a101b, a101r0, a101r1, a101r2, a101r4, a101r6, inn, o5, o7]
theorem p142 (a : Hd × Pl) (h : a.1.op = 2 → 0 ≤ a.1.n ∧ a.1.n ≤ 100000) : PureC Tryz.prog 142 [Pl.altv a] (.int .i64 (bnd a.1)) := by
 refine PureC.intro fun s => fun_sound mixed Tryz.func142 Tryz.call142 c142 rfl (awpFun_go _ _ _ _ ?_)
 by_cases o : a.1.op = 2
 ·have w1 : IntKind.i64.wrap (a.1.n + 1) = a.1.n + 1 := wrap64 (by have := h o; omega) (by have := h o; omega)
  simp -implicitDefEqProofs (disch:=first|omega|simp only[nx4]<;>omega|fail) [a142, a142b, a142r0, a142r1, a142r2, bnd, o, w1]
 ·simp -implicitDefEqProofs (disch:=first|omega|simp only[nx4]<;>omega|fail) [a142, a142b, a142r0, a142r1, a142r3, bnd, o]
theorem p95 (a : Hd × Pl) (h : a.1.op = 2 → 0 ≤ a.1.n ∧ a.1.n ≤ 100000) : PureC Tryz.prog 95 [Pl.altv a] (.int .i64 (bnd a.1)) := by
 refine PureC.intro fun s => fun_sound mixed Tryz.func95 Tryz.call95 c95 rfl (awpFun_go _ _ _ _ ?_)
 by_cases o : a.1.op = 2
 ·have w1 : IntKind.i64.wrap (1 + a.1.n) = a.1.n + 1 := by rw [wrap64 (by have := h o; omega) (by have := h o; omega)]; omega
  simp -implicitDefEqProofs (disch:=first|omega|simp only[nx4]<;>omega|fail) [a95, a95b, a95r0, a95r1, a95r2, bnd, o, w1]
 ·simp -implicitDefEqProofs (disch:=first|omega|simp only[nx4]<;>omega|fail) [a95, a95b, a95r0, a95r1, a95r3, bnd, o]
theorem p103 (t : Pl) : PureC Tryz.prog 103 [t.av] (.fn 143 [] [.cptr t.av.cells]) := by
 refine PureC.intro fun s => fun_sound mixed Tryz.func103 Tryz.call103 c103 rfl (awpFun_go _ _ _ _ ?_)
 simp -implicitDefEqProofs (disch:=first|omega|simp only[nx4]<;>omega|fail) [a103, a103b, a103r0, a103r1]
theorem go_yields {P : Program} {o : Nat} {args : List AV} {s : St} {K : AV → St → Prop} (h : AYields P o args s K) : go (AYields P o args s K) := h
def parts (t : Pl) : List (Int × Pl) := t.args.map (fun x => (inn t, x)) ++ t.alts.map (fun a => (bnd a.1, a.2))
theorem parts_len (t : Pl) : (parts t).length = t.args.length + t.alts.length := by simp [parts]
theorem parts_arg (t : Pl) (i : Nat) (h : i < t.args.length) (h' : i < (parts t).length) : (parts t)[i] = (inn t, t.args[i]) := by
 simp only [parts]
 rw [List.getElem_append_left (by simpa using h)]
 simp
theorem parts_alt (t : Pl) (i : Nat) (h : i < t.alts.length) (h' : t.args.length + i < (parts t).length) : (parts t)[t.args.length + i] = (bnd t.alts[i].1, t.alts[i].2) := by
 simp only [parts]
 rw [List.getElem_append_right (by simp)]
 simp
def IA143 (t : Pl) (o : Nat) (J : Nat → St → Prop) (m : Nat) (g : Env) (s1 : St) : Prop :=
 ∃ i : Nat, i ≤ t.args.length ∧ m = t.args.length - i ∧ g.get 0 = .yld o ∧ g.get 1 = .cptr t.av.cells ∧ g.get 3 = .int .i64 (inn t) ∧ g.get 11 = .list 5 .none (t.args.map Pl.av) ∧ g.get 12 = .int .i64 t.args.length ∧ g.get 13 = .int .i64 i ∧ J i s1
def IB143 (t : Pl) (o : Nat) (J : Nat → St → Prop) (m : Nat) (g : Env) (s1 : St) : Prop :=
 ∃ i : Nat, i ≤ t.alts.length ∧ m = t.alts.length - i ∧ g.get 0 = .yld o ∧ g.get 24 = .list 8 .none (t.alts.map Pl.altv) ∧ g.get 25 = .int .i64 t.alts.length ∧ g.get 26 = .int .i64 i ∧ J (t.args.length + i) s1
theorem p143 (t : Pl) (hla : t.args.length ≤ 100000) (hlb : t.alts.length ≤ 100000) (hbn : ∀ a ∈ t.alts, a.1.op = 2 → 0 ≤ a.1.n ∧ a.1.n ≤ 100000) (o : Nat) (J : Nat → St → Prop) (Jx : St → Prop)
  (hst : ∀ i s s', J i s → (∀ q, q < s.nx → s'.m q = s.m q) → s.nx ≤ s'.nx → J i s')
  (hY : ∀ i (hi : i < (parts t).length) s1, J i s1 → AYields Tryz.prog o [.int .i64 (parts t)[i].1, (parts t)[i].2.av] s1 fun r s' => (r = .bool true ∧ J (i + 1) s') ∨ (r = .bool false ∧ Jx s'))
  (s : St) (h0 : J 0 s) : ACalls Tryz.prog 143 [.yld o, .cptr t.av.cells] s fun _ s' => J (parts t).length s' ∨ Jx s' := by
 refine fun_sound mixed Tryz.func143 Tryz.call143 c143 rfl (awpFun_go _ _ _ _ ?_)
 have hpl := parts_len t
 simp -implicitDefEqProofs (disch:=first|omega|simp only[nx4]<;>omega|fail) [a143, a143b, a143r0]
 refine go_pure (p141 t hla) fun mm1 hm1 => ?_
 try simp only [nx4] at hm1
 simp -implicitDefEqProofs (disch:=first|omega|simp only[nx4]<;>omega|fail) [a143r1]
 refine go_loop (IA143 t o J) t.args.length ⟨0, by omega, by omega, ?_, ?_, ?_, ?_, ?_, ?_, hst 0 s _ h0 (fun q hq => by simp -implicitDefEqProofs (disch:=first|omega|simp only[nx4]<;>omega|fail)) (by simp -implicitDefEqProofs (disch:=first|omega|simp only[nx4]<;>omega|fail); omega)⟩ ?_
 iterate 6 (simp -implicitDefEqProofs (disch:=first|omega|simp only[nx4]<;>omega|fail))
 rintro m g s1 ⟨i, hi, rfl, e0, e1, e3, e11, e12, e13, hJ⟩
 by_cases hlt : i < t.args.length
 ·have hlt' : (i : Int) < t.args.length := by omega
  have w3 := wrapS (i := i) (by omega)
  have hy := hY i (by omega)
  rw [parts_arg t i hlt (by omega)] at hy
  generalize hx : t.args[i] = x at hy
  simp -implicitDefEqProofs (disch:=first|omega|simp only[nx4]<;>omega|fail) [a143l6, a143r2, a143r3, a143r4, e0, e1, e3, e11, e12, e13, hlt', hx]
  refine go_yields (AYields.mono (hy _ (hst i s1 _ hJ (fun q hq => by simp -implicitDefEqProofs (disch:=first|omega|simp only[nx4]<;>omega|fail)) (by simp -implicitDefEqProofs (disch:=first|omega|simp only[nx4]<;>omega|fail)))) fun r s' hn' h => go_of ?_)
  rcases h with ⟨rfl, hJ'⟩ | ⟨rfl, hx'⟩
  ·simp -implicitDefEqProofs (disch:=first|omega|simp only[nx4]<;>omega|fail) [a143r5, e13, w3]
   refine go_next (t.args.length - (i + 1)) (by omega) ⟨i + 1, by omega, rfl, ?_, ?_, ?_, ?_, ?_, rfl, hJ'⟩
   all_goals simp -implicitDefEqProofs (disch:=first|omega|simp only[nx4]<;>omega|fail) [e0, e1, e3, e11, e12]
  ·simp -implicitDefEqProofs (disch:=first|omega|simp only[nx4]<;>omega|fail)
   exact .inr hx'
 ·have hlt' : ¬ (i : Int) < t.args.length := by omega
  obtain rfl : i = t.args.length := by omega
  simp -implicitDefEqProofs (disch:=first|omega|simp only[nx4]<;>omega|fail) [a143l6, a143r2, a143r7, e0, e1, e3, e11, e12, e13, hlt']
  refine go_loop (IB143 t o J) t.alts.length ⟨0, by omega, by omega, ?_, ?_, ?_, ?_, hJ⟩ ?_
  iterate 4 (simp -implicitDefEqProofs (disch:=first|omega|simp only[nx4]<;>omega|fail) [e0])
  clear hJ e0 e1 e3 e11 e12 e13 hlt'
  rintro m g s1 ⟨i, hi, rfl, e0, e24, e25, e26, hJ⟩
  by_cases hlt : i < t.alts.length
  ·have hlt' : (i : Int) < t.alts.length := by omega
   have w3 := wrapS (i := i) (by omega)
   have hy := hY (t.args.length + i) (by omega)
   rw [parts_alt t i hlt (by omega)] at hy
   have h142 := p142 t.alts[i] (hbn _ (List.getElem_mem hlt))
   generalize hx : t.alts[i] = x at hy h142
   simp -implicitDefEqProofs (disch:=first|omega|simp only[nx4]<;>omega|fail) [a143l12, a143r8, a143r9, a143r10, a143s10, e0, e24, e25, e26, hlt', hx]
   refine pcV_intro h142 ?_
   simp -implicitDefEqProofs (disch:=first|omega|simp only[nx4]<;>omega|fail)
   intro mm hmm
   refine go_yields (AYields.mono (hy _ (hst _ s1 _ hJ (fun q hq => by simp -implicitDefEqProofs (disch:=first|omega|simp only[nx4]<;>omega|fail)) (by show s1.nx ≤ mm; have h5 : s1.nx + 1 ≤ mm := hmm; omega))) fun r s' hn' h => go_of ?_)
   rcases h with ⟨rfl, hJ'⟩ | ⟨rfl, hx'⟩
   ·simp -implicitDefEqProofs (disch:=first|omega|simp only[nx4]<;>omega|fail) [a143r11, e26, w3]
    refine go_next (t.alts.length - (i + 1)) (by omega) ⟨i + 1, by omega, rfl, ?_, ?_, ?_, rfl, hJ'⟩
    all_goals simp -implicitDefEqProofs (disch:=first|omega|simp only[nx4]<;>omega|fail) [e0, e24, e25]
   ·simp -implicitDefEqProofs (disch:=first|omega|simp only[nx4]<;>omega|fail)
    exact .inr hx'
  ·have hlt' : ¬ (i : Int) < t.alts.length := by omega
   obtain rfl : i = t.alts.length := by omega
   simp -implicitDefEqProofs (disch:=first|omega|simp only[nx4]<;>omega|fail) [a143l12, a143r8, e0, e24, e25, e26, hlt']
   rw [hpl]
   exact .inl hJ
mutual
def fv : Pl → Int → List Int
 | .mk op n s args alts, u => if op = 1 then (if u ≤ n then [n - u] else []) else fvs args (u + inn (.mk op n s args alts)) ++ fva alts u
def fvs : List Pl → Int → List Int
 | [], _ => []
 | t :: ts, u => fv t u ++ fvs ts u
def fva : List (Hd × Pl) → Int → List Int
 | [], _ => []
 | (h, b) :: ts, u => fv b (u + bnd h) ++ fva ts u
end
theorem fv_eq (t : Pl) (u : Int) : fv t u = if t.op = 1 then (if u ≤ t.n then [t.n - u] else []) else fvs t.args (u + inn t) ++ fva t.alts u := by cases t; rw [fv]; rfl
def fvp : List (Int × Pl) → Int → List Int
 | [], _ => []
 | (n, x) :: r, u => fv x (u + n) ++ fvp r u
theorem fvp_append : ∀ (l r : List (Int × Pl)) (u : Int), fvp (l ++ r) u = fvp l u ++ fvp r u
 | [], r, u => rfl
 | (n, x) :: l, r, u => by simp [fvp, fvp_append l r u]
theorem fv_parts (t : Pl) (u : Int) (h : t.op ≠ 1) : fv t u = fvp (parts t) u := by
 rw [fv_eq, if_neg h, parts, fvp_append]
 have h1 : ∀ (l : List Pl) (n : Int), fvs l (u + n) = fvp (l.map fun x => (n, x)) u := by
  intro l n
  induction l with
  | nil => rfl
  | cons x l ih => simp [fvs, fvp, ih]
 have h2 : ∀ l : List (Hd × Pl), fva l u = fvp (l.map fun a => (bnd a.1, a.2)) u := by
  intro l
  induction l with
  | nil => rfl
  | cons x l ih => obtain ⟨a, b⟩ := x; simp [fva, fvp, ih]
 rw [h1, h2]
end Go.AL.Dm
namespace Go.AL
open Go.Sort
variable {P : Program} {ι ι' : Nat → Option Nat} {s s' : St} {w w' : World}
def ilist (zs : List Int) : List AV := zs.map (AV.int .i64)
def isort (zs : List Int) : List Int := zs.mergeSort fun x y => decide (x ≤ y)
theorem isort_length [Glob] (zs : List Int) : (isort zs).length = zs.length := by simp [isort]
theorem ahead_step [Glob] (ι : Nat → Option Nat) (S : Store) (w : World) (n : Nat) : Step ι S w ι S (Sort.ahead w n) :=
 grow_step (Nat.le_refl _) rfl rfl rfl (fun _ _ => rfl) (fun _ _ h => h) (fun _ _ _ h => h) (fun _ _ h => h)
theorem WF.ahead [Glob] {S : Store} (hwf : WF ι S w) (n : Nat) : WF ι S (Sort.ahead w n) :=
 hwf.of_step (ahead_step ι S w n) hwf.blt hwf.inj fun _ _ b h1 h2 => .inl ⟨h1, h2, rfl⟩
theorem putRow_setRow [Glob] {enc : Int → Value} {w : World} {b : Nat} {vs : Array Value} {e : TypeId} {fr : Nat × Nat} (d : Array Int) (h : w.heap[b]? = some (.cells vs e fr)) : putRow enc w b 0 d = w.setRow b (putCells enc 0 d vs) := by
 unfold putRow mapBlock World.setRow
 congr 1
 apply Array.ext_getElem?
 intro k
 simp only [Array.getElem?_modify]
 by_cases hk : b = k
 ·subst hk
  simp only [if_true, h, Option.map_some, onCells]
 ·simp [hk]
theorem sort_sound [Glob] {f : FuncId} (hcb : Callable P f) (hnone : ∀ (p : Option Addr) (cap : Nat) (w : World), Calls P f #[.slice p 0 cap] w fun e w' => e = .returned (.tuple #[]) ∧ w' = w)
  (hsort : ∀ (blk off cap : Nat) (zs : List Int) (w : World), Holds (Value.int .i64) w blk off zs.toArray → blk < w.heap.size → zs.length < 4611686018427387904 →
   Calls P f #[.slice (some ⟨blk, off, none⟩) zs.length cap] w fun e w' => e = .returned (.tuple #[]) ∧ ∃ n os, w' = Go.Sort.grow (putRow (Value.int .i64) (Sort.ahead w n) blk off (zs.mergeSort fun x y => decide (x ≤ y)).toArray) os)
  (zs : List Int) (o : Nat) {K : AV → St → Prop} (hlen : zs.length < 4611686018427387904) (ho : s.m o = some (.box (ilist zs))) (hK : K (.tup []) (s.set o (.box (ilist (isort zs))))) : ACalls P f [.mref 1 o 0 zs.length] s K := by
 refine ⟨hcb, fun ι w vs hwf hbnd hvs => ?_⟩
 obtain ⟨v, rfl⟩ : ∃ v, vs = #[v] := by
  obtain ⟨l⟩ := vs
  match l, hvs.1 with
  | [v], _ => exact ⟨v, rfl⟩
 have hv := hvs.2 0 v _ rfl rfl
 have hbnd' : Bnd ι (s.set o (.box (ilist (isort zs)))).m s.nx := ⟨fun q ob hq => by
  by_cases e : q = o
  ·subst e; exact hbnd.lt q _ ho
  ·simp [St.set, e] at hq; exact hbnd.lt q ob hq, hbnd.ilt⟩
 cases zs with
 | nil =>
  have hvv : ∃ p cap, v = .slice p 0 cap := by
   cases hv with
   | mref h hcap hb => exact ⟨_, _, rfl⟩
   | mnil => exact ⟨_, _, rfl⟩
  obtain ⟨p, cap, rfl⟩ := hvv
  refine (hnone p cap w).mono ?_
  rintro e w' ⟨rfl, rfl⟩
  have hm : (s.set o (.box (ilist (isort [])))).m = s.m := by
   funext q
   by_cases e : q = o
   ·subst e; simp [St.set, ho, isort, ilist]
   ·simp [St.set, e]
  refine ⟨_, _, s.set o (.box (ilist (isort []))), ι, rfl, ?_, ?_, ?_, Inc.refl _ _, .tup rfl (by simp), hK⟩
  ·rw [hm]; exact Step.refl _ _ _
  ·rw [hm]; exact hwf
  ·exact hbnd'
 | cons z zs =>
  generalize hzz : z :: zs = zl at *
  have hne : zl.length ≠ 0 := by rw [← hzz]; simp
  generalize hln : zl.length = ln at hv
  cases hv with
  | mnil => exact absurd hln hne
  | @mref _ _ b _ _ cap h hcap hb =>
   subst hln
   obtain ⟨cvs, e, h1, h2, h3, h4⟩ := hwf.rep o _ b ho h
   simp only [ilist, List.length_map] at h2
   have hcell : ∀ j, j < zl.length → cvs[j]? = some (.int .i64 zl[j]!) := by
    intro j hj
    have hjc : j < cvs.size := by omega
    have hx : (ilist zl)[j]? = some (.int .i64 zl[j]!) := by simp [ilist, hj]
    have := h3 j cvs[j] _ (by simp [hjc]) hx
    rw [Array.getElem?_eq_getElem hjc]
    generalize cvs[j] = u at this
    cases this
    rfl
   have hH : Holds (Value.int .i64) w b (0 * 1) zl.toArray := by
    intro j hj
    have hj' : j < zl.length := by simpa using hj
    refine ⟨?_, ?_⟩
    ·simp [World.cell?, h1, hcell j hj']
    ·simp [World.frozen?, h1]
   have hblk : b < w.heap.size := (Array.getElem?_eq_some_iff.1 h1).1
   refine (hsort b (0 * 1) cap zl w hH hblk hlen).mono ?_
   rintro e' w' ⟨rfl, n, os, hw'⟩
   have h1a : (Sort.ahead w n).heap[b]? = some (.cells cvs e (0, 0)) := h1
   rw [Nat.zero_mul, putRow_setRow _ h1a] at hw'
   have hszp : (putCells (Value.int .i64) 0 (isort zl).toArray cvs).size = cvs.size := by simp [putCells]
   have hget : ∀ (j : Nat) v x, (putCells (Value.int .i64) 0 (isort zl).toArray cvs)[j]? = some v → (ilist (isort zl))[j]? = some x → ∃ m, v = .int .i64 m ∧ x = .int .i64 m := by
    intro j v x hv hx
    simp only [ilist, List.getElem?_map, Option.map_eq_some_iff] at hx
    obtain ⟨m, hm, rfl⟩ := hx
    have hjl : j < (isort zl).length := (List.getElem?_eq_some_iff.1 hm).1
    have hjc : j < cvs.size := by rw [isort_length] at hjl; omega
    rw [putCells, Array.getElem?_mapIdx, Array.getElem?_eq_getElem hjc] at hv
    simp only [Option.map_some, Option.some.injEq, Nat.zero_add, Nat.zero_le, true_and, Nat.sub_zero, List.size_toArray] at hv
    rw [if_pos hjl] at hv
    subst hv
    refine ⟨m, ?_, rfl⟩
    simp [hm]
   obtain ⟨q1, q2⟩ := write_obj (obj' := .box (ilist (isort zl))) (cs := putCells (Value.int .i64) 0 (isort zl).toArray cvs) (hwf.ahead n) ho h h1a hszp (fun _ => trivial) fun hR hh =>
    ⟨_, e, hh, by rw [hszp]; simp only [ilist, List.length_map, isort_length]; exact h2, fun j v x hv hx => by obtain ⟨m, rfl, rfl⟩ := hget j v x hv hx; exact .int _ _,
     fun j v hj hv => by
      have hx : (ilist (isort zl))[j]? = some (ilist (isort zl))[j] := by simp [hj]
      obtain ⟨m, rfl, _⟩ := hget j v _ hv hx
      rfl⟩
   obtain ⟨w2, hw2⟩ : ∃ w2, w2 = (Sort.ahead w n).setRow b (putCells (Value.int .i64) 0 (isort zl).toArray cvs) := ⟨_, rfl⟩
   change w' = Go.Sort.grow ((Sort.ahead w n).setRow b (putCells (Value.int .i64) 0 (isort zl).toArray cvs)) os at hw'
   rw [← hw2] at q1 q2 hw'
   subst hw'
   have hgr : Grown (putS s.m o (.box (ilist (isort zl)))) ι w2 (Go.Sort.grow w2 os) none :=
    ⟨⟨rfl, rfl, rfl, by simp [Go.Sort.grow], fun k hk _ => by simp [Go.Sort.grow, Array.getElem?_append_left hk]⟩, fun r e => by cases e⟩
   exact ⟨_, _, s.set o (.box (ilist (isort zl))), ι, rfl, hgr.step ((ahead_step ι s.m w n).trans q1) (fun r e => by cases e), hgr.wf q2, hbnd', Inc.refl _ _, .tup rfl (by simp), hK⟩
end Go.AL
namespace Go.AL
open Go.Sort
variable {P : Program} {ι ι' : Nat → Option Nat} {s s' : St} {w w' : World}
open Go.Proofs (encStr)
def slist (zs : List (List UInt8)) : List AV := zs.map fun x => .str ⟨x.toArray⟩
def bsort (zs : List (List UInt8)) : List (List UInt8) := zs.mergeSort fun x y => decide (x ≤ y)
theorem bsort_length [Glob] (zs : List (List UInt8)) : (bsort zs).length = zs.length := by simp [bsort]
theorem putRow_setRowS [Glob] {enc : List UInt8 → Value} {w : World} {b : Nat} {vs : Array Value} {e : TypeId} {fr : Nat × Nat} (d : Array (List UInt8)) (h : w.heap[b]? = some (.cells vs e fr)) : putRow enc w b 0 d = w.setRow b (putCells enc 0 d vs) := by
 unfold putRow mapBlock World.setRow
 congr 1
 apply Array.ext_getElem?
 intro k
 simp only [Array.getElem?_modify]
 by_cases hk : b = k
 ·subst hk
  simp only [if_true, h, Option.map_some, onCells]
 ·simp [hk]
theorem ssort_sound [Glob] {f : FuncId} (hcb : Callable P f) (hnone : ∀ (p : Option Addr) (cap : Nat) (w : World), Calls P f #[.slice p 0 cap] w fun e w' => e = .returned (.tuple #[]) ∧ w' = w)
  (hsort : ∀ (blk off cap : Nat) (zs : List (List UInt8)) (w : World), Holds encStr w blk off zs.toArray → blk < w.heap.size → zs.length < 4611686018427387904 →
   Calls P f #[.slice (some ⟨blk, off, none⟩) zs.length cap] w fun e w' => e = .returned (.tuple #[]) ∧ ∃ n os, w' = Go.Sort.grow (putRow encStr (Sort.ahead w n) blk off (zs.mergeSort fun x y => decide (x ≤ y)).toArray) os)
  (zs : List (List UInt8)) (o : Nat) {K : AV → St → Prop} (hlen : zs.length < 4611686018427387904) (ho : s.m o = some (.box (slist zs))) (hK : K (.tup []) (s.set o (.box (slist (bsort zs))))) : ACalls P f [.mref 1 o 0 zs.length] s K := by
 refine ⟨hcb, fun ι w vs hwf hbnd hvs => ?_⟩
 obtain ⟨v, rfl⟩ : ∃ v, vs = #[v] := by
  obtain ⟨l⟩ := vs
  match l, hvs.1 with
  | [v], _ => exact ⟨v, rfl⟩
 have hv := hvs.2 0 v _ rfl rfl
 have hbnd' : Bnd ι (s.set o (.box (slist (bsort zs)))).m s.nx := ⟨fun q ob hq => by
  by_cases e : q = o
  ·subst e; exact hbnd.lt q _ ho
  ·simp [St.set, e] at hq; exact hbnd.lt q ob hq, hbnd.ilt⟩
 cases zs with
 | nil =>
  have hvv : ∃ p cap, v = .slice p 0 cap := by
   cases hv with
   | mref h hcap hb => exact ⟨_, _, rfl⟩
   | mnil => exact ⟨_, _, rfl⟩
  obtain ⟨p, cap, rfl⟩ := hvv
  refine (hnone p cap w).mono ?_
  rintro e w' ⟨rfl, rfl⟩
  have hm : (s.set o (.box (slist (bsort [])))).m = s.m := by
   funext q
   by_cases e : q = o
   ·subst e; simp [St.set, ho, bsort, slist]
   ·simp [St.set, e]
  refine ⟨_, _, s.set o (.box (slist (bsort []))), ι, rfl, ?_, ?_, ?_, Inc.refl _ _, .tup rfl (by simp), hK⟩
  ·rw [hm]; exact Step.refl _ _ _
  ·rw [hm]; exact hwf
  ·exact hbnd'
 | cons z zs =>
  generalize hzz : z :: zs = zl at *
  have hne : zl.length ≠ 0 := by rw [← hzz]; simp
  generalize hln : zl.length = ln at hv
  cases hv with
  | mnil => exact absurd hln hne
  | @mref _ _ b _ _ cap h hcap hb =>
   subst hln
   obtain ⟨cvs, e, h1, h2, h3, h4⟩ := hwf.rep o _ b ho h
   simp only [slist, List.length_map] at h2
   have hcell : ∀ j, j < zl.length → cvs[j]? = some (encStr zl[j]!) := by
    intro j hj
    have hjc : j < cvs.size := by omega
    have hx : (slist zl)[j]? = some (.str ⟨zl[j]!.toArray⟩) := by simp [slist, hj]
    have := h3 j cvs[j] _ (by simp [hjc]) hx
    rw [Array.getElem?_eq_getElem hjc]
    generalize cvs[j] = u at this
    cases this
    rfl
   have hH : Holds encStr w b (0 * 1) zl.toArray := by
    intro j hj
    have hj' : j < zl.length := by simpa using hj
    refine ⟨?_, ?_⟩
    ·simp [World.cell?, h1, hcell j hj']
    ·simp [World.frozen?, h1]
   have hblk : b < w.heap.size := (Array.getElem?_eq_some_iff.1 h1).1
   refine (hsort b (0 * 1) cap zl w hH hblk hlen).mono ?_
   rintro e' w' ⟨rfl, n, os, hw'⟩
   have h1a : (Sort.ahead w n).heap[b]? = some (.cells cvs e (0, 0)) := h1
   rw [Nat.zero_mul, putRow_setRowS _ h1a] at hw'
   have hszp : (putCells encStr 0 (bsort zl).toArray cvs).size = cvs.size := by simp [putCells]
   have hget : ∀ (j : Nat) v x, (putCells encStr 0 (bsort zl).toArray cvs)[j]? = some v → (slist (bsort zl))[j]? = some x → ∃ m, v = encStr m ∧ x = .str ⟨m.toArray⟩ := by
    intro j v x hv hx
    simp only [slist, List.getElem?_map, Option.map_eq_some_iff] at hx
    obtain ⟨m, hm, rfl⟩ := hx
    have hjl : j < (bsort zl).length := (List.getElem?_eq_some_iff.1 hm).1
    have hjc : j < cvs.size := by rw [bsort_length] at hjl; omega
    rw [putCells, Array.getElem?_mapIdx, Array.getElem?_eq_getElem hjc] at hv
    simp only [Option.map_some, Option.some.injEq, Nat.zero_add, Nat.zero_le, true_and, Nat.sub_zero, List.size_toArray] at hv
    rw [if_pos hjl] at hv
    subst hv
    refine ⟨m, ?_, rfl⟩
    simp [hm]
   obtain ⟨q1, q2⟩ := write_obj (obj' := .box (slist (bsort zl))) (cs := putCells encStr 0 (bsort zl).toArray cvs) (hwf.ahead n) ho h h1a hszp (fun _ => trivial) fun hR hh =>
    ⟨_, e, hh, by rw [hszp]; simp only [slist, List.length_map, bsort_length]; exact h2, fun j v x hv hx => by obtain ⟨m, rfl, rfl⟩ := hget j v x hv hx; exact .str _,
     fun j v hj hv => by
      have hx : (slist (bsort zl))[j]? = some (slist (bsort zl))[j] := by simp [hj]
      obtain ⟨m, rfl, _⟩ := hget j v _ hv hx
      rfl⟩
   obtain ⟨w2, hw2⟩ : ∃ w2, w2 = (Sort.ahead w n).setRow b (putCells encStr 0 (bsort zl).toArray cvs) := ⟨_, rfl⟩
   change w' = Go.Sort.grow ((Sort.ahead w n).setRow b (putCells encStr 0 (bsort zl).toArray cvs)) os at hw'
   rw [← hw2] at q1 q2 hw'
   subst hw'
   have hgr : Grown (putS s.m o (.box (slist (bsort zl)))) ι w2 (Go.Sort.grow w2 os) none :=
    ⟨⟨rfl, rfl, rfl, by simp [Go.Sort.grow], fun k hk _ => by simp [Go.Sort.grow, Array.getElem?_append_left hk]⟩, fun r e => by cases e⟩
   exact ⟨_, _, s.set o (.box (slist (bsort zl))), ι, rfl, hgr.step ((ahead_step ι s.m w n).trans q1) (fun r e => by cases e), hgr.wf q2, hbnd', Inc.refl _ _, .tup rfl (by simp), hK⟩
theorem mem_compact [Glob] {zs : List (List UInt8)} {x : List UInt8} : x ∈ Lib.compact zs ↔ x ∈ zs := by
 have key : ∀ j, j < zs.length → zs[j]! ∈ Lib.compact zs := by
  intro j
  induction j using Nat.strongRecOn with
  | ind j ih =>
   intro hj
   by_cases hk : Lib.keeps zs.toArray j = true
   ·simp only [Lib.compact, Lib.compactUpTo, List.mem_map, List.mem_filter, List.mem_range]
    exact ⟨j, ⟨hj, hk⟩, by simp⟩
   ·have h2 : ¬ (j = 0 ∨ zs[j]! ≠ zs[j - 1]!) := by simpa [Lib.keeps] using hk
    have h3 : j ≠ 0 := fun e => h2 (.inl e)
    have h4 : zs[j]! = zs[j - 1]! := Decidable.byContradiction fun e => h2 (.inr e)
    rw [h4]
    exact ih (j - 1) (by omega) (by omega)
 constructor
 ·intro h
  simp only [Lib.compact, Lib.compactUpTo, List.mem_map, List.mem_filter, List.mem_range] at h
  obtain ⟨j, ⟨hj, _⟩, rfl⟩ := h
  simp [hj]
 ·intro h
  obtain ⟨j, hj, rfl⟩ := List.mem_iff_getElem.1 h
  have := key j hj
  simpa [hj] using this
theorem compact_length [Glob] (zs : List (List UInt8)) : (Lib.compact zs).length ≤ zs.length := by
 simp only [Lib.compact, Lib.compactUpTo, List.length_map]
 refine Nat.le_trans (List.length_filter_le _ _) ?_
 simp
theorem scompact_sound [Glob] {f : FuncId} (hcb : Callable P f) (hnone : ∀ (p : Option Addr) (cap : Nat) (w : World), Calls P f #[.slice p 0 cap] w fun e w' => e = .returned (.slice p 0 cap) ∧ w' = w)
  (hcomp : ∀ (blk off cap : Nat) (zs : List (List UInt8)) (w : World), Holds encStr w blk off zs.toArray → zs.length ≤ 9223372036854775807 → zs.length ≤ cap →
   Calls P f #[.slice (some ⟨blk, off, none⟩) zs.length cap] w fun e w' => e = .returned (.slice (some ⟨blk, off, none⟩) (Lib.compact zs).length cap) ∧ ∃ q, w' = putRow encStr (Sort.ahead w q) blk off (Lib.compact zs ++ List.replicate (zs.length - (Lib.compact zs).length) []).toArray)
  (zs : List (List UInt8)) (o : Nat) {K : AV → St → Prop} (hlen : zs.length < 4611686018427387904) (ho : s.m o = some (.box (slist zs))) (hK : K (.mref 1 o 0 (Lib.compact zs).length) (s.set o (.box (slist (Lib.compact zs))))) : ACalls P f [.mref 1 o 0 zs.length] s K := by
 refine ⟨hcb, fun ι w vs hwf hbnd hvs => ?_⟩
 obtain ⟨v, rfl⟩ : ∃ v, vs = #[v] := by
  obtain ⟨l⟩ := vs
  match l, hvs.1 with
  | [v], _ => exact ⟨v, rfl⟩
 have hv := hvs.2 0 v _ rfl rfl
 have hbnd' : Bnd ι (s.set o (.box (slist (Lib.compact zs)))).m s.nx := ⟨fun q ob hq => by
  by_cases e : q = o
  ·subst e; exact hbnd.lt q _ ho
  ·simp [St.set, e] at hq; exact hbnd.lt q ob hq, hbnd.ilt⟩
 cases zs with
 | nil =>
  have hvv : ∃ p cap, v = .slice p 0 cap := by
   cases hv with
   | mref h hcap hb => exact ⟨_, _, rfl⟩
   | mnil => exact ⟨_, _, rfl⟩
  obtain ⟨p, cap, rfl⟩ := hvv
  refine (hnone p cap w).mono ?_
  rintro e w' ⟨rfl, rfl⟩
  have hm : (s.set o (.box (slist (Lib.compact [])))).m = s.m := by
   funext q
   by_cases e : q = o
   ·subst e; simp [St.set, ho, Lib.compact, Lib.compactUpTo, slist]
   ·simp [St.set, e]
  refine ⟨_, _, s.set o (.box (slist (Lib.compact []))), ι, rfl, ?_, ?_, ?_, Inc.refl _ _, ?_, hK⟩
  ·rw [hm]; exact Step.refl _ _ _
  ·rw [hm]; exact hwf
  ·exact hbnd'
  ·rw [hm]; exact hv
 | cons z zs =>
  generalize hzz : z :: zs = zl at *
  have hne : zl.length ≠ 0 := by rw [← hzz]; simp
  generalize hln : zl.length = ln at hv
  cases hv with
  | mnil => exact absurd hln hne
  | @mref _ _ b _ _ cap h hcap hb =>
   subst hln
   obtain ⟨cvs, e, h1, h2, h3, h4⟩ := hwf.rep o _ b ho h
   simp only [slist, List.length_map] at h2
   have hcell : ∀ j, j < zl.length → cvs[j]? = some (encStr zl[j]!) := by
    intro j hj
    have hjc : j < cvs.size := by omega
    have hx : (slist zl)[j]? = some (.str ⟨zl[j]!.toArray⟩) := by simp [slist, hj]
    have := h3 j cvs[j] _ (by simp [hjc]) hx
    rw [Array.getElem?_eq_getElem hjc]
    generalize cvs[j] = u at this
    cases this
    rfl
   have hH : Holds encStr w b (0 * 1) zl.toArray := by
    intro j hj
    have hj' : j < zl.length := by simpa using hj
    refine ⟨?_, ?_⟩
    ·simp [World.cell?, h1, hcell j hj']
    ·simp [World.frozen?, h1]
   refine (hcomp b (0 * 1) cap zl w hH (by omega) hcap).mono ?_
   rintro e' w' ⟨rfl, n, hw'⟩
   have h1a : (Sort.ahead w n).heap[b]? = some (.cells cvs e (0, 0)) := h1
   generalize hrow : Lib.compact zl ++ List.replicate (zl.length - (Lib.compact zl).length) [] = row at hw'
   have hrl : row.length = zl.length := by
    have := compact_length zl
    rw [← hrow]; simp; omega
   have hcl := compact_length zl
   rw [Nat.zero_mul, putRow_setRowS _ h1a] at hw'
   have hszp : (putCells encStr 0 row.toArray cvs).size = cvs.size := by simp [putCells]
   have hget : ∀ (j : Nat) v x, (putCells encStr 0 row.toArray cvs)[j]? = some v → (slist (Lib.compact zl))[j]? = some x → ∃ m, v = encStr m ∧ x = .str ⟨m.toArray⟩ := by
    intro j v x hv hx
    simp only [slist, List.getElem?_map, Option.map_eq_some_iff] at hx
    obtain ⟨m, hm, rfl⟩ := hx
    have hjk : j < (Lib.compact zl).length := (List.getElem?_eq_some_iff.1 hm).1
    have hjl : j < row.length := by omega
    have hjc : j < cvs.size := by omega
    rw [putCells, Array.getElem?_mapIdx, Array.getElem?_eq_getElem hjc] at hv
    simp only [Option.map_some, Option.some.injEq, Nat.zero_add, Nat.zero_le, true_and, Nat.sub_zero, List.size_toArray] at hv
    rw [if_pos hjl] at hv
    subst hv
    refine ⟨m, ?_, rfl⟩
    have : row[j]? = some m := by rw [← hrow, List.getElem?_append_left hjk]; exact hm
    simp [this]
   obtain ⟨q1, q2⟩ := write_obj (obj' := .box (slist (Lib.compact zl))) (cs := putCells encStr 0 row.toArray cvs) (hwf.ahead n) ho h h1a hszp (fun _ => trivial) fun hR hh =>
    ⟨_, e, hh, by rw [hszp]; simp only [slist, List.length_map]; omega, fun j v x hv hx => by obtain ⟨m, rfl, rfl⟩ := hget j v x hv hx; exact .str _,
     fun j v hj hv => by
      have hx : (slist (Lib.compact zl))[j]? = some (slist (Lib.compact zl))[j] := by simp [hj]
      obtain ⟨m, rfl, _⟩ := hget j v _ hv hx
      rfl⟩
   subst hw'
   refine ⟨_, _, s.set o (.box (slist (Lib.compact zl))), ι, rfl, (ahead_step ι s.m w n).trans q1, q2, hbnd', Inc.refl _ _, ?_, hK⟩
   have hst := (ahead_step ι s.m w n).trans q1
   exact .mref h (Nat.le_trans hcl hcap) (hst.shape _ _ hb)
end Go.AL
namespace Go.AL
variable {P : Program}
def imapF : Nat → List Int → List (Nat × AV × AV)
 | _, [] => []
 | i, n :: r => (i, .int .i64 n, .bool true) :: imapF (i + 1) r
def obS (l : List Int) : AObj := .map (imapF 0 l) l.length
def ains (l : List Int) (n : Int) : List Int := if n ∈ l then l else l ++ [n]
theorem imapF_length [Glob] : ∀ (l : List Int) (i : Nat), (imapF i l).length = l.length
 | [], _ => rfl
 | n :: r, i => by simp [imapF, imapF_length r]
theorem idxOf_ne [Glob] {a n : Int} {r : List Int} (h : ¬ a = n) : (a :: r).idxOf n = r.idxOf n + 1 := by
 rw [List.idxOf_cons]
 have : (a == n) = false := by simpa using h
 rw [this]; rfl
theorem mfind_imap [Glob] (n : Int) : ∀ (l : List Int) (i k : Nat), mfind (.int .i64 n) (imapF i l) k = some (if n ∈ l then some (k + l.idxOf n) else none)
 | [], i, k => by simp [imapF, mfind]
 | a :: r, i, k => by
  simp only [imapF, mfind, keq, if_true]
  by_cases h : n = a
  ·subst h; simp
  ·have ha : ¬ a = n := fun e => h e.symm
   rw [decide_eq_false h]
   simp only [mfind_imap n r (i + 1) (k + 1), List.mem_cons, h, false_or]
   by_cases hm : n ∈ r
   ·simp only [hm, if_true, idxOf_ne ha]
    congr 2
    omega
   ·simp [hm]
theorem modify_imap [Glob] (n : Int) : ∀ (l : List Int) (i : Nat), n ∈ l → (imapF i l).modify (l.idxOf n) (fun e => (e.1, .int .i64 n, .bool true)) = imapF i l
 | [], i, h => by simp at h
 | a :: r, i, h => by
  by_cases e : a = n
  ·subst e; simp [imapF]
  ·have hm : n ∈ r := by
    rcases List.mem_cons.1 h with h | h
    ·exact absurd h.symm e
    ·exact h
   rw [idxOf_ne e]
   simp [imapF, modify_imap n r (i + 1) hm]
theorem append_imap [Glob] (n : Int) : ∀ (l : List Int) (i : Nat), imapF i l ++ [(i + l.length, .int .i64 n, .bool true)] = imapF i (l ++ [n])
 | [], i => by simp [imapF]
 | a :: r, i => by
  simp only [imapF, List.cons_append, List.length_cons]
  rw [← append_imap n r (i + 1)]
  congr 3
  congr 1
  omega
theorem up_set [Glob] (n : Int) (l : List Int) (o : Nat) (s : St) (K : AV → St → Prop) (hk : go (K (.tup []) (s.set o (obS (ains l n))))) : go (upO o (.int .i64 n) (.bool true) (some (obS l)) s K) := by
 rw [obS, go_upO_map, mfind_imap]
 by_cases h : n ∈ l
 ·rw [if_pos h, go_upR_some, Nat.zero_add, modify_imap n l 0 h]
  rw [ains, if_pos h] at hk
  exact hk
 ·rw [if_neg h, go_upR_none]
  rw [ains, if_neg h, obS, ← append_imap, Nat.zero_add, List.length_append] at hk
  exact hk
theorem mem_imapF [Glob] : ∀ (l : List Int) (i : Nat) (e : Nat × AV × AV), e ∈ imapF i l → ∃ j, j < l.length ∧ e = (i + j, .int .i64 (l.getD j 0), .bool true)
 | [], i, e, h => by simp [imapF] at h
 | a :: r, i, e, h => by
  simp only [imapF, List.mem_cons] at h
  rcases h with rfl | h
  ·exact ⟨0, by simp, by simp⟩
  ·obtain ⟨j, hj, rfl⟩ := mem_imapF r (i + 1) e h
   exact ⟨j + 1, by simpa using hj, by simp; omega⟩
theorem find_imapF [Glob] : ∀ (l : List Int) (i j : Nat), j < l.length → ((imapF i l).find? fun e => e.1 == i + j) = some (i + j, .int .i64 (l.getD j 0), .bool true)
 | [], i, j, h => by simp at h
 | a :: r, i, 0, h => by simp [imapF]
 | a :: r, i, j + 1, h => by
  have := find_imapF r (i + 1) j (by simpa using h)
  have e1 : i + 1 + j = i + (j + 1) := by omega
  rw [e1] at this
  have e2 : ¬ i = i + (j + 1) := by omega
  simp only [imapF, List.find?_cons]
  have e3 : (i == i + (j + 1)) = false := by simp
  rw [e3, this]
  simp
theorem in_imapF [Glob] : ∀ (l : List Int) (i j : Nat), j < l.length → (i + j, AV.int .i64 (l.getD j 0), AV.bool true) ∈ imapF i l := fun l i j h => List.mem_of_find?_eq_some (find_imapF l i j h)
theorem isort_perm [Glob] {a b : List Int} (h : a.Perm b) : isort a = isort b := by
 have h1 : (isort a).Perm (isort b) := (List.mergeSort_perm a _).trans (h.trans (List.mergeSort_perm b _).symm)
 refine List.Perm.eq_of_pairwise (le := fun x y => x ≤ y) (fun x y _ _ h1 h2 => Int.le_antisymm h1 h2) ?_ ?_ h1
 ·exact (List.pairwise_mergeSort (le := fun x y : Int => decide (x ≤ y)) (fun a b c h1 h2 => by simp at *; omega) (fun a b => by simp; omega) a).imp (by simp)
 ·exact (List.pairwise_mergeSort (le := fun x y : Int => decide (x ≤ y)) (fun a b c h1 h2 => by simp at *; omega) (fun a b => by simp; omega) b).imp (by simp)
theorem perm_seen [Glob] (l : List Int) (seen : List Nat) (hnd : seen.Nodup) (hlt : ∀ j ∈ seen, j < l.length) (hall : ∀ j, j < l.length → j ∈ seen) : (seen.map fun j => l.getD j 0).Perm l := by
 have h1 : seen.Perm (List.range l.length) := by
  rw [List.perm_ext_iff_of_nodup hnd List.nodup_range]
  intro j
  rw [List.mem_range]
  exact ⟨hlt j, hall j⟩
 have h2 : (List.range l.length).map (fun j => l.getD j 0) = l := by
  apply List.ext_getElem
  ·simp
  ·intro i h1 h2; simp [h2]
 have := h1.map fun j => l.getD j 0
 rw [h2] at this
 exact this
theorem nodup_le [Glob] {seen : List Nat} {n : Nat} (hnd : seen.Nodup) (hlt : ∀ j ∈ seen, j < n) : seen.length ≤ n := by
 have h : seen.Perm ((List.range n).filter fun j => decide (j ∈ seen)) := by
  rw [List.perm_ext_iff_of_nodup hnd (List.nodup_range.filter _)]
  intro j
  simp only [List.mem_filter, List.mem_range, decide_eq_true_eq]
  exact ⟨fun h => ⟨hlt j h, h⟩, fun h => h.2⟩
 have h1 := h.length_eq
 have h2 := List.length_filter_le (fun j => decide (j ∈ seen)) (List.range n)
 simp only [List.length_range] at h2
 omega
theorem Rep.nilm [Glob] {ι : Nat → Option Nat} {F : Nat → Nat → Prop} {w : World} {v : Value} (h : Rep ι F w v (.list 0 .full [])) (sz o : Nat) : Rep ι F w v (.mref sz o 0 0) := by
 generalize hx : AV.list 0 .full [] = x at h
 cases h <;> try (cases hx; done)
 rename_i cs hlen hcap hsz ht hnone hc hr
 injection hx with e1 e2 e3
 subst e1 e2 e3
 cases hlen
 cases ht
 exact .mnil
theorem redesc [Glob] {ι : Nat → Option Nat} {S : Store} {w : World} {o : Nat} {cs cs' : List AV} (hwf : WF ι S w) (ho : S o = some (.box cs)) (hr : ∀ b, ι o = some b → ObjRep ι (Foot ι S) w b (.box cs) → ObjRep ι (Foot ι S) w b (.box cs')) :
  Step ι S w ι (putS S o (.box cs')) w ∧ WF ι (putS S o (.box cs')) w := by
 have hf : ∀ b off, Foot ι (putS S o (.box cs')) b off → Foot ι S b off := by
  rintro b off ⟨q, ob, h1, h2, h3⟩
  unfold putS at h1
  split at h1
  ·rename_i e; subst e; exact ⟨q, _, ho, h2, trivial⟩
  ·exact ⟨q, ob, h1, h2, h3⟩
 have hst : Step ι S w ι (putS S o (.box cs')) w := by
  refine grow_step (Nat.le_refl _) rfl rfl rfl (fun _ _ => rfl) (fun _ _ h => h) (fun b off _ h => hf b off h) ?_
  rintro b hb ⟨q, ob, h1, h2⟩
  unfold putS at h1
  split at h1
  ·rename_i e; subst e; exact ⟨q, _, ho, h2⟩
  ·exact ⟨q, ob, h1, h2⟩
 refine ⟨hst, hwf.of_step hst hwf.blt ?_ ?_⟩
 ·intro q q' ob ob' b h1 h2 h3 h4
  unfold putS at h1 h2
  by_cases e : q = o <;> by_cases e' : q' = o <;> simp only [e, e', if_true, if_false] at h1 h2 h3 h4 ⊢
  ·exact hwf.inj o q' _ ob' b ho h2 h3 h4
  ·exact e (hwf.inj q o ob _ b h1 ho h3 h4)
  ·exact hwf.inj q q' ob ob' b h1 h2 h3 h4
 ·intro q ob b h1 h2
  unfold putS at h1
  split at h1
  ·rename_i e
   subst e
   cases h1
   refine .inr ?_
   obtain ⟨vs, e, k1, k2, k3, k4⟩ := hr b h2 (hwf.rep _ _ b ho h2)
   exact ⟨vs, e, k1, k2, fun j v x hv hx => (k3 j v x hv hx).step hst, k4⟩
  ·exact .inl ⟨h1, h2, rfl⟩
section
variable {f : FuncId} {args : List AV} {s : St} {K : AV → St → Prop}
theorem ACalls.virt [Glob] (ob : AObj) (h : ACalls P f args (s.new ob) K) : ACalls P f args s K := by
 refine ⟨h.1, fun ι w vs h1 h2 h3 => ?_⟩
 have hn : ι s.nx = none := by
  cases e : ι s.nx with
  | none => rfl
  | some b => exact absurd (h2.ilt _ b e) (by omega)
 have hst := virtual_step hn s.m w ob
 have hb : Bnd ι (s.new ob).m (s.new ob).nx := by
  refine ⟨fun q o hq => ?_, fun q b hq => Nat.lt_succ_of_lt (h2.ilt q b hq)⟩
  by_cases e : q = s.nx
  ·subst e; exact Nat.lt_succ_self _
  ·rw [St.new_ne _ _ _ e] at hq; exact Nat.lt_succ_of_lt (h2.lt q o hq)
 refine Calls.mono (h.2 ι w vs (h1.virtual hn ob) hb ⟨h3.1, fun j v x hv hx => (h3.2 j v x hv hx).step hst⟩) ?_
 rintro e w' ⟨v, r, s', ι', k1, k2, k3, k4, k5, k6, k7⟩
 exact ⟨v, r, s', ι', k1, hst.trans k2, k3, k4, ⟨Nat.le_trans (Nat.le_succ _) k5.1, fun q b hq hlt => k5.2 q b hq (Nat.lt_succ_of_lt hlt)⟩, k6, k7⟩
theorem ACalls.nilbox [Glob] {o : Nat} (sz : Nat) (ho : s.m o = some (.box [.list 0 .full []])) (h : ACalls P f args ((s.new (.box [])).set o (.box [.mref sz s.nx 0 0])) K) : ACalls P f args s K := by
 refine ACalls.bnd h.1 fun hb0 => ACalls.virt (.box []) ⟨h.1, fun ι w vs h1 h2 h3 => ?_⟩
 have hon : o ≠ s.nx := by have := hb0 o _ ho; omega
 have ho' : (s.new (.box [])).m o = some (.box [.list 0 .full []]) := by rw [St.new_ne _ _ _ hon]; exact ho
 obtain ⟨hst, hwf⟩ := redesc (cs' := [.mref sz s.nx 0 0]) h1 ho' fun b hob ⟨vs, e, k1, k2, k3, k4⟩ => ⟨vs, e, k1, k2, fun j v x hv hx => by
  cases j with
  | zero =>
   simp only [List.getElem?_cons_zero, Option.some.injEq] at hx
   subst hx
   exact (k3 0 v _ hv rfl).nilm _ _
  | succ j => simp at hx, k4⟩
 have hb : Bnd ι ((s.new (.box [])).set o (.box [.mref sz s.nx 0 0])).m (s.new (.box [])).nx := by
  refine ⟨fun q ob hq => ?_, h2.ilt⟩
  by_cases e : q = o
  ·subst e; exact h2.lt _ _ ho'
  ·rw [St.set_ne _ _ _ _ e] at hq; exact h2.lt q ob hq
 refine Calls.mono (h.2 ι w vs hwf hb ⟨h3.1, fun j v x hv hx => (h3.2 j v x hv hx).step hst⟩) ?_
 rintro e w' ⟨v, r, s', ι', k1, k2, k3, k4, k5, k6, k7⟩
 exact ⟨v, r, s', ι', k1, hst.trans k2, k3, k4, k5, k6, k7⟩
theorem ACalls.nilarg [Glob] {i : Nat} (sz : Nat) (hi : args[i]? = some (.list 0 .full [])) (h : ACalls P f (args.set i (.mref sz s.nx 0 0)) (s.new (.box [])) K) : ACalls P f args s K := by
 refine ACalls.virt (.box []) ⟨h.1, fun ι w vs h1 h2 h3 => h.2 ι w vs h1 h2 ⟨by simpa using h3.1, fun j v x hv hx => ?_⟩⟩
 by_cases e : i = j
 ·subst e
  have hj : i < args.length := (List.getElem?_eq_some_iff.1 hi).1
  simp [hj] at hx
  subst hx
  exact (h3.2 i v _ hv hi).nilm _ _
 ·rw [List.getElem?_set_ne e] at hx
  exact h3.2 j v x hv hx
end
theorem flat_il [Glob] (l : List Int) : flat (ilist l) = ilist l := by
 induction l with
 | nil => rfl
 | cons a r ih => simp [ilist] at ih ⊢; exact ih
theorem ilist_get [Glob] {l : List Int} {i : Nat} {n : Int} (h : l[i]? = some n) : (ilist l)[i]? = some (.int .i64 n) := by simp [ilist, h]
@[simp] theorem ilist_length [Glob] (l : List Int) : (ilist l).length = l.length := by simp [ilist]
theorem ains_nodup [Glob] {l : List Int} (h : l.Nodup) (n : Int) : (ains l n).Nodup := by
 unfold ains
 by_cases hm : n ∈ l
 ·rw [if_pos hm]; exact h
 ·rw [if_neg hm, List.nodup_append]
  refine ⟨h, by simp, fun a ha b hb => ?_⟩
  simp at hb; subst hb
  exact fun e => hm (e ▸ ha)
theorem ains_len [Glob] (l : List Int) (n : Int) : (ains l n).length ≤ l.length + 1 := by
 unfold ains
 by_cases hm : n ∈ l
 ·rw [if_pos hm]; omega
 ·rw [if_neg hm]; simp
theorem mem_ains [Glob] {l : List Int} {n k : Int} : k ∈ ains l n ↔ k ∈ l ∨ k = n := by
 unfold ains
 by_cases hm : n ∈ l
 ·rw [if_pos hm]; exact ⟨.inl, fun h => h.elim id fun e => e ▸ hm⟩
 ·rw [if_neg hm]; simp
def adds (l ns : List Int) : List Int := ns.foldl ains l
@[simp] theorem adds_nil [Glob] (l : List Int) : adds l [] = l := rfl
theorem adds_one [Glob] (l : List Int) (n : Int) : adds l [n] = ains l n := rfl
theorem adds_append [Glob] (l a b : List Int) : adds l (a ++ b) = adds (adds l a) b := by simp [adds]
theorem adds_nodup [Glob] : ∀ (ns : List Int) {l : List Int} (_ : l.Nodup), (adds l ns).Nodup
 | [], l, h => h
 | n :: ns, l, h => by simp only [adds, List.foldl_cons]; exact adds_nodup ns (ains_nodup h n)
theorem adds_len [Glob] : ∀ (ns : List Int) (l : List Int), (adds l ns).length ≤ l.length + ns.length
 | [], l => by simp
 | n :: ns, l => by
  have := adds_len ns (ains l n)
  have := ains_len l n
  simp only [adds, List.foldl_cons, List.length_cons] at *
  omega
theorem mem_adds [Glob] {k : Int} : ∀ (ns : List Int) {l : List Int}, k ∈ adds l ns ↔ k ∈ l ∨ k ∈ ns
 | [], l => by simp
 | n :: ns, l => by
  have := mem_adds ns (l := ains l n) (k := k)
  simp only [adds, List.foldl_cons] at *
  rw [this, mem_ains, List.mem_cons, or_assoc]
theorem freeze1 [Glob] {f : FuncId} {args : List AV} {s : St} {K : AV → St → Prop} (h : ACalls P f args s fun r s' => ∃ sz o len xs, r = .mref sz o 0 len ∧ s'.m o = some (.box (flat xs)) ∧ (∀ x ∈ xs, x.cells.length = sz) ∧ xs.length = len ∧
  K (.list sz .none xs) (s'.del o)) : ACalls P f args s K := by
 refine ⟨h.1, fun ι w ws h1 h2 h3 => Calls.mono (h.2 ι w ws h1 h2 h3) ?_⟩
 rintro e w' ⟨v, r, s', ι', k1, k2, k3, k4, k5, k6, sz, o, len, xs, rfl, ho, hsz, hlen, hk⟩
 have hst : Step ι' s'.m w' ι' (s'.del o).m w' := drop_step s'.m (delS s'.m o) (delS_sub s'.m o) ι' w'
 exact ⟨v, _, _, ι', k1, k2.trans hst, k3.drop (delS_sub s'.m o), ⟨fun q ob hq => k4.lt q ob (delS_sub s'.m o q ob hq), k4.ilt⟩, k5, k6.freeze k3 ho hsz hlen, hk⟩
end Go.AL
namespace Go.AL.Dm
open Go Go.Proofs
theorem altsOK_head : ∀ (l : List (Hd × Pl)) (pre : List Hd), altsOK pre l = true → ∀ a ∈ l, a.1.op = 2 → 0 ≤ a.1.n ∧ a.1.n ≤ 12
 | [], _, _, a, ha, _ => by simp at ha
 | b :: r, pre, h, a, ha, h2 => by
  rw [altsOK, Bool.and_eq_true] at h
  obtain ⟨h1, h3⟩ := h
  rcases List.mem_cons.1 ha with rfl | ha
  ·rw [headOK, if_neg (by omega), if_pos h2] at h1
   simp at h1
   exact h1.2
  ·split at h3
   ·exact altsOK_head r pre h3 a ha h2
   ·rw [Bool.and_eq_true] at h3
    exact altsOK_head r _ h3.2 a ha h2
structure Nd (t : Pl) : Prop where
 var : t.op = 1 → 0 ≤ t.n ∧ t.args = [] ∧ t.alts = []
 lam : t.op = 5 → 1 ≤ t.n ∧ t.n ≤ 8 ∧ t.args.length = 1
 app : t.op = 6 → 2 ≤ t.args.length ∧ t.args.length ≤ 9
 lt : t.op = 7 → 2 ≤ t.args.length ∧ t.args.length ≤ 13
 cas : t.op = 8 → t.args.length = 1 ∧ 1 ≤ t.alts.length ∧ t.alts.length ≤ 40
 len : t.args.length ≤ 13
 noalts : t.op ≠ 8 → t.alts = []
 hd : ∀ a ∈ t.alts, a.1.op = 2 → 0 ≤ a.1.n ∧ a.1.n ≤ 12
 prm : t.op = 9 → ∃ k, arI t.s = some k ∧ (t.args.length : Int) = k
 op : 1 ≤ t.op ∧ t.op ≤ 9
theorem arI_le2 {s : ByteArray} {k : Int} (h : arI s = some k) : 0 ≤ k ∧ k ≤ 2 := by
 unfold arI at h
 split at h
 ·cases h
 ·have hm : k ∈ ars := List.mem_of_getElem? h
  simp [ars] at hm
  omega
theorem nd_of {t : Pl} (h : nodeOK t = true) : Nd t := by
 simp only [nodeOK, Bool.and_eq_true, Bool.not_eq_true', Bool.and_eq_false_iff, decide_eq_false_iff_not, decide_eq_true_eq] at h
 obtain ⟨⟨⟨h1, h2⟩, h3⟩, h4⟩ := h
 have hna : t.op ≠ 8 → t.alts = [] := fun h8 => by
  rcases h1 with h1 | h1
  ·exact absurd h8 h1
  ·exact List.eq_nil_of_length_eq_zero (by omega)
 unfold formOK at h4
 refine ⟨fun e => ?_, fun e => ?_, fun e => ?_, fun e => ?_, fun e => ?_, ?_, hna, ?_, fun e => ?_, ?_⟩
 ·rw [if_pos e] at h4
  simp at h4
  exact ⟨h4.1, h4.2, hna (by omega)⟩
 ·simp [e] at h4
  omega
 ·simp [e] at h4
  omega
 ·simp [e] at h4
  omega
 ·simp [e] at h4
  omega
 ·by_cases e9 : t.op = 9
  ·simp [e9] at h4
   cases ha : arI t.s with
   | none => simp [ha] at h4
   | some k => simp [ha] at h4; have := arI_le2 ha; omega
  repeat' split at h4
  all_goals (try (simp at h4; omega))
  all_goals simp at h4
  all_goals (try simp [h4])
 ·intro a ha
  by_cases e : t.op = 8
  ·simp [e] at h4
   exact altsOK_head _ _ h4.2.2 a ha
  ·rw [hna e] at ha; simp at ha
 ·simp [e] at h4
  cases ha : arI t.s with
  | none => simp [ha] at h4
  | some k => simp [ha] at h4; exact ⟨k, rfl, h4⟩
 ·repeat' split at h4
  all_goals (first | omega | (simp at h4))
theorem wfs_mem : ∀ {l : List Pl}, wfs l = true → ∀ x ∈ l, wf x = true
 | [], _, x, hx => by simp at hx
 | y :: l, h, x, hx => by
  rw [wfs, Bool.and_eq_true] at h
  rcases List.mem_cons.1 hx with rfl | hx
  ·exact h.1
  ·exact wfs_mem h.2 x hx
theorem wfa_mem : ∀ {l : List (Hd × Pl)}, wfa l = true → ∀ x ∈ l, wf x.2 = true
 | [], _, x, hx => by simp at hx
 | (hh, y) :: l, h, x, hx => by
  rw [wfa, Bool.and_eq_true] at h
  rcases List.mem_cons.1 hx with rfl | hx
  ·exact h.1
  ·exact wfa_mem h.2 x hx
theorem wf_nd {t : Pl} (h : wf t = true) : Nd t ∧ (∀ x ∈ t.args, wf x = true) ∧ (∀ a ∈ t.alts, wf a.2 = true) := by
 rw [wf_eq, Bool.and_eq_true, Bool.and_eq_true] at h
 exact ⟨nd_of h.1.1, wfs_mem h.1.2, wfa_mem h.2⟩
theorem szs_mem : ∀ {l : List Pl} {x : Pl}, x ∈ l → sz x ≤ szs l
 | y :: l, x, hx => by
  have h2 := szs_pos l fun x _ => sz_pos x
  have h3 := sz_pos y
  rcases List.mem_cons.1 hx with rfl | hx
  ·simp only [szs]; omega
  ·have := szs_mem hx; simp only [szs]; omega
theorem sza_mem : ∀ {l : List (Hd × Pl)} {x : Hd × Pl}, x ∈ l → 1 + sz x.2 ≤ sza l
 | (hh, y) :: l, x, hx => by
  have h2 := sza_pos l fun x _ => sz_pos x.2
  have h3 := sz_pos y
  rcases List.mem_cons.1 hx with rfl | hx
  ·simp only [sza]; omega
  ·have := sza_mem hx; simp only [sza]; omega
theorem dws_mem : ∀ {l : List Pl} {x : Pl}, x ∈ l → dw x ≤ dws l
 | y :: l, x, hx => by
  rcases List.mem_cons.1 hx with rfl | hx
  ·simp only [dws]; omega
  ·have := dws_mem hx; simp only [dws]; omega
theorem dwa_mem : ∀ {l : List (Hd × Pl)} {x : Hd × Pl}, x ∈ l → 1 + dw x.2 ≤ dwa l
 | (hh, y) :: l, x, hx => by
  rcases List.mem_cons.1 hx with rfl | hx
  ·simp only [dwa]; omega
  ·have := dwa_mem hx; simp only [dwa]; omega
theorem arg_lt {t x : Pl} (h : x ∈ t.args) : sz x < sz t ∧ dw x < dw t := by
 have h1 := szs_mem h
 have h2 := dws_mem h
 have h3 := sza_pos t.alts fun x _ => sz_pos x.2
 rw [sz_eq t, dw_eq t]; omega
theorem alt_lt {t : Pl} {x : Hd × Pl} (h : x ∈ t.alts) : sz x.2 + 1 < sz t ∧ dw x.2 + 1 < dw t := by
 have h1 := sza_mem h
 have h2 := dwa_mem h
 have h3 := szs_pos t.args fun x _ => sz_pos x
 rw [sz_eq t, dw_eq t]; omega
theorem small_arg {t x : Pl} (h : small t) (hx : x ∈ t.args) : small x := by have := arg_lt hx; have := h.1; have := h.2; exact ⟨by omega, by omega⟩
theorem small_alt {t : Pl} {a : Hd × Pl} (h : small t) (hx : a ∈ t.alts) : small a.2 := by have := alt_lt hx; have := h.1; have := h.2; exact ⟨by omega, by omega⟩
theorem Nd.inn {t : Pl} (h : Nd t) : 0 ≤ inn t ∧ inn t ≤ 12 := by
 unfold Dm.inn
 split
 ·rename_i e; have := h.lam e; omega
 ·split
  ·rename_i e; have := h.lt e; omega
  ·omega
theorem Nd.bnd {t : Pl} (h : Nd t) {a : Hd × Pl} (ha : a ∈ t.alts) : 1 ≤ bnd a.1 ∧ bnd a.1 ≤ 13 := by
 unfold Dm.bnd
 split
 ·rename_i e; have := h.hd a ha e; omega
 ·omega
theorem parts_mem {t : Pl} {p : Int × Pl} (h : p ∈ parts t) : (p.1 = inn t ∧ p.2 ∈ t.args) ∨ ∃ a ∈ t.alts, p = (bnd a.1, a.2) := by
 simp only [parts, List.mem_append, List.mem_map] at h
 rcases h with ⟨x, hx, rfl⟩ | ⟨a, ha, rfl⟩
 ·exact .inl ⟨rfl, hx⟩
 ·exact .inr ⟨a, ha, rfl⟩
theorem parts_wf {t : Pl} (h : wf t = true) (hs : small t) {p : Int × Pl} (hp : p ∈ parts t) : wf p.2 = true ∧ small p.2 ∧ 0 ≤ p.1 ∧ p.1 ≤ 13 ∧ sz p.2 < sz t ∧ dw p.2 < dw t := by
 obtain ⟨h1, h2, h3⟩ := wf_nd h
 rcases parts_mem hp with ⟨e, hx⟩ | ⟨a, ha, rfl⟩
 ·have := arg_lt hx
  have := h1.inn
  exact ⟨h2 _ hx, small_arg hs hx, by omega, by omega, by omega, by omega⟩
 ·have := alt_lt ha
  have := h1.bnd ha
  exact ⟨h3 _ ha, small_alt hs ha, by simp only; omega, by simp only; omega, by simp only; omega, by simp only; omega⟩
theorem parts_ind {C : Pl → Prop} (h : ∀ t, (∀ p ∈ parts t, C p.2) → C t) (t : Pl) : C t := by
 induction t using Pl.ind with
 | h t ih1 ih2 =>
  refine h t fun p hp => ?_
  rcases parts_mem hp with ⟨e, hx⟩ | ⟨a, ha, rfl⟩
  ·exact ih1 _ hx
  ·exact ih2 a ha
theorem fvp_take {l : List (Int × Pl)} {i : Nat} (h : i < l.length) (u : Int) : fvp (l.take (i + 1)) u = fvp (l.take i) u ++ fv l[i].2 (u + l[i].1) := by
 rw [List.take_succ_eq_append_getElem h, fvp_append]
 simp [fvp]
def i64 (n : Int) : Prop := -9223372036854775808 ≤ n ∧ n ≤ 9223372036854775807
mutual
def rng : Pl → Prop
 | .mk op n s args alts => i64 op ∧ i64 n ∧ rngs args ∧ rnga alts
def rngs : List Pl → Prop
 | [] => True
 | t :: ts => rng t ∧ rngs ts
def rnga : List (Hd × Pl) → Prop
 | [] => True
 | (h, b) :: ts => (i64 h.op ∧ i64 h.n ∧ rng b) ∧ rnga ts
end
theorem rngs_iff : ∀ (l : List Pl), rngs l ↔ ∀ x ∈ l, rng x
 | [] => by simp [rngs]
 | y :: l => by simp [rngs, rngs_iff l]
theorem rnga_iff : ∀ (l : List (Hd × Pl)), rnga l ↔ ∀ x ∈ l, i64 x.1.op ∧ i64 x.1.n ∧ rng x.2
 | [] => by simp [rnga]
 | (hh, y) :: l => by simp [rnga, rnga_iff l]
theorem rng_eq (t : Pl) : rng t ↔ i64 t.op ∧ i64 t.n ∧ (∀ x ∈ t.args, rng x) ∧ ∀ a ∈ t.alts, i64 a.1.op ∧ i64 a.1.n ∧ rng a.2 := by
 cases t; rw [rng, rngs_iff, rnga_iff]; rfl
theorem rng_part {t : Pl} (h : rng t) {p : Int × Pl} (hp : p ∈ parts t) : rng p.2 := by
 rw [rng_eq] at h
 rcases parts_mem hp with ⟨e, hx⟩ | ⟨a, ha, rfl⟩
 ·exact h.2.2.1 _ hx
 ·exact (h.2.2.2 a ha).2.2
def C144 (t : Pl) : Prop := ∀ (u : Int) (l : List Int) (o : Nat) (s : St) (K : AV → St → Prop), wf t = true → small t → rng t → 0 ≤ u → u + 13 * dw t ≤ 100000 → s.m o = some (obS l) → o < s.nx →
 (∀ m, s.nx ≤ m → K (.tup []) ((s.set o (obS (adds l (fv t u)))).bump m)) → ACalls Tryz.prog 144 [.map o, t.av, .int .i64 u] s K
def J144 (t : Pl) (o : Nat) (u : Int) (l : List Int) (lo : Nat) (E : Env) (ca cb : Code) (s : St) (i : Nat) (s' : St) : Prop :=
 s'.m lo = some (.loop 0 none E [22, 23] 30 ca cb) ∧ s'.m o = some (obS (adds l (fvp ((parts t).take i) u))) ∧ s'.m s.nx = some (.box [.map o]) ∧ s'.m (s.nx + 1 + 1) = some (.box [.int .i64 u]) ∧ KeptX s o s' ∧ lo < s'.nx
theorem p144 (t : Pl) : C144 t := by
 induction t using parts_ind with
 | h t ih =>
 intro u l o s K hw hsm hr hu hu2 ho hon hK
 refine ACalls.upd (r := .tup []) (ob := obS (adds l (fv t u))) hon (fun_sound mixed Tryz.func144 Tryz.call144 c144 rfl (awpFun_go _ _ _ _ ?_)) hK
 obtain ⟨hnd, hwa, hwb⟩ := wf_nd hw
 have hr' := (rng_eq t).1 hr
 by_cases o1 : t.op = 1
 ·have hn := (hnd.var o1).1
  have h64 := hr'.2.1
  unfold i64 at h64
  have hdw := dw_pos t
  have w1 : IntKind.i64.wrap (t.n - u) = t.n - u := wrap64 (by omega) (by omega)
  rw [fv_eq, if_pos o1]
  simp -implicitDefEqProofs (disch:=first|omega|simp only[nx4]<;>omega|fail) [a144, a144b, a144r0, a144r1, a144r2, a144r3, o1, w1]
  refine ⟨fun h => ?_, fun h => ?_⟩
  ·rw [if_pos h]
   rw [ho]
   refine up_set _ _ _ _ _ ?_
   simp -implicitDefEqProofs (disch:=first|omega|simp only[nx4]<;>omega|fail) [adds_one]
   exact wk_refl _
  ·rw [if_neg (by omega)]
   simp -implicitDefEqProofs (disch:=first|omega|simp only[nx4]<;>omega|fail) [ho]
   exact wk_refl _
 ·simp -implicitDefEqProofs (disch:=first|omega|simp only[nx4]<;>omega|fail) [a144, a144b, a144r0, a144r1, a144r4, o1]
  refine go_pure (p103 t) fun mm1 hm1 => ?_
  try simp only [nx4] at hm1
  simp -implicitDefEqProofs (disch:=first|omega|simp only[nx4]<;>omega|fail) []
  refine go_range rfl fun ca cb hY => ?_
  simp -implicitDefEqProofs (disch:=first|omega|simp only[nx4]<;>omega|fail) at hY ⊢
  have hpl : (parts t).length ≤ 100 := by
   rw [parts_len]
   have := hnd.len
   by_cases o8 : t.op = 8
   ·have := hnd.cas o8; omega
   ·rw [hnd.noalts o8]; simp; omega
  generalize hE : [(3, AV.ptr s.nx 0), (5, AV.ptr (s.nx + 1 + 1) 0), (6, AV.any), (7, AV.any), (22, AV.any), (23, AV.any)] = E at hY ⊢
  have hpl2 := hpl
  rw [parts_len] at hpl2
  rw [← Pl.av_cells t]
  refine ACalls.mono (p143 t (by omega) (by omega) (fun a ha h2 => by have := hnd.hd a ha h2; omega) mm1 (J144 t o u l mm1 E ca cb s) (fun _ => False) ?_ ?_ _ ?_) fun _ s' hn' hJ => ?_
  ·rintro i s1 s2 ⟨j1, j2, j3, j4, j5, j6⟩ h1 h2
   exact ⟨(h1 _ j6).trans j1, (h1 _ (by omega)).trans j2, (h1 _ (by omega)).trans j3, (h1 _ (by omega)).trans j4, fun q hq hq2 => (h1 q (by omega)).trans (j5 q hq hq2), by omega⟩
  ·rintro i hi s1 ⟨j1, j2, j3, j4, j5, j6⟩
   have hp := parts_wf hw hsm (List.getElem_mem hi)
   have hrp := rng_part hr (List.getElem_mem hi)
   have ihp := ih _ (List.getElem_mem hi)
   generalize hx : (parts t)[i] = p at hp hrp ihp ⊢
   obtain ⟨q1, q2, q3, q4, q5, q6⟩ := hp
   have w2 : IntKind.i64.wrap (u + p.1) = u + p.1 := wrap64 (by have := dw_pos t; omega) (by have := dw_pos t; omega)
   refine rnd_go hY j1 rfl ?_
   subst hE
   simp -implicitDefEqProofs (disch:=first|omega|simp only[nx4]<;>omega|fail) [a144x8, a144r5, a144r6, a144y8, a144r7, j1, j2, j3, j4, w2]
   refine go_calls (ihp (u + p.1) (adds l (fvp ((parts t).take i) u)) o _ _ q1 q2 hrp (by omega) (by omega) (by simp -implicitDefEqProofs (disch:=first|omega|simp only[nx4]<;>omega|fail) [j2]) (by simp -implicitDefEqProofs (disch:=first|omega|simp only[nx4]<;>omega|fail); omega) fun m hm => go_of ?_)
   simp only [nx4] at hm
   simp -implicitDefEqProofs (disch:=first|omega|simp only[nx4]<;>omega|fail) [j1]
   refine ⟨?_, ?_, ?_, ?_, ?_, ?_⟩
   ·simp -implicitDefEqProofs (disch:=first|omega|simp only[nx4]<;>omega|fail)
   ·simp -implicitDefEqProofs (disch:=first|omega|simp only[nx4]<;>omega|fail) [fvp_take hi, hx, adds_append]
   ·simp -implicitDefEqProofs (disch:=first|omega|simp only[nx4]<;>omega|fail) [j3]
   ·simp -implicitDefEqProofs (disch:=first|omega|simp only[nx4]<;>omega|fail) [j4]
   ·simp -implicitDefEqProofs (disch:=first|omega|simp only[nx4]<;>omega|fail) [j5]
   ·simp -implicitDefEqProofs (disch:=first|omega|simp only[nx4]<;>omega|fail)
    omega
  ·refine ⟨?_, ?_, ?_, ?_, ?_, ?_⟩
   ·simp -implicitDefEqProofs (disch:=first|omega|simp only[nx4]<;>omega|fail)
   ·simp -implicitDefEqProofs (disch:=first|omega|simp only[nx4]<;>omega|fail) [fvp, ho]
   ·simp -implicitDefEqProofs (disch:=first|omega|simp only[nx4]<;>omega|fail)
   ·simp -implicitDefEqProofs (disch:=first|omega|simp only[nx4]<;>omega|fail)
   ·simp -implicitDefEqProofs (disch:=first|omega|simp only[nx4]<;>omega|fail)
   ·simp -implicitDefEqProofs (disch:=first|omega|simp only[nx4]<;>omega|fail)
  ·rcases hJ with ⟨j1, j2, j3, j4, j5, j6⟩ | h
   ·refine rangeR_end j1 (by omega) ?_
    simp -implicitDefEqProofs (disch:=first|omega|simp only[nx4]<;>omega|fail)
    refine ⟨wk_refl _, ?_, ?_⟩
    ·rw [j2, List.take_length, fv_parts t u o1]
    ·simp -implicitDefEqProofs (disch:=first|omega|simp only[nx4]<;>omega|fail) [j5]
   ·exact h.elim
end Go.AL.Dm
set_option maxRecDepth 100000
namespace Go.AL.Dm
open Go Go.Proofs Go.ChangeShapes Go.WideShapes Go.ChangeAt Go.RowKit
theorem own : ownKnob Tryz.prog.godebug = none := by kernel_rfl
theorem laidOut : laidOutB Tryz.prog = true := by kernel_rfl
theorem cells27 : Tryz.prog.cellsOf 27 = 5 := by kernel_rfl
theorem cells114 : Tryz.prog.cellsOf 114 = 8 := by kernel_rfl
theorem cells40 : Tryz.prog.cellsOf 40 = 6 := by kernel_rfl
theorem cells3 : Tryz.prog.cellsOf 3 = 1 := by kernel_rfl
theorem cells9 : Tryz.prog.cellsOf 9 = 1 := by kernel_rfl
theorem cells22 : Tryz.prog.cellsOf 22 = 1 := by kernel_rfl
theorem cells23 : Tryz.prog.cellsOf 23 = 1 := by kernel_rfl
theorem cells25 : Tryz.prog.cellsOf 25 = 1 := by kernel_rfl
theorem rngs_of {l : List Pl} (h : ∀ x ∈ l, rng x) : rngs l := (rngs_iff l).2 h
theorem rnga_of : ∀ {l : List (Hd × Pl)}, (∀ x ∈ l, i64 x.1.op ∧ i64 x.1.n ∧ rng x.2) → rnga l
 | [], _ => trivial
 | (h0, b) :: l, h => ⟨h (h0, b) (by simp), rnga_of fun x hx => h x (by simp [hx])⟩
section
variable {H : Type} {enc : TypeId × Value → H} {w : World}
theorem i64_of {n : Int} (hw : Lit.wf (.int .i64 n) = true) : i64 n := by simpa [i64, Lit.wf, IntKind.min, IntKind.max, IntKind.signed, IntKind.bits] using hw
theorem trod_pl (n : Nat) : (∀ cs x, DataW.trod enc Tryz.prog w 0 (fun _ => true) true n 27 cs = some x → ∃ t : Pl, Cells w cs t.av.cells ∧ rng t) ∧
  (∀ cs x, DataW.trod enc Tryz.prog w 0 (fun _ => true) true n 114 cs = some x → ∃ a : Hd × Pl, Cells w cs (Pl.altv a).cells ∧ i64 a.1.op ∧ i64 a.1.n ∧ rng a.2) := by
 induction n using Nat.strongRecOn with
 | _ n ih =>
  refine ⟨fun cs x h => ?_, fun cs x h => ?_⟩
  ·obtain ⟨xs, m, rfl, rfl, hl, hxl, hf⟩ := DataW.trod_struct Tryz.underlying27 h
   rw [cells27] at hl
   match cs, hl with
   | [c0, c1, c2, c3, c4], _ =>
    have h0 : DataW.trod enc Tryz.prog w 0 (fun _ => true) true m 3 (([c0, c1, c2, c3, c4].drop 0).take (Tryz.prog.cellsOf 3)) = xs[0]? := hf 0 _ rfl
    rw [cells3] at h0
    have h1 : DataW.trod enc Tryz.prog w 0 (fun _ => true) true m 3 (([c0, c1, c2, c3, c4].drop 1).take (Tryz.prog.cellsOf 3)) = xs[1]? := hf 1 _ rfl
    rw [cells3] at h1
    have h2 : DataW.trod enc Tryz.prog w 0 (fun _ => true) true m 9 (([c0, c1, c2, c3, c4].drop 2).take (Tryz.prog.cellsOf 9)) = xs[2]? := hf 2 _ rfl
    rw [cells9] at h2
    have h3 : DataW.trod enc Tryz.prog w 0 (fun _ => true) true m 23 (([c0, c1, c2, c3, c4].drop 3).take (Tryz.prog.cellsOf 23)) = xs[3]? := hf 3 _ rfl
    rw [cells23] at h3
    have h4 : DataW.trod enc Tryz.prog w 0 (fun _ => true) true m 25 (([c0, c1, c2, c3, c4].drop 4).take (Tryz.prog.cellsOf 25)) = xs[4]? := hf 4 _ rfl
    rw [cells25] at h4
    simp only [List.drop_zero, List.drop_succ_cons, List.take_succ_cons, List.take_zero] at h0 h1 h2 h3 h4
    have hs : ∀ i, i < 5 → ∃ y, xs[i]? = some y := fun i hi => ⟨_, List.getElem?_eq_getElem (by rw [hxl]; exact hi)⟩
    obtain ⟨y0, hy0⟩ := hs 0 (by omega)
    obtain ⟨y1, hy1⟩ := hs 1 (by omega)
    obtain ⟨y2, hy2⟩ := hs 2 (by omega)
    obtain ⟨y3, hy3⟩ := hs 3 (by omega)
    obtain ⟨y4, hy4⟩ := hs 4 (by omega)
    rw [hy0] at h0
    rw [hy1] at h1
    rw [hy2] at h2
    rw [hy3] at h3
    rw [hy4] at h4
    obtain ⟨op, e0, _, w0⟩ := DataW.trod_int Tryz.underlying3 h0
    obtain ⟨nn, e1, _, w1⟩ := DataW.trod_int Tryz.underlying3 h1
    obtain ⟨s, e2, _, _⟩ := DataW.trod_string Tryz.underlying9 h2
    obtain ⟨v, l, e3, k1, k2, _, _, _⟩ := slice_reads (α := { t : Pl // rng t }) (f := fun t => t.1.av.cells) Tryz.underlying23 cells27 (by omega) (fun k hk cs y hy => by
     obtain ⟨t, h1, h2⟩ := (ih k (by omega)).1 cs y hy
     exact ⟨⟨t, h2⟩, h1⟩) h3
    obtain ⟨v', l', e4, k1', k2', _, _, _⟩ := slice_reads (α := { a : Hd × Pl // i64 a.1.op ∧ i64 a.1.n ∧ rng a.2 }) (f := fun t => (Pl.altv t.1).cells) Tryz.underlying25 cells114 (by omega) (fun k hk cs y hy => by
     obtain ⟨t, h1, h2⟩ := (ih k (by omega)).2 cs y hy
     exact ⟨⟨t, h2⟩, h1⟩) h4
    simp only [List.cons.injEq, and_true] at e0 e1 e2 e3 e4
    subst e0 e1 e2 e3 e4
    refine ⟨.mk op nn s (l.map (·.1)) (l'.map (·.1)), ?_, ?_⟩
    ·rw [Pl.av_cells]
     have k6 := k2 (fun t => t.1.av) fun _ => rfl
     have k6' := k2' (fun t => Pl.altv t.1) fun _ => rfl
     have k7 : l.map (fun t => t.1.av) = (l.map (·.1)).map Pl.av := by rw [List.map_map]; rfl
     have k7' : l'.map (fun t => Pl.altv t.1) = (l'.map (·.1)).map Pl.altv := by rw [List.map_map]; rfl
     rw [k7] at k6
     rw [k7'] at k6'
     exact .cons rfl (.int _ _) (.cons rfl (.int _ _) (.cons rfl (.str _) (.cons k1 k6 (.cons k1' k6' (.nil w)))))
    ·rw [rng]
     exact ⟨i64_of w0, i64_of w1, rngs_of fun x hx => by obtain ⟨y, _, rfl⟩ := List.mem_map.1 hx; exact y.2, rnga_of fun x hx => by obtain ⟨y, _, rfl⟩ := List.mem_map.1 hx; exact y.2⟩
  ·obtain ⟨xs, m, rfl, rfl, hl, hxl, hf⟩ := DataW.trod_struct Tryz.underlying114 h
   rw [cells114] at hl
   match cs, hl with
   | [c0, c1, c2, c3, c4, c5, c6, c7], _ =>
    have h0 : DataW.trod enc Tryz.prog w 0 (fun _ => true) true m 3 (([c0, c1, c2, c3, c4, c5, c6, c7].drop 0).take (Tryz.prog.cellsOf 3)) = xs[0]? := hf 0 _ rfl
    rw [cells3] at h0
    have h1 : DataW.trod enc Tryz.prog w 0 (fun _ => true) true m 9 (([c0, c1, c2, c3, c4, c5, c6, c7].drop 1).take (Tryz.prog.cellsOf 9)) = xs[1]? := hf 1 _ rfl
    rw [cells9] at h1
    have h2 : DataW.trod enc Tryz.prog w 0 (fun _ => true) true m 3 (([c0, c1, c2, c3, c4, c5, c6, c7].drop 2).take (Tryz.prog.cellsOf 3)) = xs[2]? := hf 2 _ rfl
    rw [cells3] at h2
    have h3 : DataW.trod enc Tryz.prog w 0 (fun _ => true) true m 27 (([c0, c1, c2, c3, c4, c5, c6, c7].drop 3).take (Tryz.prog.cellsOf 27)) = xs[3]? := hf 3 _ rfl
    rw [cells27] at h3
    simp only [List.drop_zero, List.drop_succ_cons, List.take_succ_cons, List.take_zero] at h0 h1 h2 h3
    have hs : ∀ i, i < 4 → ∃ y, xs[i]? = some y := fun i hi => ⟨_, List.getElem?_eq_getElem (by rw [hxl]; exact hi)⟩
    obtain ⟨y0, hy0⟩ := hs 0 (by omega)
    obtain ⟨y1, hy1⟩ := hs 1 (by omega)
    obtain ⟨y2, hy2⟩ := hs 2 (by omega)
    obtain ⟨y3, hy3⟩ := hs 3 (by omega)
    rw [hy0] at h0
    rw [hy1] at h1
    rw [hy2] at h2
    rw [hy3] at h3
    obtain ⟨op, e0, _, w0⟩ := DataW.trod_int Tryz.underlying3 h0
    obtain ⟨s, e1, _, _⟩ := DataW.trod_string Tryz.underlying9 h1
    obtain ⟨nn, e2, _, w2⟩ := DataW.trod_int Tryz.underlying3 h2
    obtain ⟨t, ht, hrt⟩ := (ih m (by omega)).1 _ _ h3
    simp only [List.cons.injEq, and_true] at e0 e1 e2
    subst e0 e1 e2
    refine ⟨(⟨op, s, nn⟩, t), ?_, i64_of w0, i64_of w2, hrt⟩
    rw [Pl.av_cells] at ht
    rw [Pl.altv_cells]
    exact .cons rfl (.int _ _) (.cons rfl (.str _) (.cons rfl (.int _ _) ht))
theorem trod_gl (n : Nat) : ∀ cs x, DataW.trod enc Tryz.prog w 0 (fun _ => true) true n 40 cs = some x → ∃ g : Gl, Cells w cs g.av.cells ∧ rng g.body := by
 intro cs x h
 obtain ⟨xs, m, rfl, rfl, hl, hxl, hf⟩ := DataW.trod_struct Tryz.underlying40 h
 rw [cells40] at hl
 match cs, hl with
 | [c0, c1, c2, c3, c4, c5], _ =>
  have h0 : DataW.trod enc Tryz.prog w 0 (fun _ => true) true m 9 (([c0, c1, c2, c3, c4, c5].drop 0).take (Tryz.prog.cellsOf 9)) = xs[0]? := hf 0 _ rfl
  rw [cells9] at h0
  have h1 : DataW.trod enc Tryz.prog w 0 (fun _ => true) true m 27 (([c0, c1, c2, c3, c4, c5].drop 1).take (Tryz.prog.cellsOf 27)) = xs[1]? := hf 1 _ rfl
  rw [cells27] at h1
  simp only [List.drop_zero, List.drop_succ_cons, List.take_succ_cons, List.take_zero] at h0 h1
  have hs : ∀ i, i < 2 → ∃ y, xs[i]? = some y := fun i hi => ⟨_, List.getElem?_eq_getElem (by rw [hxl]; exact hi)⟩
  obtain ⟨y0, hy0⟩ := hs 0 (by omega)
  obtain ⟨y1, hy1⟩ := hs 1 (by omega)
  rw [hy0] at h0
  rw [hy1] at h1
  obtain ⟨s, e0, _, _⟩ := DataW.trod_string Tryz.underlying9 h0
  obtain ⟨t, ht, hrt⟩ := (trod_pl m).1 _ _ h1
  simp only [List.cons.injEq, and_true] at e0
  subst e0
  refine ⟨⟨s, t⟩, ?_, hrt⟩
  rw [Pl.av_cells] at ht
  rw [Gl.av_cells]
  exact .cons rfl (.str _) ht
theorem open_prog {v : Value} {d : DataW H} {ps : List MemPlace} (h : DataW.Trod enc Tryz.prog w 0 (fun _ => true) true 22 v d ps) {base : Nat} (hval : Value.okWide Tryz.prog w .any base 22 v) :
  ∃ l : List Gl, Rep ι0 F0 w v (.list 6 .none (l.map Gl.av)) ∧ ∀ g ∈ l, rng g.body := by
 obtain ⟨a, len, cap, rfl⟩ := okWide_slice Tryz.underlying22 hval
 obtain ⟨n, hn⟩ := h
 obtain ⟨v, l, e, k1, k2, _, _, _⟩ := slice_reads (α := { g : Gl // rng g.body }) (f := fun g => g.1.av.cells) Tryz.underlying22 cells40 (by omega) (fun k hk cs y hy => by
  obtain ⟨t, h1, h2⟩ := trod_gl k cs y hy
  exact ⟨⟨t, h2⟩, h1⟩) hn
 simp [Value.cells] at e
 subst e
 refine ⟨l.map (·.1), ?_, fun g hg => by obtain ⟨y, _, rfl⟩ := List.mem_map.1 hg; exact y.2⟩
 have := k2 (fun g => g.1.av) fun _ => rfl
 rw [List.map_map]
 exact this
end
end Go.AL.Dm
set_option maxRecDepth 100000
namespace Go.AL.Dm
open Go Go.Proofs Go.ChangeShapes Go.WideShapes Go.ChangeAt Go.ChangeMaps Go.WideElems Go.RowKit
section
variable {H : Type} {enc : TypeId × Value → H} {P : Program} {w : World} {sp : Nat → Bool} {held : Bool}
theorem mem_foldIns {y : Lit × DataW H} : ∀ l : List (Lit × DataW H), y ∈ l.foldr DataW.insert [] ↔ y ∈ l
 | [] => by simp
 | a :: l => by rw [List.foldr_cons, mem_insert_iff, mem_foldIns l]; simp
theorem cmap_of {k e t : TypeId} (ht : P.underlying t = some (.map k e)) {fuel : Nat} {cs : List Value} {x : DataW H × List MemPlace} (h : DataW.trod enc P w 0 sp held fuel t cs = some x) {D : List (Lit × DataW H)} (hx : x.1 = .map D)
  (conv : Lit × DataW H → Value × Value) (hconv : ∀ n (en : MapEntry) y, rd P k (elemAt enc P w 0 sp held n e) en = some y → (en.key, en.val) = conv y) : ∃ bm, cs = [.map (some bm)] ∧ Rep ι0 F0 w (.map (some bm)) (.cmap (D.map conv)) := by
 rcases open_map ht h with ⟨_, rfl⟩ | ⟨b, es, clock, n, rfl, rfl, hb, _, F, rfl⟩
 ·simp at hx
 ·simp only [DataW.map.injEq] at hx
  subst hx
  have hread : ∀ en ∈ es.toList, (en.key, en.val) = conv (rg P k (elemAt enc P w 0 sp held n e) en) := fun en he => by
   obtain ⟨y, hy⟩ := F.reads en he
   rw [rg_of hy]
   exact hconv n en y hy
  have hout : ∀ p ∈ ((es.toList.map (rg P k (elemAt enc P w 0 sp held n e))).foldr DataW.insert []).map conv, ∃ (j : Nat) (en : MapEntry), es[j]? = some en ∧ en.key = p.1 ∧ en.val = p.2 := by
   intro p hp
   obtain ⟨y, hy, rfl⟩ := List.mem_map.1 hp
   obtain ⟨en, he, rfl⟩ := List.mem_map.1 ((mem_foldIns _).1 hy)
   obtain ⟨j, hj⟩ := List.getElem?_of_mem he
   have := hread en he
   exact ⟨j, en, by simpa using hj, by rw [← this], by rw [← this]⟩
  obtain ⟨_, _, hkeys⟩ := (MapKept.stamped_iff es clock).1 F.stamped
  refine ⟨b, rfl, .cmap hb (fun _ => F0_no _ _) (fun j en hj => ?_) hout (fun p hp q hq hpq => ?_)⟩
  ·have he : en ∈ es.toList := List.mem_of_getElem? (by simpa using hj : es.toList[j]? = some en)
   rw [hread en he]
   exact List.mem_map_of_mem ((mem_foldIns _).2 (List.mem_map_of_mem he))
  ·obtain ⟨j, en, hj, h1, h2⟩ := hout p hp
   obtain ⟨j', en', hj', h1', h2'⟩ := hout q hq
   have hjl : es.toList[j]? = some en := by simpa using hj
   have hjl' : es.toList[j']? = some en' := by simpa using hj'
   have hke : en.key = en'.key := by rw [h1, h1', hpq]
   have : j = j' := by
    obtain ⟨l1, e1⟩ := List.getElem?_eq_some_iff.1 hjl
    obtain ⟨l2, e2⟩ := List.getElem?_eq_some_iff.1 hjl'
    rcases Nat.lt_trichotomy j j' with hlt | he | hgt
    ·exact absurd (by rw [e1, e2]; exact hke) (List.pairwise_iff_getElem.1 hkeys j j' l1 l2 hlt)
    ·exact he
    ·exact absurd (by rw [e1, e2]; exact hke.symm) (List.pairwise_iff_getElem.1 hkeys j' j l2 l1 hgt)
   subst this
   rw [hj] at hj'
   cases hj'
   rw [← h2, ← h2']
def vOf : DataW H → Value
 | .lit (.int k n) => .int k n
 | .lit (.bool b) => .bool b
 | _ => .nilFunc
def vOf2 : DataW H → Value
 | .agg ds => .agg (ds.map vOf).toArray
 | d => vOf d
def kOf : Lit → Value
 | .int k n => .int k n
 | .string s => .string ⟨s.toArray⟩
 | _ => .nilFunc
def cv (y : Lit × DataW H) : Value × Value := (kOf y.1, vOf2 y.2)
theorem key_str {k : TypeId} (hk : P.underlying k = some .string) {v : Value} {l : Lit} (h : keyOf P k v = some l) : v = kOf l := by
 rw [keyOf_string hk] at h
 unfold mapKey at h
 rw [hk] at h
 cases v <;> simp at h
 obtain ⟨_, rfl⟩ := h
 rfl
theorem key_int {k : TypeId} {q : IntKind} (hk : P.underlying k = some (.int q)) {v : Value} {l : Lit} (h : keyOf P k v = some l) : v = kOf l := by
 rw [keyOf_int hk] at h
 unfold mapKey at h
 rw [hk] at h
 cases v <;> simp at h
 obtain ⟨⟨rfl, _⟩, rfl⟩ := h
 rfl
theorem val_int {e : TypeId} {q : IntKind} (he : P.underlying e = some (.int q)) {n : Nat} {v : Value} {z : DataW H × List MemPlace} (h : elemAt enc P w 0 sp held n e v = some z) : v = vOf2 z.1 := by
 unfold elemAt at h
 split at h
 ·rename_i hf
  obtain ⟨m, hc, rfl, _⟩ := DataW.trod_int he h
  cases v <;> simp [Value.cells] at hc
  ·obtain ⟨rfl, rfl⟩ := hc; rfl
  ·simp [Value.formed, he] at hf
 ·cases h
theorem val_bool {e : TypeId} (he : P.underlying e = some .bool) {n : Nat} {v : Value} {z : DataW H × List MemPlace} (h : elemAt enc P w 0 sp held n e v = some z) : v = vOf2 z.1 := by
 unfold elemAt at h
 split at h
 ·rename_i hf
  obtain ⟨m, hc, rfl⟩ := DataW.trod_bool he h
  cases v <;> simp [Value.cells] at hc
  ·subst hc; rfl
  ·simp [Value.formed, he] at hf
 ·cases h
theorem rd_of {k e : TypeId} {n : Nat} (hk : ∀ v l, keyOf P k v = some l → v = kOf l) (hv : ∀ v (z : DataW H × List MemPlace), elemAt enc P w 0 sp held n e v = some z → v = vOf2 z.1) (en : MapEntry) (y : Lit × DataW H) (h : rd P k (elemAt enc P w 0 sp held n e) en = some y) : (en.key, en.val) = cv y := by
 have h1 := rd_key h
 obtain ⟨z, h2, h3⟩ := rd_val h
 rw [hk _ _ h1, hv _ _ h2, cv, h3]
end
theorem cells4 : Tryz.prog.cellsOf 4 = 1 := by kernel_rfl
theorem cells167 : Tryz.prog.cellsOf 167 = 5 := by kernel_rfl
section
variable {H : Type} {enc : TypeId × Value → H} {w : World} {sp : Nat → Bool} {held : Bool}
theorem val_shape {n : Nat} {v : Value} {z : DataW H × List MemPlace} (h : elemAt enc Tryz.prog w 0 sp held n 167 v = some z) : v = vOf2 z.1 := by
 unfold elemAt at h
 split at h
 ·rename_i hf
  cases v <;> simp [Value.formed, Tryz.underlying167] at hf
  rename_i vs
  obtain ⟨xs, m, rfl, rfl, hl, hxl, hfl⟩ := DataW.trod_struct Tryz.underlying167 h
  obtain ⟨cs⟩ := vs
  simp only [Value.cells] at hl hfl
  rw [cells167] at hl
  match cs, hl with
  | [c0, c1, c2, c3, c4], _ =>
   have h0 : DataW.trod enc Tryz.prog w 0 sp held m 3 (([c0, c1, c2, c3, c4].drop 0).take (Tryz.prog.cellsOf 3)) = xs[0]? := hfl 0 _ rfl
   rw [cells3] at h0
   have h1 : DataW.trod enc Tryz.prog w 0 sp held m 3 (([c0, c1, c2, c3, c4].drop 1).take (Tryz.prog.cellsOf 3)) = xs[1]? := hfl 1 _ rfl
   rw [cells3] at h1
   have h2 : DataW.trod enc Tryz.prog w 0 sp held m 4 (([c0, c1, c2, c3, c4].drop 2).take (Tryz.prog.cellsOf 4)) = xs[2]? := hfl 2 _ rfl
   rw [cells4] at h2
   have h3 : DataW.trod enc Tryz.prog w 0 sp held m 4 (([c0, c1, c2, c3, c4].drop 3).take (Tryz.prog.cellsOf 4)) = xs[3]? := hfl 3 _ rfl
   rw [cells4] at h3
   have h4 : DataW.trod enc Tryz.prog w 0 sp held m 4 (([c0, c1, c2, c3, c4].drop 4).take (Tryz.prog.cellsOf 4)) = xs[4]? := hfl 4 _ rfl
   rw [cells4] at h4
   simp only [List.drop_zero, List.drop_succ_cons, List.take_succ_cons, List.take_zero] at h0 h1 h2 h3 h4
   have hn : xs.length = 5 := hxl
   match xs, hn with
   | [x0, x1, x2, x3, x4], _ =>
    obtain ⟨a, e0, f0, _⟩ := DataW.trod_int Tryz.underlying3 (show _ = some x0 from h0)
    obtain ⟨b, e1, f1, _⟩ := DataW.trod_int Tryz.underlying3 (show _ = some x1 from h1)
    obtain ⟨c, e2, f2⟩ := DataW.trod_bool Tryz.underlying4 (show _ = some x2 from h2)
    obtain ⟨d, e3, f3⟩ := DataW.trod_bool Tryz.underlying4 (show _ = some x3 from h3)
    obtain ⟨e, e4, f4⟩ := DataW.trod_bool Tryz.underlying4 (show _ = some x4 from h4)
    simp only [List.cons.injEq, and_true] at e0 e1 e2 e3 e4
    subst e0 e1 e2 e3 e4 f0 f1 f2 f3 f4
    rfl
 ·cases h
end
open Go.Proofs.YtlledcnjfgcipaaGreatDoor
def lv : List (String × DataW Unit) := [("damask/damaskref15.arities", Rows.laid_damask_damaskref15_arities), ("damask/term.arities", Rows.laid_damask_term_arities), ("damask/term.pure", Rows.laid_damask_term_pure), ("damask/term.shapes", Rows.laid_damask_term_shapes)]
theorem g3 : Tryz.prog.globalNamed "damask/damaskref15.arities" = some 3 := by kernel_rfl
theorem g1 : Tryz.prog.globalNamed "damask/term.arities" = some 1 := by kernel_rfl
theorem g2 : Tryz.prog.globalNamed "damask/term.pure" = some 2 := by kernel_rfl
theorem g0 : Tryz.prog.globalNamed "damask/term.shapes" = some 0 := by kernel_rfl
theorem ty1 : (Tryz.prog.globals[1]?).map (·.type) = some 172 := by kernel_rfl
theorem ty2 : (Tryz.prog.globals[2]?).map (·.type) = some 88 := by kernel_rfl
theorem ty0 : (Tryz.prog.globals[0]?).map (·.type) = some 169 := by kernel_rfl
theorem ty3 : (Tryz.prog.globals[3]?).map (·.type) = some 223 := by kernel_rfl
def nums : List Int := [2, 2, 2, 2, 2, 2, 2, 2, 2, 1, 1, 2, 1, 0, 2, 1, 2, 1, 0, 1, 1, 2, 1, 1, 2, 0, 2]
theorem one_map {W : World} {g t k e : Nat} {n : String} {cs : Array Value} {fuel : Nat} {p : List MemPlace} {D : List (Lit × DataW Unit)} (hg : Tryz.prog.globalNamed n = some g) (hv : W.var? Tryz.prog n = some cs) (ht : Tryz.prog.underlying t = some (.map k e))
  (hd : DataW.trod (fun _ => ()) Tryz.prog W 0 (fun _ => true) false fuel t cs.toList = some (.map D, p)) (hk : ∀ v l, keyOf Tryz.prog k v = some l → v = kOf l) (hvv : ∀ n v (z : DataW Unit × List MemPlace), elemAt (fun _ => ()) Tryz.prog W 0 (fun _ => true) false n e v = some z → v = vOf2 z.1)
  {es : List (Value × Value)} (hes : es = D.map cv) : Rep ι0 F0 W (.pointer (some ⟨g, 0, none⟩)) (.cptr [.cmap es]) := by
 obtain ⟨bm, hcs, hr⟩ := cmap_of ht hd rfl cv fun n en y h => rd_of hk (hvv n) en y h
 rw [← hes] at hr
 have hc : W.cell? ⟨g, 0, none⟩ = some (.map (some bm)) := by
  rw [World.var?_cell hg hv 0, ← Array.getElem?_toList, hcs]; rfl
 refine .cptr (fun _ => .map (some bm)) rfl (fun j hj => ?_) (fun j x hx => ?_)
 ·have : j = 0 := by simpa using hj
  subst this
  exact ⟨by simpa using hc, F0_no _ _, rfl⟩
 ·cases j with
  | zero => simp at hx; subst hx; exact hr
  | succ j => simp at hx
set_option maxHeartbeats 1000000 in
theorem of_laid {W : World} (h : laidMetH Tryz.prog lv W) : LaidAt W := by
 rw [MakeChecks.laidMetH_plain _ _ _ (by kernel_rfl)] at h
 obtain ⟨ps, ⟨a3, t3, cs3, f3, p3, q3, hg3, ht3, hv3, hd3, ⟨a1, t1, cs1, f1, p1, q1, hg1, ht1, hv1, hd1, ⟨a2, t2, cs2, f2, p2, q2, hg2, ht2, hv2, hd2, ⟨a0, t0, cs0, f0, p0, q0, hg0, ht0, hv0, hd0, _, _⟩, _⟩, _⟩, _⟩, _, _⟩ := h
 obtain rfl := Option.some.inj (g3.symm.trans hg3)
 obtain rfl := Option.some.inj (g1.symm.trans hg1)
 obtain rfl := Option.some.inj (g2.symm.trans hg2)
 obtain rfl := Option.some.inj (g0.symm.trans hg0)
 obtain rfl := Option.some.inj (ty3.symm.trans ht3)
 obtain rfl := Option.some.inj (ty1.symm.trans ht1)
 obtain rfl := Option.some.inj (ty2.symm.trans ht2)
 obtain rfl := Option.some.inj (ty0.symm.trans ht0)
 intro g x hgx
 have hgx' : gtab g = some x := hgx
 match g with
 | 0 =>
  obtain rfl : gv_shp = x := Option.some.inj hgx'
  exact one_map hg0 hv0 Tryz.underlying169 hd0 (fun v l h => key_int Tryz.underlying3 h) (fun n v z h => val_shape h) (by rfl)
 | 1 =>
  obtain rfl : gv_ari = x := Option.some.inj hgx'
  exact one_map hg1 hv1 Tryz.underlying172 hd1 (fun v l h => key_str Tryz.underlying9 h) (fun n v z h => val_int Tryz.underlying3 h) (by rfl)
 | 2 =>
  obtain rfl : gv_pur = x := Option.some.inj hgx'
  exact one_map hg2 hv2 Tryz.underlying88 hd2 (fun v l h => key_str Tryz.underlying9 h) (fun n v z h => val_bool Tryz.underlying4 h) (by rfl)
 | 3 =>
  obtain rfl : gv_rar = x := Option.some.inj hgx'
  obtain ⟨xs, m1, rfl, hx1, hlen, hn3, hel⟩ := DataW.trod_array Tryz.underlying223 hd3
  have hd : (Rows.laid_damask_damaskref15_arities : DataW Unit) = .agg (nums.map fun n => .lit (.int .i64 n)) := rfl
  have hxs : nums.map (fun n => (DataW.lit (.int .i64 n) : DataW Unit)) = xs.map (·.1) := by
   have := (Prod.mk.inj hx1).1
   rw [hd] at this
   exact DataW.agg.inj this
  have hnl : nums.length = 27 := rfl
  have hcell : ∀ j, j < 27 → W.cell? ⟨3, j, none⟩ = some (.int .i64 (nums.getD j 0)) := by
   intro j hj
   have h1 := hel j hj
   rw [cells3, Nat.mul_one] at h1
   obtain ⟨y, hy⟩ : ∃ y, xs[j]? = some y := ⟨_, List.getElem?_eq_getElem (by omega)⟩
   rw [hy] at h1
   obtain ⟨m, e1, e2, _⟩ := DataW.trod_int Tryz.underlying3 h1
   have h2 : (xs.map (·.1))[j]? = some y.1 := by rw [List.getElem?_map, hy]; rfl
   rw [← hxs, List.getElem?_map, List.getElem?_eq_getElem (by omega), e2] at h2
   have hm : nums[j]'(by omega) = m := by simpa using h2
   have h3 : cs3.toList[j]? = some (.int .i64 m) := by
    have : ((cs3.toList.drop j).take 1)[0]? = some (.int .i64 m) := by rw [e1]; rfl
    simpa using this
   rw [World.var?_cell hg3 hv3 j, ← Array.getElem?_toList, h3]
   simp [hnl, hj, hm]
  have hgv : gv_rar = .cptr (nums.map (AV.int .i64)) := rfl
  rw [hgv]
  refine .cptr (fun j => .int .i64 (nums.getD j 0)) rfl (fun j hj => ?_) (fun j x hx => ?_)
  ·have hj' : j < 27 := by simpa [hnl] using hj
   exact ⟨by simpa using hcell j hj', F0_no _ _, rfl⟩
  ·rw [List.getElem?_map] at hx
   obtain ⟨m, hm, rfl⟩ := Option.map_eq_some_iff.1 hx
   have : nums.getD j 0 = m := by simp [hm]
   rw [this]
   exact .int _ _
 | n + 4 => cases hgx'
end Go.AL.Dm
namespace Go.Proofs
open Go.Shelf
def Tryz.l189_ren : Go.Shelf.Ren := ⟨fun | 189 => 50 | 125 => 90 | 257 => 89 | 128 => 138 | 129 => 139 | 294 => 129 | 295 => 130 | 296 => 131 | 297 => 132 | 298 => 133 | 299 => 134 | 216 => 135 | 300 => 136 | 301 => 137 | 328 => 169 | 329 => 170 | 330 => 171 | 331 => 172 | 332 => 173 | 215 => 174 | 343 => 185 | n => n, fun | 28 => 55 | 3 => 3 | 46 => 75 | 0 => 0 | 51 => 186 | 53 => 188 | 4 => 4 | 183 => 179 | 182 => 178 | 131 => 171 | 5 => 5 | 9 => 9 | 218 => 208 | 222 => 212 | 228 => 220 | 229 => 221 | n => n, fun  | n => n⟩
theorem Tryz.l189 : Lays.n189 Tryz.prog Tryz.l189_ren := {
 mixed := by kernel_rfl,
 f125 := Tryz.func90.trans (congrArg some (by kernel_rfl)),
 f128 := Tryz.func138.trans (congrArg some (by kernel_rfl)),
 f129 := Tryz.func139.trans (congrArg some (by kernel_rfl)),
 f189 := Tryz.func50.trans (congrArg some (by kernel_rfl)),
 f215 := Tryz.func174.trans (congrArg some (by kernel_rfl)),
 f216 := Tryz.func135.trans (congrArg some (by kernel_rfl)),
 f257 := Tryz.func89.trans (congrArg some (by kernel_rfl)),
 f294 := Tryz.func129.trans (congrArg some (by kernel_rfl)),
 f295 := Tryz.func130.trans (congrArg some (by kernel_rfl)),
 f296 := Tryz.func131.trans (congrArg some (by kernel_rfl)),
 f297 := Tryz.func132.trans (congrArg some (by kernel_rfl)),
 f298 := Tryz.func133.trans (congrArg some (by kernel_rfl)),
 f299 := Tryz.func134.trans (congrArg some (by kernel_rfl)),
 f300 := Tryz.func136.trans (congrArg some (by kernel_rfl)),
 f301 := Tryz.func137.trans (congrArg some (by kernel_rfl)),
 f328 := Tryz.func169.trans (congrArg some (by kernel_rfl)),
 f329 := Tryz.func170.trans (congrArg some (by kernel_rfl)),
 f330 := Tryz.func171.trans (congrArg some (by kernel_rfl)),
 f331 := Tryz.func172.trans (congrArg some (by kernel_rfl)),
 f332 := Tryz.func173.trans (congrArg some (by kernel_rfl)),
 f343 := Tryz.func185.trans (congrArg some (by kernel_rfl)),
 t0 := Tryz.underlying0,
 a0 := Tryz.isAgg0,
 z0 := Tryz.sizeOf0,
 v0 := Tryz.zeroValue0,
 t3 := Tryz.underlying3,
 a3 := Tryz.isAgg3,
 z3 := Tryz.sizeOf3,
 v3 := Tryz.zeroValue3,
 t4 := Tryz.underlying4,
 a4 := Tryz.isAgg4,
 z4 := Tryz.sizeOf4,
 v4 := Tryz.zeroValue4,
 t5 := Tryz.underlying5,
 a5 := Tryz.isAgg5,
 z5 := Tryz.sizeOf5,
 v5 := Tryz.zeroValue5,
 t9 := Tryz.underlying9,
 a9 := Tryz.isAgg9,
 z9 := Tryz.sizeOf9,
 v9 := Tryz.zeroValue9,
 t28 := Tryz.underlying55,
 a28 := Tryz.isAgg55,
 z28 := Tryz.sizeOf55,
 v28 := Tryz.zeroValue55,
 t46 := Tryz.underlying75,
 a46 := Tryz.isAgg75,
 z46 := Tryz.sizeOf75,
 v46 := Tryz.zeroValue75,
 t51 := Tryz.underlying186,
 a51 := Tryz.isAgg186,
 z51 := Tryz.sizeOf186,
 v51 := Tryz.zeroValue186,
 t53 := Tryz.underlying188,
 a53 := Tryz.isAgg188,
 z53 := Tryz.sizeOf188,
 v53 := Tryz.zeroValue188,
 t131 := Tryz.underlying171,
 a131 := Tryz.isAgg171,
 z131 := Tryz.sizeOf171,
 v131 := Tryz.zeroValue171,
 t182 := Tryz.underlying178,
 a182 := Tryz.isAgg178,
 z182 := Tryz.sizeOf178,
 v182 := Tryz.zeroValue178,
 t183 := Tryz.underlying179,
 a183 := Tryz.isAgg179,
 z183 := Tryz.sizeOf179,
 v183 := Tryz.zeroValue179,
 t218 := Tryz.underlying208,
 a218 := Tryz.isAgg208,
 z218 := Tryz.sizeOf208,
 v218 := Tryz.zeroValue208,
 t222 := Tryz.underlying212,
 a222 := Tryz.isAgg212,
 z222 := Tryz.sizeOf212,
 v222 := Tryz.zeroValue212,
 t228 := Tryz.underlying220,
 a228 := Tryz.isAgg220,
 z228 := Tryz.sizeOf220,
 v228 := Tryz.zeroValue220,
 t229 := Tryz.underlying221,
 a229 := Tryz.isAgg221,
 z229 := Tryz.sizeOf221,
 v229 := Tryz.zeroValue221 }
end Go.Proofs
namespace Go.AL.Dm
open Go Go.Proofs
theorem p50 (zs : List Int) (o : Nat) (s : St) (K : AV → St → Prop) (hlen : zs.length ≤ 1000000) (ho : s.m o = some (.box (ilist zs))) (hK : K (.tup []) (s.set o (.box (ilist (isort zs))))) : ACalls Tryz.prog 50 [.mref 1 o 0 zs.length] s K :=
 sort_sound Tryz.call50 (fun p cap w => Any.slices_Sort_int_none Tryz.l189 p cap w) (fun blk off cap zs w h1 h2 h3 => Any.slices_Sort_int Tryz.l189 blk off cap zs w h1 h2 h3) zs o (by omega) ho hK
def fvl (t : Pl) : List Int := isort (adds [] (fv t 0))
theorem mem_fvl {t : Pl} {k : Int} : k ∈ fvl t ↔ k ∈ fv t 0 := by
 rw [fvl, isort, List.mem_mergeSort, mem_adds]; simp
theorem fv_len (t : Pl) : ∀ u, ((fv t u).length : Int) ≤ sz t := by
 induction t using Pl.ind with
 | h t ih1 ih2 =>
  intro u
  have h0 := sz_pos t
  have hs := sz_eq t
  rw [fv_eq]
  split
  ·split
   ·simp; omega
   ·simp; omega
  ·have k1 : ∀ (l : List Pl) (u : Int), (∀ x ∈ l, ∀ u, ((fv x u).length : Int) ≤ sz x) → ((fvs l u).length : Int) ≤ szs l := by
    intro l u h
    induction l with
    | nil => simp [fvs, szs]
    | cons x l ih =>
     have := h x (by simp) u
     have := ih fun y hy => h y (by simp [hy])
     simp only [fvs, szs, List.length_append]; omega
   have k2 : ∀ (l : List (Hd × Pl)) (u : Int), (∀ x ∈ l, ∀ u, ((fv x.2 u).length : Int) ≤ sz x.2) → ((fva l u).length : Int) ≤ sza l := by
    intro l u h
    induction l with
    | nil => simp [fva, sza]
    | cons x l ih =>
     have h1 := h x (by simp) (u + bnd x.1)
     have := ih fun y hy => h y (by simp [hy])
     obtain ⟨a, b⟩ := x
     simp only [fva, sza, List.length_append] at *; omega
   have := k1 t.args (u + inn t) ih1
   have := k2 t.alts u ih2
   simp only [List.length_append]; omega
def I104 (s : St) (l : List Int) (o k : Nat) (it : Nat) (g : Env) (s1 : St) : Prop :=
 ∃ (seen : List Nat) (acc : List Int) (oa : Nat), k = l.length - seen.length ∧ seen.length = acc.length ∧ seen.Nodup ∧ (∀ j ∈ seen, j < l.length) ∧ acc = seen.map (fun j => l.getD j 0) ∧
  g.get 11 = .ptr it 0 ∧ g.get 4 = .mref 1 oa 0 acc.length ∧ s1.m oa = some (.box (ilist acc)) ∧ s.nx ≤ oa ∧ oa < s1.nx ∧ oa ≠ it ∧ oa ≠ o ∧
  s1.m it = some (.iter (some o) l.length seen l.length) ∧ s1.m o = some (obS l) ∧ Kept s s1 ∧ it < s1.nx ∧ o < s1.nx
theorem p104 (t : Pl) (hw : wf t = true) (hs : small t) (hr : rng t) : PureC Tryz.prog 104 [t.av] (.list 1 .none (ilist (fvl t))) := by
 refine PureC.intro fun s => freeze1 (fun_sound mixed Tryz.func104 Tryz.call104 c104 rfl (awpFun_go _ _ _ _ ?_))
 have hlen : (adds [] (fv t 0)).length ≤ 3000 := by
  have h1 := adds_len (fv t 0) []
  have h2 := fv_len t 0
  have h3 := hs.1
  simp only [List.length_nil] at h1
  omega
 have hnd : (adds [] (fv t 0)).Nodup := adds_nodup _ (by simp)
 have hfv : fvl t = isort (adds [] (fv t 0)) := rfl
 simp -implicitDefEqProofs (disch:=first|omega|simp only[nx4]<;>omega|fail) [a104, a104b, a104r0, a104r1, a104r2]
 refine go_calls (p144 t 0 [] (s.nx + 1) _ _ hw hs hr (by omega) (by have := hs.2; omega) (by simp -implicitDefEqProofs (disch:=first|omega|simp only[nx4]<;>omega|fail) [obS, imapF]) (by simp -implicitDefEqProofs (disch:=first|omega|simp only[nx4]<;>omega|fail)) fun m hm => go_of ?_)
 generalize adds [] (fv t 0) = l at hlen hnd hfv ⊢
 simp only [nx4] at hm
 simp -implicitDefEqProofs (disch:=first|omega|simp only[nx4]<;>omega|fail) [a104r3, a104r4, obS]
 refine go_loop (fun k g s1 => I104 s l (s.nx + 1) k (m + 1) g s1) l.length ⟨[], [], m, by simp, rfl, by simp, by simp, rfl, ?_, ?_, ?_, by omega, ?_, by omega, by omega, ?_, ?_, ?_, ?_, ?_⟩ ?_
 iterate 9 (simp -implicitDefEqProofs (disch:=first|omega|simp only[nx4]<;>omega|fail) [ilist, obS] <;> omega)
 rintro n g s1 ⟨seen, acc, oa, hn, hsl, hsn, hlt, hacc, h6, h3, hOA, hoa1, hoa2, hoa3, hoa4, hIT, hO, hk, hnx, hnx2⟩
 have hsle : seen.length ≤ l.length := nodup_le hsn hlt
 simp -implicitDefEqProofs (disch:=first|omega|simp only[nx4]<;>omega|fail) [a104l8, a104r5, h6, hIT, hO]
 rw [obS]
 refine nx_intro ?_ (fun hall => ?_) (fun e he hes => ?_)
 ·cases l with
  | nil => exact .inr (.inl rfl)
  | cons a r => exact .inr (.inr ⟨_, by rw [imapF]; exact List.mem_cons_self .., by simp⟩)
 ·have hp : acc.Perm l := by
   rw [hacc]
   refine perm_seen l seen hsn hlt fun j hj => ?_
   have := hall _ (in_imapF l 0 j hj) (by simpa using hj)
   simpa using this
  have hal : acc.length = l.length := hp.length_eq
  simp -implicitDefEqProofs (disch:=first|omega|simp only[nx4]<;>omega|fail) [a104r9, h3]
  refine go_calls (p50 acc oa _ _ (by omega) hOA (go_of ?_))
  simp -implicitDefEqProofs (disch:=first|omega|simp only[nx4]<;>omega|fail) [a104r10, h3]
  refine ⟨1, oa, acc.length, ⟨rfl, rfl, rfl⟩, ilist (isort acc), by rw [flat_il]; simp, ?_, ?_, ?_, ?_⟩
  ·intro x hx
   simp only [ilist, List.mem_map] at hx
   obtain ⟨y, _, rfl⟩ := hx
   rfl
  ·simp [isort_length]
  ·rw [hfv, isort_perm hp]
   simp
  ·simp -implicitDefEqProofs (disch:=first|omega|simp only[nx4]<;>omega|fail) [hk]
 ·obtain ⟨j, hj, rfl⟩ := mem_imapF l 0 e he
  have hj' : j ∉ seen := by simpa using hes
  have hf := find_imapF l 0 j hj
  simp only [Nat.zero_add] at hf ⊢
  simp -implicitDefEqProofs (disch:=first|omega|simp only[nx4]<;>omega|fail) [a104r6, h6, hO]
  rw [obS]
  refine en_intro (st := j) (by simp) rfl hf ?_
  simp -implicitDefEqProofs (disch:=first|omega|simp only[nx4]<;>omega|fail) [a104r7, h3, hOA]
  have hsn' : (seen ++ [j]).Nodup := by
   rw [List.nodup_append]
   refine ⟨hsn, by simp, fun a ha b hb => ?_⟩
   simp at hb; subst hb
   exact fun e => hj' (e ▸ ha)
  have hlt' : ∀ k ∈ seen ++ [j], k < l.length := by
   intro k hk
   rcases List.mem_append.1 hk with h | h
   ·exact hlt k h
   ·simp at h; subst h; exact hj
  have hle' := nodup_le hsn' hlt'
  simp only [List.length_append, List.length_singleton] at hle'
  have hgd : l[j] = l.getD j 0 := by simp [hj]
  refine go_next (l.length - (seen.length + 1)) (by omega) ⟨seen ++ [j], acc ++ [l[j]], s1.nx, by simp, by simp [hsl], hsn', hlt', by rw [List.map_append, ← hacc, hgd]; rfl, ?_, ?_, ?_, ?_, ?_, ?_, ?_, ?_, ?_, ?_, ?_, ?_⟩
  all_goals (try simp -implicitDefEqProofs (disch:=first|omega|simp only[nx4]<;>omega|fail) [h6, ilist, hO, hk])
  all_goals omega
end Go.AL.Dm
namespace Go.AL.Dm
open Go Go.Proofs
mutual
def pre : Pl → List Pl
 | .mk op n s args alts => .mk op n s args alts :: (pres args ++ prea alts)
def pres : List Pl → List Pl
 | [] => []
 | t :: ts => pre t ++ pres ts
def prea : List (Hd × Pl) → List Pl
 | [] => []
 | (_, t) :: ts => pre t ++ prea ts
end
def prep : List (Int × Pl) → List Pl
 | [] => []
 | (_, x) :: r => pre x ++ prep r
theorem prep_append : ∀ (l r : List (Int × Pl)), prep (l ++ r) = prep l ++ prep r
 | [], r => rfl
 | (n, x) :: l, r => by simp [prep, prep_append l r]
theorem pre_parts (t : Pl) : pre t = t :: prep (parts t) := by
 have h1 : ∀ (l : List Pl) (n : Int), pres l = prep (l.map fun x => (n, x)) := by
  intro l n
  induction l with
  | nil => rfl
  | cons x l ih => simp [pres, prep, ih]
 have h2 : ∀ l : List (Hd × Pl), prea l = prep (l.map fun a => (bnd a.1, a.2)) := by
  intro l
  induction l with
  | nil => rfl
  | cons x l ih => obtain ⟨a, b⟩ := x; simp [prea, prep, ih]
 rw [parts, prep_append, ← h1, ← h2]
 cases t; rw [pre]; rfl
theorem prep_take {l : List (Int × Pl)} {i : Nat} (h : i < l.length) : prep (l.take (i + 1)) = prep (l.take i) ++ pre l[i].2 := by
 rw [List.take_succ_eq_append_getElem h, prep_append]
 simp [prep]
theorem mem_prep {l : List (Int × Pl)} {p : Int × Pl} (hp : p ∈ l) {e : Pl} (he : e ∈ pre p.2) : e ∈ prep l := by
 induction l with
 | nil => simp at hp
 | cons x l ih =>
  obtain ⟨n, x⟩ := x
  rcases List.mem_cons.1 hp with rfl | hp
  ·simp [prep, he]
  ·simp [prep, ih hp]
def Ext (F F' : Nat → Prop) (s s' : St) : Prop := (∀ q, F' q → F q ∨ s.nx ≤ q) ∧ ∀ q, q < s.nx → ¬ F q → s'.m q = s.m q
def OkL {σ : Type} (f : σ → Pl → σ) (ok : σ → Pl → Prop) : σ → List Pl → Prop
 | _, [] => True
 | x, e :: l => ok x e ∧ OkL f ok (f x e) l
theorem okL_append {σ : Type} {f : σ → Pl → σ} {ok : σ → Pl → Prop} : ∀ {a b : List Pl} {x : σ}, OkL f ok x (a ++ b) ↔ OkL f ok x a ∧ OkL f ok (a.foldl f x) b
 | [], b, x => by simp [OkL]
 | e :: a, b, x => by simp [OkL, okL_append (a := a), and_assoc]
theorem okL_part {σ : Type} {f : σ → Pl → σ} {ok : σ → Pl → Prop} {x : σ} {l : List (Int × Pl)} (h : OkL f ok x (prep l)) {i : Nat} (hi : i < l.length) : OkL f ok ((prep (l.take i)).foldl f x) (pre l[i].2) := by
 rw [← List.take_append_drop (i + 1) l, prep_append, prep_take hi, okL_append, okL_append] at h
 exact h.1.2
structure Vis {σ : Type} (f : σ → Pl → σ) (ok : σ → Pl → Prop) (J : σ → (Nat → Prop) → St → Prop) (o : Nat) : Prop where
 st : ∀ x F s s', J x F s → (∀ q, F q → s'.m q = s.m q) → s.nx ≤ s'.nx → J x F s'
 bd : ∀ x F s, J x F s → ∀ q, F q → q < s.nx
 Y : ∀ x F e s1, ok x e → J x F s1 → AYields Tryz.prog o [e.av] s1 fun r s' => r = .bool true ∧ ∃ F', J (f x e) F' s' ∧ Ext F F' s1 s'
def J119 {σ : Type} (f : σ → Pl → σ) (J : σ → (Nat → Prop) → St → Prop) (x : σ) (t : Pl) (F1 : Nat → Prop) (lo : Nat) (E : Env) (ca cb : Code) (s2 : St) (i : Nat) (s' : St) : Prop :=
 s'.m lo = some (.loop 0 none E [13, 14] 19 ca cb) ∧ lo < s'.nx ∧ ∃ F', J ((prep ((parts t).take i)).foldl f (f x t)) F' s' ∧ (∀ q, F' q → F1 q ∨ lo < q) ∧ ∀ q, q < lo → ¬ F1 q → s'.m q = s2.m q
def C119 (t : Pl) : Prop := ∀ (σ : Type) (f : σ → Pl → σ) (ok : σ → Pl → Prop) (J : σ → (Nat → Prop) → St → Prop) (o : Nat) (_ : Vis f ok J o) (x : σ) (F : Nat → Prop) (s : St), wf t = true → small t → OkL f ok x (pre t) → J x F s →
 ACalls Tryz.prog 119 [t.av, .yld o] s fun r s' => r = .bool true ∧ ∃ F', J ((pre t).foldl f x) F' s' ∧ Ext F F' s s'
theorem p119 (t : Pl) : C119 t := by
 induction t using parts_ind with
 | h t ih =>
 intro σ f ok J o V x F s hw hsm hok hJ
 refine fun_sound mixed Tryz.func119 Tryz.call119 c119 rfl (awpFun_go _ _ _ _ ?_)
 obtain ⟨hnd, hwa, hwb⟩ := wf_nd hw
 have hFb := V.bd _ _ _ hJ
 rw [pre_parts] at hok
 obtain ⟨hokt, hok⟩ := hok
 simp -implicitDefEqProofs (disch:=first|omega|simp only[nx4]<;>omega|fail) [a119, a119b, a119r0, a119r1]
 refine go_yields (AYields.mono (V.Y x F t _ hokt (V.st _ _ s _ hJ (fun q hq => by have := hFb q hq; simp -implicitDefEqProofs (disch:=first|omega|simp only[nx4]<;>omega|fail)) (by simp -implicitDefEqProofs (disch:=first|omega|simp only[nx4]<;>omega|fail); omega))) fun r s1 hn1 h => go_of ?_)
 obtain ⟨rfl, F1, hJ1, hE1, hE2⟩ := h
 have hF1 := V.bd _ _ _ hJ1
 have b0 := hE2 s.nx (by simp only [St.new_nx]; omega) (fun h => by have := hFb _ h; omega)
 have b1 := hE2 (s.nx + 1) (by simp only [St.new_nx]; omega) (fun h => by have := hFb _ h; omega)
 have b2 := hE2 (s.nx + 1 + 1) (by simp only [St.new_nx]; omega) (fun h => by have := hFb _ h; omega)
 simp -implicitDefEqProofs (disch:=first|omega|simp only[nx4]<;>omega|fail) at b0 b1 b2 hn1
 have hE1' : ∀ q, F1 q → F q ∨ s.nx + 1 + 1 + 1 ≤ q := fun q hq => by have := hE1 q hq; simp -implicitDefEqProofs (disch:=first|omega|simp only[nx4]<;>omega|fail) at this; exact this
 simp -implicitDefEqProofs (disch:=first|omega|simp only[nx4]<;>omega|fail) [a119r3, b0, b1, b2]
 refine go_pure (p103 t) fun mm1 hm1 => ?_
 try simp only [nx4] at hm1
 simp -implicitDefEqProofs (disch:=first|omega|simp only[nx4]<;>omega|fail)
 refine go_range rfl fun ca cb hY => ?_
 simp -implicitDefEqProofs (disch:=first|omega|simp only[nx4]<;>omega|fail) at hY ⊢
 have hpl : (parts t).length ≤ 100 := by
  rw [parts_len]
  have := hnd.len
  by_cases o8 : t.op = 8
  ·have := hnd.cas o8; omega
  ·rw [hnd.noalts o8]; simp; omega
 have hpl2 := hpl
 rw [parts_len] at hpl2
 rw [← Pl.av_cells t]
 generalize hE : [(3, AV.ptr (s.nx + 1) 0), (4, AV.ptr (s.nx + 1 + 1) 0), (6, AV.any), (14, AV.any), (18, AV.any)] = E at hY ⊢
 have hm : ∀ (k : Nat), k < 3 → s.nx + k < mm1 ∧ ¬ F1 (s.nx + k) := fun k hk => ⟨by omega, fun h => (hE1' _ h).elim (fun h => by have := hFb _ h; omega) (fun h => by omega)⟩
 have m1 := hm 1 (by omega)
 have m2 := hm 2 (by omega)
 have hmL : ¬ F1 mm1 := fun h => by have := hF1 _ h; omega
 refine ACalls.mono (p143 t (by omega) (by omega) (fun a ha h2 => by have := hnd.hd a ha h2; omega) mm1 (J119 f J x t F1 mm1 E ca cb s1) (fun _ => False) ?_ ?_ _ ?_) fun _ s' hn' hJ => ?_
 ·rintro i s1 s2 ⟨j1, j2, F', j3, j4, j5⟩ h1 h2
  have hb := V.bd _ _ _ j3
  exact ⟨(h1 _ j2).trans j1, by omega, F', V.st _ _ _ _ j3 (fun q hq => h1 q (hb q hq)) h2, j4, fun q hq hq2 => (h1 q (by omega)).trans (j5 q hq hq2)⟩
 ·rintro i hi s3 ⟨j1, j2, F', j3, j4, j5⟩
  have hp := parts_wf hw hsm (List.getElem_mem hi)
  have ihp := ih _ (List.getElem_mem hi)
  have hokp := okL_part hok hi
  have htk := prep_take hi
  generalize hx : (parts t)[i] = p at hp ihp hokp htk ⊢
  obtain ⟨q1, q2, q3, q4, q5, q6⟩ := hp
  have hb := V.bd _ _ _ j3
  have c1 := (j5 _ m1.1 m1.2).trans b1
  have c2 := (j5 _ m2.1 m2.2).trans b2
  have hLF : ¬ F' mm1 := fun h => (j4 _ h).elim hmL (fun h => by omega)
  refine rnd_go hY j1 rfl ?_
  subst hE
  simp -implicitDefEqProofs (disch:=first|omega|simp only[nx4]<;>omega|fail) [a119x7, a119r4, a119y7, a119r5, j1, c1, c2]
  have hJ' := V.st _ F' s3 ((s3.new (AObj.box [AV.int IntKind.i64 0, AV.int IntKind.i64 0, AV.str { data := #[] }, AV.list 0 Tok.full [], AV.list 0 Tok.full []])).set s3.nx (.box p.2.av.cells) |>.set mm1 (AObj.loop 1 none [(3, AV.ptr (s.nx + 1) 0), (4, AV.ptr (s.nx + 1 + 1) 0), (6, AV.any), (14, AV.any), (18, AV.any)] [13, 14] 19 ca cb)) j3 (fun q hq => by
   have h1 := hb q hq
   have h2 : q ≠ mm1 := fun e => hLF (e ▸ hq)
   simp -implicitDefEqProofs (disch:=first|omega|simp only[nx4]<;>omega|fail) [h2]) (by simp -implicitDefEqProofs (disch:=first|omega|simp only[nx4]<;>omega|fail))
  simp only [Pl.av_cells] at hJ'
  refine go_calls (ACalls.mono (ihp σ f ok J o V _ F' _ q1 q2 hokp hJ') fun r s4 hn4 h => go_of ?_)
  obtain ⟨rfl, F2, k1, k2, k3⟩ := h
  have hL := k3 mm1 (by simp -implicitDefEqProofs (disch:=first|omega|simp only[nx4]<;>omega|fail); omega) hLF
  simp -implicitDefEqProofs (disch:=first|omega|simp only[nx4]<;>omega|fail) at hL hn4 k2
  simp -implicitDefEqProofs (disch:=first|omega|simp only[nx4]<;>omega|fail) [hL]
  have hF2 : ∀ q, F2 q → F' q ∨ mm1 < q := fun q hq => (k2 q hq).imp id (fun h => by omega)
  have hF2L : ¬ F2 mm1 := fun h => (hF2 _ h).elim hLF (fun h => by omega)
  refine ⟨by simp -implicitDefEqProofs (disch:=first|omega|simp only[nx4]<;>omega|fail), by simp -implicitDefEqProofs (disch:=first|omega|simp only[nx4]<;>omega|fail); omega, F2, ?_, ?_, ?_⟩
  ·rw [htk, List.foldl_append]
   exact V.st _ _ s4 _ k1 (fun q hq => by have h2 : q ≠ mm1 := fun e => hF2L (e ▸ hq); simp -implicitDefEqProofs (disch:=first|omega|simp only[nx4]<;>omega|fail) [h2]) (by simp -implicitDefEqProofs (disch:=first|omega|simp only[nx4]<;>omega|fail))
  ·exact fun q hq => (hF2 q hq).elim (j4 q) .inr
  ·intro q hq hq2
   have hnF : ¬ F' q := fun h => (j4 _ h).elim hq2 (fun h => by omega)
   have h3 := k3 q (by simp -implicitDefEqProofs (disch:=first|omega|simp only[nx4]<;>omega|fail); omega) hnF
   simp -implicitDefEqProofs (disch:=first|omega|simp only[nx4]<;>omega|fail) at h3
   simp -implicitDefEqProofs (disch:=first|omega|simp only[nx4]<;>omega|fail) [h3, j5 q hq hq2]
 ·refine ⟨?_, ?_, F1, ?_, fun q hq => .inl hq, ?_⟩
  ·simp -implicitDefEqProofs (disch:=first|omega|simp only[nx4]<;>omega|fail)
  ·simp -implicitDefEqProofs (disch:=first|omega|simp only[nx4]<;>omega|fail)
  ·simp only [List.take_zero, prep, List.foldl_nil]
   exact V.st _ _ s1 _ hJ1 (fun q hq => by have := hF1 q hq; simp -implicitDefEqProofs (disch:=first|omega|simp only[nx4]<;>omega|fail)) (by simp -implicitDefEqProofs (disch:=first|omega|simp only[nx4]<;>omega|fail); omega)
  ·intro q hq _
   simp -implicitDefEqProofs (disch:=first|omega|simp only[nx4]<;>omega|fail)
 ·rcases hJ with ⟨j1, j2, F', j3, j4, j5⟩ | h
  ·refine rangeR_end j1 (by omega) ?_
   have c2 := (j5 _ m2.1 m2.2).trans b2
   have hLF : ¬ F' mm1 := fun h => (j4 _ h).elim hmL (fun h => by omega)
   have h2F : ¬ F' (s.nx + 1 + 1) := fun h => (j4 _ h).elim m2.2 (fun h => by omega)
   simp -implicitDefEqProofs (disch:=first|omega|simp only[nx4]<;>omega|fail) [a119r8, c2]
   refine ⟨F', ?_, fun q hq => ?_, fun q hq hq2 => ?_⟩
   ·rw [pre_parts, List.foldl_cons]
    rw [List.take_length] at j3
    exact V.st _ _ s' _ j3 (fun q hq => by
     have h1 : q ≠ mm1 := fun e => hLF (e ▸ hq)
     have h2 : q ≠ s.nx + 1 + 1 := fun e => h2F (e ▸ hq)
     simp -implicitDefEqProofs (disch:=first|omega|simp only[nx4]<;>omega|fail) [h1, h2]) (by simp -implicitDefEqProofs (disch:=first|omega|simp only[nx4]<;>omega|fail))
   ·rcases j4 q hq with h | h
    ·exact (hE1' q h).imp id (fun h => by omega)
    ·exact .inr (by omega)
   ·have h1 : ¬ F1 q := fun h => (hE1' q h).elim hq2 (fun h => by omega)
    have h3 := hE2 q (by simp only [St.new_nx]; omega) hq2
    simp -implicitDefEqProofs (disch:=first|omega|simp only[nx4]<;>omega|fail) at h3
    simp -implicitDefEqProofs (disch:=first|omega|simp only[nx4]<;>omega|fail) [j5 q (by omega) h1, h3]
  ·exact h.elim
end Go.AL.Dm
namespace Go.Proofs
open Go.Shelf
def Tryz.l190_ren : Go.Shelf.Ren := ⟨fun | 190 => 85 | 125 => 90 | 258 => 120 | 128 => 138 | 129 => 139 | 302 => 155 | 303 => 156 | 304 => 157 | 305 => 158 | 306 => 159 | 307 => 160 | 308 => 161 | 309 => 162 | 310 => 163 | 333 => 181 | 329 => 170 | 330 => 171 | 334 => 182 | 335 => 183 | 336 => 184 | 344 => 187 | n => n, fun | 31 => 65 | 9 => 9 | 3 => 3 | 46 => 75 | 0 => 0 | 51 => 186 | 53 => 188 | 4 => 4 | 183 => 179 | 182 => 178 | 131 => 171 | 5 => 5 | 218 => 208 | 222 => 212 | 228 => 220 | 229 => 221 | n => n, fun  | n => n⟩
theorem Tryz.l190 : Lays.n190 Tryz.prog Tryz.l190_ren := {
 mixed := by kernel_rfl,
 f125 := Tryz.func90.trans (congrArg some (by kernel_rfl)),
 f128 := Tryz.func138.trans (congrArg some (by kernel_rfl)),
 f129 := Tryz.func139.trans (congrArg some (by kernel_rfl)),
 f190 := Tryz.func85.trans (congrArg some (by kernel_rfl)),
 f258 := Tryz.func120.trans (congrArg some (by kernel_rfl)),
 f302 := Tryz.func155.trans (congrArg some (by kernel_rfl)),
 f303 := Tryz.func156.trans (congrArg some (by kernel_rfl)),
 f304 := Tryz.func157.trans (congrArg some (by kernel_rfl)),
 f305 := Tryz.func158.trans (congrArg some (by kernel_rfl)),
 f306 := Tryz.func159.trans (congrArg some (by kernel_rfl)),
 f307 := Tryz.func160.trans (congrArg some (by kernel_rfl)),
 f308 := Tryz.func161.trans (congrArg some (by kernel_rfl)),
 f309 := Tryz.func162.trans (congrArg some (by kernel_rfl)),
 f310 := Tryz.func163.trans (congrArg some (by kernel_rfl)),
 f329 := Tryz.func170.trans (congrArg some (by kernel_rfl)),
 f330 := Tryz.func171.trans (congrArg some (by kernel_rfl)),
 f333 := Tryz.func181.trans (congrArg some (by kernel_rfl)),
 f334 := Tryz.func182.trans (congrArg some (by kernel_rfl)),
 f335 := Tryz.func183.trans (congrArg some (by kernel_rfl)),
 f336 := Tryz.func184.trans (congrArg some (by kernel_rfl)),
 f344 := Tryz.func187.trans (congrArg some (by kernel_rfl)),
 t0 := Tryz.underlying0,
 a0 := Tryz.isAgg0,
 z0 := Tryz.sizeOf0,
 v0 := Tryz.zeroValue0,
 t3 := Tryz.underlying3,
 a3 := Tryz.isAgg3,
 z3 := Tryz.sizeOf3,
 v3 := Tryz.zeroValue3,
 t4 := Tryz.underlying4,
 a4 := Tryz.isAgg4,
 z4 := Tryz.sizeOf4,
 v4 := Tryz.zeroValue4,
 t5 := Tryz.underlying5,
 a5 := Tryz.isAgg5,
 z5 := Tryz.sizeOf5,
 v5 := Tryz.zeroValue5,
 t9 := Tryz.underlying9,
 a9 := Tryz.isAgg9,
 z9 := Tryz.sizeOf9,
 v9 := Tryz.zeroValue9,
 t31 := Tryz.underlying65,
 a31 := Tryz.isAgg65,
 z31 := Tryz.sizeOf65,
 v31 := Tryz.zeroValue65,
 t46 := Tryz.underlying75,
 a46 := Tryz.isAgg75,
 z46 := Tryz.sizeOf75,
 v46 := Tryz.zeroValue75,
 t51 := Tryz.underlying186,
 a51 := Tryz.isAgg186,
 z51 := Tryz.sizeOf186,
 v51 := Tryz.zeroValue186,
 t53 := Tryz.underlying188,
 a53 := Tryz.isAgg188,
 z53 := Tryz.sizeOf188,
 v53 := Tryz.zeroValue188,
 t131 := Tryz.underlying171,
 a131 := Tryz.isAgg171,
 z131 := Tryz.sizeOf171,
 v131 := Tryz.zeroValue171,
 t182 := Tryz.underlying178,
 a182 := Tryz.isAgg178,
 z182 := Tryz.sizeOf178,
 v182 := Tryz.zeroValue178,
 t183 := Tryz.underlying179,
 a183 := Tryz.isAgg179,
 z183 := Tryz.sizeOf179,
 v183 := Tryz.zeroValue179,
 t218 := Tryz.underlying208,
 a218 := Tryz.isAgg208,
 z218 := Tryz.sizeOf208,
 v218 := Tryz.zeroValue208,
 t222 := Tryz.underlying212,
 a222 := Tryz.isAgg212,
 z222 := Tryz.sizeOf212,
 v222 := Tryz.zeroValue212,
 t228 := Tryz.underlying220,
 a228 := Tryz.isAgg220,
 z228 := Tryz.sizeOf220,
 v228 := Tryz.zeroValue220,
 t229 := Tryz.underlying221,
 a229 := Tryz.isAgg221,
 z229 := Tryz.sizeOf221,
 v229 := Tryz.zeroValue221 }
end Go.Proofs
namespace Go.Proofs
open Go.Shelf
def Tryz.l194_ren : Go.Shelf.Ren := ⟨fun | 194 => 86 | n => n, fun | 31 => 65 | 9 => 9 | 3 => 3 | 4 => 4 | 0 => 0 | n => n, fun  | n => n⟩
theorem Tryz.l194 : Lays.n194 Tryz.prog Tryz.l194_ren := {
 mixed := by kernel_rfl,
 f194 := Tryz.func86.trans (congrArg some (by kernel_rfl)),
 t0 := Tryz.underlying0,
 a0 := Tryz.isAgg0,
 z0 := Tryz.sizeOf0,
 v0 := Tryz.zeroValue0,
 t3 := Tryz.underlying3,
 a3 := Tryz.isAgg3,
 z3 := Tryz.sizeOf3,
 v3 := Tryz.zeroValue3,
 t4 := Tryz.underlying4,
 a4 := Tryz.isAgg4,
 z4 := Tryz.sizeOf4,
 v4 := Tryz.zeroValue4,
 t9 := Tryz.underlying9,
 a9 := Tryz.isAgg9,
 z9 := Tryz.sizeOf9,
 v9 := Tryz.zeroValue9,
 t31 := Tryz.underlying65,
 a31 := Tryz.isAgg65,
 z31 := Tryz.sizeOf65,
 v31 := Tryz.zeroValue65 }
end Go.Proofs
namespace Go.AL.Dm
open Go Go.Proofs
theorem p118 (t : Pl) {σ : Type} (f : σ → Pl → σ) (ok : σ → Pl → Prop) (J : σ → (Nat → Prop) → St → Prop) (o : Nat) (V : Vis f ok J o) (x : σ) (F : Nat → Prop) (s : St) (hw : wf t = true) (hs : small t) (hok : OkL f ok x (pre t)) (hJ : J x F s) :
  ACalls Tryz.prog 118 [.yld o, .cptr t.av.cells] s fun r s' => ∃ F', J ((pre t).foldl f x) F' s' ∧ Ext F F' s s' := by
 refine fun_sound mixed Tryz.func118 Tryz.call118 c118 rfl (awpFun_go _ _ _ _ ?_)
 simp -implicitDefEqProofs (disch:=first|omega|simp only[nx4]<;>omega|fail) [a118, a118b, a118r0]
 refine go_calls (ACalls.mono (p119 t σ f ok J o V x F _ hw hs hok hJ) fun r s' hn h => go_of ?_)
 simp -implicitDefEqProofs (disch:=first|omega|simp only[nx4]<;>omega|fail)
 exact h.2
theorem p84 (t : Pl) : PureC Tryz.prog 84 [t.av] (.fn 118 [] [.cptr t.av.cells]) := by
 refine PureC.intro fun s => fun_sound mixed Tryz.func84 Tryz.call84 c84 rfl (awpFun_go _ _ _ _ ?_)
 simp -implicitDefEqProofs (disch:=first|omega|simp only[nx4]<;>omega|fail) [a84, a84b, a84r0, a84r1]
theorem p85 (zs : List (List UInt8)) (o : Nat) (s : St) (K : AV → St → Prop) (hlen : zs.length ≤ 1000000) (ho : s.m o = some (.box (slist zs))) (hK : K (.tup []) (s.set o (.box (slist (bsort zs))))) : ACalls Tryz.prog 85 [.mref 1 o 0 zs.length] s K :=
 ssort_sound Tryz.call85 (fun p cap w => Any.slices_Sort_string_none Tryz.l190 p cap w) (fun blk off cap zs w h1 h2 h3 => Any.slices_Sort_string Tryz.l190 blk off cap zs w h1 h2 h3) zs o (by omega) ho hK
theorem p86 (zs : List (List UInt8)) (o : Nat) (s : St) (K : AV → St → Prop) (hlen : zs.length ≤ 1000000) (ho : s.m o = some (.box (slist zs))) (hK : K (.mref 1 o 0 (Lib.compact zs).length) (s.set o (.box (slist (Lib.compact zs))))) : ACalls Tryz.prog 86 [.mref 1 o 0 zs.length] s K :=
 scompact_sound Tryz.call86 (fun p cap w => Any.slices_Compact_string_empty Tryz.l194 p cap w) (fun blk off cap zs w h1 h2 h3 => Any.slices_Compact_string Tryz.l194 blk off cap zs w h1 h2 h3) zs o (by omega) ho hK
@[simp] theorem cells_mref (a b c d : Nat) : (AV.mref a b c d).cells = [.mref a b c d] := rfl
@[simp] theorem isVal_mref (a b c d : Nat) : (AV.mref a b c d).isVal = true := rfl
@[simp] theorem slist_length (l : List (List UInt8)) : (slist l).length = l.length := by simp [slist]
theorem flat_sl (l : List (List UInt8)) : flat (slist l) = slist l := by
 induction l with
 | nil => rfl
 | cons a r ih => simp [slist] at ih ⊢; exact ih
theorem slist_snoc (l : List (List UInt8)) (s : ByteArray) : slist l ++ [AV.str s] = slist (l ++ [s.data.toList]) := by
 obtain ⟨d⟩ := s
 simp [slist]
theorem gadd_yes {l : List (List UInt8)} {e : Pl} (h : e.op = 2) : l ++ [e.s.data.toList] = (if e.op = 2 then l ++ [e.s.data.toList] else l) := by rw [if_pos h]
def gadd (l : List (List UInt8)) (e : Pl) : List (List UInt8) := if e.op = 2 then l ++ [e.s.data.toList] else l
def gnm (t : Pl) : List (List UInt8) := (pre t).foldl gadd []
def gls (t : Pl) : List (List UInt8) := Lib.compact (bsort (gnm t))
theorem gadd_mem : ∀ (l : List Pl) (a : List (List UInt8)) (x : List UInt8), x ∈ l.foldl gadd a ↔ x ∈ a ∨ ∃ e ∈ l, e.op = 2 ∧ e.s.data.toList = x
 | [], a, x => by simp
 | e :: l, a, x => by
  rw [List.foldl_cons, gadd_mem l]
  unfold gadd
  by_cases h : e.op = 2
  ·rw [if_pos h]
   simp only [List.mem_append, List.mem_cons, List.not_mem_nil, or_false, or_assoc]
   constructor
   ·rintro (h1 | h1 | ⟨y, h1, h2⟩)
    ·exact .inl h1
    ·exact .inr ⟨e, .inl rfl, h, h1.symm⟩
    ·exact .inr ⟨y, .inr h1, h2⟩
   ·rintro (h1 | ⟨y, rfl | h1, h2⟩)
    ·exact .inl h1
    ·exact .inr (.inl h2.2.symm)
    ·exact .inr (.inr ⟨y, h1, h2⟩)
  ·rw [if_neg h]
   constructor
   ·rintro (h1 | ⟨y, h1, h2⟩)
    ·exact .inl h1
    ·exact .inr ⟨y, List.mem_cons_of_mem _ h1, h2⟩
   ·rintro (h1 | ⟨y, h1, h2⟩)
    ·exact .inl h1
    ·rcases List.mem_cons.1 h1 with rfl | h1
     ·exact absurd h2.1 h
     ·exact .inr ⟨y, h1, h2⟩
theorem gadd_len : ∀ (l : List Pl) (a : List (List UInt8)), (l.foldl gadd a).length ≤ a.length + l.length
 | [], a => by simp
 | e :: l, a => by
  have := gadd_len l (gadd a e)
  have h2 : (gadd a e).length ≤ a.length + 1 := by unfold gadd; split <;> simp
  simp only [List.foldl_cons, List.length_cons]; omega
theorem mem_gls {t : Pl} {x : List UInt8} : x ∈ gls t ↔ ∃ e ∈ pre t, e.op = 2 ∧ e.s.data.toList = x := by
 rw [gls, mem_compact, bsort, List.mem_mergeSort, gnm, gadd_mem]
 simp
theorem pre_len (t : Pl) : ((pre t).length : Int) ≤ sz t := by
 induction t using Pl.ind with
 | h t ih1 ih2 =>
  have hs := sz_eq t
  have k1 : ∀ (l : List Pl), (∀ x ∈ l, ((pre x).length : Int) ≤ sz x) → ((pres l).length : Int) ≤ szs l := by
   intro l h
   induction l with
   | nil => simp [pres, szs]
   | cons x l ih =>
    have := h x (by simp)
    have := ih fun y hy => h y (by simp [hy])
    simp only [pres, szs, List.length_append]; omega
  have k2 : ∀ (l : List (Hd × Pl)), (∀ x ∈ l, ((pre x.2).length : Int) ≤ sz x.2) → ((prea l).length : Int) ≤ sza l := by
   intro l h
   induction l with
   | nil => simp [prea, sza]
   | cons x l ih =>
    have h1 := h x (by simp)
    have := ih fun y hy => h y (by simp [hy])
    obtain ⟨a, b⟩ := x
    simp only [prea, sza, List.length_append] at *; omega
  have := k1 _ ih1
  have := k2 _ ih2
  have e : pre t = t :: (pres t.args ++ prea t.alts) := by cases t; rw [pre]; rfl
  rw [e]
  simp only [List.length_cons, List.length_append]; omega
theorem okL_len : ∀ (l : List Pl) (a : List (List UInt8)) (n : Nat), a.length + l.length ≤ n → OkL gadd (fun a _ => a.length < n) a l
 | [], a, n, h => trivial
 | e :: l, a, n, h => by
  have h2 : (gadd a e).length ≤ a.length + 1 := by unfold gadd; split <;> simp
  simp only [List.length_cons] at h
  exact ⟨by omega, okL_len l _ n (by omega)⟩
def J47 (lo bx : Nat) (L : AObj) (l : List (List UInt8)) (F : Nat → Prop) (s : St) : Prop :=
 ∃ oa, (∀ q, F q ↔ q = lo ∨ q = bx ∨ q = oa) ∧ s.m lo = some L ∧ s.m bx = some (.box [.mref 1 oa 0 l.length]) ∧ s.m oa = some (.box (slist l)) ∧ lo ≠ bx ∧ lo ≠ oa ∧ bx ≠ oa ∧ lo < s.nx ∧ bx < s.nx ∧ oa < s.nx
theorem p47 (t : Pl) (hw : wf t = true) (hs : small t) : PureC Tryz.prog 47 [t.av] (.list 1 .none (slist (gls t))) := by
 refine PureC.intro fun s => freeze1 (fun_sound mixed Tryz.func47 Tryz.call47 c47 rfl (awpFun_go _ _ _ _ ?_))
 have hpl : (pre t).length ≤ 3000 := by have := pre_len t; have := hs.1; omega
 simp -implicitDefEqProofs (disch:=first|omega|simp only[nx4]<;>omega|fail) [a47, a47b, a47r0, a47r1, a47r2]
 refine go_pure (p84 t) fun mm1 hm1 => ?_
 try simp only [nx4] at hm1
 simp -implicitDefEqProofs (disch:=first|omega|simp only[nx4]<;>omega|fail)
 refine go_range rfl fun ca cb hY => ?_
 simp -implicitDefEqProofs (disch:=first|omega|simp only[nx4]<;>omega|fail) at hY ⊢
 generalize hE : [(3, AV.ptr (s.nx + 1) 0), (4, AV.any), (7, AV.any), (10, AV.any)] = E at hY ⊢
 refine ACalls.nilbox (o := s.nx + 1) 1 (by simp -implicitDefEqProofs (disch:=first|omega|simp only[nx4]<;>omega|fail)) ?_
 rw [← Pl.av_cells t]
 have V : Vis gadd (fun a _ => a.length < 3000) (J47 mm1 (s.nx + 1) (.loop 0 none E [7] 20 ca cb)) mm1 := by
  refine ⟨?_, ?_, ?_⟩
  ·rintro l F s1 s2 ⟨oa, hF, j1, j2, j3, d1, d2, d3, n1, n2, n3⟩ h hn
   exact ⟨oa, hF, (h _ ((hF _).2 (.inl rfl))).trans j1, (h _ ((hF _).2 (.inr (.inl rfl)))).trans j2, (h _ ((hF _).2 (.inr (.inr rfl)))).trans j3, d1, d2, d3, by omega, by omega, by omega⟩
  ·rintro l F s1 ⟨oa, hF, j1, j2, j3, d1, d2, d3, n1, n2, n3⟩ q hq
   rcases (hF q).1 hq with rfl | rfl | rfl <;> omega
  ·rintro l F e s1 hok ⟨oa, hF, j1, j2, j3, d1, d2, d3, n1, n2, n3⟩
   refine rnd_go hY j1 rfl ?_
   subst hE
   by_cases o2 : e.op = 2
   ·simp -implicitDefEqProofs (disch:=first|omega|simp only[nx4]<;>omega|fail) [a47x6, a47r3, a47y6, a47r4, a47r5, o2, j1, j2, j3]
    refine ⟨fun q => q = mm1 ∨ q = s.nx + 1 ∨ q = s1.nx + 1, ⟨s1.nx + 1, fun q => Iff.rfl, ?_, ?_, ?_, d1, by omega, by omega, ?_, ?_, ?_⟩, ?_, ?_⟩
    ·simp -implicitDefEqProofs (disch:=first|omega|simp only[nx4]<;>omega|fail)
    ·simp -implicitDefEqProofs (disch:=first|omega|simp only[nx4]<;>omega|fail) [gadd, o2]
    ·simp -implicitDefEqProofs (disch:=first|omega|simp only[nx4]<;>omega|fail) [gadd, o2, slist_snoc]
    ·simp -implicitDefEqProofs (disch:=first|omega|simp only[nx4]<;>omega|fail)
     omega
    ·simp -implicitDefEqProofs (disch:=first|omega|simp only[nx4]<;>omega|fail)
     omega
    ·simp -implicitDefEqProofs (disch:=first|omega|simp only[nx4]<;>omega|fail)
    ·intro q hq
     rcases hq with h | h | h
     ·exact .inl ((hF q).2 (.inl h))
     ·exact .inl ((hF q).2 (.inr (.inl h)))
     ·exact .inr (by omega)
    ·intro q hq hn
     have h1 : q ≠ mm1 := fun h => hn ((hF q).2 (.inl h))
     have h2 : q ≠ s.nx + 1 := fun h => hn ((hF q).2 (.inr (.inl h)))
     have h3 : q ≠ oa := fun h => hn ((hF q).2 (.inr (.inr h)))
     simp -implicitDefEqProofs (disch:=first|omega|simp only[nx4]<;>omega|fail) [h1, h2, h3]
   ·simp -implicitDefEqProofs (disch:=first|omega|simp only[nx4]<;>omega|fail) [a47x6, a47r3, a47y6, a47r4, o2, j1, j2, j3]
    refine ⟨F, ⟨oa, hF, ?_, ?_, ?_, d1, d2, d3, ?_, ?_, ?_⟩, fun q hq => .inl hq, ?_⟩
    ·simp -implicitDefEqProofs (disch:=first|omega|simp only[nx4]<;>omega|fail)
    ·simp -implicitDefEqProofs (disch:=first|omega|simp only[nx4]<;>omega|fail) [gadd, o2, j2]
    ·simp -implicitDefEqProofs (disch:=first|omega|simp only[nx4]<;>omega|fail) [gadd, o2, j3]
    ·simp -implicitDefEqProofs (disch:=first|omega|simp only[nx4]<;>omega|fail)
     omega
    ·simp -implicitDefEqProofs (disch:=first|omega|simp only[nx4]<;>omega|fail)
     omega
    ·simp -implicitDefEqProofs (disch:=first|omega|simp only[nx4]<;>omega|fail)
     omega
    ·intro q hq hn
     have h1 : q ≠ mm1 := fun h => hn ((hF q).2 (.inl h))
     simp -implicitDefEqProofs (disch:=first|omega|simp only[nx4]<;>omega|fail) [h1]
 refine ACalls.mono (p118 t gadd _ _ mm1 V [] (fun q => q = mm1 ∨ q = s.nx + 1 ∨ q = mm1 + 1) _ hw hs (okL_len _ _ _ (by simpa using hpl)) ?_) fun _ s' hn' h => ?_
 ·refine ⟨mm1 + 1, fun q => Iff.rfl, ?_, ?_, ?_, by omega, by omega, by omega, ?_, ?_, ?_⟩
  all_goals (try simp -implicitDefEqProofs (disch:=first|omega|simp only[nx4]<;>omega|fail) [slist])
  all_goals (try omega)
 ·obtain ⟨F', ⟨oa, hF, j1, j2, j3, d1, d2, d3, n1, n2, n3⟩, hE1, hE2⟩ := h
  refine rangeR_end j1 (by omega) ?_
  simp -implicitDefEqProofs (disch:=first|omega|simp only[nx4]<;>omega|fail) [a47r7, j2, j3]
  have hl : ((pre t).foldl gadd []).length ≤ 3000 := by have := gadd_len (pre t) []; simp only [List.length_nil] at this; omega
  have hg : (pre t).foldl gadd [] = gnm t := rfl
  rw [hg] at hl j2 j3 ⊢
  refine go_calls (p85 _ oa _ _ (by omega) (by simp -implicitDefEqProofs (disch:=first|omega|simp only[nx4]<;>omega|fail) [j3]) (go_of ?_))
  simp -implicitDefEqProofs (disch:=first|omega|simp only[nx4]<;>omega|fail) [a47r8, j2]
  rw [← bsort_length]
  refine go_calls (p86 _ oa _ _ (by rw [bsort_length]; omega) (by simp -implicitDefEqProofs (disch:=first|omega|simp only[nx4]<;>omega|fail)) (go_of ?_))
  simp -implicitDefEqProofs (disch:=first|omega|simp only[nx4]<;>omega|fail)
  refine ⟨1, oa, _, ⟨rfl, rfl, rfl⟩, slist (gls t), by rw [flat_sl]; simp -implicitDefEqProofs (disch:=first|omega|simp only[nx4]<;>omega|fail); rfl, ?_, ?_, ?_, ?_⟩
  ·intro x hx
   simp only [slist, List.mem_map] at hx
   obtain ⟨y, _, rfl⟩ := hx
   rfl
  ·rw [slist_length]; rfl
  ·simp
  ·intro q hq
   have hnF : ¬ (q = mm1 ∨ q = s.nx + 1 ∨ q = mm1 + 1) := by omega
   have h3 := hE2 q (by simp -implicitDefEqProofs (disch:=first|omega|simp only[nx4]<;>omega|fail); omega) hnF
   simp -implicitDefEqProofs (disch:=first|omega|simp only[nx4]<;>omega|fail) at h3
   have hne : q ≠ oa := fun e => by
    rcases hE1 oa ((hF oa).2 (.inr (.inr rfl))) with h | h
    ·omega
    ·simp -implicitDefEqProofs (disch:=first|omega|simp only[nx4]<;>omega|fail) at h; omega
   simp -implicitDefEqProofs (disch:=first|omega|simp only[nx4]<;>omega|fail) [h3, hne]
end Go.AL.Dm
