/- Maps that are written no more: frozen, thawed for a call; objects lent to a call. -/
import Derived.Test.YtlledcnjfgcipaaGreatDoorC2
import Derived.Test.YtlledcnjfgcipaaGreatDoorProg
import Derived.KernelRfl
import Derived.Test.YtlledcnjfgcipaaGreatDoorS1
set_option linter.unusedVariables false
set_option linter.unusedSimpArgs false
namespace Go.AL.Dm
open Go.Proofs
/- damask/demand.analyze -/
def a40r0 : Rg := [oT 2 (.mv (.c .nilptr)), oT 3 (.mv (ci 0))]
def a40r1 : Rg := [oL 10 (.mkmap), oL 11 (.build [.nilmap] [(0, 1, (.l 10))]), oL 12 (.box (.l 11)), oT 4 (.mv (.l 12))]
def a40r2 : Rg := [oT 13 (.mv (.g 0)), oT 14 (.len (.g 13)), oT 15 (.mv (ci 0))]
def a40r3 : Rg := [oT 16 (.bin .lss (.g 15) (.g 14))]
def a40r4 : Rg := [oL 17 (.ia 6 (.g 13) (.g 15)), oL 18 (.load 6 true (.l 17)), oT 6 (.alloc [s0, i0, i0, s0, nl, nl]), oN (.store 6 (.g 6) (.l 18))]
def a40r5 : Rg := [oL 19 (.build [i0, bF, bF, bF, bF, bF, bF, bF, bF, bF] [(9, 1, cT)]), oT 7 (.alloc [i0, bF, bF, bF, bF, bF, bF, bF, bF, bF]), oN (.store 10 (.g 7) (.l 19))]
def a40r6 : Rg := [oL 20 (.fa 1 (.g 6)), oL 21 (.fa 0 (.l 20)), oL 22 (.ld (.l 21)), oT 23 (.bin .eql (.l 22) (ci 5))]
def a40r7 : Rg := [oL 24 (.fa 1 (.g 6)), oL 25 (.fa 1 (.l 24)), oL 26 (.ld (.l 25)), oL 27 (.fa 0 (.g 7)), oN (.store 1 (.l 27) (.l 26))]
def a40r8 : Rg := [oL 28 (.fa 0 (.g 7)), oT 29 (.ld (.l 28)), oT 30 (.mv (ci 0))]
def a40r9 : Rg := [oT 31 (.bin .lss (.g 30) (.g 29))]
def a40r10 : Rg := [oL 32 (.mv (.g 30)), oT 8 (.mv (.l 32))]
def a40r11 : Rg := [oL 33 (.mv (.g 8)), oL 34 (.fa 1 (.g 7)), oL 35 (.arrAddr 1 8 (.l 34) (.l 33)), oN (.store 1 (.l 35) cT)]
def a40r12 : Rg := [oL 36 (.bin .add (.g 30) (ci 1)), oT 30 (.mv (.l 36))]
def a40l13 : ACode := (.seq (rq a40r9) (.seq (.cond (.g 31) .skip (.exit 2)) (.seq (.block 3 (.seq (rq a40r10) (rq a40r11))) (rq a40r12))))
def a40r14 : Rg := [oL 37 (.mv (.g 4)), oL 38 (.nilCheck (.l 37)), oL 39 (.fa 0 (.l 38)), oL 40 (.ld (.l 39)), oL 41 (.fa 0 (.g 6)), oL 42 (.ld (.l 41)), oL 43 (.load 10 true (.g 7)), oN (.mapUpdate true (.l 40) (.l 42) (.l 43))]
def a40r15 : Rg := [oL 44 (.bin .add (.g 15) (ci 1)), oT 15 (.mv (.l 44))]
def a40l16 : ACode := (.seq (rq a40r3) (.seq (.cond (.g 16) .skip (.exit 0)) (.seq (.block 1 (.seq (rq a40r4) (.seq (rq a40r5) (.seq (.seq (rq a40r6) (.cond (.g 23) (rq a40r7) .skip)) (.seq (.seq (rq a40r8) (.block 2 (.loop a40l13))) (.reg true a40r14)))))) (rq a40r15))))
def a40r17 : Rg := [oT 9 (.mv (ci 1))]
def a40r18 : Rg := [oL 45 (.mv (.g 4)), oL 46 (.mv (.g 0)), oT 47 (.cf 80 [(.l 45), (.l 46)])]
def a40r19 : Rg := [oL 48 (.mv (.g 9)), oL 49 (.bin .add (.l 48) (ci 1)), oT 9 (.mv (.l 49))]
def a40l20 : ACode := (.seq (.seq (rq a40r18) (.cond (.g 47) .skip (.exit 4))) (.block 5 (rq a40r19)))
def a40r21 : Rg := [oL 50 (.mv (.g 4)), oL 51 (.mv (.g 9)), oT 2 (.mv (.l 50)), oT 3 (.mv (.l 51))]
def a40b : ACode := (.seq (rq a40r0) (.seq (rq a40r1) (.seq (.seq (rq a40r2) (.block 0 (.loop a40l16))) (.seq (rq a40r17) (.seq (.block 4 (.loop a40l20)) (.seq (rq a40r21) .ret))))))
def a40 : AFun := ⟨1, 52, a40b, [.tmp (true, 2), .tmp (true, 3)]⟩
theorem c40 : compileFun Tryz.prog [0, 2, 3, 4, 6, 7, 8, 9, 13, 14, 15, 16, 23, 29, 30, 31, 47] Tryz.f40 = some a40 := by kernel_rfl
/- (*damask/demand.analysis).round -/
def a80r0 : Rg := [oT 4 (.mv cF)]
def a80r1 : Rg := [oL 11 (.mkmap), oT 5 (.mv (.l 11))]
def a80r2 : Rg := [oT 6 (.mv cF)]
def a80r3 : Rg := [oT 12 (.mv (.g 1)), oT 13 (.len (.g 12)), oT 14 (.mv (ci 0))]
def a80r4 : Rg := [oT 15 (.bin .lss (.g 14) (.g 13))]
def a80r5 : Rg := [oL 16 (.ia 6 (.g 12) (.g 14)), oL 17 (.load 6 true (.l 16)), oT 8 (.alloc [s0, i0, i0, s0, nl, nl]), oN (.store 6 (.g 8) (.l 17))]
def a80r6 : Rg := [oL 18 (.mv (.g 0)), oL 19 (.fa 1 (.g 8)), oL 20 (.load 5 true (.l 19)), oL 21 (.cf 114 [(.l 18), (.l 20)]), oT 9 (.alloc [i0, bF, bF, bF, bF, bF, bF, bF, bF, bF]), oN (.store 10 (.g 9) (.l 21))]
def a80r7 : Rg := [oL 22 (.mv (.g 0)), oL 23 (.nilCheck (.l 22)), oL 24 (.fa 0 (.l 23)), oL 25 (.ld (.l 24)), oL 26 (.fa 0 (.g 8)), oL 27 (.ld (.l 26)), oL 28 (.lookup true false [i0, bF, bF, bF, bF, bF, bF, bF, bF, bF] true (.l 25) (.l 27)), oT 10 (.alloc [i0, bF, bF, bF, bF, bF, bF, bF, bF, bF]), oN (.store 10 (.g 10) (.l 28))]
def a80r8 : Rg := [oL 29 (.mv (.g 6)), oL 30 (.mv (.l 29)), oLf 31 (.fa 9 (.g 9)) 30, oLf 32 (.ld (.l 31)) 30, oLf 33 (.fa 9 (.g 10)) 30, oLf 34 (.ld (.l 33)) 30, oLf 35 (.eqb true (.l 32) (.l 34)) 30, oL 36 (.pick (.l 30) cT (.l 35)), oL 37 (.mv (.l 36)), oLf 38 (.fa 1 (.g 9)) 37, oLf 39 (.load 8 true (.l 38)) 37, oLf 40 (.fa 1 (.g 10)) 37, oLf 41 (.load 8 true (.l 40)) 37, oLf 42 (.eqa true 8 (.l 39) (.l 41)) 37, oL 43 (.pick (.l 37) cT (.l 42)), oT 6 (.mv (.l 43))]
def a80r9 : Rg := [oL 44 (.mv (.g 5)), oL 45 (.fa 0 (.g 8)), oL 46 (.ld (.l 45)), oL 47 (.load 10 true (.g 9)), oN (.mapUpdate true (.l 44) (.l 46) (.l 47))]
def a80r10 : Rg := [oL 48 (.bin .add (.g 14) (ci 1)), oT 14 (.mv (.l 48))]
def a80l11 : ACode := (.seq (rq a80r4) (.seq (.cond (.g 15) .skip (.exit 0)) (.seq (.block 1 (.seq (rq a80r5) (.seq (rq a80r6) (.seq (.reg true a80r7) (.seq (rq a80r8) (rq a80r9)))))) (rq a80r10))))
def a80r12 : Rg := [oL 49 (.mv (.g 0)), oL 50 (.mv (.g 5)), oL 51 (.nilCheck (.l 49)), oL 52 (.fa 0 (.l 51)), oN (.store 1 (.l 52) (.l 50))]
def a80r13 : Rg := [oL 53 (.mv (.g 6)), oT 4 (.mv (.l 53))]
def a80b : ACode := (.seq (rq a80r0) (.seq (rq a80r1) (.seq (rq a80r2) (.seq (.seq (rq a80r3) (.block 0 (.loop a80l11))) (.seq (rq a80r12) (.seq (rq a80r13) .ret))))))
def a80 : AFun := ⟨2, 54, a80b, [.tmp (true, 4)]⟩
theorem c80 : compileFun Tryz.prog [0, 1, 4, 5, 6, 8, 9, 10, 12, 13, 14, 15] Tryz.f80 = some a80 := by kernel_rfl
/- (*damask/demand.analysis).one -/
def a114r0 : Rg := [oT 3 (.box (.g 1)), oT 4 (.alloc [i0, bF, bF, bF, bF, bF, bF, bF, bF, bF])]
def a114r1 : Rg := [oT 5 (.alloc [i0, bF, bF, bF, bF, bF, bF, bF, bF, bF])]
def a114r2 : Rg := [oL 9 (.load 5 true (.g 3)), oT 6 (.alloc [i0, i0, s0, nl, nl]), oN (.store 5 (.g 6) (.l 9))]
def a114r3 : Rg := [oL 10 (.fa 0 (.g 3)), oL 11 (.ld (.l 10)), oT 12 (.bin .eql (.l 11) (ci 5))]
def a114r4 : Rg := [oL 13 (.fa 1 (.g 3)), oL 14 (.ld (.l 13)), oL 15 (.fa 0 (.g 5)), oN (.store 1 (.l 15) (.l 14))]
def a114r5 : Rg := [oL 16 (.fa 3 (.g 3)), oL 17 (.ld (.l 16)), oL 18 (.ia 5 (.l 17) (ci 0)), oL 19 (.load 5 true (.l 18)), oN (.store 5 (.g 6) (.l 19))]
def a114r6 : Rg := [oL 20 (.mv (.g 0)), oL 21 (.load 5 true (.g 6)), oL 22 (.cf 49 [(.l 20), (.l 21)]), oT 7 (.alloc [bF, .nilmap]), oN (.store 2 (.g 7) (.l 22))]
def a114r7 : Rg := [oL 23 (.fa 0 (.g 7)), oL 24 (.ld (.l 23)), oL 25 (.fa 9 (.g 5)), oN (.store 1 (.l 25) (.l 24))]
def a114r8 : Rg := [oL 26 (.fa 0 (.g 5)), oT 27 (.ld (.l 26)), oT 28 (.mv (ci 0))]
def a114r9 : Rg := [oT 29 (.bin .lss (.g 28) (.g 27))]
def a114r10 : Rg := [oL 30 (.mv (.g 28)), oT 8 (.mv (.l 30))]
def a114r11 : Rg := [oL 31 (.mv (.g 8)), oL 32 (.fa 0 (.g 7)), oL 33 (.ld (.l 32)), oL 34 (.mv (.l 33)), oLf 35 (.fa 1 (.g 7)) 34, oLf 36 (.ld (.l 35)) 34, oLf 37 (.fa 0 (.g 5)) 34, oLf 38 (.ld (.l 37)) 34, oLf 39 (.bin .sub (.l 38) (ci 1)) 34, oLf 40 (.mv (.g 8)) 34, oLf 41 (.bin .sub (.l 39) (.l 40)) 34, oLf 42 (.lookup false false [bF] false (.l 36) (.l 41)) 34, oL 43 (.pick (.l 34) cT (.l 42)), oL 44 (.fa 1 (.g 5)), oL 45 (.arrAddr 1 8 (.l 44) (.l 31)), oN (.store 1 (.l 45) (.l 43))]
def a114r12 : Rg := [oL 46 (.bin .add (.g 28) (ci 1)), oT 28 (.mv (.l 46))]
def a114l13 : ACode := (.seq (rq a114r9) (.seq (.cond (.g 29) .skip (.exit 0)) (.seq (.block 1 (.seq (rq a114r10) (rq a114r11))) (rq a114r12))))
def a114r14 : Rg := [oL 47 (.load 10 true (.g 5)), oN (.store 10 (.g 4) (.l 47))]
def a114b : ACode := (.seq (rq a114r0) (.seq (rq a114r1) (.seq (rq a114r2) (.seq (.seq (rq a114r3) (.cond (.g 12) (.seq (rq a114r4) (rq a114r5)) .skip)) (.seq (rq a114r6) (.seq (rq a114r7) (.seq (.seq (rq a114r8) (.block 0 (.loop a114l13))) (.seq (rq a114r14) .ret))))))))
def a114 : AFun := ⟨2, 48, a114b, [.cell (true, 4) 10 true]⟩
theorem c114 : compileFun Tryz.prog [0, 1, 3, 4, 5, 6, 7, 8, 12, 27, 28, 29] Tryz.f114 = some a114 := by kernel_rfl
/- (*damask/demand.analysis).need -/
def a49r0 : Rg := [oT 3 (.box (.g 1)), oT 4 (.alloc [bF, .nilmap])]
def a49r1 : Rg := [oL 5 (.fa 0 (.g 3)), oT 6 (.ld (.l 5))]
def a49r2 : Rg := [oL 8 (.bin .eql (.g 6) (ci 3)), oT 7 (.mv (.l 8))]
def a49r3 : Rg := [oL 9 (.bin .eql (.g 6) (ci 4)), oT 7 (.mv (.l 9))]
def a49r4 : Rg := [oL 10 (.bin .eql (.g 6) (ci 5)), oT 7 (.mv (.l 10))]
def a49r5 : Rg := [oL 11 (.cf 87 []), oN (.store 2 (.g 4) (.l 11))]
def a49r6 : Rg := [oL 12 (.mv (.g 0)), oL 13 (.ct 88 [(.l 12)]), oL 14 (.fa 0 (.g 3)), oL 15 (.ld (.l 14)), oL 16 (.lookup false false [.nilfn] false (.l 13) (.l 15)), oL 17 (.load 5 true (.g 3)), oL 18 (.call true (.l 16) [(.l 17)]), oN (.store 2 (.g 4) (.l 18))]
def a49b : ACode := (.seq (rq a49r0) (.seq (.seq (rq a49r1) (.block 0 (.seq (.seq (rq a49r2) (.cond (.g 7) .skip (.seq (rq a49r3) (.cond (.g 7) .skip (rq a49r4))))) (.cond (.g 7) (.seq (rq a49r5) .ret) .skip)))) (.seq (.reg true a49r6) .ret)))
def a49 : AFun := ⟨2, 19, a49b, [.cell (true, 4) 2 true]⟩
theorem c49 : compileFun Tryz.prog [0, 1, 3, 4, 6, 7] Tryz.f49 = some a49 := by kernel_rfl
/- (*damask/demand.analysis).needs -/
def a88r0 : Rg := [oT 1 (.box (.g 0)), oT 2 (.mv (.c .nilmap))]
def a88r1 : Rg := [oT 3 (.mv (.c (.fn 121 [] [])))]
def a88r2 : Rg := [oL 4 (.mkmap), oN (.mapUpdate false (.l 4) (ci 1) (.c (.fn 122 [] []))), oL 5 (.ld (.g 1)), oL 6 (.mkfn 123 [(.l 5)] []), oN (.mapUpdate false (.l 4) (ci 2) (.l 6)), oL 7 (.mv (.g 3)), oN (.mapUpdate false (.l 4) (ci 3) (.l 7)), oL 8 (.mv (.g 3)), oN (.mapUpdate false (.l 4) (ci 4) (.l 8)), oL 9 (.mv (.g 3)), oN (.mapUpdate false (.l 4) (ci 5) (.l 9)), oL 10 (.ld (.g 1)), oL 11 (.mkfn 124 [(.l 10)] []), oN (.mapUpdate false (.l 4) (ci 6) (.l 11)), oL 12 (.mkfn 125 [] [(.g 1)]), oN (.mapUpdate false (.l 4) (ci 7) (.l 12)), oL 13 (.ld (.g 1)), oL 14 (.mkfn 127 [(.l 13)] []), oN (.mapUpdate false (.l 4) (ci 8) (.l 14)), oL 15 (.ld (.g 1)), oL 16 (.mkfn 128 [(.l 15)] []), oN (.mapUpdate false (.l 4) (ci 9) (.l 16)), oL 17 (.mv (.l 4)), oT 2 (.mv (.l 17))]
def a88b : ACode := (.seq (.seq (rq a88r0) (.frz 1)) (.seq (rq a88r1) (.seq (rq a88r2) .ret)))
def a88 : AFun := ⟨1, 18, a88b, [.tmp (true, 2)]⟩
theorem c88 : compileFun Tryz.prog [0, 1, 2, 3, 1000000000001] Tryz.f88 = some a88 := by kernel_rfl
/- (*damask/demand.analysis).needs$1 -/
/- (*damask/demand.analysis).needs$2 -/
def a122r0 : Rg := [oT 1 (.box (.g 0)), oT 2 (.alloc [bF, .nilmap])]
def a122r1 : Rg := [oL 3 (.mkmap), oL 4 (.fa 1 (.g 1)), oL 5 (.ld (.l 4)), oN (.mapUpdate false (.l 3) (.l 5) cT), oL 6 (.mv (.l 3)), oL 7 (.build [bF, .nilmap] [(1, 1, (.l 6))]), oN (.store 2 (.g 2) (.l 7))]
def a122b : ACode := (.seq (rq a122r0) (.seq (rq a122r1) .ret))
def a122 : AFun := ⟨1, 8, a122b, [.cell (true, 2) 2 true]⟩
theorem c122 : compileFun Tryz.prog [0, 1, 2] Tryz.f122 = some a122 := by kernel_rfl
/- (*damask/demand.analysis).global -/
def a123r0 : Rg := [oT 3 (.box (.g 1)), oT 4 (.alloc [bF, .nilmap])]
def a123r1 : Rg := [oL 6 (.mv (.g 0)), oL 7 (.nilCheck (.l 6)), oL 8 (.fa 0 (.l 7)), oL 9 (.ld (.l 8)), oL 10 (.fa 2 (.g 3)), oL 11 (.ld (.l 10)), oL 12 (.lookup true false [i0, bF, bF, bF, bF, bF, bF, bF, bF, bF] true (.l 9) (.l 11)), oT 5 (.alloc [i0, bF, bF, bF, bF, bF, bF, bF, bF, bF]), oN (.store 10 (.g 5) (.l 12))]
def a123r2 : Rg := [oL 13 (.fa 0 (.g 5)), oL 14 (.ld (.l 13)), oL 15 (.bin .eql (.l 14) (ci 0)), oL 16 (.mv (.l 15)), oLt 17 (.fa 9 (.g 5)) 16, oLt 18 (.ld (.l 17)) 16, oT 19 (.pick (.l 16) (.l 18) cF)]
def a123r3 : Rg := [oL 20 (.cf 164 []), oN (.store 2 (.g 4) (.l 20))]
def a123r4 : Rg := [oL 21 (.cf 87 []), oN (.store 2 (.g 4) (.l 21))]
def a123b : ACode := (.seq (rq a123r0) (.seq (.seq (.reg true a123r1) (.seq (rq a123r2) (.cond (.g 19) (.seq (rq a123r3) .ret) .skip))) (.seq (rq a123r4) .ret)))
def a123 : AFun := ⟨2, 22, a123b, [.cell (true, 4) 2 true]⟩
theorem c123 : compileFun Tryz.prog [0, 1, 3, 4, 5, 19] Tryz.f123 = some a123 := by kernel_rfl
/- (*damask/demand.analysis).app -/
def a124r0 : Rg := [oT 3 (.box (.g 1)), oT 4 (.alloc [bF, .nilmap])]
def a124r1 : Rg := [oL 15 (.fa 3 (.g 3)), oL 16 (.ld (.l 15)), oL 17 (.ia 5 (.l 16) (ci 0)), oL 18 (.load 5 true (.l 17)), oL 19 (.fa 3 (.g 3)), oL 20 (.ld (.l 19)), oL 21 (.slice 5 (.l 20) (some (ci 1)) none none), oT 5 (.alloc [i0, i0, s0, nl, nl]), ⟨none, .store 5 (.g 5) (.l 18), none, [5]⟩, oT 6 (.mv (.l 21))]
def a124r2 : Rg := [oL 23 (.fa 0 (.g 5)), oL 24 (.ld (.l 23)), oL 25 (.bin .eql (.l 24) (ci 2)), oL 26 (.mv (.l 25)), oLt 27 (.mv (.g 0)) 26, oLt 28 (.nilCheck (.l 27)) 26, oLt 29 (.fa 0 (.l 28)) 26, oLt 30 (.ld (.l 29)) 26, oLt 31 (.fa 2 (.g 5)) 26, oLt 32 (.ld (.l 31)) 26, oLt 33 (.lookup true false [i0, bF, bF, bF, bF, bF, bF, bF, bF, bF] true (.l 30) (.l 32)) 26, oLt 34 (.field 0 1 false (.l 33)) 26, oLt 35 (.bin .gtr (.l 34) (ci 0)) 26, oL 36 (.pick (.l 26) (.l 35) cF), oT 22 (.mv (.l 36))]
def a124r3 : Rg := [oL 37 (.mv (.g 0)), oL 38 (.nilCheck (.l 37)), oL 39 (.fa 0 (.l 38)), oL 40 (.ld (.l 39)), oL 41 (.fa 2 (.g 5)), oL 42 (.ld (.l 41)), oL 43 (.lookup true false [i0, bF, bF, bF, bF, bF, bF, bF, bF, bF] true (.l 40) (.l 42)), oT 7 (.alloc [i0, bF, bF, bF, bF, bF, bF, bF, bF, bF]), oN (.store 10 (.g 7) (.l 43))]
def a124r4 : Rg := [oL 44 (.cf 87 []), oT 8 (.alloc [bF, .nilmap]), oN (.store 2 (.g 8) (.l 44))]
def a124r5 : Rg := [oL 45 (.mv (.g 6)), oL 46 (.len (.l 45)), oL 47 (.fa 0 (.g 7)), oL 48 (.ld (.l 47)), oT 49 (.bin .lss (.l 46) (.l 48))]
def a124r6 : Rg := [oL 50 (.load 2 true (.g 8)), oN (.store 2 (.g 4) (.l 50))]
def a124r7 : Rg := [oL 51 (.fa 9 (.g 7)), oT 52 (.ld (.l 51))]
def a124r8 : Rg := [oL 53 (.cf 164 []), oN (.store 2 (.g 4) (.l 53))]
def a124r9 : Rg := [oL 54 (.mv (.g 6)), oL 55 (.fa 0 (.g 7)), oL 56 (.ld (.l 55)), oT 57 (.slice 5 (.l 54) none (some (.l 56)) none), oT 58 (.len (.g 57)), oT 59 (.mv (ci 0))]
def a124r10 : Rg := [oT 60 (.bin .lss (.g 59) (.g 58))]
def a124r11 : Rg := [oL 61 (.mv (.g 59)), oL 62 (.ia 5 (.g 57) (.g 59)), oL 63 (.load 5 true (.l 62)), oT 10 (.alloc [i0, i0, s0, nl, nl]), oT 9 (.mv (.l 61)), oN (.store 5 (.g 10) (.l 63))]
def a124r12 : Rg := [oL 64 (.mv (.g 9)), oL 65 (.fa 1 (.g 7)), oL 66 (.arrAddr 1 8 (.l 65) (.l 64)), oT 67 (.ld (.l 66))]
def a124r13 : Rg := [oL 68 (.load 2 true (.g 8)), oL 69 (.mv (.g 0)), oL 70 (.load 5 true (.g 10)), oL 71 (.ct 49 [(.l 69), (.l 70)]), oL 72 (.ct 165 [(.l 68), (.l 71)]), oN (.store 2 (.g 8) (.l 72))]
def a124r14 : Rg := [oL 73 (.bin .add (.g 59) (ci 1)), oT 59 (.mv (.l 73))]
def a124l15 : ACode := (.seq (rq a124r10) (.seq (.cond (.g 60) .skip (.exit 1)) (.seq (.block 2 (.seq (rq a124r11) (.seq (rq a124r12) (.cond (.g 67) (.reg true a124r13) .skip)))) (rq a124r14))))
def a124r16 : Rg := [oL 74 (.load 2 true (.g 8)), oN (.store 2 (.g 4) (.l 74))]
def a124r17 : Rg := [oL 76 (.fa 0 (.g 5)), oL 77 (.ld (.l 76)), oL 78 (.bin .eql (.l 77) (ci 5)), oL 79 (.mv (.l 78)), oLt 80 (.mv (.g 6)) 79, oLt 81 (.len (.l 80)) 79, oLt 82 (.fa 1 (.g 5)) 79, oLt 83 (.ld (.l 82)) 79, oLt 84 (.bin .geq (.l 81) (.l 83)) 79, oL 85 (.pick (.l 79) (.l 84) cF), oT 75 (.mv (.l 85))]
def a124r18 : Rg := [oL 86 (.mv (.g 0)), oL 87 (.fa 3 (.g 5)), oL 88 (.ld (.l 87)), oL 89 (.ia 5 (.l 88) (ci 0)), oL 90 (.load 5 true (.l 89)), oL 91 (.cf 49 [(.l 86), (.l 90)]), oT 11 (.alloc [bF, .nilmap]), oN (.store 2 (.g 11) (.l 91))]
def a124r19 : Rg := [oL 92 (.load 2 true (.g 11)), oL 93 (.fa 1 (.g 5)), oL 94 (.ld (.l 93)), oL 95 (.cf 166 [(.l 92), (.l 94)]), oT 12 (.alloc [bF, .nilmap]), oN (.store 2 (.g 12) (.l 95))]
def a124r20 : Rg := [oL 96 (.mv (.g 6)), oL 97 (.fa 1 (.g 5)), oL 98 (.ld (.l 97)), oT 99 (.slice 5 (.l 96) none (some (.l 98)) none), oT 100 (.len (.g 99)), oT 101 (.mv (ci 0))]
def a124r21 : Rg := [oT 102 (.bin .lss (.g 101) (.g 100))]
def a124r22 : Rg := [oL 103 (.mv (.g 101)), oL 104 (.ia 5 (.g 99) (.g 101)), oL 105 (.load 5 true (.l 104)), oT 14 (.alloc [i0, i0, s0, nl, nl]), oT 13 (.mv (.l 103)), oN (.store 5 (.g 14) (.l 105))]
def a124r23 : Rg := [oL 106 (.fa 1 (.g 11)), oL 107 (.ld (.l 106)), oL 108 (.fa 1 (.g 5)), oL 109 (.ld (.l 108)), oL 110 (.bin .sub (.l 109) (ci 1)), oL 111 (.mv (.g 13)), oL 112 (.bin .sub (.l 110) (.l 111)), oT 113 (.lookup false false [bF] false (.l 107) (.l 112))]
def a124r24 : Rg := [oL 114 (.load 2 true (.g 12)), oL 115 (.mv (.g 0)), oL 116 (.load 5 true (.g 14)), oL 117 (.ct 49 [(.l 115), (.l 116)]), oL 118 (.ct 165 [(.l 114), (.l 117)]), oN (.store 2 (.g 12) (.l 118))]
def a124r25 : Rg := [oL 119 (.bin .add (.g 101) (ci 1)), oT 101 (.mv (.l 119))]
def a124l26 : ACode := (.seq (rq a124r21) (.seq (.cond (.g 102) .skip (.exit 3)) (.seq (.block 4 (.seq (rq a124r22) (.seq (rq a124r23) (.cond (.g 113) (.reg true a124r24) .skip)))) (rq a124r25))))
def a124r27 : Rg := [oL 120 (.load 2 true (.g 12)), oN (.store 2 (.g 4) (.l 120))]
def a124r28 : Rg := [oL 121 (.mv (.g 0)), oL 122 (.load 5 true (.g 5)), oL 123 (.cf 49 [(.l 121), (.l 122)]), oN (.store 2 (.g 4) (.l 123))]
def a124b : ACode := (.seq (rq a124r0) (.seq (.reg true a124r1) (.seq (.block 0 (.seq (.reg true a124r2) (.cond (.g 22) (.seq (.reg true a124r3) (.seq (rq a124r4) (.seq (.seq (rq a124r5) (.cond (.g 49) (.seq (rq a124r6) .ret) .skip)) (.seq (.seq (rq a124r7) (.cond (.g 52) (.seq (rq a124r8) .ret) .skip)) (.seq (.seq (rq a124r9) (.block 1 (.loop a124l15))) (.seq (rq a124r16) .ret)))))) (.seq (rq a124r17) (.cond (.g 75) (.seq (rq a124r18) (.seq (rq a124r19) (.seq (.seq (rq a124r20) (.block 3 (.loop a124l26))) (.seq (rq a124r27) .ret)))) .skip))))) (.seq (rq a124r28) .ret))))
def a124 : AFun := ⟨2, 124, a124b, [.cell (true, 4) 2 true]⟩
theorem c124 : compileFun Tryz.prog [0, 1, 3, 4, 5, 6, 7, 8, 9, 10, 11, 12, 13, 14, 22, 49, 52, 57, 58, 59, 60, 67, 75, 99, 100, 101, 102, 113] Tryz.f124 = some a124 := by kernel_rfl
/- (*damask/demand.analysis).needs$3 -/
def a125r0 : Rg := [oT 2 (.box (.g 0)), oT 3 (.alloc [bF, .nilmap])]
def a125r1 : Rg := [oL 5 (.fa 3 (.g 2)), oL 6 (.ld (.l 5)), oL 7 (.len (.l 6)), oL 8 (.bin .sub (.l 7) (ci 1)), oT 4 (.mv (.l 8))]
def a125r2 : Rg := [oL 9 (.ld (.g 1)), oL 10 (.fa 3 (.g 2)), oL 11 (.ld (.l 10)), oL 12 (.mv (.g 4)), oL 13 (.slice 5 (.l 11) none (some (.l 12)) none), oL 14 (.fa 3 (.g 2)), oL 15 (.ld (.l 14)), oL 16 (.mv (.g 4)), oL 17 (.ia 5 (.l 15) (.l 16)), oL 18 (.load 5 true (.l 17)), oL 19 (.ct 126 [(.l 9), (.l 13), (.l 18)]), oN (.store 2 (.g 3) (.l 19))]
def a125b : ACode := (.seq (rq a125r0) (.seq (rq a125r1) (.seq (.reg true a125r2) .ret)))
def a125 : AFun := ⟨2, 20, a125b, [.cell (true, 3) 2 true]⟩
theorem c125 : compileFun Tryz.prog [0, 1, 2, 3, 4] Tryz.f125 = some a125 := by kernel_rfl
/- (*damask/demand.analysis).let -/
def a126r0 : Rg := [oT 5 (.box (.g 2)), oT 6 (.alloc [bF, .nilmap])]
def a126r1 : Rg := [oL 13 (.mv (.g 1)), oL 14 (.len (.l 13)), oT 7 (.mv (.l 14))]
def a126r2 : Rg := [oL 15 (.mv (.g 0)), oL 16 (.load 5 true (.g 5)), oL 17 (.cf 49 [(.l 15), (.l 16)]), oT 8 (.alloc [bF, .nilmap]), oN (.store 2 (.g 8) (.l 17))]
def a126r3 : Rg := [oL 18 (.mv (.g 7)), oL 19 (.mkslice 1 1 [bF] false (.l 18) (.l 18)), oT 9 (.mv (.l 19))]
def a126r4 : Rg := [oL 20 (.fa 0 (.g 8)), oL 21 (.ld (.l 20)), oT 22 (.un .not (.l 21))]
def a126r5 : Rg := [oT 23 (.mv (.g 1)), oT 24 (.len (.g 23)), oT 25 (.mv (ci 0))]
def a126r6 : Rg := [oT 26 (.bin .lss (.g 25) (.g 24))]
def a126r7 : Rg := [oL 27 (.mv (.g 25)), oL 28 (.ia 5 (.g 23) (.g 25)), oL 29 (.load 5 true (.l 28)), oT 11 (.alloc [i0, i0, s0, nl, nl]), oT 10 (.mv (.l 27)), oN (.store 5 (.g 11) (.l 29))]
def a126r8 : Rg := [oL 30 (.mv (.g 7)), oL 31 (.bin .sub (.l 30) (ci 1)), oL 32 (.mv (.g 10)), oL 33 (.bin .sub (.l 31) (.l 32)), oT 12 (.mv (.l 33))]
def a126r9 : Rg := [oL 34 (.fa 1 (.g 8)), oL 35 (.ld (.l 34)), oL 36 (.mv (.g 12)), oL 37 (.lookup false false [bF] false (.l 35) (.l 36)), oL 38 (.mv (.l 37)), oLt 39 (.mv (.g 9)) 38, oLt 40 (.mv (.g 10)) 38, oLt 41 (.ia 1 (.l 39) (.l 40)) 38, oLt 42 (.ld (.l 41)) 38, oLt 43 (.un .not (.l 42)) 38, oT 44 (.pick (.l 38) (.l 43) cF)]
def a126r10 : Rg := [oL 45 (.mv (.g 9)), oL 46 (.mv (.g 10)), oL 47 (.ia 1 (.l 45) (.l 46)), oN (.store 1 (.l 47) cT)]
def a126r11 : Rg := [oL 48 (.load 2 true (.g 8)), oL 49 (.mv (.g 0)), oL 50 (.load 5 true (.g 11)), oL 51 (.ct 49 [(.l 49), (.l 50)]), oL 52 (.ct 165 [(.l 48), (.l 51)]), oN (.store 2 (.g 8) (.l 52))]
def a126r12 : Rg := [oL 53 (.bin .add (.g 25) (ci 1)), oT 25 (.mv (.l 53))]
def a126l13 : ACode := (.seq (rq a126r6) (.seq (.cond (.g 26) .skip (.exit 2)) (.seq (.block 3 (.seq (rq a126r7) (.seq (rq a126r8) (.seq (rq a126r9) (.cond (.g 44) (.seq (rq a126r10) (.seq (.reg true a126r11) (.exit 1))) .skip))))) (rq a126r12))))
def a126l14 : ACode := (.seq (.seq (rq a126r4) (.cond (.g 22) .skip (.exit 0))) (.block 1 (.seq (.seq (rq a126r5) (.block 2 (.loop a126l13))) (.exit 0))))
def a126r15 : Rg := [oL 54 (.load 2 true (.g 8)), oL 55 (.mv (.g 7)), oL 56 (.cf 166 [(.l 54), (.l 55)]), oN (.store 2 (.g 6) (.l 56))]
def a126b : ACode := (.seq (rq a126r0) (.seq (rq a126r1) (.seq (rq a126r2) (.seq (rq a126r3) (.seq .skip (.seq (.block 0 (.loop a126l14)) (.seq (rq a126r15) .ret)))))))
def a126 : AFun := ⟨3, 57, a126b, [.cell (true, 6) 2 true]⟩
theorem c126 : compileFun Tryz.prog [0, 1, 2, 5, 6, 7, 8, 9, 10, 11, 12, 22, 23, 24, 25, 26, 44] Tryz.f126 = some a126 := by kernel_rfl
/- (*damask/demand.analysis).choice -/
def a127r0 : Rg := [oT 3 (.box (.g 1)), oT 4 (.alloc [bF, .nilmap])]
def a127r1 : Rg := [oL 9 (.mv (.g 0)), oL 10 (.fa 3 (.g 3)), oL 11 (.ld (.l 10)), oL 12 (.ia 5 (.l 11) (ci 0)), oL 13 (.load 5 true (.l 12)), oL 14 (.cf 49 [(.l 9), (.l 13)]), oT 5 (.alloc [bF, .nilmap]), oN (.store 2 (.g 5) (.l 14))]
def a127r2 : Rg := [oL 15 (.fa 0 (.g 5)), oT 16 (.ld (.l 15))]
def a127r3 : Rg := [oL 17 (.load 2 true (.g 5)), oN (.store 2 (.g 4) (.l 17))]
def a127r4 : Rg := [oL 18 (.cf 164 []), oT 6 (.alloc [bF, .nilmap]), oN (.store 2 (.g 6) (.l 18))]
def a127r5 : Rg := [oL 19 (.fa 4 (.g 3)), oT 20 (.ld (.l 19)), oT 21 (.len (.g 20)), oT 22 (.mv (ci 0))]
def a127r6 : Rg := [oT 23 (.bin .lss (.g 22) (.g 21))]
def a127r7 : Rg := [oL 24 (.ia 8 (.g 20) (.g 22)), oL 25 (.load 8 true (.l 24)), oT 8 (.alloc [i0, s0, i0, i0, i0, s0, nl, nl]), oN (.store 8 (.g 8) (.l 25))]
def a127r8 : Rg := [oL 26 (.load 2 true (.g 6)), oL 27 (.mv (.g 0)), oL 28 (.fa 3 (.g 8)), oL 29 (.load 5 true (.l 28)), oL 30 (.ct 49 [(.l 27), (.l 29)]), oL 31 (.load 8 true (.g 8)), oL 32 (.ct 142 [(.l 31)]), oL 33 (.ct 166 [(.l 30), (.l 32)]), oL 34 (.ct 167 [(.l 26), (.l 33)]), oN (.store 2 (.g 6) (.l 34))]
def a127r9 : Rg := [oL 35 (.bin .add (.g 22) (ci 1)), oT 22 (.mv (.l 35))]
def a127l10 : ACode := (.seq (rq a127r6) (.seq (.cond (.g 23) .skip (.exit 0)) (.seq (.block 1 (.seq (rq a127r7) (.reg true a127r8))) (rq a127r9))))
def a127r11 : Rg := [oL 36 (.load 2 true (.g 5)), oL 37 (.load 2 true (.g 6)), oL 38 (.cf 165 [(.l 36), (.l 37)]), oN (.store 2 (.g 4) (.l 38))]
def a127b : ACode := (.seq (rq a127r0) (.seq (rq a127r1) (.seq (.seq (rq a127r2) (.cond (.g 16) (.seq (rq a127r3) .ret) .skip)) (.seq (rq a127r4) (.seq (.seq (rq a127r5) (.block 0 (.loop a127l10))) (.seq (rq a127r11) .ret))))))
def a127 : AFun := ⟨2, 39, a127b, [.cell (true, 4) 2 true]⟩
theorem c127 : compileFun Tryz.prog [0, 1, 3, 4, 5, 6, 8, 16, 20, 21, 22, 23] Tryz.f127 = some a127 := by kernel_rfl
/- (*damask/demand.analysis).prim -/
def a128r0 : Rg := [oT 3 (.box (.g 1)), oT 4 (.alloc [bF, .nilmap])]
def a128r1 : Rg := [oL 6 (.fa 2 (.g 3)), oL 7 (.ld (.l 6)), oL 8 (.bin .eql (.l 7) (.c (.str ⟨#[116, 104, 114, 111, 119]⟩))), oT 5 (.mv (.l 8))]
def a128r2 : Rg := [oL 9 (.cf 164 []), oN (.store 2 (.g 4) (.l 9))]
def a128r3 : Rg := [oL 11 (.fa 2 (.g 3)), oL 12 (.ld (.l 11)), oL 13 (.cf 168 [(.l 12)]), oT 10 (.mv (.l 13))]
def a128r4 : Rg := [oL 14 (.cf 87 []), oN (.store 2 (.g 4) (.l 14))]
def a128r5 : Rg := [oL 15 (.mv (.g 0)), oL 16 (.fa 3 (.g 3)), oL 17 (.ld (.l 16)), oL 18 (.ia 5 (.l 17) (ci 0)), oL 19 (.load 5 true (.l 18)), oL 20 (.ct 49 [(.l 15), (.l 19)]), oL 21 (.mv (.g 0)), oL 22 (.fa 3 (.g 3)), oL 23 (.ld (.l 22)), oL 24 (.ia 5 (.l 23) (ci 1)), oL 25 (.load 5 true (.l 24)), oL 26 (.ct 49 [(.l 21), (.l 25)]), oL 27 (.ct 165 [(.l 20), (.l 26)]), oN (.store 2 (.g 4) (.l 27))]
def a128b : ACode := (.seq (rq a128r0) (.seq (.block 0 (.seq (rq a128r1) (.cond (.g 5) (.seq (rq a128r2) .ret) (.seq (rq a128r3) (.cond (.g 10) (.seq (rq a128r4) .ret) .skip))))) (.seq (.reg true a128r5) .ret)))
def a128 : AFun := ⟨2, 28, a128b, [.cell (true, 4) 2 true]⟩
theorem c128 : compileFun Tryz.prog [0, 1, 3, 4, 5, 10] Tryz.f128 = some a128 := by kernel_rfl
/- damask/demand.none -/
def a87r0 : Rg := [oT 0 (.alloc [bF, .nilmap])]
def a87r1 : Rg := [oL 1 (.mkmap), oL 2 (.build [bF, .nilmap] [(1, 1, (.l 1))]), oN (.store 2 (.g 0) (.l 2))]
def a87b : ACode := (.seq (rq a87r0) (.seq (rq a87r1) .ret))
def a87 : AFun := ⟨0, 3, a87b, [.cell (true, 0) 2 true]⟩
theorem c87 : compileFun Tryz.prog [0] Tryz.f87 = some a87 := by kernel_rfl
/- damask/demand.everything -/
def a164r0 : Rg := [oT 0 (.alloc [bF, .nilmap])]
def a164r1 : Rg := [oL 1 (.build [bF, .nilmap] [(0, 1, cT)]), oN (.store 2 (.g 0) (.l 1))]
def a164b : ACode := (.seq (rq a164r0) (.seq (rq a164r1) .ret))
def a164 : AFun := ⟨0, 2, a164b, [.cell (true, 0) 2 true]⟩
theorem c164 : compileFun Tryz.prog [0] Tryz.f164 = some a164 := by kernel_rfl
/- (damask/demand.need).with -/
def a165r0 : Rg := [oT 2 (.box (.g 0)), oT 3 (.box (.g 1)), oT 4 (.alloc [bF, .nilmap])]
def a165r1 : Rg := [oL 9 (.fa 0 (.g 2)), oL 10 (.ld (.l 9)), oL 11 (.mv (.l 10)), oLf 12 (.fa 0 (.g 3)) 11, oLf 13 (.ld (.l 12)) 11, oT 14 (.pick (.l 11) cT (.l 13))]
def a165r2 : Rg := [oL 15 (.cf 164 []), oN (.store 2 (.g 4) (.l 15))]
def a165r3 : Rg := [oL 16 (.cf 87 []), oT 5 (.alloc [bF, .nilmap]), oN (.store 2 (.g 5) (.l 16))]
def a165r4 : Rg := [oL 17 (.fa 1 (.g 2)), oL 18 (.ld (.l 17)), oL 19 (.fa 1 (.g 3)), oL 20 (.ld (.l 19)), oT 21 (.buildSlice 1 false [.nilmap] 2 [(0, (.l 18)), (1, (.l 20))]), oT 22 (.len (.g 21)), oT 23 (.mv (ci 0))]
def a165r5 : Rg := [oT 24 (.bin .lss (.g 23) (.g 22))]
def a165r6 : Rg := [oL 25 (.ia 1 (.g 21) (.g 23)), oL 26 (.ld (.l 25)), oT 7 (.mv (.l 26))]
def a165r7 : Rg := [oL 27 (.mv (.g 7)), oT 28 (.range (.l 27))]
def a165r8 : Rg := [oL 29 (.next (.g 28)), oT 30 (.extract (.l 29) 0)]
def a165r9 : Rg := [oL 31 (.entry (.g 28)), oL 32 (.extract (.l 31) 0), oT 8 (.mv (.l 32))]
def a165r10 : Rg := [oL 33 (.fa 1 (.g 5)), oL 34 (.ld (.l 33)), oL 35 (.mv (.g 8)), oN (.mapUpdate false (.l 34) (.l 35) cT)]
def a165l11 : ACode := (.seq (rq a165r8) (.seq (.cond (.g 30) .skip (.exit 2)) (.block 3 (.seq (rq a165r9) (rq a165r10)))))
def a165r12 : Rg := [oL 36 (.bin .add (.g 23) (ci 1)), oT 23 (.mv (.l 36))]
def a165l13 : ACode := (.seq (rq a165r5) (.seq (.cond (.g 24) .skip (.exit 0)) (.seq (.block 1 (.seq (rq a165r6) (.seq (rq a165r7) (.block 2 (.loop a165l11))))) (rq a165r12))))
def a165r14 : Rg := [oL 37 (.load 2 true (.g 5)), oN (.store 2 (.g 4) (.l 37))]
def a165b : ACode := (.seq (rq a165r0) (.seq (.seq (rq a165r1) (.cond (.g 14) (.seq (rq a165r2) .ret) .skip)) (.seq (rq a165r3) (.seq (.seq (rq a165r4) (.block 0 (.loop a165l13))) (.seq (rq a165r14) .ret)))))
def a165 : AFun := ⟨2, 38, a165b, [.cell (true, 4) 2 true]⟩
theorem c165 : compileFun Tryz.prog [0, 1, 2, 3, 4, 5, 7, 8, 14, 21, 22, 23, 24, 28, 30] Tryz.f165 = some a165 := by kernel_rfl
/- (damask/demand.need).outside -/
def a166r0 : Rg := [oT 2 (.box (.g 0)), oT 4 (.alloc [bF, .nilmap])]
def a166r1 : Rg := [oL 7 (.fa 0 (.g 2)), oT 8 (.ld (.l 7))]
def a166r2 : Rg := [oL 9 (.load 2 true (.g 2)), oN (.store 2 (.g 4) (.l 9))]
def a166r3 : Rg := [oL 10 (.cf 87 []), oT 5 (.alloc [bF, .nilmap]), oN (.store 2 (.g 5) (.l 10))]
def a166r4 : Rg := [oL 11 (.fa 1 (.g 2)), oL 12 (.ld (.l 11)), oT 13 (.range (.l 12))]
def a166r5 : Rg := [oL 14 (.next (.g 13)), oT 15 (.extract (.l 14) 0)]
def a166r6 : Rg := [oL 16 (.entry (.g 13)), oL 17 (.extract (.l 16) 0), oT 6 (.mv (.l 17))]
def a166r7 : Rg := [oL 18 (.mv (.g 6)), oL 19 (.mv (.g 1)), oT 20 (.bin .geq (.l 18) (.l 19))]
def a166r8 : Rg := [oL 21 (.fa 1 (.g 5)), oL 22 (.ld (.l 21)), oL 23 (.mv (.g 6)), oL 24 (.mv (.g 1)), oL 25 (.bin .sub (.l 23) (.l 24)), oN (.mapUpdate false (.l 22) (.l 25) cT)]
def a166l9 : ACode := (.seq (rq a166r5) (.seq (.cond (.g 15) .skip (.exit 0)) (.block 1 (.seq (rq a166r6) (.seq (rq a166r7) (.cond (.g 20) (rq a166r8) .skip))))))
def a166r10 : Rg := [oL 26 (.load 2 true (.g 5)), oN (.store 2 (.g 4) (.l 26))]
def a166b : ACode := (.seq (rq a166r0) (.seq (.seq (rq a166r1) (.cond (.g 8) (.seq (rq a166r2) .ret) .skip)) (.seq (rq a166r3) (.seq (.seq (rq a166r4) (.block 0 (.loop a166l9))) (.seq (rq a166r10) .ret)))))
def a166 : AFun := ⟨2, 27, a166b, [.cell (true, 4) 2 true]⟩
theorem c166 : compileFun Tryz.prog [0, 1, 2, 4, 5, 6, 8, 13, 15, 20] Tryz.f166 = some a166 := by kernel_rfl
/- (damask/demand.need).both -/
def a167r0 : Rg := [oT 2 (.box (.g 0)), oT 3 (.box (.g 1)), oT 4 (.alloc [bF, .nilmap])]
def a167r1 : Rg := [oL 8 (.fa 0 (.g 2)), oL 9 (.ld (.l 8)), oT 7 (.mv (.l 9))]
def a167r2 : Rg := [oL 10 (.load 2 true (.g 3)), oN (.store 2 (.g 4) (.l 10))]
def a167r3 : Rg := [oL 12 (.fa 0 (.g 3)), oL 13 (.ld (.l 12)), oT 11 (.mv (.l 13))]
def a167r4 : Rg := [oL 14 (.load 2 true (.g 2)), oN (.store 2 (.g 4) (.l 14))]
def a167r5 : Rg := [oL 15 (.cf 87 []), oT 5 (.alloc [bF, .nilmap]), oN (.store 2 (.g 5) (.l 15))]
def a167r6 : Rg := [oL 16 (.fa 1 (.g 2)), oL 17 (.ld (.l 16)), oT 18 (.range (.l 17))]
def a167r7 : Rg := [oL 19 (.next (.g 18)), oT 20 (.extract (.l 19) 0)]
def a167r8 : Rg := [oL 21 (.entry (.g 18)), oL 22 (.extract (.l 21) 0), oT 6 (.mv (.l 22))]
def a167r9 : Rg := [oL 23 (.fa 1 (.g 3)), oL 24 (.ld (.l 23)), oL 25 (.mv (.g 6)), oT 26 (.lookup false false [bF] false (.l 24) (.l 25))]
def a167r10 : Rg := [oL 27 (.fa 1 (.g 5)), oL 28 (.ld (.l 27)), oL 29 (.mv (.g 6)), oN (.mapUpdate false (.l 28) (.l 29) cT)]
def a167l11 : ACode := (.seq (rq a167r7) (.seq (.cond (.g 20) .skip (.exit 1)) (.block 2 (.seq (rq a167r8) (.seq (rq a167r9) (.cond (.g 26) (rq a167r10) .skip))))))
def a167r12 : Rg := [oL 30 (.load 2 true (.g 5)), oN (.store 2 (.g 4) (.l 30))]
def a167b : ACode := (.seq (rq a167r0) (.seq (.block 0 (.seq (rq a167r1) (.cond (.g 7) (.seq (rq a167r2) .ret) (.seq (rq a167r3) (.cond (.g 11) (.seq (rq a167r4) .ret) .skip))))) (.seq (rq a167r5) (.seq (.seq (rq a167r6) (.block 1 (.loop a167l11))) (.seq (rq a167r12) .ret)))))
def a167 : AFun := ⟨2, 31, a167b, [.cell (true, 4) 2 true]⟩
theorem c167 : compileFun Tryz.prog [0, 1, 2, 3, 4, 5, 6, 7, 11, 18, 20, 26] Tryz.f167 = some a167 := by kernel_rfl
/- damask/term.IsAction -/
def a168r0 : Rg := [oT 2 (.mv cF)]
def a168r1 : Rg := [oL 6 (.ld (.c gv_ari)), oL 7 (.mv (.g 0)), oL 8 (.lookup true true [i0] false (.l 6) (.l 7)), oL 5 (.mv (.l 8)), oL 9 (.extract (.l 5) 0), oL 10 (.extract (.l 5) 1), oL 3 (.mv (.l 9)), oT 4 (.mv (.l 10))]
def a168r2 : Rg := [oL 11 (.mv (.g 4)), oL 12 (.mv (.l 11)), oLt 13 (.ld (.c gv_pur)) 12, oLt 14 (.mv (.g 0)) 12, oLt 15 (.lookup true false [bF] false (.l 13) (.l 14)) 12, oLt 16 (.un .not (.l 15)) 12, oL 17 (.pick (.l 12) (.l 16) cF), oT 2 (.mv (.l 17))]
def a168b : ACode := (.seq (rq a168r0) (.seq (rq a168r1) (.seq (rq a168r2) .ret)))
def a168 : AFun := ⟨1, 18, a168b, [.tmp (true, 2)]⟩
theorem c168 : compileFun Tryz.prog [0, 2, 4] Tryz.f168 = some a168 := by kernel_rfl
/- damask/demand.Of -/
def a37r0 : Rg := [oT 2 (.mv (.c nl))]
def a37r1 : Rg := [oL 10 (.mv (.g 0)), oL 11 (.cf 40 [(.l 10)]), oL 9 (.mv (.l 11)), oL 12 (.extract (.l 9) 0), oL 13 (.extract (.l 9) 1), oT 3 (.mv (.l 12)), oL 4 (.mv (.l 13))]
def a37r2 : Rg := [oT 5 (.mkslice 3 0 [] true (.c .any) (.c .any))]
def a37r3 : Rg := [oT 14 (.mv (.g 0)), oT 15 (.len (.g 14)), oT 16 (.mv (ci 0))]
def a37r4 : Rg := [oT 17 (.bin .lss (.g 16) (.g 15))]
def a37r5 : Rg := [oL 18 (.ia 6 (.g 14) (.g 16)), oL 19 (.load 6 true (.l 18)), oT 7 (.alloc [s0, i0, i0, s0, nl, nl]), oN (.store 6 (.g 7) (.l 19))]
def a37r6 : Rg := [oL 20 (.mv (.g 3)), oL 21 (.nilCheck (.l 20)), oL 22 (.fa 0 (.l 21)), oL 23 (.ld (.l 22)), oL 24 (.fa 0 (.g 7)), oL 25 (.ld (.l 24)), oL 26 (.lookup true false [i0, bF, bF, bF, bF, bF, bF, bF, bF, bF] true (.l 23) (.l 25)), oT 8 (.alloc [i0, bF, bF, bF, bF, bF, bF, bF, bF, bF]), oN (.store 10 (.g 8) (.l 26))]
def a37r7 : Rg := [oL 27 (.mv (.g 5)), oL 28 (.fa 0 (.g 7)), oL 29 (.ld (.l 28)), oL 30 (.fa 1 (.g 8)), oL 31 (.fa 0 (.g 8)), oL 32 (.ld (.l 31)), oL 33 (.sliceArr 8 (.l 30) (.l 32)), oL 34 (.ct 76 [(.l 33)]), oL 35 (.fa 9 (.g 8)), oL 36 (.ld (.l 35)), oL 37 (.build [s0, nl, bF] [(0, 1, (.l 29)), (1, 1, (.l 34)), (2, 1, (.l 36))]), oL 38 (.buildSlice 3 true [s0, nl, bF] 1 [(0, (.l 37))]), oL 39 (.append 3 48 (.l 27) (.l 38)), oT 5 (.mv (.l 39))]
def a37r8 : Rg := [oL 40 (.bin .add (.g 16) (ci 1)), oT 16 (.mv (.l 40))]
def a37l9 : ACode := (.seq (rq a37r4) (.seq (.cond (.g 17) .skip (.exit 0)) (.seq (.block 1 (.seq (rq a37r5) (.seq (.seq (.reg true a37r6) (.frz 8)) (.reg true a37r7)))) (rq a37r8))))
def a37r10 : Rg := [oL 41 (.mv (.g 5)), oT 2 (.mv (.l 41))]
def a37b : ACode := (.seq (rq a37r0) (.seq (rq a37r1) (.seq (rq a37r2) (.seq (.seq (rq a37r3) (.block 0 (.loop a37l9))) (.seq (rq a37r10) .ret)))))
def a37 : AFun := ⟨1, 42, a37b, [.tmp (true, 2)]⟩
theorem c37 : compileFun Tryz.prog [0, 2, 3, 5, 7, 8, 14, 15, 16, 17, 7000000000008, 6000003] Tryz.f37 = some a37 := by kernel_rfl
/- slices.Clone[[]bool,bool] -/
def a76r0 : Rg := [oT 2 (.mv (.c nl))]
def a76r1 : Rg := [oL 3 (.mv (.g 0)), oT 4 (.isnil false (.l 3))]
def a76r2 : Rg := [oT 2 (.mv (.c nl))]
def a76r3 : Rg := [oL 5 (.buildSlice 1 false [bF] 0 []), oL 6 (.mv (.g 0)), oL 7 (.append 1 1 (.l 5) (.l 6)), oT 2 (.mv (.l 7))]
def a76b : ACode := (.seq (rq a76r0) (.seq (.seq (rq a76r1) (.cond (.g 4) (.seq (rq a76r2) .ret) .skip)) (.seq (rq a76r3) .ret)))
def a76 : AFun := ⟨1, 8, a76b, [.tmp (true, 2)]⟩
theorem c76 : compileFun Tryz.prog [0, 2, 4] Tryz.f76 = some a76 := by kernel_rfl
/- damask/demand.Program -/
def a11r0 : Rg := [oT 2 (.mv (.c nl)), oT 3 (.mv (ci 0))]
def a11r1 : Rg := [oL 4 (.mv (.g 0)), oL 5 (.cf 36 [(.l 4)]), oT 6 (.un .not (.l 5))]
def a11r2 : Rg := [oT 2 (.mv (.c nl)), oT 3 (.mv (ci 40))]
def a11r3 : Rg := [oL 7 (.mv (.g 0)), oL 8 (.cf 37 [(.l 7)]), oT 2 (.mv (.l 8)), oT 3 (.mv (ci 0))]
def a11b : ACode := (.seq (rq a11r0) (.seq (.seq (rq a11r1) (.cond (.g 6) (.seq (rq a11r2) .ret) .skip)) (.seq (rq a11r3) .ret)))
def a11 : AFun := ⟨1, 9, a11b, [.tmp (true, 2), .tmp (true, 3)]⟩
theorem c11 : compileFun Tryz.prog [0, 2, 3, 6] Tryz.f11 = some a11 := by kernel_rfl
/- damask/demand.Rounds -/
/- damask/demand.Strict -/
def a20r0 : Rg := [oT 4 (.box (.g 1)), oT 6 (.mv cF), oT 7 (.mv (ci 0))]
def a20r1 : Rg := [oL 10 (.mv (.g 0)), oL 11 (.cf 36 [(.l 10)]), oT 12 (.un .not (.l 11))]
def a20r2 : Rg := [oT 6 (.mv cF), oT 7 (.mv (ci 40))]
def a20r3 : Rg := [oL 13 (.mv (.g 0)), oL 14 (.mkfn 42 [] [(.g 4)]), oL 15 (.cf 41 [(.l 13), (.l 14)]), oT 8 (.mv (.l 15))]
def a20r4 : Rg := [oL 16 (.mv (.g 8)), oT 17 (.bin .lss (.l 16) (ci 0))]
def a20r5 : Rg := [oT 6 (.mv cF), oT 7 (.mv (ci 6))]
def a20r6 : Rg := [oL 18 (.mv (.g 0)), oL 19 (.cf 37 [(.l 18)]), oL 20 (.mv (.g 8)), oL 21 (.ia 3 (.l 19) (.l 20)), oL 22 (.load 3 true (.l 21)), oT 9 (.alloc [s0, nl, bF]), oN (.store 3 (.g 9) (.l 22))]
def a20r7 : Rg := [oL 23 (.mv (.g 2)), oL 24 (.bin .lss (.l 23) (ci 0)), oL 25 (.mv (.l 24)), oLf 26 (.mv (.g 2)) 25, oLf 27 (.fa 1 (.g 9)) 25, oLf 28 (.ld (.l 27)) 25, oLf 29 (.len (.l 28)) 25, oLf 30 (.bin .geq (.l 26) (.l 29)) 25, oT 31 (.pick (.l 25) cT (.l 30))]
def a20r8 : Rg := [oT 6 (.mv cF), oT 7 (.mv (ci 2))]
def a20r9 : Rg := [oL 32 (.fa 1 (.g 9)), oL 33 (.ld (.l 32)), oL 34 (.mv (.g 2)), oL 35 (.ia 1 (.l 33) (.l 34)), oL 36 (.ld (.l 35)), oT 6 (.mv (.l 36)), oT 7 (.mv (ci 0))]
def a20b : ACode := (.seq (rq a20r0) (.seq (.seq (rq a20r1) (.cond (.g 12) (.seq (rq a20r2) .ret) .skip)) (.seq (rq a20r3) (.seq (.seq (rq a20r4) (.cond (.g 17) (.seq (rq a20r5) .ret) .skip)) (.seq (rq a20r6) (.seq (.seq (rq a20r7) (.cond (.g 31) (.seq (rq a20r8) .ret) .skip)) (.seq (rq a20r9) .ret)))))))
def a20 : AFun := ⟨3, 37, a20b, [.tmp (true, 6), .tmp (true, 7)]⟩
theorem c20 : compileFun Tryz.prog [0, 1, 2, 4, 6, 7, 8, 9, 12, 17, 31] Tryz.f20 = some a20 := by kernel_rfl
/- slices.IndexFunc[[]damask/api.PlainGlobal,damask/api.PlainGlobal] -/
def a41r0 : Rg := [oT 4 (.mv (ci 0))]
def a41r1 : Rg := [oL 6 (.mv (.g 0)), oT 7 (.len (.l 6)), oT 8 (.mv (ci 0))]
def a41r2 : Rg := [oT 9 (.bin .lss (.g 8) (.g 7))]
def a41r3 : Rg := [oL 10 (.mv (.g 8)), oT 5 (.mv (.l 10))]
def a41r4 : Rg := [oL 11 (.mv (.g 1)), oL 12 (.mv (.g 0)), oL 13 (.mv (.g 5)), oL 14 (.ia 6 (.l 12) (.l 13)), oL 15 (.load 6 true (.l 14)), oT 16 (.call false (.l 11) [(.l 15)])]
def a41r5 : Rg := [oL 17 (.mv (.g 5)), oT 4 (.mv (.l 17))]
def a41r6 : Rg := [oL 18 (.bin .add (.g 8) (ci 1)), oT 8 (.mv (.l 18))]
def a41l7 : ACode := (.seq (rq a41r2) (.seq (.cond (.g 9) .skip (.exit 0)) (.seq (.block 1 (.seq (rq a41r3) (.seq (rq a41r4) (.cond (.g 16) (.seq (rq a41r5) .ret) .skip)))) (rq a41r6))))
def a41r8 : Rg := [oT 4 (.mv (ci (-1)))]
def a41b : ACode := (.seq (rq a41r0) (.seq (.seq (rq a41r1) (.block 0 (.loop a41l7))) (.seq (rq a41r8) .ret)))
def a41 : AFun := ⟨2, 19, a41b, [.tmp (true, 4)]⟩
theorem c41 : compileFun Tryz.prog [0, 1, 4, 5, 7, 8, 9, 16] Tryz.f41 = some a41 := by kernel_rfl
/- damask/demand.Strict$1 -/
def a42r0 : Rg := [oT 2 (.box (.g 0)), oT 3 (.mv cF)]
def a42r1 : Rg := [oL 4 (.fa 0 (.g 2)), oL 5 (.ld (.l 4)), oL 6 (.ld (.g 1)), oL 7 (.bin .eql (.l 5) (.l 6)), oT 3 (.mv (.l 7))]
def a42b : ACode := (.seq (rq a42r0) (.seq (rq a42r1) .ret))
def a42 : AFun := ⟨2, 8, a42b, [.tmp (true, 3)]⟩
theorem c42 : compileFun Tryz.prog [0, 1, 2, 3] Tryz.f42 = some a42 := by kernel_rfl
/- damask/demand.Need$1 -/
/- damask/demand.Need -/
/- damask/demand.Cheap -/
/- damask/damaskref18.Program -/
/- damask/damaskref18.round -/
/- damask/damaskref18.Same -/
def a22r0 : Rg := [oT 4 (.mv cF)]
def a22r1 : Rg := [oL 9 (.mv (.g 0)), oL 10 (.len (.l 9)), oL 11 (.mv (.g 1)), oL 12 (.len (.l 11)), oT 13 (.bin .neq (.l 10) (.l 12))]
def a22r2 : Rg := [oT 4 (.mv cF)]
def a22r3 : Rg := [oT 5 (.mv (ci 0))]
def a22r4 : Rg := [oL 14 (.mv (.g 5)), oL 15 (.mv (.g 0)), oL 16 (.len (.l 15)), oT 17 (.bin .lss (.l 14) (.l 16))]
def a22r5 : Rg := [oL 20 (.mv (.g 0)), oL 21 (.mv (.g 5)), oL 22 (.ia 3 (.l 20) (.l 21)), oL 23 (.load 3 true (.l 22)), oL 24 (.mv (.g 1)), oL 25 (.mv (.g 5)), oL 26 (.ia 3 (.l 24) (.l 25)), oL 27 (.load 3 true (.l 26)), oT 6 (.alloc [s0, nl, bF]), oT 7 (.alloc [s0, nl, bF]), ⟨none, .store 3 (.g 6) (.l 23), none, [7]⟩, oN (.store 3 (.g 7) (.l 27))]
def a22r6 : Rg := [oL 28 (.fa 0 (.g 6)), oL 29 (.ld (.l 28)), oL 30 (.fa 0 (.g 7)), oL 31 (.ld (.l 30)), oL 32 (.bin .neq (.l 29) (.l 31)), oL 33 (.mv (.l 32)), oLf 34 (.fa 2 (.g 6)) 33, oLf 35 (.ld (.l 34)) 33, oLf 36 (.fa 2 (.g 7)) 33, oLf 37 (.ld (.l 36)) 33, oLf 38 (.eqb true (.l 35) (.l 37)) 33, oL 39 (.pick (.l 33) cT (.l 38)), oL 40 (.mv (.l 39)), oLf 41 (.fa 1 (.g 6)) 40, oLf 42 (.ld (.l 41)) 40, oLf 43 (.len (.l 42)) 40, oLf 44 (.fa 1 (.g 7)) 40, oLf 45 (.ld (.l 44)) 40, oLf 46 (.len (.l 45)) 40, oLf 47 (.bin .neq (.l 43) (.l 46)) 40, oT 48 (.pick (.l 40) cT (.l 47))]
def a22r7 : Rg := [oT 4 (.mv cF)]
def a22r8 : Rg := [oT 8 (.mv (ci 0))]
def a22r9 : Rg := [oL 49 (.mv (.g 8)), oL 50 (.fa 1 (.g 6)), oL 51 (.ld (.l 50)), oL 52 (.len (.l 51)), oT 53 (.bin .lss (.l 49) (.l 52))]
def a22r10 : Rg := [oL 56 (.fa 1 (.g 6)), oL 57 (.ld (.l 56)), oL 58 (.mv (.g 8)), oL 59 (.ia 1 (.l 57) (.l 58)), oL 60 (.ld (.l 59)), oL 61 (.fa 1 (.g 7)), oL 62 (.ld (.l 61)), oL 63 (.mv (.g 8)), oL 64 (.ia 1 (.l 62) (.l 63)), oL 65 (.ld (.l 64)), oT 66 (.eqb true (.l 60) (.l 65))]
def a22r11 : Rg := [oT 4 (.mv cF)]
def a22r12 : Rg := [oL 54 (.mv (.g 8)), oL 55 (.bin .add (.l 54) (ci 1)), oT 8 (.mv (.l 55))]
def a22l13 : ACode := (.seq (.seq (rq a22r9) (.cond (.g 53) .skip (.exit 2))) (.seq (.block 3 (.seq (.reg true a22r10) (.cond (.g 66) (.seq (rq a22r11) .ret) .skip))) (rq a22r12)))
def a22r14 : Rg := [oL 18 (.mv (.g 5)), oL 19 (.bin .add (.l 18) (ci 1)), oT 5 (.mv (.l 19))]
def a22l15 : ACode := (.seq (.seq (rq a22r4) (.cond (.g 17) .skip (.exit 0))) (.seq (.block 1 (.seq (.reg true a22r5) (.seq (.seq (rq a22r6) (.cond (.g 48) (.seq (rq a22r7) .ret) .skip)) (.seq (rq a22r8) (.block 2 (.loop a22l13)))))) (rq a22r14)))
def a22r16 : Rg := [oT 4 (.mv cT)]
def a22b : ACode := (.seq (rq a22r0) (.seq (.seq (rq a22r1) (.cond (.g 13) (.seq (rq a22r2) .ret) .skip)) (.seq (.seq (rq a22r3) (.block 0 (.loop a22l15))) (.seq (rq a22r16) .ret))))
def a22 : AFun := ⟨2, 67, a22b, [.tmp (true, 4)]⟩
theorem c22 : compileFun Tryz.prog [0, 1, 4, 5, 6, 7, 8, 13, 17, 48, 53, 66] Tryz.f22 = some a22 := by kernel_rfl
/- (damask/damaskref18.Known).Of -/
/- (damask/damaskref18.Known).app -/
def a53r0 : Rg := [oT 2 (.box (.g 0)), oT 3 (.box (.g 1)), oT 4 (.alloc [bF, nl])]
def a53r1 : Rg := [oL 14 (.fa 3 (.g 3)), oL 15 (.ld (.l 14)), oL 16 (.ia 5 (.l 15) (ci 0)), oL 17 (.load 5 true (.l 16)), oL 18 (.fa 3 (.g 3)), oL 19 (.ld (.l 18)), oL 20 (.slice 5 (.l 19) (some (ci 1)) none none), oT 5 (.alloc [i0, i0, s0, nl, nl]), ⟨none, .store 5 (.g 5) (.l 17), none, [5]⟩, oT 6 (.mv (.l 20))]
def a53r2 : Rg := [oL 21 (.fa 0 (.g 5)), oL 22 (.ld (.l 21)), oL 23 (.bin .eql (.l 22) (ci 5)), oL 24 (.mv (.l 23)), oLt 25 (.mv (.g 6)) 24, oLt 26 (.len (.l 25)) 24, oLt 27 (.fa 1 (.g 5)) 24, oLt 28 (.ld (.l 27)) 24, oLt 29 (.bin .geq (.l 26) (.l 28)) 24, oT 30 (.pick (.l 24) (.l 29) cF)]
def a53r3 : Rg := [oL 31 (.load 2 true (.g 2)), oL 32 (.fa 3 (.g 5)), oL 33 (.ld (.l 32)), oL 34 (.ia 5 (.l 33) (ci 0)), oL 35 (.load 5 true (.l 34)), oL 36 (.ct 29 [(.l 31), (.l 35)]), oT 7 (.alloc [bF, nl]), oN (.store 2 (.g 7) (.l 36))]
def a53r4 : Rg := [oL 37 (.load 2 true (.g 7)), oL 38 (.fa 1 (.g 5)), oL 39 (.ld (.l 38)), oL 40 (.cf 94 [(.l 37), (.l 39)]), oT 8 (.alloc [bF, nl]), oN (.store 2 (.g 8) (.l 40))]
def a53r5 : Rg := [oT 9 (.mv (ci 0))]
def a53r6 : Rg := [oL 41 (.mv (.g 9)), oL 42 (.fa 1 (.g 5)), oL 43 (.ld (.l 42)), oT 44 (.bin .lss (.l 41) (.l 43))]
def a53r7 : Rg := [oL 47 (.fa 0 (.g 7)), oL 48 (.ld (.l 47)), oL 49 (.un .not (.l 48)), oL 50 (.mv (.l 49)), oLt 51 (.load 2 true (.g 7)) 50, oLt 52 (.fa 1 (.g 5)) 50, oLt 53 (.ld (.l 52)) 50, oLt 54 (.bin .sub (.l 53) (ci 1)) 50, oLt 55 (.mv (.g 9)) 50, oLt 56 (.bin .sub (.l 54) (.l 55)) 50, oLt 57 (.cf 81 [(.l 51), (.l 56)]) 50, oT 58 (.pick (.l 50) (.l 57) cF)]
def a53r8 : Rg := [oL 59 (.load 2 true (.g 8)), oL 60 (.load 2 true (.g 2)), oL 61 (.mv (.g 6)), oL 62 (.mv (.g 9)), oL 63 (.ia 5 (.l 61) (.l 62)), oL 64 (.load 5 true (.l 63)), oL 65 (.ct 29 [(.l 60), (.l 64)]), oL 66 (.ct 57 [(.l 59), (.l 65)]), oN (.store 2 (.g 8) (.l 66))]
def a53r9 : Rg := [oL 45 (.mv (.g 9)), oL 46 (.bin .add (.l 45) (ci 1)), oT 9 (.mv (.l 46))]
def a53l10 : ACode := (.seq (.seq (rq a53r6) (.cond (.g 44) .skip (.exit 0))) (.seq (.block 1 (.seq (rq a53r7) (.cond (.g 58) (.reg true a53r8) .skip))) (rq a53r9)))
def a53r11 : Rg := [oL 67 (.load 2 true (.g 8)), oN (.store 2 (.g 4) (.l 67))]
def a53r12 : Rg := [oL 68 (.fa 0 (.g 5)), oL 69 (.ld (.l 68)), oT 70 (.bin .neq (.l 69) (ci 2))]
def a53r13 : Rg := [oL 71 (.load 2 true (.g 2)), oL 72 (.load 5 true (.g 5)), oL 73 (.cf 29 [(.l 71), (.l 72)]), oN (.store 2 (.g 4) (.l 73))]
def a53r14 : Rg := [oL 74 (.fa 0 (.g 2)), oL 75 (.ld (.l 74)), oL 76 (.fa 2 (.g 5)), oL 77 (.ld (.l 76)), oL 78 (.cf 23 [(.l 75), (.l 77)]), oT 10 (.mv (.l 78))]
def a53r15 : Rg := [oL 79 (.fa 0 (.g 2)), oL 80 (.ld (.l 79)), oL 81 (.mv (.g 10)), oL 82 (.ia 6 (.l 80) (.l 81)), oL 83 (.load 6 true (.l 82)), oL 84 (.cf 13 [(.l 83)]), oT 11 (.mv (.l 84))]
def a53r16 : Rg := [oL 85 (.mv (.g 11)), oT 86 (.bin .eql (.l 85) (ci 0))]
def a53r17 : Rg := [oL 87 (.load 2 true (.g 2)), oL 88 (.load 5 true (.g 5)), oL 89 (.cf 29 [(.l 87), (.l 88)]), oN (.store 2 (.g 4) (.l 89))]
def a53r18 : Rg := [oL 90 (.mv (.g 6)), oL 91 (.len (.l 90)), oL 92 (.mv (.g 11)), oL 93 (.bin .lss (.l 91) (.l 92)), oL 94 (.mv (.l 93)), oLf 95 (.fa 1 (.g 2)) 94, oLf 96 (.ld (.l 95)) 94, oLf 97 (.mv (.g 10)) 94, oLf 98 (.ia 3 (.l 96) (.l 97)) 94, oLf 99 (.fa 2 (.l 98)) 94, oLf 100 (.ld (.l 99)) 94, oT 101 (.pick (.l 94) cT (.l 100))]
def a53r19 : Rg := [oL 102 (.mv (.g 6)), oL 103 (.len (.l 102)), oL 104 (.mv (.g 11)), oL 105 (.bin .geq (.l 103) (.l 104)), oL 106 (.build [bF, nl] [(0, 1, (.l 105))]), oN (.store 2 (.g 4) (.l 106))]
def a53r20 : Rg := [oT 12 (.alloc [bF, nl])]
def a53r21 : Rg := [oT 13 (.mv (ci 0))]
def a53r22 : Rg := [oL 107 (.mv (.g 13)), oL 108 (.mv (.g 11)), oT 109 (.bin .lss (.l 107) (.l 108))]
def a53r23 : Rg := [oL 112 (.fa 1 (.g 2)), oL 113 (.ld (.l 112)), oL 114 (.mv (.g 10)), oL 115 (.ia 3 (.l 113) (.l 114)), oL 116 (.fa 1 (.l 115)), oL 117 (.ld (.l 116)), oL 118 (.mv (.g 13)), oL 119 (.ia 1 (.l 117) (.l 118)), oT 120 (.ld (.l 119))]
def a53r24 : Rg := [oL 121 (.load 2 true (.g 12)), oL 122 (.load 2 true (.g 2)), oL 123 (.mv (.g 6)), oL 124 (.mv (.g 13)), oL 125 (.ia 5 (.l 123) (.l 124)), oL 126 (.load 5 true (.l 125)), oL 127 (.ct 29 [(.l 122), (.l 126)]), oL 128 (.ct 57 [(.l 121), (.l 127)]), oN (.store 2 (.g 12) (.l 128))]
def a53r25 : Rg := [oL 110 (.mv (.g 13)), oL 111 (.bin .add (.l 110) (ci 1)), oT 13 (.mv (.l 111))]
def a53l26 : ACode := (.seq (.seq (rq a53r22) (.cond (.g 109) .skip (.exit 2))) (.seq (.block 3 (.seq (rq a53r23) (.cond (.g 120) (.reg true a53r24) .skip))) (rq a53r25)))
def a53r27 : Rg := [oL 129 (.load 2 true (.g 12)), oN (.store 2 (.g 4) (.l 129))]
def a53b : ACode := (.seq (rq a53r0) (.seq (.reg true a53r1) (.seq (.seq (rq a53r2) (.cond (.g 30) (.seq (.reg true a53r3) (.seq (rq a53r4) (.seq (.seq (rq a53r5) (.block 0 (.loop a53l10))) (.seq (rq a53r11) .ret)))) .skip)) (.seq (.seq (rq a53r12) (.cond (.g 70) (.seq (rq a53r13) .ret) .skip)) (.seq (rq a53r14) (.seq (rq a53r15) (.seq (.seq (rq a53r16) (.cond (.g 86) (.seq (rq a53r17) .ret) .skip)) (.seq (.seq (rq a53r18) (.cond (.g 101) (.seq (rq a53r19) .ret) .skip)) (.seq (rq a53r20) (.seq (.seq (rq a53r21) (.block 2 (.loop a53l26))) (.seq (rq a53r27) .ret)))))))))))
def a53 : AFun := ⟨2, 130, a53b, [.cell (true, 4) 2 true]⟩
/- (damask/damaskref18.Known).let -/
/- (damask/damaskref18.Known).cases -/
/- (damask/damaskref18.Need).with -/
/- (damask/damaskref18.Need).has -/
/- (damask/damaskref18.Need).out -/
/- (damask/damaskref18.Need).meet -/
/- damask/damaskref18.Wants -/
/- damask/damaskref18.Cheap -/
/- damask/damasklaw18.awake -/
def a10r0 : Rg := [oT 0 (.mv cF)]
def a10r1 : Rg := [oL 10 (.cf 35 []), oL 11 (.cf 11 [(.l 10)]), oL 9 (.mv (.l 11)), oL 12 (.extract (.l 9) 0), oL 13 (.extract (.l 9) 1), oT 1 (.mv (.l 12)), oT 2 (.mv (.l 13))]
def a10r2 : Rg := [oL 15 (.cf 35 []), oL 16 (.cf 20 [(.l 15), (.c (.str ⟨#[107]⟩)), (ci 1)]), oL 14 (.mv (.l 16)), oL 17 (.extract (.l 14) 0), oL 18 (.extract (.l 14) 1), oT 3 (.mv (.l 17)), oT 4 (.mv (.l 18))]
def a10r3 : Rg := [oL 20 (.cf 35 []), oL 21 (.cf 20 [(.l 20), (.c (.str ⟨#[107]⟩)), (ci 2)]), oL 19 (.mv (.l 21)), oL 22 (.extract (.l 19) 0), oL 23 (.extract (.l 19) 1), oL 5 (.mv (.l 22)), oT 6 (.mv (.l 23))]
def a10r4 : Rg := [oL 25 (.cf 35 []), oL 26 (.cf 20 [(.l 25), (.c (.str ⟨#[120]⟩)), (ci 0)]), oL 24 (.mv (.l 26)), oL 27 (.extract (.l 24) 0), oL 28 (.extract (.l 24) 1), oL 7 (.mv (.l 27)), oT 8 (.mv (.l 28))]
def a10r5 : Rg := [oL 29 (.mv (.g 2)), oL 30 (.bin .neq (.l 29) (ci 0)), oL 31 (.mv (.l 30)), oLf 32 (.mv (.g 1)) 31, oLf 33 (.len (.l 32)) 31, oLf 34 (.bin .neq (.l 33) (ci 2)) 31, oL 35 (.pick (.l 31) cT (.l 34)), oL 36 (.mv (.l 35)), oLf 37 (.mv (.g 1)) 36, oLf 38 (.ia 3 (.l 37) (ci 0)) 36, oLf 39 (.fa 2 (.l 38)) 36, oLf 40 (.ld (.l 39)) 36, oLf 41 (.un .not (.l 40)) 36, oL 42 (.pick (.l 36) cT (.l 41)), oL 43 (.mv (.l 42)), oLf 44 (.mv (.g 1)) 43, oLf 45 (.ia 3 (.l 44) (ci 1)) 43, oLf 46 (.fa 1 (.l 45)) 43, oLf 47 (.ld (.l 46)) 43, oLf 48 (.len (.l 47)) 43, oLf 49 (.bin .neq (.l 48) (ci 2)) 43, oL 50 (.pick (.l 43) cT (.l 49)), oL 51 (.mv (.l 50)), oLf 52 (.mv (.g 1)) 51, oLf 53 (.ia 3 (.l 52) (ci 1)) 51, oLf 54 (.fa 1 (.l 53)) 51, oLf 55 (.ld (.l 54)) 51, oLf 56 (.ia 1 (.l 55) (ci 0)) 51, oLf 57 (.ld (.l 56)) 51, oL 58 (.pick (.l 51) cT (.l 57)), oL 59 (.mv (.l 58)), oLf 60 (.mv (.g 1)) 59, oLf 61 (.ia 3 (.l 60) (ci 1)) 59, oLf 62 (.fa 1 (.l 61)) 59, oLf 63 (.ld (.l 62)) 59, oLf 64 (.ia 1 (.l 63) (ci 1)) 59, oLf 65 (.ld (.l 64)) 59, oLf 66 (.un .not (.l 65)) 59, oL 67 (.pick (.l 59) cT (.l 66)), oL 68 (.mv (.l 67)), oLf 69 (.mv (.g 1)) 68, oLf 70 (.ia 3 (.l 69) (ci 1)) 68, oLf 71 (.fa 2 (.l 70)) 68, oLf 72 (.ld (.l 71)) 68, oL 73 (.pick (.l 68) cT (.l 72)), oL 74 (.mv (.l 73)), oLf 75 (.mv (.g 4)) 74, oLf 76 (.bin .neq (.l 75) (ci 0)) 74, oL 77 (.pick (.l 74) cT (.l 76)), oL 78 (.mv (.l 77)), oLf 79 (.mv (.g 3)) 78, oLf 80 (.un .not (.l 79)) 78, oT 81 (.pick (.l 78) cT (.l 80))]
def a10r6 : Rg := [oT 0 (.mv cF)]
def a10r7 : Rg := [oL 82 (.mv (.g 6)), oL 83 (.bin .eql (.l 82) (ci 2)), oL 84 (.mv (.l 83)), oLt 85 (.mv (.g 8)) 84, oLt 86 (.bin .eql (.l 85) (ci 6)) 84, oL 87 (.pick (.l 84) (.l 86) cF), oL 88 (.mv (.l 87)), oL 89 (.pick (.l 88) cT cF), oT 0 (.mv (.l 89))]
def a10b : ACode := (.seq (rq a10r0) (.seq (rq a10r1) (.seq (rq a10r2) (.seq (rq a10r3) (.seq (rq a10r4) (.seq (.seq (rq a10r5) (.cond (.g 81) (.seq (rq a10r6) .ret) .skip)) (.seq (rq a10r7) .ret)))))))
def a10 : AFun := ⟨0, 90, a10b, [.tmp (true, 0)]⟩
theorem c10 : compileFun Tryz.prog [0, 1, 2, 3, 4, 6, 8, 81] Tryz.f10 = some a10 := by kernel_rfl
/- damask/damasklaw18.sample -/
def a35r0 : Rg := [oT 0 (.mv (.c nl))]
def a35r1 : Rg := [oL 4 (.build [i0, i0, s0, nl, nl] [(0, 1, (ci 2)), (2, 1, (.c (.str ⟨#[104]⟩)))]), oL 5 (.build [i0, i0, s0, nl, nl] [(0, 1, (ci 1))]), oL 6 (.buildSlice 5 true [i0, i0, s0, nl, nl] 2 [(0, (.l 4)), (1, (.l 5))]), oT 1 (.mv (.l 6))]
def a35r2 : Rg := [oL 7 (.mv (.g 1)), oL 8 (.build [i0, i0, s0, nl, nl] [(0, 1, (ci 6)), (3, 1, (.l 7))]), oL 9 (.buildSlice 5 true [i0, i0, s0, nl, nl] 1 [(0, (.l 8))]), oL 10 (.build [i0, i0, s0, nl, nl] [(0, 1, (ci 5)), (1, 1, (ci 1)), (3, 1, (.l 9))]), oT 2 (.alloc [i0, i0, s0, nl, nl]), oN (.store 5 (.g 2) (.l 10))]
def a35r3 : Rg := [oL 11 (.build [i0, i0, s0, nl, nl] [(0, 1, (ci 1))]), oL 12 (.buildSlice 5 true [i0, i0, s0, nl, nl] 1 [(0, (.l 11))]), oL 13 (.build [i0, i0, s0, nl, nl] [(0, 1, (ci 1)), (1, 1, (ci 2))]), oL 14 (.build [i0, s0, i0, i0, i0, s0, nl, nl] [(0, 1, (ci 3)), (2, 1, (ci 1)), (3, 5, (.l 13))]), oL 15 (.build [i0, i0, s0, nl, nl] [(0, 1, (ci 3))]), oL 16 (.build [i0, s0, i0, i0, i0, s0, nl, nl] [(0, 1, (ci 1)), (3, 5, (.l 15))]), oL 17 (.buildSlice 8 true [i0, s0, i0, i0, i0, s0, nl, nl] 2 [(0, (.l 14)), (1, (.l 16))]), oL 18 (.build [i0, i0, s0, nl, nl] [(0, 1, (ci 8)), (3, 1, (.l 12)), (4, 1, (.l 17))]), oT 3 (.alloc [i0, i0, s0, nl, nl]), oN (.store 5 (.g 3) (.l 18))]
def a35r4 : Rg := [oL 19 (.load 5 true (.g 2)), oL 20 (.build [s0, i0, i0, s0, nl, nl] [(0, 1, (.c (.str ⟨#[104]⟩))), (1, 5, (.l 19))]), oL 21 (.load 5 true (.g 3)), oL 22 (.buildSlice 5 true [i0, i0, s0, nl, nl] 1 [(0, (.l 21))]), oL 23 (.build [i0, i0, s0, nl, nl] [(0, 1, (ci 5)), (1, 1, (ci 2)), (3, 1, (.l 22))]), oL 24 (.build [s0, i0, i0, s0, nl, nl] [(0, 1, (.c (.str ⟨#[107]⟩))), (1, 5, (.l 23))]), oL 25 (.buildSlice 6 true [s0, i0, i0, s0, nl, nl] 2 [(0, (.l 20)), (1, (.l 24))]), oT 0 (.mv (.l 25))]
def a35b : ACode := (.seq (rq a35r0) (.seq (rq a35r1) (.seq (rq a35r2) (.seq (rq a35r3) (.seq (rq a35r4) .ret)))))
def a35 : AFun := ⟨0, 26, a35b, [.tmp (true, 0)]⟩
theorem c35 : compileFun Tryz.prog [0, 1, 2, 3] Tryz.f35 = some a35 := by kernel_rfl
/- damask/damasklaw18.DemandPrograms -/
def a4r0 : Rg := [oT 6 (.mv cF)]
def a4r1 : Rg := [oL 16 (.mv (.g 0)), oL 17 (.build [i0, i0, s0, nl, nl] []), oL 18 (.cf 8 [(.l 16), (.l 17)]), oT 19 (.un .not (.l 18))]
def a4r2 : Rg := [oL 20 (.cf 10 []), oT 6 (.mv (.l 20))]
def a4r3 : Rg := [oL 22 (.mv (.g 0)), oL 23 (.cf 11 [(.l 22)]), oL 21 (.mv (.l 23)), oL 24 (.extract (.l 21) 0), oL 25 (.extract (.l 21) 1), oT 7 (.mv (.l 24)), oT 8 (.mv (.l 25))]
def a4r4 : Rg := [oL 27 (.mv (.g 0)), oL 28 (.cf 19 [(.l 27)]), oL 26 (.mv (.l 28)), oL 29 (.extract (.l 26) 0), oL 30 (.extract (.l 26) 1), oT 9 (.mv (.l 29)), oT 10 (.mv (.l 30))]
def a4r5 : Rg := [oL 32 (.mv (.g 0)), oL 33 (.mv (.g 1)), oL 34 (.mv (.g 2)), oL 35 (.cf 20 [(.l 32), (.l 33), (.l 34)]), oL 31 (.mv (.l 35)), oL 36 (.extract (.l 31) 0), oL 37 (.extract (.l 31) 1), oT 11 (.mv (.l 36)), oT 12 (.mv (.l 37))]
def a4r6 : Rg := [oL 38 (.mv (.g 0)), oL 39 (.cf 9 [(.l 38)]), oT 40 (.un .not (.l 39))]
def a4r7 : Rg := [oL 41 (.mv (.g 7)), oL 42 (.len (.l 41)), oL 43 (.bin .eql (.l 42) (ci 0)), oL 44 (.mv (.l 43)), oLt 45 (.mv (.g 8)) 44, oLt 46 (.bin .eql (.l 45) (ci 40)) 44, oL 47 (.pick (.l 44) (.l 46) cF), oL 48 (.mv (.l 47)), oLt 49 (.mv (.g 9)) 48, oLt 50 (.bin .eql (.l 49) (ci 0)) 48, oL 51 (.pick (.l 48) (.l 50) cF), oL 52 (.mv (.l 51)), oLt 53 (.mv (.g 10)) 52, oLt 54 (.bin .eql (.l 53) (ci 40)) 52, oL 55 (.pick (.l 52) (.l 54) cF), oL 56 (.mv (.l 55)), oLt 57 (.mv (.g 11)) 56, oLt 58 (.un .not (.l 57)) 56, oL 59 (.pick (.l 56) (.l 58) cF), oL 60 (.mv (.l 59)), oLt 61 (.mv (.g 12)) 60, oLt 62 (.bin .eql (.l 61) (ci 40)) 60, oL 63 (.pick (.l 60) (.l 62) cF), oL 64 (.mv (.l 63)), oLt 65 (.cf 10 []) 64, oL 66 (.pick (.l 64) (.l 65) cF), oT 6 (.mv (.l 66))]
def a4r8 : Rg := [oL 68 (.mv (.g 0)), oL 69 (.cf 21 [(.l 68)]), oL 67 (.mv (.l 69)), oL 70 (.extract (.l 67) 0), oL 71 (.extract (.l 67) 1), oT 13 (.mv (.l 70)), oT 14 (.mv (.l 71))]
def a4r9 : Rg := [oL 72 (.mv (.g 7)), oL 73 (.mv (.g 13)), oL 74 (.cf 22 [(.l 72), (.l 73)]), oL 75 (.un .not (.l 74)), oL 76 (.mv (.l 75)), oLf 77 (.mv (.g 8)) 76, oLf 78 (.bin .neq (.l 77) (ci 0)) 76, oL 79 (.pick (.l 76) cT (.l 78)), oL 80 (.mv (.l 79)), oLf 81 (.mv (.g 9)) 80, oLf 82 (.mv (.g 14)) 80, oLf 83 (.bin .neq (.l 81) (.l 82)) 80, oL 84 (.pick (.l 80) cT (.l 83)), oL 85 (.mv (.l 84)), oLf 86 (.mv (.g 10)) 85, oLf 87 (.bin .neq (.l 86) (ci 0)) 85, oT 88 (.pick (.l 85) cT (.l 87))]
def a4r10 : Rg := [oT 6 (.mv cF)]
def a4r11 : Rg := [oL 89 (.mv (.g 0)), oL 90 (.mv (.g 1)), oL 91 (.cf 23 [(.l 89), (.l 90)]), oT 15 (.mv (.l 91))]
def a4r12 : Rg := [oL 92 (.mv (.g 15)), oT 93 (.bin .lss (.l 92) (ci 0))]
def a4r13 : Rg := [oL 94 (.mv (.g 11)), oL 95 (.un .not (.l 94)), oL 96 (.mv (.l 95)), oLt 97 (.mv (.g 12)) 96, oLt 98 (.bin .eql (.l 97) (ci 6)) 96, oL 99 (.pick (.l 96) (.l 98) cF), oL 100 (.mv (.l 99)), oLt 101 (.cf 10 []) 100, oL 102 (.pick (.l 100) (.l 101) cF), oT 6 (.mv (.l 102))]
def a4r14 : Rg := [oL 103 (.mv (.g 2)), oL 104 (.bin .lss (.l 103) (ci 0)), oL 105 (.mv (.l 104)), oLf 106 (.mv (.g 2)) 105, oLf 107 (.mv (.g 13)) 105, oLf 108 (.mv (.g 15)) 105, oLf 109 (.ia 3 (.l 107) (.l 108)) 105, oLf 110 (.fa 1 (.l 109)) 105, oLf 111 (.ld (.l 110)) 105, oLf 112 (.len (.l 111)) 105, oLf 113 (.bin .geq (.l 106) (.l 112)) 105, oT 114 (.pick (.l 105) cT (.l 113))]
def a4r15 : Rg := [oL 115 (.mv (.g 11)), oL 116 (.un .not (.l 115)), oL 117 (.mv (.l 116)), oLt 118 (.mv (.g 12)) 117, oLt 119 (.bin .eql (.l 118) (ci 2)) 117, oL 120 (.pick (.l 117) (.l 119) cF), oL 121 (.mv (.l 120)), oLt 122 (.cf 10 []) 121, oL 123 (.pick (.l 121) (.l 122) cF), oT 6 (.mv (.l 123))]
def a4r16 : Rg := [oL 124 (.mv (.g 11)), oL 125 (.mv (.g 13)), oL 126 (.mv (.g 15)), oL 127 (.ia 3 (.l 125) (.l 126)), oL 128 (.fa 1 (.l 127)), oL 129 (.ld (.l 128)), oL 130 (.mv (.g 2)), oL 131 (.ia 1 (.l 129) (.l 130)), oL 132 (.ld (.l 131)), oL 133 (.eqb false (.l 124) (.l 132)), oL 134 (.mv (.l 133)), oLt 135 (.mv (.g 12)) 134, oLt 136 (.bin .eql (.l 135) (ci 0)) 134, oL 137 (.pick (.l 134) (.l 136) cF), oL 138 (.mv (.l 137)), oLt 139 (.cf 10 []) 138, oL 140 (.pick (.l 138) (.l 139) cF), oT 6 (.mv (.l 140))]
def a4b : ACode := (.seq (rq a4r0) (.seq (.seq (rq a4r1) (.cond (.g 19) (.seq (rq a4r2) .ret) .skip)) (.seq (rq a4r3) (.seq (rq a4r4) (.seq (rq a4r5) (.seq (.seq (rq a4r6) (.cond (.g 40) (.seq (rq a4r7) .ret) .skip)) (.seq (rq a4r8) (.seq (.seq (rq a4r9) (.cond (.g 88) (.seq (rq a4r10) .ret) .skip)) (.seq (rq a4r11) (.seq (.seq (rq a4r12) (.cond (.g 93) (.seq (rq a4r13) .ret) .skip)) (.seq (.seq (rq a4r14) (.cond (.g 114) (.seq (rq a4r15) .ret) .skip)) (.seq (rq a4r16) .ret))))))))))))
def a4 : AFun := ⟨3, 141, a4b, [.tmp (true, 6)]⟩
/- damask/damasklaw18.DemandNeeds -/
def a5r0 : Rg := [oT 3 (.box (.g 1)), oT 4 (.mv cF)]
def a5r1 : Rg := [oL 12 (.mv (.g 0)), oL 13 (.load 5 true (.g 3)), oL 14 (.cf 8 [(.l 12), (.l 13)]), oT 15 (.un .not (.l 14))]
def a5r2 : Rg := [oL 16 (.cf 10 []), oT 4 (.mv (.l 16))]
def a5r3 : Rg := [oL 17 (.load 5 true (.g 3)), oL 18 (.ct 24 [(.l 17)]), oL 19 (.load 5 true (.g 3)), oL 20 (.ct 25 [(.l 19)]), oT 21 (.eqb true (.l 18) (.l 20))]
def a5r4 : Rg := [oT 4 (.mv cF)]
def a5r5 : Rg := [oL 23 (.mv (.g 0)), oL 24 (.load 5 true (.g 3)), oL 25 (.cf 26 [(.l 23), (.l 24)]), oL 22 (.mv (.l 25)), oL 26 (.extract (.l 22) 0), oL 27 (.extract (.l 22) 1), oL 28 (.extract (.l 22) 2), oT 5 (.mv (.l 26)), oT 6 (.mv (.l 27)), oT 7 (.mv (.l 28))]
def a5r6 : Rg := [oL 29 (.mv (.g 0)), oL 30 (.cf 9 [(.l 29)]), oL 31 (.un .not (.l 30)), oL 32 (.mv (.l 31)), oLf 33 (.load 5 true (.g 3)) 32, oLf 34 (.cf 27 [(.l 33)]) 32, oLf 35 (.un .not (.l 34)) 32, oL 36 (.pick (.l 32) cT (.l 35)), oL 37 (.mv (.l 36)), oLf 38 (.mv (.g 0)) 37, oLf 39 (.load 5 true (.g 3)) 37, oLf 40 (.cf 28 [(.l 38), (.l 39)]) 37, oLf 41 (.un .not (.l 40)) 37, oT 42 (.pick (.l 37) cT (.l 41))]
def a5r7 : Rg := [oL 43 (.mv (.g 5)), oL 44 (.len (.l 43)), oL 45 (.bin .eql (.l 44) (ci 0)), oL 46 (.mv (.l 45)), oLt 47 (.mv (.g 6)) 46, oLt 48 (.un .not (.l 47)) 46, oL 49 (.pick (.l 46) (.l 48) cF), oL 50 (.mv (.l 49)), oLt 51 (.mv (.g 7)) 50, oLt 52 (.bin .eql (.l 51) (ci 40)) 50, oL 53 (.pick (.l 50) (.l 52) cF), oL 54 (.mv (.l 53)), oLt 55 (.cf 10 []) 54, oL 56 (.pick (.l 54) (.l 55) cF), oT 4 (.mv (.l 56))]
def a5r8 : Rg := [oL 58 (.mv (.g 0)), oL 59 (.cf 21 [(.l 58)]), oL 57 (.mv (.l 59)), oL 60 (.extract (.l 57) 0), oL 61 (.extract (.l 57) 1), oT 8 (.mv (.l 60)), oL 9 (.mv (.l 61))]
def a5r9 : Rg := [oL 62 (.mv (.g 0)), oL 63 (.mv (.g 8)), oL 64 (.build [nl, nl] [(0, 1, (.l 62)), (1, 1, (.l 63))]), oL 65 (.load 5 true (.g 3)), oL 66 (.cf 29 [(.l 64), (.l 65)]), oT 10 (.alloc [bF, nl]), oN (.store 2 (.g 10) (.l 66))]
def a5r10 : Rg := [oL 67 (.mv (.g 7)), oL 68 (.bin .neq (.l 67) (ci 0)), oL 69 (.mv (.l 68)), oLf 70 (.mv (.g 6)) 69, oLf 71 (.fa 0 (.g 10)) 69, oLf 72 (.ld (.l 71)) 69, oLf 73 (.eqb true (.l 70) (.l 72)) 69, oL 74 (.pick (.l 69) cT (.l 73)), oL 75 (.mv (.l 74)), oLf 76 (.mv (.g 5)) 75, oLf 77 (.len (.l 76)) 75, oLf 78 (.fa 1 (.g 10)) 75, oLf 79 (.ld (.l 78)) 75, oLf 80 (.len (.l 79)) 75, oLf 81 (.bin .neq (.l 77) (.l 80)) 75, oT 82 (.pick (.l 75) cT (.l 81))]
def a5r11 : Rg := [oT 4 (.mv cF)]
def a5r12 : Rg := [oT 11 (.mv (ci 0))]
def a5r13 : Rg := [oL 83 (.mv (.g 11)), oL 84 (.mv (.g 5)), oL 85 (.len (.l 84)), oT 86 (.bin .lss (.l 83) (.l 85))]
def a5r14 : Rg := [oL 89 (.mv (.g 5)), oL 90 (.mv (.g 11)), oL 91 (.ia 1 (.l 89) (.l 90)), oL 92 (.ld (.l 91)), oL 93 (.fa 1 (.g 10)), oL 94 (.ld (.l 93)), oL 95 (.mv (.g 11)), oL 96 (.ia 1 (.l 94) (.l 95)), oL 97 (.ld (.l 96)), oT 98 (.bin .neq (.l 92) (.l 97))]
def a5r15 : Rg := [oT 4 (.mv cF)]
def a5r16 : Rg := [oL 87 (.mv (.g 11)), oL 88 (.bin .add (.l 87) (ci 1)), oT 11 (.mv (.l 88))]
def a5l17 : ACode := (.seq (.seq (rq a5r13) (.cond (.g 86) .skip (.exit 0))) (.seq (.block 1 (.seq (.reg true a5r14) (.cond (.g 98) (.seq (rq a5r15) .ret) .skip))) (rq a5r16)))
def a5r18 : Rg := [oL 99 (.cf 10 []), oT 4 (.mv (.l 99))]
def a5b : ACode := (.seq (rq a5r0) (.seq (.seq (rq a5r1) (.cond (.g 15) (.seq (rq a5r2) .ret) .skip)) (.seq (.seq (.reg true a5r3) (.cond (.g 21) (.seq (rq a5r4) .ret) .skip)) (.seq (rq a5r5) (.seq (.seq (rq a5r6) (.cond (.g 42) (.seq (rq a5r7) .ret) .skip)) (.seq (rq a5r8) (.seq (rq a5r9) (.seq (.seq (rq a5r10) (.cond (.g 82) (.seq (rq a5r11) .ret) .skip)) (.seq (.seq (rq a5r12) (.block 0 (.loop a5l17))) (.seq (rq a5r18) .ret))))))))))
def a5 : AFun := ⟨2, 100, a5b, [.tmp (true, 4)]⟩
end Go.AL.Dm
namespace Go.AL
variable {P : Program} {ι ι' : Nat → Option Nat} {S : Store} {F : Nat → Nat → Prop} {w w' : World}
theorem nodup_get [Glob] {α : Type} : ∀ {l : List α} (_ : l.Nodup) {i j : Nat} {x : α}, l[i]? = some x → l[j]? = some x → i = j
 | [], _, i, j, x, h, _ => by simp at h
 | a :: l, hn, i, j, x, h1, h2 => by
  obtain ⟨hn1, hn2⟩ := List.nodup_cons.1 hn
  cases i <;> cases j <;> simp at h1 h2
  ·rfl
  ·subst h1; exact absurd (List.mem_of_getElem? h2) hn1
  ·subst h2; exact absurd (List.mem_of_getElem? h1) hn1
  ·rw [nodup_get hn2 h1 h2]
theorem perm_idx [Glob] {α : Type} {a b : List α} (h : a.Perm b) : ∃ σ : Nat → Nat, (∀ j, j < a.length → σ j < a.length) ∧ (∀ i j, i < a.length → j < a.length → σ i = σ j → i = j) ∧ (∀ i, i < a.length → ∃ j, j < a.length ∧ σ j = i) ∧ ∀ j, j < a.length → b[σ j]? = a[j]? := by
 induction h with
 | nil => exact ⟨id, by simp, by simp, by simp, by simp⟩
 | @cons x a b h ih =>
  obtain ⟨σ, h1, h2, h3, h4⟩ := ih
  refine ⟨fun j => match j with | 0 => 0 | j + 1 => σ j + 1, ?_, ?_, ?_, ?_⟩
  ·intro j hj
   cases j with
   | zero => simp
   | succ j => simp at hj ⊢; exact h1 j hj
  ·intro i j hi hj e
   cases i <;> cases j <;> simp at hi hj e ⊢
   exact h2 _ _ hi hj e
  ·intro i hi
   cases i with
   | zero => exact ⟨0, by simp, rfl⟩
   | succ i =>
    simp at hi
    obtain ⟨j, hj, rfl⟩ := h3 i hi
    exact ⟨j + 1, by simpa using hj, rfl⟩
  ·intro j hj
   cases j with
   | zero => simp
   | succ j => simp at hj ⊢; exact h4 j hj
 | swap x y l =>
  refine ⟨fun j => match j with | 0 => 1 | 1 => 0 | j + 2 => j + 2, ?_, ?_, ?_, ?_⟩
  ·intro j hj
   match j with
   | 0 => simp
   | 1 => simp
   | j + 2 => simpa using hj
  ·intro i j hi hj e
   match i, j with
   | 0, 0 => rfl
   | 0, 1 => simp at e
   | 0, j + 2 => simp at e
   | 1, 0 => simp at e
   | 1, 1 => rfl
   | 1, j + 2 => simp at e
   | i + 2, 0 => simp at e
   | i + 2, 1 => simp at e
   | i + 2, j + 2 => simpa using e
  ·intro i hi
   match i with
   | 0 => exact ⟨1, by simp, rfl⟩
   | 1 => exact ⟨0, by simp, rfl⟩
   | i + 2 => exact ⟨i + 2, hi, rfl⟩
  ·intro j hj
   match j with
   | 0 => simp
   | 1 => simp
   | j + 2 => simp
 | @trans a b c h1 h2 ih1 ih2 =>
  obtain ⟨σ, a1, a2, a3, a4⟩ := ih1
  obtain ⟨τ, b1, b2, b3, b4⟩ := ih2
  have hl := h1.length_eq
  rw [← hl] at b1 b2 b3 b4
  refine ⟨fun j => τ (σ j), fun j hj => b1 _ (a1 j hj), fun i j hi hj e => a2 i j hi hj (b2 _ _ (a1 i hi) (a1 j hj) e), fun i hi => ?_, fun j hj => (b4 _ (a1 j hj)).trans (a4 j hj)⟩
  obtain ⟨j, hj, rfl⟩ := b3 i hi
  obtain ⟨k, hk, rfl⟩ := a3 j hj
  exact ⟨k, hk, rfl⟩
def keyAV : AV → Prop
 | .int .i64 _ | .str _ => True
 | _ => False
theorem key_eq [Glob] {v : Value} {x y : AV} (hx : Rep ι F w v x) (hy : Rep ι F w v y) (kx : keyAV x) (ky : keyAV y) : x = y := by
 cases x <;> simp only [keyAV] at kx <;> cases y <;> simp only [keyAV] at ky <;> cases hx <;> cases hy <;> rfl
def inord (kes : List (AV × AV)) : List (Nat × AV × AV) := kes.mapIdx fun j p => (j, p)
theorem inord_get [Glob] {kes : List (AV × AV)} {j : Nat} : (inord kes)[j]? = (kes[j]?).map fun p => (j, p) := by simp [inord]
theorem inord_len [Glob] (kes : List (AV × AV)) : (inord kes).length = kes.length := by simp [inord]
theorem frz_rep [Glob] (hwf : WF ι S w) {o b : Nat} {kes kes' : List (AV × AV)} (ho : S o = some (.map (inord kes) kes.length)) (hb : ι o = some b) (hp : kes.Perm kes') (hk : ∀ p ∈ kes, keyAV p.1) (hnd : (kes.map (·.1)).Nodup) :
  Rep ι (Foot ι (delS S o)) w (.map (some b)) (.kmap kes') := by
 obtain ⟨ces, h1, h2, h3⟩ := hwf.rep o _ b ho hb
 rw [inord_len] at h2
 obtain ⟨σ, s1, s2, s3, s4⟩ := perm_idx hp
 have hl := hp.length_eq
 have hst := drop_step S (delS S o) (delS_sub S o) ι w
 have hent : ∀ (j : Nat) (e : MapEntry), ces[j]? = some e → ∃ p, kes[j]? = some p ∧ kes'[σ j]? = some p ∧ e.born = j ∧ Rep ι (Foot ι S) w e.key p.1 ∧ Rep ι (Foot ι S) w e.val p.2 := by
  intro j e he
  have hj : j < kes.length := by have := (Array.getElem?_eq_some_iff.1 he).1; omega
  have hg : (inord kes)[j]? = some (j, kes[j]) := by rw [inord_get]; simp [hj]
  obtain ⟨k1, k2, k3⟩ := h3 j e _ he hg
  exact ⟨kes[j], by simp [hj], by rw [s4 j hj]; simp [hj], k1, k2, k3⟩
 rw [hl] at s1 s2 s3
 refine .kmap σ (by rw [h1, h2]) ?_ (by omega) s1 s2 s3 (fun j e he => ?_) (fun i j e e' he he' heq => ?_) (fun j e p he hp' => ?_) (fun j e p he hp' => ?_)
 ·rintro off ⟨q, ob, k1, k2, k3⟩
  have hq : q ≠ o := by
   intro e
   simp [delS, e] at k1
  exact hq (hwf.inj q o ob _ b (delS_sub S o q ob k1) ho k2 hb)
 ·obtain ⟨p, _, _, h, _⟩ := hent j e he; exact h
 ·obtain ⟨p, hp1, _, _, hr, _⟩ := hent i e he
  obtain ⟨q, hq1, _, _, hr', _⟩ := hent j e' he'
  rw [heq] at hr
  have hpq := key_eq hr hr' (hk _ (List.mem_of_getElem? hp1)) (hk _ (List.mem_of_getElem? hq1))
  refine nodup_get hnd (i := i) (j := j) (x := p.1) ?_ ?_
  ·rw [List.getElem?_map, hp1]; rfl
  ·rw [List.getElem?_map, hq1, hpq]; rfl
 ·obtain ⟨q, _, hq, _, hr, _⟩ := hent j e he
  rw [hq] at hp'; cases hp'; exact hr.step hst
 ·obtain ⟨q, _, hq, _, _, hr⟩ := hent j e he
  rw [hq] at hp'; cases hp'; exact hr.step hst
section
variable {f : FuncId} {args : List AV} {s : St} {K : AV → St → Prop}
theorem ACalls.recast [Glob] (h : ACalls P f args s fun r s' => ∃ r' S2, (∀ q ob, S2 q = some ob → s'.m q = some ob) ∧ (∀ ι w v, WF ι s'.m w → Rep ι (Foot ι s'.m) w v r → Rep ι (Foot ι S2) w v r') ∧ K r' ⟨S2, s'.nx⟩) : ACalls P f args s K := by
 refine ⟨h.1, fun ι w vs h1 h2 h3 => Calls.mono (h.2 ι w vs h1 h2 h3) ?_⟩
 rintro e w' ⟨v, r, s', ι', k1, k2, k3, k4, k5, k6, r', S2, hS, hr, hk⟩
 exact ⟨v, r', ⟨S2, s'.nx⟩, ι', k1, k2.trans (drop_step s'.m S2 hS ι' w'), k3.drop hS, ⟨fun q ob hq => k4.lt q ob (hS q ob hq), k4.ilt⟩, k5, hr ι' w' v k3 k6, hk⟩
def FrzM (K : AV → St → Prop) (r : AV) (s' : St) : Prop := ∃ o kes kes', r = .map o ∧ s'.m o = some (.map (inord kes) kes.length) ∧ kes.Perm kes' ∧ (∀ p ∈ kes, keyAV p.1) ∧ (kes.map (·.1)).Nodup ∧ K (.kmap kes') (s'.del o)
theorem ACalls.frzMap [Glob] (h : ACalls P f args s (FrzM K)) : ACalls P f args s K := by
 refine ACalls.recast (ACalls.mono h fun r s' hn hh => ?_)
 obtain ⟨o, kes, kes', rfl, ho, hp, hk, hnd, hK⟩ := hh
 refine ⟨.kmap kes', (s'.del o).m, delS_sub s'.m o, fun ι w v hwf hv => ?_, hK⟩
 obtain ⟨b, hb, rfl⟩ := rep_map hv
 exact frz_rep hwf ho hb hp hk hnd
def FrzN (x : AV) (K : AV → St → Prop) (r : AV) (s' : St) : Prop := ∃ o kes kes', r = .agg [x, .map o] ∧ s'.m o = some (.map (inord kes) kes.length) ∧ kes.Perm kes' ∧ (∀ p ∈ kes, keyAV p.1) ∧ (kes.map (·.1)).Nodup ∧ K (.agg [x, .kmap kes']) (s'.del o)
theorem ACalls.frzNeed [Glob] {x : AV} (hx : ∀ (ι ι' : Nat → Option Nat) (F F' : Nat → Nat → Prop) w v, Rep ι F w v x → Rep ι' F' w v x) (h : ACalls P f args s (FrzN x K)) : ACalls P f args s K := by
 refine ACalls.recast (ACalls.mono h fun r s' hn hh => ?_)
 obtain ⟨o, kes, kes', rfl, ho, hp, hk, hnd, hK⟩ := hh
 refine ⟨.agg [x, .kmap kes'], (s'.del o).m, delS_sub s'.m o, fun ι w v hwf hv => ?_, hK⟩
 cases hv with
 | agg hl hc hr =>
  refine .agg hl hc fun j u y hu hy => ?_
  match j with
  | 0 =>
   simp at hy; subst hy
   exact hx _ _ _ _ _ _ (hr 0 u _ hu rfl)
  | 1 =>
   simp at hy; subst hy
   obtain ⟨b, hb, rfl⟩ := rep_map (hr 1 u _ hu rfl)
   exact frz_rep hwf ho hb hp hk hnd
  | j + 2 => simp at hy
end
def isetK (l : List Int) : List (AV × AV) := l.map fun k => (.int .i64 k, .bool true)
theorem imapF_inord [Glob] : ∀ (l : List Int) (i : Nat), imapF i l = (isetK l).mapIdx fun j p => (i + j, p)
 | [], i => rfl
 | a :: r, i => by
  simp only [imapF, isetK, List.map_cons, List.mapIdx_cons]
  rw [imapF_inord r (i + 1)]
  simp only [isetK, Nat.add_zero]
  congr 2
  funext j p
  congr 1
  omega
theorem obS_inord [Glob] (l : List Int) : obS l = .map (inord (isetK l)) (isetK l).length := by
 rw [obS, imapF_inord, inord]
 simp [isetK]
theorem isetK_key [Glob] (l : List Int) : ∀ p ∈ isetK l, keyAV p.1 := by
 intro p hp
 simp only [isetK, List.mem_map] at hp
 obtain ⟨k, _, rfl⟩ := hp
 trivial
theorem isetK_nodup [Glob] {l : List Int} (h : l.Nodup) : ((isetK l).map (·.1)).Nodup := by
 simp only [isetK, List.map_map]
 exact List.Pairwise.map _ (fun a b h => by simpa using h) h
theorem isetK_perm [Glob] {a b : List Int} (h : a.Perm b) : (isetK a).Perm (isetK b) := h.map _
def entsA (l : List Int) : Array MapEntry := (l.mapIdx fun j k => (⟨.int .i64 k, .bool true, j⟩ : MapEntry)).toArray
theorem obS_ents [Glob] {b : Nat} {l : List Int} (h : ObjRep ι F w b (obS l)) : w.heap[b]? = some (.map (entsA l) l.length) := by
 rw [obS_inord] at h
 obtain ⟨ces, h1, h2, h3⟩ := h
 rw [h1]
 have hil : (isetK l).length = l.length := by simp [isetK]
 rw [inord_len] at h2
 have : ces = entsA l := by
  apply Array.ext_getElem?
  intro j
  by_cases hj : j < l.length
  ·have hjc : j < ces.size := by omega
   have hp : (inord (isetK l))[j]? = some (j, .int .i64 l[j], .bool true) := by rw [inord_get]; simp [isetK, hj]
   obtain ⟨k1, k2, k3⟩ := h3 j ces[j] _ (by simp [hjc]) hp
   have e : ces[j] = ⟨.int .i64 l[j], .bool true, j⟩ := by
    generalize ces[j] = e at k1 k2 k3
    obtain ⟨a, b, c⟩ := e
    simp only at k1 k2 k3
    have := rep_int k2
    have := rep_bool k3
    simp [*]
   simp [hjc, e, entsA, hj]
  ·have hjc : ¬ j < ces.size := by omega
   simp [entsA, hj, hjc]
 rw [this, hil]
theorem ents_obS [Glob] {b : Nat} {l : List Int} (h : w.heap[b]? = some (.map (entsA l) l.length)) : ObjRep ι F w b (obS l) := by
 rw [obS_inord]
 have hil : (isetK l).length = l.length := by simp [isetK]
 refine ⟨entsA l, by rw [h, hil], by simp [entsA, inord_len, hil], fun j e p he hp => ?_⟩
 rw [inord_get] at hp
 have hj : j < l.length := by have := (Array.getElem?_eq_some_iff.1 he).1; simpa [entsA] using this
 simp [entsA, hj] at he
 simp [isetK, hj] at hp
 subst he hp
 exact ⟨rfl, .int _ _, .bool _⟩
theorem kmap_inv [Glob] {v : Value} {l : List Int} (h : Rep ι F w v (.kmap (isetK l))) : ∃ b l', v = .map (some b) ∧ l'.Perm l ∧ w.heap[b]? = some (.map (entsA l') l'.length) ∧ ∀ off, ¬ F b off := by
 cases h with
 | @kmap b ces _ σ h1 hf hsz hσ hinj hsur hborn hnd hkk hvv =>
  have hil : (isetK l).length = l.length := by simp [isetK]
  rw [hil] at hsz hσ hinj hsur
  refine ⟨b, (List.range l.length).map fun j => l.getD (σ j) 0, rfl, ?_, ?_, hf⟩
  ·have e : ((List.range l.length).map σ).Perm (List.range l.length) := by
    rw [List.perm_ext_iff_of_nodup ?_ List.nodup_range]
    ·intro i
     simp only [List.mem_map, List.mem_range]
     constructor
     ·rintro ⟨j, hj, rfl⟩; exact hσ j hj
     ·intro hi; exact hsur i hi
    ·unfold List.Nodup
     rw [List.pairwise_map]
     refine List.Pairwise.imp_of_mem (fun {a b} ha hb hab e => ?_) List.nodup_range
     exact hab (hinj a b (by simpa using ha) (by simpa using hb) e)
   have e2 := e.map fun j => l.getD j 0
   rw [List.map_map] at e2
   have e3 : (List.range l.length).map (fun j => l.getD j 0) = l := by
    apply List.ext_getElem
    ·simp
    ·intro i h1 h2; simp [h2]
   rw [e3] at e2
   exact e2
  ·rw [h1]
   have : ces = entsA ((List.range l.length).map fun j => l.getD (σ j) 0) := by
    apply Array.ext_getElem?
    intro j
    by_cases hj : j < l.length
    ·have hjc : j < ces.size := by omega
     have hsj := hσ j hj
     have hp : (isetK l)[σ j]? = some (.int .i64 l[σ j], .bool true) := by simp [isetK, hsj]
     have k1 := hborn j ces[j] (by simp [hjc])
     have k2 := hkk j ces[j] _ (by simp [hjc]) hp
     have k3 := hvv j ces[j] _ (by simp [hjc]) hp
     have e : ces[j] = ⟨.int .i64 l[σ j], .bool true, j⟩ := by
      generalize ces[j] = e at k1 k2 k3
      obtain ⟨a, b, c⟩ := e
      simp only at k1 k2 k3
      have := rep_int k2
      have := rep_bool k3
      simp [*]
     simp [hjc, e, entsA, hj, hsj]
    ·have hjc : ¬ j < ces.size := by omega
     simp [entsA, hj, hjc]
   rw [this]
   simp [entsA]
theorem kmap_intro [Glob] {b : Nat} {l' lr : List Int} (hh : w.heap[b]? = some (.map (entsA l') l'.length)) (hnd : l'.Nodup) (hp : l'.Perm lr) (hf : ∀ off, ¬ F b off) : Rep ι F w (.map (some b)) (.kmap (isetK lr)) := by
 obtain ⟨σ, s1, s2, s3, s4⟩ := perm_idx (isetK_perm hp)
 have hil : ∀ l : List Int, (isetK l).length = l.length := fun l => by simp [isetK]
 have hl : (isetK l').length = (isetK lr).length := (isetK_perm hp).length_eq
 rw [hl] at s1 s2 s3 s4
 have hsz : (entsA l').size = l'.length := by simp [entsA]
 have hent : ∀ (j : Nat) (e : MapEntry), (entsA l')[j]? = some e → ∃ k, l'[j]? = some k ∧ e = ⟨.int .i64 k, .bool true, j⟩ ∧ (isetK lr)[σ j]? = some (.int .i64 k, .bool true) := by
  intro j e he
  have hj : j < l'.length := by have := (Array.getElem?_eq_some_iff.1 he).1; omega
  simp [entsA, hj] at he
  refine ⟨l'[j], by simp [hj], he.symm, ?_⟩
  rw [s4 j (by rw [← hl, hil]; exact hj)]
  simp [isetK, hj]
 refine .kmap σ (by rw [hh, hsz]) hf (by rw [hsz, ← hl, hil]) s1 s2 s3 (fun j e he => ?_) (fun i j e e' he he' heq => ?_) (fun j e p he hp' => ?_) (fun j e p he hp' => ?_)
 ·obtain ⟨k, _, rfl, _⟩ := hent j e he; rfl
 ·obtain ⟨k, h1, rfl, _⟩ := hent i e he
  obtain ⟨k', h1', rfl, _⟩ := hent j e' he'
  simp only [Value.int.injEq, true_and] at heq
  subst heq
  exact nodup_get hnd h1 h1'
 ·obtain ⟨k, _, rfl, h⟩ := hent j e he
  rw [h] at hp'; cases hp'; exact .int _ _
 ·obtain ⟨k, _, rfl, h⟩ := hent j e he
  rw [h] at hp'; cases hp'; exact .bool _
def GlobOK [Glob] : Prop := ∀ g x, Glob.gt g = some x → ∀ (ι ι' : Nat → Option Nat) (F F' : Nat → Nat → Prop) w v, Rep ι F w v x → (∀ b off, F' b off → ∃ l : List Int, w.heap[b]? = some (.map (entsA l) l.length)) → Rep ι' F' w v x
theorem thaw [Glob] {f : FuncId} {Ak : List AV} {A : Nat → Nat → List AV} {l1 l2 lr : List Int} {x : AV} (hG : GlobOK) (hcb : Callable P f) (hx : x.isVal = true) (hx1 : ∀ (ι ι' : Nat → Option Nat) (F F' : Nat → Nat → Prop) w v, Rep ι F w v x → Rep ι' F' w v x)
  (hA : ∀ (ι : Nat → Option Nat) (F : Nat → Nat → Prop) w vs, RepL ι F w vs Ak → ∃ v1 v2, Rep ι F w v1 (.kmap (isetK l1)) ∧ Rep ι F w v2 (.kmap (isetK l2)) ∧
   ∀ (ι' : Nat → Option Nat) (F' : Nat → Nat → Prop) o1 o2, Rep ι' F' w v1 (.map o1) → Rep ι' F' w v2 (.map o2) → RepL ι' F' w vs (A o1 o2))
  (h : ∀ o1 o2 l1' l2' s, l1'.Perm l1 → l2'.Perm l2 → o1 < s.nx → o2 < s.nx → s.m o1 = some (obS l1') → s.m o2 = some (obS l2') → ACalls P f (A o1 o2) s fun r s' => ∃ o' l', r = .agg [x, .map o'] ∧ s.nx ≤ o' ∧ s'.m o' = some (obS l') ∧ l'.Perm lr ∧ l'.Nodup ∧ s'.m o1 = some (obS l1') ∧ s'.m o2 = some (obS l2')) :
  PureC P f Ak (.agg [x, .kmap (isetK lr)]) := by
 intro s
 refine ⟨hcb, fun ι w vs hwf hbnd hvs => ?_⟩
 obtain ⟨v1, v2, hv1, hv2, hvA⟩ := hA ι _ w vs hvs
 obtain ⟨b1, l1', rfl, hp1, hh1, hf1⟩ := kmap_inv hv1
 obtain ⟨b2, l2', rfl, hp2, hh2, hf2⟩ := kmap_inv hv2
 have hb1 : b1 < w.heap.size := (Array.getElem?_eq_some_iff.1 hh1).1
 have hb2 : b2 < w.heap.size := (Array.getElem?_eq_some_iff.1 hh2).1
 -- the numbers of the two, above all others; one if they are one
 obtain ⟨o1, ho1⟩ : ∃ o, o = s.nx := ⟨_, rfl⟩
 obtain ⟨o2, ho2⟩ : ∃ o, o = if b2 = b1 then s.nx else s.nx + 1 := ⟨_, rfl⟩
 have ho12 : o1 = o2 ↔ b2 = b1 := by
  rw [ho1, ho2]
  split
  ·simp [*]
  ·constructor
   ·intro h; omega
   ·intro h; contradiction
 have hl12 : b2 = b1 → obS l2' = obS l1' := by
  intro e
  subst e
  rw [hh1] at hh2
  injection hh2 with e
  injection e with e1 e2
  have : l1' = l2' := by
   apply List.ext_getElem e2
   intro j k1 k2
   have := congrArg (fun (a : Array MapEntry) => (a[j]?).map (·.key)) e1
   simpa [entsA, k1, k2] using this
  rw [this]
 let ι1 : Nat → Option Nat := fun q => if q = o1 then some b1 else if q = o2 then some b2 else ι q
 let S1 : Store := fun q => if q = o1 then some (obS l1') else if q = o2 then some (obS l2') else none
 have hι1 : ι1 o1 = some b1 := by simp [ι1]
 have hι2 : ι1 o2 = some b2 := by
  by_cases e : o2 = o1
  ·have := ho12.1 e.symm; simp [ι1, e, this]
  ·simp [ι1, e]
 have hS1 : S1 o1 = some (obS l1') := by simp [S1]
 have hS2 : S1 o2 = some (obS l2') := by
  by_cases e : o2 = o1
  ·have := hl12 (ho12.1 e.symm); simp [S1, e, this]
  ·simp [S1, e]
 have hSonly : ∀ q ob, S1 q = some ob → (q = o1 ∨ q = o2) := by
  intro q ob hq
  simp only [S1] at hq
  split at hq
  ·exact .inl (by assumption)
  ·split at hq
   ·exact .inr (by assumption)
   ·cases hq
 have hge : s.nx ≤ o1 ∧ s.nx ≤ o2 ∧ o1 < s.nx + 2 ∧ o2 < s.nx + 2 := by
  rw [ho1, ho2]; split <;> omega
 have hext : ∀ q b, ι q = some b → ι1 q = some b := by
  intro q b hq
  have := hbnd.ilt q b hq
  have h1 : q ≠ o1 := by omega
  have h2 : q ≠ o2 := by omega
  simp [ι1, h1, h2, hq]
 have hfoot1 : ∀ b off, Foot ι1 S1 b off → b = b1 ∨ b = b2 := by
  rintro b off ⟨q, ob, k1, k2, _⟩
  rcases hSonly q ob k1 with rfl | rfl
  ·rw [hι1] at k2; cases k2; exact .inl rfl
  ·rw [hι2] at k2; cases k2; exact .inr rfl
 have hblk1 : ∀ b, Blk ι1 S1 b → b = b1 ∨ b = b2 := by
  rintro b ⟨q, ob, k1, k2⟩
  rcases hSonly q ob k1 with rfl | rfl
  ·rw [hι1] at k2; cases k2; exact .inl rfl
  ·rw [hι2] at k2; cases k2; exact .inr rfl
 have hwf1 : WF ι1 S1 w := by
  refine ⟨fun q b hq => ?_, fun q q' ob ob' b k1 k2 k3 k4 => ?_, fun q ob b k1 k2 => ?_, fun g x hg => hG g x hg _ _ _ _ _ _ (hwf.laid g x hg) fun b off hf => ?_⟩
  ·simp only [ι1] at hq
   split at hq
   ·cases hq; exact hb1
   ·split at hq
    ·cases hq; exact hb2
    ·exact hwf.blt q b hq
  ·rcases hSonly q ob k1 with rfl | rfl <;> rcases hSonly q' ob' k2 with h' | h' <;> subst h' <;> try rfl
   ·rw [hι1] at k3; rw [hι2] at k4; cases k3; cases k4; exact ho12.2 rfl
   ·rw [hι2] at k3; rw [hι1] at k4; cases k3; cases k4; exact (ho12.2 rfl).symm
  ·rcases hSonly q ob k1 with rfl | rfl
   ·rw [hS1] at k1; rw [hι1] at k2; cases k1; cases k2; exact ents_obS hh1
   ·rw [hS2] at k1; rw [hι2] at k2; cases k1; cases k2; exact ents_obS hh2
  ·rcases hfoot1 b off hf with rfl | rfl
   ·exact ⟨_, hh1⟩
   ·exact ⟨_, hh2⟩
 have hbnd1 : Bnd ι1 S1 (s.nx + 2) := by
  refine ⟨fun q ob hq => ?_, fun q b hq => ?_⟩
  ·rcases hSonly q ob hq with rfl | rfl <;> omega
  ·simp only [ι1] at hq
   split at hq
   ·omega
   ·split at hq
    ·omega
    ·have := hbnd.ilt q b hq; omega
 refine Calls.mono ((h o1 o2 l1' l2' ⟨S1, s.nx + 2⟩ hp1 hp2 hge.2.2.1 hge.2.2.2 hS1 hS2).2 ι1 w vs hwf1 hbnd1 (hvA ι1 _ o1 o2 (.map hι1) (.map hι2))) ?_
 rintro e w' ⟨v, r, s', ι', rfl, hst, hwf', hbnd', hinc, hrep, o', l', rfl, ho', hSo', hperm, hnd', hk1, hk2⟩
 have hsame : ∀ b, b < w.heap.size → w'.heap[b]? = w.heap[b]? := by
  intro b hb
  by_cases e1 : b = b1
  ·subst e1
   rw [obS_ents (hwf'.rep o1 _ _ hk1 (hst.ext _ _ hι1)), hh1]
  ·by_cases e2 : b = b2
   ·subst e2
    rw [obS_ents (hwf'.rep o2 _ _ hk2 (hst.ext _ _ hι2)), hh2]
   ·exact hst.blk b hb fun hk => (hblk1 b hk).elim e1 e2
 have hstep : Step ι s.m w ι s.m w' := grow_step hst.size hst.os hst.tape hst.output hsame (fun _ _ h => h) (fun _ _ _ h => h) (fun _ _ h => h)
 refine ⟨v, .agg [x, .kmap (isetK lr)], s, ι, rfl, hstep, hwf.of_step hstep (fun q b hq => Nat.lt_of_lt_of_le (hwf.blt q b hq) hst.size) hwf.inj (fun q ob b k1 k2 => .inl ⟨k1, k2, hsame b (hwf.blt q b k2)⟩), hbnd, Inc.refl _ _, ?_, rfl, fun _ _ => rfl⟩
 cases hrep with
 | agg hl hc hr =>
  refine .agg hl hc fun j u y hu hy => ?_
  match j with
  | 0 =>
   simp at hy; subst hy
   exact hx1 _ _ _ _ _ _ (hr 0 u _ hu rfl)
  | 1 =>
   simp at hy; subst hy
   obtain ⟨b', hb', rfl⟩ := rep_map (hr 1 u _ hu rfl)
   have hnew : ¬ b' < w.heap.size := by
    intro hlt
    have hB := hblk1 b' (hst.nblk b' hlt ⟨o', _, hSo', hb'⟩)
    rcases hB with rfl | rfl
    ·have := hwf'.inj o' o1 _ _ _ hSo' hk1 hb' (hst.ext _ _ hι1)
     simp only at ho'; omega
    ·have := hwf'.inj o' o2 _ _ _ hSo' hk2 hb' (hst.ext _ _ hι2)
     simp only at ho'; omega
   refine kmap_intro (obS_ents (hwf'.rep o' _ _ hSo' hb')) hnd' hperm ?_
   rintro off ⟨q, ob, _, k2, _⟩
   exact hnew (hwf.blt q _ k2)
  | j + 2 => simp at hy
def Plain (x : AV) : Prop := ∀ (ι ι' : Nat → Option Nat) (F F' : Nat → Nat → Prop) w v, Rep ι F w v x → Rep ι' F' w v x
theorem plain_int [Glob] (k : IntKind) (n : Int) : Plain (.int k n) := fun _ _ _ _ _ _ h => by cases h; exact .int _ _
theorem plain_bool [Glob] (b : Bool) : Plain (.bool b) := fun _ _ _ _ _ _ h => by cases h; exact .bool _
theorem plain_agg [Glob] {l : List AV} (hl : ∀ x ∈ l, Plain x) : Plain (.agg l) := fun ι ι' F F' w v h => by
 cases h with
 | agg h1 h2 h3 => exact .agg h1 h2 fun j v x hv hx => hl x (List.mem_of_getElem? hx) _ _ _ _ _ _ (h3 j v x hv hx)
theorem borrow [Glob] {f : FuncId} {rest : List AV} {r : AV} {oa og : Nat} {kes : List (AV × AV)} {s : St} (h : PureC P f (.cptr [.kmap kes] :: rest) r) (hr : Plain r) (hoa : s.m oa = some (.box [.map og])) (hog : s.m og = some (.map (inord kes) kes.length))
  (hk : ∀ p ∈ kes, keyAV p.1) (hnd : (kes.map (·.1)).Nodup) : ACalls P f (.ptr oa 0 :: rest) s fun r' s' => r' = r ∧ ∀ q, q < s.nx → s'.m q = s.m q := by
 refine ⟨(h s).1, fun ι w vs hwf hbnd hvs => ?_⟩
 have hS0 : ∀ o obj, (fun _ => none : Store) o = some obj → s.m o = some obj := fun _ _ h => by cases h
 have hd := drop_step s.m (fun _ => none) hS0 ι w
 have hF0 : ∀ b off, ¬ Foot ι (fun _ => none) b off := by rintro b off ⟨q, ob, k1, _⟩; cases k1
 have hargs : RepL ι (Foot ι (fun _ => none)) w vs (.cptr [.kmap kes] :: rest) := by
  refine ⟨hvs.1, fun j v x hv hx => ?_⟩
  cases j with
  | succ j => exact (hvs.2 (j + 1) v x hv (by simpa using hx)).step hd
  | zero =>
   simp at hx
   subst hx
   have hp := hvs.2 0 v _ hv rfl
   cases hp with
   | @ptr _ b _ hb =>
    obtain ⟨cvs, e, h1, h2, h3, h4⟩ := hwf.rep oa _ b hoa hb
    have hc0 : 0 < cvs.size := by simp only [List.length_singleton] at h2; omega
    have hcell := h3 0 cvs[0] _ (by simp [hc0]) rfl
    obtain ⟨bg, hbg, hcv⟩ := rep_map hcell
    have hfr := frz_rep hwf hog hbg (List.Perm.refl _) hk hnd
    have hfr2 := hfr.step (S' := fun _ => none) (ι' := ι) (w' := w) (drop_step _ _ (fun _ _ h => by cases h) ι w)
    refine .cptr (fun _ => cvs[0]) rfl (fun j hj => ?_) (fun j x hx => ?_)
    ·simp at hj
     subst hj
     refine ⟨by simp [World.cell?, h1, hc0], hF0 _ _, ?_⟩
     rw [hcv]; rfl
    ·cases j with
     | zero => simp at hx; subst hx; rw [hcv]; exact hfr2
     | succ j => simp at hx
 refine Calls.mono ((h ⟨fun _ => none, s.nx⟩).2 ι w vs (hwf.drop hS0) ⟨fun _ _ h => (by cases h), hbnd.ilt⟩ hargs) ?_
 rintro e w' ⟨v, r', s', ι', rfl, hst, hwf', hbnd', hinc, hrep, rfl, _⟩
 have hsame : ∀ b, b < w.heap.size → w'.heap[b]? = w.heap[b]? := fun b hb => hst.blk b hb (by rintro ⟨q, ob, k1, _⟩; cases k1)
 have hstep : Step ι s.m w ι s.m w' := grow_step hst.size hst.os hst.tape hst.output hsame (fun _ _ h => h) (fun _ _ _ h => h) (fun _ _ h => h)
 exact ⟨v, r', s, ι, rfl, hstep, hwf.of_step hstep (fun q b hq => Nat.lt_of_lt_of_le (hwf.blt q b hq) hst.size) hwf.inj (fun q ob b k1 k2 => .inl ⟨k1, k2, hsame b (hwf.blt q b k2)⟩), hbnd, Inc.refl _ _, hr _ _ _ _ _ _ hrep, rfl, fun _ _ => rfl⟩
end Go.AL
