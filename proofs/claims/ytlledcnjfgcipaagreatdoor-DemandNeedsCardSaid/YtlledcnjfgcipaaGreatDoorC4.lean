import Derived.Test.YtlledcnjfgcipaaGreatDoorC2
import Derived.Test.YtlledcnjfgcipaaGreatDoorProg
import Derived.KernelRfl
set_option linter.unusedVariables false
set_option linter.unusedSimpArgs false
namespace Go.AL.Dm
open Go.Proofs
/- damask/demand.analyze -/
def a40r0 : Rg := [oT 2 (.mv (.c .nilptr)), oT 3 (.mv (ci 0))]
def a40r1 : Rg := [oL 10 (.mkmap), oL 11 (.build [.nilmap] [(0, 1, (.l 10))]), oL 12 (.box (.l 11)), oT 4 (.mv (.l 12))]
def a40r2 : Rg := [oT 13 (.mv (.g 0)), oT 14 (.len (.g 13)), oT 15 (.mv (ci 0))]
def a40r3 : Rg := [oT 16 (.bin .lss (.g 15) (.g 14))]
def a40r4 : Rg := [oL 17 (.ia 6 (.g 13) (.g 15)), oL 18 (.load 6 true (.l 17)), oT 6 (.alloc [s0, i0, i0, s0, nl, nl]), oN (.store 6 (.g 6) (.l 18))]
def a40r5 : Rg := [oL 19 (.build [i0, bF, bF, bF, bF, bF, bF, bF, bF, bF] [(9, 1, cT)]), oT 7 (.alloc [i0, bF, bF, bF, bF, bF, bF, bF, bF, bF]), oN (.store 10 (.g 7) (.l 19))]
def a40r6 : Rg := [oL 20 (.fa 1 (.g 6)), oL 21 (.fa 0 (.l 20)), oL 22 (.ld (.l 21)), oT 23 (.bin .eql (.l 22) (ci 5))]
def a40r7 : Rg := [oL 24 (.fa 1 (.g 6)), oL 25 (.fa 1 (.l 24)), oL 26 (.ld (.l 25)), oL 27 (.fa 0 (.g 7)), oN (.store 1 (.l 27) (.l 26))]
def a40r8 : Rg := [oL 28 (.fa 0 (.g 7)), oT 29 (.ld (.l 28)), oT 30 (.mv (ci 0))]
def a40r9 : Rg := [oT 31 (.bin .lss (.g 30) (.g 29))]
def a40r10 : Rg := [oL 32 (.mv (.g 30)), oT 8 (.mv (.l 32))]
def a40r11 : Rg := [oL 33 (.mv (.g 8)), oL 34 (.fa 1 (.g 7)), oL 35 (.arrAddr 1 8 (.l 34) (.l 33)), oN (.store 1 (.l 35) cT)]
def a40r12 : Rg := [oL 36 (.bin .add (.g 30) (ci 1)), oT 30 (.mv (.l 36))]
def a40l13 : ACode := (.seq (rq a40r9) (.seq (.cond (.g 31) .skip (.exit 2)) (.seq (.block 3 (.seq (rq a40r10) (rq a40r11))) (rq a40r12))))
def a40r14 : Rg := [oL 37 (.mv (.g 4)), oL 38 (.nilCheck (.l 37)), oL 39 (.fa 0 (.l 38)), oL 40 (.ld (.l 39)), oL 41 (.fa 0 (.g 6)), oL 42 (.ld (.l 41)), oL 43 (.load 10 true (.g 7)), oN (.mapUpdate true (.l 40) (.l 42) (.l 43))]
def a40r15 : Rg := [oL 44 (.bin .add (.g 15) (ci 1)), oT 15 (.mv (.l 44))]
def a40l16 : ACode := (.seq (rq a40r3) (.seq (.cond (.g 16) .skip (.exit 0)) (.seq (.block 1 (.seq (rq a40r4) (.seq (rq a40r5) (.seq (.seq (rq a40r6) (.cond (.g 23) (rq a40r7) .skip)) (.seq (.seq (rq a40r8) (.block 2 (.loop a40l13))) (.reg true a40r14)))))) (rq a40r15))))
def a40r17 : Rg := [oT 9 (.mv (ci 1))]
def a40r18 : Rg := [oL 45 (.mv (.g 4)), oL 46 (.mv (.g 0)), oT 47 (.cf 80 [(.l 45), (.l 46)])]
def a40r19 : Rg := [oL 48 (.mv (.g 9)), oL 49 (.bin .add (.l 48) (ci 1)), oT 9 (.mv (.l 49))]
def a40l20 : ACode := (.seq (.seq (rq a40r18) (.cond (.g 47) .skip (.exit 4))) (.block 5 (rq a40r19)))
def a40r21 : Rg := [oL 50 (.mv (.g 4)), oL 51 (.mv (.g 9)), oT 2 (.mv (.l 50)), oT 3 (.mv (.l 51))]
def a40b : ACode := (.seq (rq a40r0) (.seq (rq a40r1) (.seq (.seq (rq a40r2) (.block 0 (.loop a40l16))) (.seq (rq a40r17) (.seq (.block 4 (.loop a40l20)) (.seq (rq a40r21) .ret))))))
def a40 : AFun := ⟨1, 52, a40b, [.tmp (true, 2), .tmp (true, 3)]⟩
theorem c40 : compileFun Tryz.prog [0, 2, 3, 4, 6, 7, 8, 9, 13, 14, 15, 16, 23, 29, 30, 31, 47] Tryz.f40 = some a40 := by kernel_rfl
/- (*damask/demand.analysis).round -/
def a80r0 : Rg := [oT 4 (.mv cF)]
def a80r1 : Rg := [oL 11 (.mkmap), oT 5 (.mv (.l 11))]
def a80r2 : Rg := [oT 6 (.mv cF)]
def a80r3 : Rg := [oT 12 (.mv (.g 1)), oT 13 (.len (.g 12)), oT 14 (.mv (ci 0))]
def a80r4 : Rg := [oT 15 (.bin .lss (.g 14) (.g 13))]
def a80r5 : Rg := [oL 16 (.ia 6 (.g 12) (.g 14)), oL 17 (.load 6 true (.l 16)), oT 8 (.alloc [s0, i0, i0, s0, nl, nl]), oN (.store 6 (.g 8) (.l 17))]
def a80r6 : Rg := [oL 18 (.mv (.g 0)), oL 19 (.fa 1 (.g 8)), oL 20 (.load 5 true (.l 19)), oL 21 (.cf 114 [(.l 18), (.l 20)]), oT 9 (.alloc [i0, bF, bF, bF, bF, bF, bF, bF, bF, bF]), oN (.store 10 (.g 9) (.l 21))]
def a80r7 : Rg := [oL 22 (.mv (.g 0)), oL 23 (.nilCheck (.l 22)), oL 24 (.fa 0 (.l 23)), oL 25 (.ld (.l 24)), oL 26 (.fa 0 (.g 8)), oL 27 (.ld (.l 26)), oL 28 (.lookup true false [i0, bF, bF, bF, bF, bF, bF, bF, bF, bF] true (.l 25) (.l 27)), oT 10 (.alloc [i0, bF, bF, bF, bF, bF, bF, bF, bF, bF]), oN (.store 10 (.g 10) (.l 28))]
def a80r8 : Rg := [oL 29 (.mv (.g 6)), oL 30 (.mv (.l 29)), oLf 31 (.fa 9 (.g 9)) 30, oLf 32 (.ld (.l 31)) 30, oLf 33 (.fa 9 (.g 10)) 30, oLf 34 (.ld (.l 33)) 30, oLf 35 (.eqb true (.l 32) (.l 34)) 30, oL 36 (.pick (.l 30) cT (.l 35)), oL 37 (.mv (.l 36)), oLf 38 (.fa 1 (.g 9)) 37, oLf 39 (.load 8 true (.l 38)) 37, oLf 40 (.fa 1 (.g 10)) 37, oLf 41 (.load 8 true (.l 40)) 37, oLf 42 (.eqa true 8 (.l 39) (.l 41)) 37, oL 43 (.pick (.l 37) cT (.l 42)), oT 6 (.mv (.l 43))]
def a80r9 : Rg := [oL 44 (.mv (.g 5)), oL 45 (.fa 0 (.g 8)), oL 46 (.ld (.l 45)), oL 47 (.load 10 true (.g 9)), oN (.mapUpdate true (.l 44) (.l 46) (.l 47))]
def a80r10 : Rg := [oL 48 (.bin .add (.g 14) (ci 1)), oT 14 (.mv (.l 48))]
def a80l11 : ACode := (.seq (rq a80r4) (.seq (.cond (.g 15) .skip (.exit 0)) (.seq (.block 1 (.seq (rq a80r5) (.seq (rq a80r6) (.seq (.reg true a80r7) (.seq (rq a80r8) (rq a80r9)))))) (rq a80r10))))
def a80r12 : Rg := [oL 49 (.mv (.g 0)), oL 50 (.mv (.g 5)), oL 51 (.nilCheck (.l 49)), oL 52 (.fa 0 (.l 51)), oN (.store 1 (.l 52) (.l 50))]
def a80r13 : Rg := [oL 53 (.mv (.g 6)), oT 4 (.mv (.l 53))]
def a80b : ACode := (.seq (rq a80r0) (.seq (rq a80r1) (.seq (rq a80r2) (.seq (.seq (rq a80r3) (.block 0 (.loop a80l11))) (.seq (rq a80r12) (.seq (rq a80r13) .ret))))))
def a80 : AFun := ⟨2, 54, a80b, [.tmp (true, 4)]⟩
theorem c80 : compileFun Tryz.prog [0, 1, 4, 5, 6, 8, 9, 10, 12, 13, 14, 15] Tryz.f80 = some a80 := by kernel_rfl
/- (*damask/demand.analysis).one -/
def a114r0 : Rg := [oT 3 (.box (.g 1)), oT 4 (.alloc [i0, bF, bF, bF, bF, bF, bF, bF, bF, bF])]
def a114r1 : Rg := [oT 5 (.alloc [i0, bF, bF, bF, bF, bF, bF, bF, bF, bF])]
def a114r2 : Rg := [oL 9 (.load 5 true (.g 3)), oT 6 (.alloc [i0, i0, s0, nl, nl]), oN (.store 5 (.g 6) (.l 9))]
def a114r3 : Rg := [oL 10 (.fa 0 (.g 3)), oL 11 (.ld (.l 10)), oT 12 (.bin .eql (.l 11) (ci 5))]
def a114r4 : Rg := [oL 13 (.fa 1 (.g 3)), oL 14 (.ld (.l 13)), oL 15 (.fa 0 (.g 5)), oN (.store 1 (.l 15) (.l 14))]
def a114r5 : Rg := [oL 16 (.fa 3 (.g 3)), oL 17 (.ld (.l 16)), oL 18 (.ia 5 (.l 17) (ci 0)), oL 19 (.load 5 true (.l 18)), oN (.store 5 (.g 6) (.l 19))]
def a114r6 : Rg := [oL 20 (.mv (.g 0)), oL 21 (.load 5 true (.g 6)), oL 22 (.cf 49 [(.l 20), (.l 21)]), oT 7 (.alloc [bF, .nilmap]), oN (.store 2 (.g 7) (.l 22))]
def a114r7 : Rg := [oL 23 (.fa 0 (.g 7)), oL 24 (.ld (.l 23)), oL 25 (.fa 9 (.g 5)), oN (.store 1 (.l 25) (.l 24))]
def a114r8 : Rg := [oL 26 (.fa 0 (.g 5)), oT 27 (.ld (.l 26)), oT 28 (.mv (ci 0))]
def a114r9 : Rg := [oT 29 (.bin .lss (.g 28) (.g 27))]
def a114r10 : Rg := [oL 30 (.mv (.g 28)), oT 8 (.mv (.l 30))]
def a114r11 : Rg := [oL 31 (.mv (.g 8)), oL 32 (.fa 0 (.g 7)), oL 33 (.ld (.l 32)), oL 34 (.mv (.l 33)), oLf 35 (.fa 1 (.g 7)) 34, oLf 36 (.ld (.l 35)) 34, oLf 37 (.fa 0 (.g 5)) 34, oLf 38 (.ld (.l 37)) 34, oLf 39 (.bin .sub (.l 38) (ci 1)) 34, oLf 40 (.mv (.g 8)) 34, oLf 41 (.bin .sub (.l 39) (.l 40)) 34, oLf 42 (.lookup false false [bF] false (.l 36) (.l 41)) 34, oL 43 (.pick (.l 34) cT (.l 42)), oL 44 (.fa 1 (.g 5)), oL 45 (.arrAddr 1 8 (.l 44) (.l 31)), oN (.store 1 (.l 45) (.l 43))]
def a114r12 : Rg := [oL 46 (.bin .add (.g 28) (ci 1)), oT 28 (.mv (.l 46))]
def a114l13 : ACode := (.seq (rq a114r9) (.seq (.cond (.g 29) .skip (.exit 0)) (.seq (.block 1 (.seq (rq a114r10) (rq a114r11))) (rq a114r12))))
def a114r14 : Rg := [oL 47 (.load 10 true (.g 5)), oN (.store 10 (.g 4) (.l 47))]
def a114b : ACode := (.seq (rq a114r0) (.seq (rq a114r1) (.seq (rq a114r2) (.seq (.seq (rq a114r3) (.cond (.g 12) (.seq (rq a114r4) (rq a114r5)) .skip)) (.seq (rq a114r6) (.seq (rq a114r7) (.seq (.seq (rq a114r8) (.block 0 (.loop a114l13))) (.seq (rq a114r14) .ret))))))))
def a114 : AFun := ⟨2, 48, a114b, [.cell (true, 4) 10 true]⟩
theorem c114 : compileFun Tryz.prog [0, 1, 3, 4, 5, 6, 7, 8, 12, 27, 28, 29] Tryz.f114 = some a114 := by kernel_rfl
/- (*damask/demand.analysis).need -/
def a49r0 : Rg := [oT 3 (.box (.g 1)), oT 4 (.alloc [bF, .nilmap])]
def a49r1 : Rg := [oL 5 (.fa 0 (.g 3)), oT 6 (.ld (.l 5))]
def a49r2 : Rg := [oL 8 (.bin .eql (.g 6) (ci 3)), oT 7 (.mv (.l 8))]
def a49r3 : Rg := [oL 9 (.bin .eql (.g 6) (ci 4)), oT 7 (.mv (.l 9))]
def a49r4 : Rg := [oL 10 (.bin .eql (.g 6) (ci 5)), oT 7 (.mv (.l 10))]
def a49r5 : Rg := [oL 11 (.cf 87 []), oN (.store 2 (.g 4) (.l 11))]
def a49r6 : Rg := [oL 12 (.mv (.g 0)), oL 13 (.ct 88 [(.l 12)]), oL 14 (.fa 0 (.g 3)), oL 15 (.ld (.l 14)), oL 16 (.lookup false false [.nilfn] false (.l 13) (.l 15)), oL 17 (.load 5 true (.g 3)), oL 18 (.call true (.l 16) [(.l 17)]), oN (.store 2 (.g 4) (.l 18))]
def a49b : ACode := (.seq (rq a49r0) (.seq (.seq (rq a49r1) (.block 0 (.seq (.seq (rq a49r2) (.cond (.g 7) .skip (.seq (rq a49r3) (.cond (.g 7) .skip (rq a49r4))))) (.cond (.g 7) (.seq (rq a49r5) .ret) .skip)))) (.seq (.reg true a49r6) .ret)))
def a49 : AFun := ⟨2, 19, a49b, [.cell (true, 4) 2 true]⟩
theorem c49 : compileFun Tryz.prog [0, 1, 3, 4, 6, 7] Tryz.f49 = some a49 := by kernel_rfl
/- (*damask/demand.analysis).needs -/
def a88r0 : Rg := [oT 1 (.box (.g 0)), oT 2 (.mv (.c .nilmap))]
def a88r1 : Rg := [oT 3 (.mv (.c (.fn 121 [] [])))]
def a88r2 : Rg := [oL 4 (.mkmap), oN (.mapUpdate false (.l 4) (ci 1) (.c (.fn 122 [] []))), oL 5 (.ld (.g 1)), oL 6 (.mkfn 123 [(.l 5)] []), oN (.mapUpdate false (.l 4) (ci 2) (.l 6)), oL 7 (.mv (.g 3)), oN (.mapUpdate false (.l 4) (ci 3) (.l 7)), oL 8 (.mv (.g 3)), oN (.mapUpdate false (.l 4) (ci 4) (.l 8)), oL 9 (.mv (.g 3)), oN (.mapUpdate false (.l 4) (ci 5) (.l 9)), oL 10 (.ld (.g 1)), oL 11 (.mkfn 124 [(.l 10)] []), oN (.mapUpdate false (.l 4) (ci 6) (.l 11)), oL 12 (.mkfn 125 [] [(.g 1)]), oN (.mapUpdate false (.l 4) (ci 7) (.l 12)), oL 13 (.ld (.g 1)), oL 14 (.mkfn 127 [(.l 13)] []), oN (.mapUpdate false (.l 4) (ci 8) (.l 14)), oL 15 (.ld (.g 1)), oL 16 (.mkfn 128 [(.l 15)] []), oN (.mapUpdate false (.l 4) (ci 9) (.l 16)), oL 17 (.mv (.l 4)), oT 2 (.mv (.l 17))]
def a88b : ACode := (.seq (.seq (rq a88r0) (.frz 1)) (.seq (rq a88r1) (.seq (rq a88r2) .ret)))
def a88 : AFun := ⟨1, 18, a88b, [.tmp (true, 2)]⟩
theorem c88 : compileFun Tryz.prog [0, 1, 2, 3, 1000000000001] Tryz.f88 = some a88 := by kernel_rfl
/- (*damask/demand.analysis).needs$1 -/
/- (*damask/demand.analysis).needs$2 -/
def a122r0 : Rg := [oT 1 (.box (.g 0)), oT 2 (.alloc [bF, .nilmap])]
def a122r1 : Rg := [oL 3 (.mkmap), oL 4 (.fa 1 (.g 1)), oL 5 (.ld (.l 4)), oN (.mapUpdate false (.l 3) (.l 5) cT), oL 6 (.mv (.l 3)), oL 7 (.build [bF, .nilmap] [(1, 1, (.l 6))]), oN (.store 2 (.g 2) (.l 7))]
def a122b : ACode := (.seq (rq a122r0) (.seq (rq a122r1) .ret))
def a122 : AFun := ⟨1, 8, a122b, [.cell (true, 2) 2 true]⟩
theorem c122 : compileFun Tryz.prog [0, 1, 2] Tryz.f122 = some a122 := by kernel_rfl
/- (*damask/demand.analysis).global -/
def a123r0 : Rg := [oT 3 (.box (.g 1)), oT 4 (.alloc [bF, .nilmap])]
def a123r1 : Rg := [oL 6 (.mv (.g 0)), oL 7 (.nilCheck (.l 6)), oL 8 (.fa 0 (.l 7)), oL 9 (.ld (.l 8)), oL 10 (.fa 2 (.g 3)), oL 11 (.ld (.l 10)), oL 12 (.lookup true false [i0, bF, bF, bF, bF, bF, bF, bF, bF, bF] true (.l 9) (.l 11)), oT 5 (.alloc [i0, bF, bF, bF, bF, bF, bF, bF, bF, bF]), oN (.store 10 (.g 5) (.l 12))]
def a123r2 : Rg := [oL 13 (.fa 0 (.g 5)), oL 14 (.ld (.l 13)), oL 15 (.bin .eql (.l 14) (ci 0)), oL 16 (.mv (.l 15)), oLt 17 (.fa 9 (.g 5)) 16, oLt 18 (.ld (.l 17)) 16, oT 19 (.pick (.l 16) (.l 18) cF)]
def a123r3 : Rg := [oL 20 (.cf 164 []), oN (.store 2 (.g 4) (.l 20))]
def a123r4 : Rg := [oL 21 (.cf 87 []), oN (.store 2 (.g 4) (.l 21))]
def a123b : ACode := (.seq (rq a123r0) (.seq (.seq (.reg true a123r1) (.seq (rq a123r2) (.cond (.g 19) (.seq (rq a123r3) .ret) .skip))) (.seq (rq a123r4) .ret)))
def a123 : AFun := ⟨2, 22, a123b, [.cell (true, 4) 2 true]⟩
theorem c123 : compileFun Tryz.prog [0, 1, 3, 4, 5, 19] Tryz.f123 = some a123 := by kernel_rfl
/- (*damask/demand.analysis).app -/
def a124r0 : Rg := [oT 3 (.box (.g 1)), oT 4 (.alloc [bF, .nilmap])]
def a124r1 : Rg := [oL 15 (.fa 3 (.g 3)), oL 16 (.ld (.l 15)), oL 17 (.ia 5 (.l 16) (ci 0)), oL 18 (.load 5 true (.l 17)), oL 19 (.fa 3 (.g 3)), oL 20 (.ld (.l 19)), oL 21 (.slice 5 (.l 20) (some (ci 1)) none none), oT 5 (.alloc [i0, i0, s0, nl, nl]), ⟨none, .store 5 (.g 5) (.l 18), none, [5]⟩, oT 6 (.mv (.l 21))]
def a124r2 : Rg := [oL 23 (.fa 0 (.g 5)), oL 24 (.ld (.l 23)), oL 25 (.bin .eql (.l 24) (ci 2)), oL 26 (.mv (.l 25)), oLt 27 (.mv (.g 0)) 26, oLt 28 (.nilCheck (.l 27)) 26, oLt 29 (.fa 0 (.l 28)) 26, oLt 30 (.ld (.l 29)) 26, oLt 31 (.fa 2 (.g 5)) 26, oLt 32 (.ld (.l 31)) 26, oLt 33 (.lookup true false [i0, bF, bF, bF, bF, bF, bF, bF, bF, bF] true (.l 30) (.l 32)) 26, oLt 34 (.field 0 1 false (.l 33)) 26, oLt 35 (.bin .gtr (.l 34) (ci 0)) 26, oL 36 (.pick (.l 26) (.l 35) cF), oT 22 (.mv (.l 36))]
def a124r3 : Rg := [oL 37 (.mv (.g 0)), oL 38 (.nilCheck (.l 37)), oL 39 (.fa 0 (.l 38)), oL 40 (.ld (.l 39)), oL 41 (.fa 2 (.g 5)), oL 42 (.ld (.l 41)), oL 43 (.lookup true false [i0, bF, bF, bF, bF, bF, bF, bF, bF, bF] true (.l 40) (.l 42)), oT 7 (.alloc [i0, bF, bF, bF, bF, bF, bF, bF, bF, bF]), oN (.store 10 (.g 7) (.l 43))]
def a124r4 : Rg := [oL 44 (.cf 87 []), oT 8 (.alloc [bF, .nilmap]), oN (.store 2 (.g 8) (.l 44))]
def a124r5 : Rg := [oL 45 (.mv (.g 6)), oL 46 (.len (.l 45)), oL 47 (.fa 0 (.g 7)), oL 48 (.ld (.l 47)), oT 49 (.bin .lss (.l 46) (.l 48))]
def a124r6 : Rg := [oL 50 (.load 2 true (.g 8)), oN (.store 2 (.g 4) (.l 50))]
def a124r7 : Rg := [oL 51 (.fa 9 (.g 7)), oT 52 (.ld (.l 51))]
def a124r8 : Rg := [oL 53 (.cf 164 []), oN (.store 2 (.g 4) (.l 53))]
def a124r9 : Rg := [oL 54 (.mv (.g 6)), oL 55 (.fa 0 (.g 7)), oL 56 (.ld (.l 55)), oT 57 (.slice 5 (.l 54) none (some (.l 56)) none), oT 58 (.len (.g 57)), oT 59 (.mv (ci 0))]
def a124r10 : Rg := [oT 60 (.bin .lss (.g 59) (.g 58))]
def a124r11 : Rg := [oL 61 (.mv (.g 59)), oL 62 (.ia 5 (.g 57) (.g 59)), oL 63 (.load 5 true (.l 62)), oT 10 (.alloc [i0, i0, s0, nl, nl]), oT 9 (.mv (.l 61)), oN (.store 5 (.g 10) (.l 63))]
def a124r12 : Rg := [oL 64 (.mv (.g 9)), oL 65 (.fa 1 (.g 7)), oL 66 (.arrAddr 1 8 (.l 65) (.l 64)), oT 67 (.ld (.l 66))]
def a124r13 : Rg := [oL 68 (.load 2 true (.g 8)), oL 69 (.mv (.g 0)), oL 70 (.load 5 true (.g 10)), oL 71 (.ct 49 [(.l 69), (.l 70)]), oL 72 (.ct 165 [(.l 68), (.l 71)]), oN (.store 2 (.g 8) (.l 72))]
def a124r14 : Rg := [oL 73 (.bin .add (.g 59) (ci 1)), oT 59 (.mv (.l 73))]
def a124l15 : ACode := (.seq (rq a124r10) (.seq (.cond (.g 60) .skip (.exit 1)) (.seq (.block 2 (.seq (rq a124r11) (.seq (rq a124r12) (.cond (.g 67) (.reg true a124r13) .skip)))) (rq a124r14))))
def a124r16 : Rg := [oL 74 (.load 2 true (.g 8)), oN (.store 2 (.g 4) (.l 74))]
def a124r17 : Rg := [oL 76 (.fa 0 (.g 5)), oL 77 (.ld (.l 76)), oL 78 (.bin .eql (.l 77) (ci 5)), oL 79 (.mv (.l 78)), oLt 80 (.mv (.g 6)) 79, oLt 81 (.len (.l 80)) 79, oLt 82 (.fa 1 (.g 5)) 79, oLt 83 (.ld (.l 82)) 79, oLt 84 (.bin .geq (.l 81) (.l 83)) 79, oL 85 (.pick (.l 79) (.l 84) cF), oT 75 (.mv (.l 85))]
def a124r18 : Rg := [oL 86 (.mv (.g 0)), oL 87 (.fa 3 (.g 5)), oL 88 (.ld (.l 87)), oL 89 (.ia 5 (.l 88) (ci 0)), oL 90 (.load 5 true (.l 89)), oL 91 (.cf 49 [(.l 86), (.l 90)]), oT 11 (.alloc [bF, .nilmap]), oN (.store 2 (.g 11) (.l 91))]
def a124r19 : Rg := [oL 92 (.load 2 true (.g 11)), oL 93 (.fa 1 (.g 5)), oL 94 (.ld (.l 93)), oL 95 (.cf 166 [(.l 92), (.l 94)]), oT 12 (.alloc [bF, .nilmap]), oN (.store 2 (.g 12) (.l 95))]
def a124r20 : Rg := [oL 96 (.mv (.g 6)), oL 97 (.fa 1 (.g 5)), oL 98 (.ld (.l 97)), oT 99 (.slice 5 (.l 96) none (some (.l 98)) none), oT 100 (.len (.g 99)), oT 101 (.mv (ci 0))]
def a124r21 : Rg := [oT 102 (.bin .lss (.g 101) (.g 100))]
def a124r22 : Rg := [oL 103 (.mv (.g 101)), oL 104 (.ia 5 (.g 99) (.g 101)), oL 105 (.load 5 true (.l 104)), oT 14 (.alloc [i0, i0, s0, nl, nl]), oT 13 (.mv (.l 103)), oN (.store 5 (.g 14) (.l 105))]
def a124r23 : Rg := [oL 106 (.fa 1 (.g 11)), oL 107 (.ld (.l 106)), oL 108 (.fa 1 (.g 5)), oL 109 (.ld (.l 108)), oL 110 (.bin .sub (.l 109) (ci 1)), oL 111 (.mv (.g 13)), oL 112 (.bin .sub (.l 110) (.l 111)), oT 113 (.lookup false false [bF] false (.l 107) (.l 112))]
def a124r24 : Rg := [oL 114 (.load 2 true (.g 12)), oL 115 (.mv (.g 0)), oL 116 (.load 5 true (.g 14)), oL 117 (.ct 49 [(.l 115), (.l 116)]), oL 118 (.ct 165 [(.l 114), (.l 117)]), oN (.store 2 (.g 12) (.l 118))]
def a124r25 : Rg := [oL 119 (.bin .add (.g 101) (ci 1)), oT 101 (.mv (.l 119))]
def a124l26 : ACode := (.seq (rq a124r21) (.seq (.cond (.g 102) .skip (.exit 3)) (.seq (.block 4 (.seq (rq a124r22) (.seq (rq a124r23) (.cond (.g 113) (.reg true a124r24) .skip)))) (rq a124r25))))
def a124r27 : Rg := [oL 120 (.load 2 true (.g 12)), oN (.store 2 (.g 4) (.l 120))]
def a124r28 : Rg := [oL 121 (.mv (.g 0)), oL 122 (.load 5 true (.g 5)), oL 123 (.cf 49 [(.l 121), (.l 122)]), oN (.store 2 (.g 4) (.l 123))]
def a124b : ACode := (.seq (rq a124r0) (.seq (.reg true a124r1) (.seq (.block 0 (.seq (.reg true a124r2) (.cond (.g 22) (.seq (.reg true a124r3) (.seq (rq a124r4) (.seq (.seq (rq a124r5) (.cond (.g 49) (.seq (rq a124r6) .ret) .skip)) (.seq (.seq (rq a124r7) (.cond (.g 52) (.seq (rq a124r8) .ret) .skip)) (.seq (.seq (rq a124r9) (.block 1 (.loop a124l15))) (.seq (rq a124r16) .ret)))))) (.seq (rq a124r17) (.cond (.g 75) (.seq (rq a124r18) (.seq (rq a124r19) (.seq (.seq (rq a124r20) (.block 3 (.loop a124l26))) (.seq (rq a124r27) .ret)))) .skip))))) (.seq (rq a124r28) .ret))))
def a124 : AFun := ⟨2, 124, a124b, [.cell (true, 4) 2 true]⟩
theorem c124 : compileFun Tryz.prog [0, 1, 3, 4, 5, 6, 7, 8, 9, 10, 11, 12, 13, 14, 22, 49, 52, 57, 58, 59, 60, 67, 75, 99, 100, 101, 102, 113] Tryz.f124 = some a124 := by kernel_rfl
/- (*damask/demand.analysis).needs$3 -/
def a125r0 : Rg := [oT 2 (.box (.g 0)), oT 3 (.alloc [bF, .nilmap])]
def a125r1 : Rg := [oL 5 (.fa 3 (.g 2)), oL 6 (.ld (.l 5)), oL 7 (.len (.l 6)), oL 8 (.bin .sub (.l 7) (ci 1)), oT 4 (.mv (.l 8))]
def a125r2 : Rg := [oL 9 (.ld (.g 1)), oL 10 (.fa 3 (.g 2)), oL 11 (.ld (.l 10)), oL 12 (.mv (.g 4)), oL 13 (.slice 5 (.l 11) none (some (.l 12)) none), oL 14 (.fa 3 (.g 2)), oL 15 (.ld (.l 14)), oL 16 (.mv (.g 4)), oL 17 (.ia 5 (.l 15) (.l 16)), oL 18 (.load 5 true (.l 17)), oL 19 (.ct 126 [(.l 9), (.l 13), (.l 18)]), oN (.store 2 (.g 3) (.l 19))]
def a125b : ACode := (.seq (rq a125r0) (.seq (rq a125r1) (.seq (.reg true a125r2) .ret)))
def a125 : AFun := ⟨2, 20, a125b, [.cell (true, 3) 2 true]⟩
theorem c125 : compileFun Tryz.prog [0, 1, 2, 3, 4] Tryz.f125 = some a125 := by kernel_rfl
/- (*damask/demand.analysis).let -/
def a126r0 : Rg := [oT 5 (.box (.g 2)), oT 6 (.alloc [bF, .nilmap])]
def a126r1 : Rg := [oL 13 (.mv (.g 1)), oL 14 (.len (.l 13)), oT 7 (.mv (.l 14))]
def a126r2 : Rg := [oL 15 (.mv (.g 0)), oL 16 (.load 5 true (.g 5)), oL 17 (.cf 49 [(.l 15), (.l 16)]), oT 8 (.alloc [bF, .nilmap]), oN (.store 2 (.g 8) (.l 17))]
def a126r3 : Rg := [oL 18 (.mv (.g 7)), oL 19 (.mkslice 1 1 [bF] false (.l 18) (.l 18)), oT 9 (.mv (.l 19))]
def a126r4 : Rg := [oL 20 (.fa 0 (.g 8)), oL 21 (.ld (.l 20)), oT 22 (.un .not (.l 21))]
def a126r5 : Rg := [oT 23 (.mv (.g 1)), oT 24 (.len (.g 23)), oT 25 (.mv (ci 0))]
def a126r6 : Rg := [oT 26 (.bin .lss (.g 25) (.g 24))]
def a126r7 : Rg := [oL 27 (.mv (.g 25)), oL 28 (.ia 5 (.g 23) (.g 25)), oL 29 (.load 5 true (.l 28)), oT 11 (.alloc [i0, i0, s0, nl, nl]), oT 10 (.mv (.l 27)), oN (.store 5 (.g 11) (.l 29))]
def a126r8 : Rg := [oL 30 (.mv (.g 7)), oL 31 (.bin .sub (.l 30) (ci 1)), oL 32 (.mv (.g 10)), oL 33 (.bin .sub (.l 31) (.l 32)), oT 12 (.mv (.l 33))]
def a126r9 : Rg := [oL 34 (.fa 1 (.g 8)), oL 35 (.ld (.l 34)), oL 36 (.mv (.g 12)), oL 37 (.lookup false false [bF] false (.l 35) (.l 36)), oL 38 (.mv (.l 37)), oLt 39 (.mv (.g 9)) 38, oLt 40 (.mv (.g 10)) 38, oLt 41 (.ia 1 (.l 39) (.l 40)) 38, oLt 42 (.ld (.l 41)) 38, oLt 43 (.un .not (.l 42)) 38, oT 44 (.pick (.l 38) (.l 43) cF)]
def a126r10 : Rg := [oL 45 (.mv (.g 9)), oL 46 (.mv (.g 10)), oL 47 (.ia 1 (.l 45) (.l 46)), oN (.store 1 (.l 47) cT)]
def a126r11 : Rg := [oL 48 (.load 2 true (.g 8)), oL 49 (.mv (.g 0)), oL 50 (.load 5 true (.g 11)), oL 51 (.ct 49 [(.l 49), (.l 50)]), oL 52 (.ct 165 [(.l 48), (.l 51)]), oN (.store 2 (.g 8) (.l 52))]
def a126r12 : Rg := [oL 53 (.bin .add (.g 25) (ci 1)), oT 25 (.mv (.l 53))]
def a126l13 : ACode := (.seq (rq a126r6) (.seq (.cond (.g 26) .skip (.exit 2)) (.seq (.block 3 (.seq (rq a126r7) (.seq (rq a126r8) (.seq (rq a126r9) (.cond (.g 44) (.seq (rq a126r10) (.seq (.reg true a126r11) (.exit 1))) .skip))))) (rq a126r12))))
def a126l14 : ACode := (.seq (.seq (rq a126r4) (.cond (.g 22) .skip (.exit 0))) (.block 1 (.seq (.seq (rq a126r5) (.block 2 (.loop a126l13))) (.exit 0))))
def a126r15 : Rg := [oL 54 (.load 2 true (.g 8)), oL 55 (.mv (.g 7)), oL 56 (.cf 166 [(.l 54), (.l 55)]), oN (.store 2 (.g 6) (.l 56))]
def a126b : ACode := (.seq (rq a126r0) (.seq (rq a126r1) (.seq (rq a126r2) (.seq (rq a126r3) (.seq .skip (.seq (.block 0 (.loop a126l14)) (.seq (rq a126r15) .ret)))))))
def a126 : AFun := ⟨3, 57, a126b, [.cell (true, 6) 2 true]⟩
theorem c126 : compileFun Tryz.prog [0, 1, 2, 5, 6, 7, 8, 9, 10, 11, 12, 22, 23, 24, 25, 26, 44] Tryz.f126 = some a126 := by kernel_rfl
/- (*damask/demand.analysis).choice -/
def a127r0 : Rg := [oT 3 (.box (.g 1)), oT 4 (.alloc [bF, .nilmap])]
def a127r1 : Rg := [oL 9 (.mv (.g 0)), oL 10 (.fa 3 (.g 3)), oL 11 (.ld (.l 10)), oL 12 (.ia 5 (.l 11) (ci 0)), oL 13 (.load 5 true (.l 12)), oL 14 (.cf 49 [(.l 9), (.l 13)]), oT 5 (.alloc [bF, .nilmap]), oN (.store 2 (.g 5) (.l 14))]
def a127r2 : Rg := [oL 15 (.fa 0 (.g 5)), oT 16 (.ld (.l 15))]
def a127r3 : Rg := [oL 17 (.load 2 true (.g 5)), oN (.store 2 (.g 4) (.l 17))]
def a127r4 : Rg := [oL 18 (.cf 164 []), oT 6 (.alloc [bF, .nilmap]), oN (.store 2 (.g 6) (.l 18))]
def a127r5 : Rg := [oL 19 (.fa 4 (.g 3)), oT 20 (.ld (.l 19)), oT 21 (.len (.g 20)), oT 22 (.mv (ci 0))]
def a127r6 : Rg := [oT 23 (.bin .lss (.g 22) (.g 21))]
def a127r7 : Rg := [oL 24 (.ia 8 (.g 20) (.g 22)), oL 25 (.load 8 true (.l 24)), oT 8 (.alloc [i0, s0, i0, i0, i0, s0, nl, nl]), oN (.store 8 (.g 8) (.l 25))]
def a127r8 : Rg := [oL 26 (.load 2 true (.g 6)), oL 27 (.mv (.g 0)), oL 28 (.fa 3 (.g 8)), oL 29 (.load 5 true (.l 28)), oL 30 (.ct 49 [(.l 27), (.l 29)]), oL 31 (.load 8 true (.g 8)), oL 32 (.ct 142 [(.l 31)]), oL 33 (.ct 166 [(.l 30), (.l 32)]), oL 34 (.ct 167 [(.l 26), (.l 33)]), oN (.store 2 (.g 6) (.l 34))]
def a127r9 : Rg := [oL 35 (.bin .add (.g 22) (ci 1)), oT 22 (.mv (.l 35))]
def a127l10 : ACode := (.seq (rq a127r6) (.seq (.cond (.g 23) .skip (.exit 0)) (.seq (.block 1 (.seq (rq a127r7) (.reg true a127r8))) (rq a127r9))))
def a127r11 : Rg := [oL 36 (.load 2 true (.g 5)), oL 37 (.load 2 true (.g 6)), oL 38 (.cf 165 [(.l 36), (.l 37)]), oN (.store 2 (.g 4) (.l 38))]
def a127b : ACode := (.seq (rq a127r0) (.seq (rq a127r1) (.seq (.seq (rq a127r2) (.cond (.g 16) (.seq (rq a127r3) .ret) .skip)) (.seq (rq a127r4) (.seq (.seq (rq a127r5) (.block 0 (.loop a127l10))) (.seq (rq a127r11) .ret))))))
def a127 : AFun := ⟨2, 39, a127b, [.cell (true, 4) 2 true]⟩
theorem c127 : compileFun Tryz.prog [0, 1, 3, 4, 5, 6, 8, 16, 20, 21, 22, 23] Tryz.f127 = some a127 := by kernel_rfl
/- (*damask/demand.analysis).prim -/
def a128r0 : Rg := [oT 3 (.box (.g 1)), oT 4 (.alloc [bF, .nilmap])]
def a128r1 : Rg := [oL 6 (.fa 2 (.g 3)), oL 7 (.ld (.l 6)), oL 8 (.bin .eql (.l 7) (.c (.str ⟨#[116, 104, 114, 111, 119]⟩))), oT 5 (.mv (.l 8))]
def a128r2 : Rg := [oL 9 (.cf 164 []), oN (.store 2 (.g 4) (.l 9))]
def a128r3 : Rg := [oL 11 (.fa 2 (.g 3)), oL 12 (.ld (.l 11)), oL 13 (.cf 168 [(.l 12)]), oT 10 (.mv (.l 13))]
def a128r4 : Rg := [oL 14 (.cf 87 []), oN (.store 2 (.g 4) (.l 14))]
def a128r5 : Rg := [oL 15 (.mv (.g 0)), oL 16 (.fa 3 (.g 3)), oL 17 (.ld (.l 16)), oL 18 (.ia 5 (.l 17) (ci 0)), oL 19 (.load 5 true (.l 18)), oL 20 (.ct 49 [(.l 15), (.l 19)]), oL 21 (.mv (.g 0)), oL 22 (.fa 3 (.g 3)), oL 23 (.ld (.l 22)), oL 24 (.ia 5 (.l 23) (ci 1)), oL 25 (.load 5 true (.l 24)), oL 26 (.ct 49 [(.l 21), (.l 25)]), oL 27 (.ct 165 [(.l 20), (.l 26)]), oN (.store 2 (.g 4) (.l 27))]
def a128b : ACode := (.seq (rq a128r0) (.seq (.block 0 (.seq (rq a128r1) (.cond (.g 5) (.seq (rq a128r2) .ret) (.seq (rq a128r3) (.cond (.g 10) (.seq (rq a128r4) .ret) .skip))))) (.seq (.reg true a128r5) .ret)))
def a128 : AFun := ⟨2, 28, a128b, [.cell (true, 4) 2 true]⟩
theorem c128 : compileFun Tryz.prog [0, 1, 3, 4, 5, 10] Tryz.f128 = some a128 := by kernel_rfl
/- damask/demand.none -/
def a87r0 : Rg := [oT 0 (.alloc [bF, .nilmap])]
def a87r1 : Rg := [oL 1 (.mkmap), oL 2 (.build [bF, .nilmap] [(1, 1, (.l 1))]), oN (.store 2 (.g 0) (.l 2))]
def a87b : ACode := (.seq (rq a87r0) (.seq (rq a87r1) .ret))
def a87 : AFun := ⟨0, 3, a87b, [.cell (true, 0) 2 true]⟩
theorem c87 : compileFun Tryz.prog [0] Tryz.f87 = some a87 := by kernel_rfl
/- damask/demand.everything -/
def a164r0 : Rg := [oT 0 (.alloc [bF, .nilmap])]
def a164r1 : Rg := [oL 1 (.build [bF, .nilmap] [(0, 1, cT)]), oN (.store 2 (.g 0) (.l 1))]
def a164b : ACode := (.seq (rq a164r0) (.seq (rq a164r1) .ret))
def a164 : AFun := ⟨0, 2, a164b, [.cell (true, 0) 2 true]⟩
theorem c164 : compileFun Tryz.prog [0] Tryz.f164 = some a164 := by kernel_rfl
/- (damask/demand.need).with -/
def a165r0 : Rg := [oT 2 (.box (.g 0)), oT 3 (.box (.g 1)), oT 4 (.alloc [bF, .nilmap])]
def a165r1 : Rg := [oL 9 (.fa 0 (.g 2)), oL 10 (.ld (.l 9)), oL 11 (.mv (.l 10)), oLf 12 (.fa 0 (.g 3)) 11, oLf 13 (.ld (.l 12)) 11, oT 14 (.pick (.l 11) cT (.l 13))]
def a165r2 : Rg := [oL 15 (.cf 164 []), oN (.store 2 (.g 4) (.l 15))]
def a165r3 : Rg := [oL 16 (.cf 87 []), oT 5 (.alloc [bF, .nilmap]), oN (.store 2 (.g 5) (.l 16))]
def a165r4 : Rg := [oL 17 (.fa 1 (.g 2)), oL 18 (.ld (.l 17)), oL 19 (.fa 1 (.g 3)), oL 20 (.ld (.l 19)), oT 21 (.buildSlice 1 false [.nilmap] 2 [(0, (.l 18)), (1, (.l 20))]), oT 22 (.len (.g 21)), oT 23 (.mv (ci 0))]
def a165r5 : Rg := [oT 24 (.bin .lss (.g 23) (.g 22))]
def a165r6 : Rg := [oL 25 (.ia 1 (.g 21) (.g 23)), oL 26 (.ld (.l 25)), oT 7 (.mv (.l 26))]
def a165r7 : Rg := [oL 27 (.mv (.g 7)), oT 28 (.range (.l 27))]
def a165r8 : Rg := [oL 29 (.next (.g 28)), oT 30 (.extract (.l 29) 0)]
def a165r9 : Rg := [oL 31 (.entry (.g 28)), oL 32 (.extract (.l 31) 0), oT 8 (.mv (.l 32))]
def a165r10 : Rg := [oL 33 (.fa 1 (.g 5)), oL 34 (.ld (.l 33)), oL 35 (.mv (.g 8)), oN (.mapUpdate false (.l 34) (.l 35) cT)]
def a165l11 : ACode := (.seq (rq a165r8) (.seq (.cond (.g 30) .skip (.exit 2)) (.block 3 (.seq (rq a165r9) (rq a165r10)))))
def a165r12 : Rg := [oL 36 (.bin .add (.g 23) (ci 1)), oT 23 (.mv (.l 36))]
def a165l13 : ACode := (.seq (rq a165r5) (.seq (.cond (.g 24) .skip (.exit 0)) (.seq (.block 1 (.seq (rq a165r6) (.seq (rq a165r7) (.block 2 (.loop a165l11))))) (rq a165r12))))
def a165r14 : Rg := [oL 37 (.load 2 true (.g 5)), oN (.store 2 (.g 4) (.l 37))]
def a165b : ACode := (.seq (rq a165r0) (.seq (.seq (rq a165r1) (.cond (.g 14) (.seq (rq a165r2) .ret) .skip)) (.seq (rq a165r3) (.seq (.seq (rq a165r4) (.block 0 (.loop a165l13))) (.seq (rq a165r14) .ret)))))
def a165 : AFun := ⟨2, 38, a165b, [.cell (true, 4) 2 true]⟩
theorem c165 : compileFun Tryz.prog [0, 1, 2, 3, 4, 5, 7, 8, 14, 21, 22, 23, 24, 28, 30] Tryz.f165 = some a165 := by kernel_rfl
/- (damask/demand.need).outside -/
def a166r0 : Rg := [oT 2 (.box (.g 0)), oT 4 (.alloc [bF, .nilmap])]
def a166r1 : Rg := [oL 7 (.fa 0 (.g 2)), oT 8 (.ld (.l 7))]
def a166r2 : Rg := [oL 9 (.load 2 true (.g 2)), oN (.store 2 (.g 4) (.l 9))]
def a166r3 : Rg := [oL 10 (.cf 87 []), oT 5 (.alloc [bF, .nilmap]), oN (.store 2 (.g 5) (.l 10))]
def a166r4 : Rg := [oL 11 (.fa 1 (.g 2)), oL 12 (.ld (.l 11)), oT 13 (.range (.l 12))]
def a166r5 : Rg := [oL 14 (.next (.g 13)), oT 15 (.extract (.l 14) 0)]
def a166r6 : Rg := [oL 16 (.entry (.g 13)), oL 17 (.extract (.l 16) 0), oT 6 (.mv (.l 17))]
def a166r7 : Rg := [oL 18 (.mv (.g 6)), oL 19 (.mv (.g 1)), oT 20 (.bin .geq (.l 18) (.l 19))]
def a166r8 : Rg := [oL 21 (.fa 1 (.g 5)), oL 22 (.ld (.l 21)), oL 23 (.mv (.g 6)), oL 24 (.mv (.g 1)), oL 25 (.bin .sub (.l 23) (.l 24)), oN (.mapUpdate false (.l 22) (.l 25) cT)]
def a166l9 : ACode := (.seq (rq a166r5) (.seq (.cond (.g 15) .skip (.exit 0)) (.block 1 (.seq (rq a166r6) (.seq (rq a166r7) (.cond (.g 20) (rq a166r8) .skip))))))
def a166r10 : Rg := [oL 26 (.load 2 true (.g 5)), oN (.store 2 (.g 4) (.l 26))]
def a166b : ACode := (.seq (rq a166r0) (.seq (.seq (rq a166r1) (.cond (.g 8) (.seq (rq a166r2) .ret) .skip)) (.seq (rq a166r3) (.seq (.seq (rq a166r4) (.block 0 (.loop a166l9))) (.seq (rq a166r10) .ret)))))
def a166 : AFun := ⟨2, 27, a166b, [.cell (true, 4) 2 true]⟩
theorem c166 : compileFun Tryz.prog [0, 1, 2, 4, 5, 6, 8, 13, 15, 20] Tryz.f166 = some a166 := by kernel_rfl
/- (damask/demand.need).both -/
def a167r0 : Rg := [oT 2 (.box (.g 0)), oT 3 (.box (.g 1)), oT 4 (.alloc [bF, .nilmap])]
def a167r1 : Rg := [oL 8 (.fa 0 (.g 2)), oL 9 (.ld (.l 8)), oT 7 (.mv (.l 9))]
def a167r2 : Rg := [oL 10 (.load 2 true (.g 3)), oN (.store 2 (.g 4) (.l 10))]
def a167r3 : Rg := [oL 12 (.fa 0 (.g 3)), oL 13 (.ld (.l 12)), oT 11 (.mv (.l 13))]
def a167r4 : Rg := [oL 14 (.load 2 true (.g 2)), oN (.store 2 (.g 4) (.l 14))]
def a167r5 : Rg := [oL 15 (.cf 87 []), oT 5 (.alloc [bF, .nilmap]), oN (.store 2 (.g 5) (.l 15))]
def a167r6 : Rg := [oL 16 (.fa 1 (.g 2)), oL 17 (.ld (.l 16)), oT 18 (.range (.l 17))]
def a167r7 : Rg := [oL 19 (.next (.g 18)), oT 20 (.extract (.l 19) 0)]
def a167r8 : Rg := [oL 21 (.entry (.g 18)), oL 22 (.extract (.l 21) 0), oT 6 (.mv (.l 22))]
def a167r9 : Rg := [oL 23 (.fa 1 (.g 3)), oL 24 (.ld (.l 23)), oL 25 (.mv (.g 6)), oT 26 (.lookup false false [bF] false (.l 24) (.l 25))]
def a167r10 : Rg := [oL 27 (.fa 1 (.g 5)), oL 28 (.ld (.l 27)), oL 29 (.mv (.g 6)), oN (.mapUpdate false (.l 28) (.l 29) cT)]
def a167l11 : ACode := (.seq (rq a167r7) (.seq (.cond (.g 20) .skip (.exit 1)) (.block 2 (.seq (rq a167r8) (.seq (rq a167r9) (.cond (.g 26) (rq a167r10) .skip))))))
def a167r12 : Rg := [oL 30 (.load 2 true (.g 5)), oN (.store 2 (.g 4) (.l 30))]
def a167b : ACode := (.seq (rq a167r0) (.seq (.block 0 (.seq (rq a167r1) (.cond (.g 7) (.seq (rq a167r2) .ret) (.seq (rq a167r3) (.cond (.g 11) (.seq (rq a167r4) .ret) .skip))))) (.seq (rq a167r5) (.seq (.seq (rq a167r6) (.block 1 (.loop a167l11))) (.seq (rq a167r12) .ret)))))
def a167 : AFun := ⟨2, 31, a167b, [.cell (true, 4) 2 true]⟩
theorem c167 : compileFun Tryz.prog [0, 1, 2, 3, 4, 5, 6, 7, 11, 18, 20, 26] Tryz.f167 = some a167 := by kernel_rfl
/- damask/term.IsAction -/
def a168r0 : Rg := [oT 2 (.mv cF)]
def a168r1 : Rg := [oL 6 (.ld (.c gv_ari)), oL 7 (.mv (.g 0)), oL 8 (.lookup true true [i0] false (.l 6) (.l 7)), oL 5 (.mv (.l 8)), oL 9 (.extract (.l 5) 0), oL 10 (.extract (.l 5) 1), oL 3 (.mv (.l 9)), oT 4 (.mv (.l 10))]
def a168r2 : Rg := [oL 11 (.mv (.g 4)), oL 12 (.mv (.l 11)), oLt 13 (.ld (.c gv_pur)) 12, oLt 14 (.mv (.g 0)) 12, oLt 15 (.lookup true false [bF] false (.l 13) (.l 14)) 12, oLt 16 (.un .not (.l 15)) 12, oL 17 (.pick (.l 12) (.l 16) cF), oT 2 (.mv (.l 17))]
def a168b : ACode := (.seq (rq a168r0) (.seq (rq a168r1) (.seq (rq a168r2) .ret)))
def a168 : AFun := ⟨1, 18, a168b, [.tmp (true, 2)]⟩
theorem c168 : compileFun Tryz.prog [0, 2, 4] Tryz.f168 = some a168 := by kernel_rfl
/- damask/demand.Of -/
def a37r0 : Rg := [oT 2 (.mv (.c nl))]
def a37r1 : Rg := [oL 10 (.mv (.g 0)), oL 11 (.cf 40 [(.l 10)]), oL 9 (.mv (.l 11)), oL 12 (.extract (.l 9) 0), oL 13 (.extract (.l 9) 1), oT 3 (.mv (.l 12)), oL 4 (.mv (.l 13))]
def a37r2 : Rg := [oT 5 (.mkslice 3 0 [] true (.c .any) (.c .any))]
def a37r3 : Rg := [oT 14 (.mv (.g 0)), oT 15 (.len (.g 14)), oT 16 (.mv (ci 0))]
def a37r4 : Rg := [oT 17 (.bin .lss (.g 16) (.g 15))]
def a37r5 : Rg := [oL 18 (.ia 6 (.g 14) (.g 16)), oL 19 (.load 6 true (.l 18)), oT 7 (.alloc [s0, i0, i0, s0, nl, nl]), oN (.store 6 (.g 7) (.l 19))]
def a37r6 : Rg := [oL 20 (.mv (.g 3)), oL 21 (.nilCheck (.l 20)), oL 22 (.fa 0 (.l 21)), oL 23 (.ld (.l 22)), oL 24 (.fa 0 (.g 7)), oL 25 (.ld (.l 24)), oL 26 (.lookup true false [i0, bF, bF, bF, bF, bF, bF, bF, bF, bF] true (.l 23) (.l 25)), oT 8 (.alloc [i0, bF, bF, bF, bF, bF, bF, bF, bF, bF]), oN (.store 10 (.g 8) (.l 26))]
def a37r7 : Rg := [oL 27 (.mv (.g 5)), oL 28 (.fa 0 (.g 7)), oL 29 (.ld (.l 28)), oL 30 (.fa 1 (.g 8)), oL 31 (.fa 0 (.g 8)), oL 32 (.ld (.l 31)), oL 33 (.sliceArr 8 (.l 30) (.l 32)), oL 34 (.ct 76 [(.l 33)]), oL 35 (.fa 9 (.g 8)), oL 36 (.ld (.l 35)), oL 37 (.build [s0, nl, bF] [(0, 1, (.l 29)), (1, 1, (.l 34)), (2, 1, (.l 36))]), oL 38 (.buildSlice 3 true [s0, nl, bF] 1 [(0, (.l 37))]), oL 39 (.append 3 48 (.l 27) (.l 38)), oT 5 (.mv (.l 39))]
def a37r8 : Rg := [oL 40 (.bin .add (.g 16) (ci 1)), oT 16 (.mv (.l 40))]
def a37l9 : ACode := (.seq (rq a37r4) (.seq (.cond (.g 17) .skip (.exit 0)) (.seq (.block 1 (.seq (rq a37r5) (.seq (.seq (.reg true a37r6) (.frz 8)) (.reg true a37r7)))) (rq a37r8))))
def a37r10 : Rg := [oL 41 (.mv (.g 5)), oT 2 (.mv (.l 41))]
def a37b : ACode := (.seq (rq a37r0) (.seq (rq a37r1) (.seq (rq a37r2) (.seq (.seq (rq a37r3) (.block 0 (.loop a37l9))) (.seq (rq a37r10) .ret)))))
def a37 : AFun := ⟨1, 42, a37b, [.tmp (true, 2)]⟩
theorem c37 : compileFun Tryz.prog [0, 2, 3, 5, 7, 8, 14, 15, 16, 17, 7000000000008, 6000003] Tryz.f37 = some a37 := by kernel_rfl
/- slices.Clone[[]bool,bool] -/
def a76r0 : Rg := [oT 2 (.mv (.c nl))]
def a76r1 : Rg := [oL 3 (.mv (.g 0)), oT 4 (.isnil false (.l 3))]
def a76r2 : Rg := [oT 2 (.mv (.c nl))]
def a76r3 : Rg := [oL 5 (.buildSlice 1 false [bF] 0 []), oL 6 (.mv (.g 0)), oL 7 (.append 1 1 (.l 5) (.l 6)), oT 2 (.mv (.l 7))]
def a76b : ACode := (.seq (rq a76r0) (.seq (.seq (rq a76r1) (.cond (.g 4) (.seq (rq a76r2) .ret) .skip)) (.seq (rq a76r3) .ret)))
def a76 : AFun := ⟨1, 8, a76b, [.tmp (true, 2)]⟩
theorem c76 : compileFun Tryz.prog [0, 2, 4] Tryz.f76 = some a76 := by kernel_rfl
/- damask/demand.Program -/
def a11r0 : Rg := [oT 2 (.mv (.c nl)), oT 3 (.mv (ci 0))]
def a11r1 : Rg := [oL 4 (.mv (.g 0)), oL 5 (.cf 36 [(.l 4)]), oT 6 (.un .not (.l 5))]
def a11r2 : Rg := [oT 2 (.mv (.c nl)), oT 3 (.mv (ci 40))]
def a11r3 : Rg := [oL 7 (.mv (.g 0)), oL 8 (.cf 37 [(.l 7)]), oT 2 (.mv (.l 8)), oT 3 (.mv (ci 0))]
def a11b : ACode := (.seq (rq a11r0) (.seq (.seq (rq a11r1) (.cond (.g 6) (.seq (rq a11r2) .ret) .skip)) (.seq (rq a11r3) .ret)))
def a11 : AFun := ⟨1, 9, a11b, [.tmp (true, 2), .tmp (true, 3)]⟩
theorem c11 : compileFun Tryz.prog [0, 2, 3, 6] Tryz.f11 = some a11 := by kernel_rfl
/- damask/demand.Rounds -/
/- damask/demand.Strict -/
def a20r0 : Rg := [oT 4 (.box (.g 1)), oT 6 (.mv cF), oT 7 (.mv (ci 0))]
def a20r1 : Rg := [oL 10 (.mv (.g 0)), oL 11 (.cf 36 [(.l 10)]), oT 12 (.un .not (.l 11))]
def a20r2 : Rg := [oT 6 (.mv cF), oT 7 (.mv (ci 40))]
def a20r3 : Rg := [oL 13 (.mv (.g 0)), oL 14 (.mkfn 42 [] [(.g 4)]), oL 15 (.cf 41 [(.l 13), (.l 14)]), oT 8 (.mv (.l 15))]
def a20r4 : Rg := [oL 16 (.mv (.g 8)), oT 17 (.bin .lss (.l 16) (ci 0))]
def a20r5 : Rg := [oT 6 (.mv cF), oT 7 (.mv (ci 6))]
def a20r6 : Rg := [oL 18 (.mv (.g 0)), oL 19 (.cf 37 [(.l 18)]), oL 20 (.mv (.g 8)), oL 21 (.ia 3 (.l 19) (.l 20)), oL 22 (.load 3 true (.l 21)), oT 9 (.alloc [s0, nl, bF]), oN (.store 3 (.g 9) (.l 22))]
def a20r7 : Rg := [oL 23 (.mv (.g 2)), oL 24 (.bin .lss (.l 23) (ci 0)), oL 25 (.mv (.l 24)), oLf 26 (.mv (.g 2)) 25, oLf 27 (.fa 1 (.g 9)) 25, oLf 28 (.ld (.l 27)) 25, oLf 29 (.len (.l 28)) 25, oLf 30 (.bin .geq (.l 26) (.l 29)) 25, oT 31 (.pick (.l 25) cT (.l 30))]
def a20r8 : Rg := [oT 6 (.mv cF), oT 7 (.mv (ci 2))]
def a20r9 : Rg := [oL 32 (.fa 1 (.g 9)), oL 33 (.ld (.l 32)), oL 34 (.mv (.g 2)), oL 35 (.ia 1 (.l 33) (.l 34)), oL 36 (.ld (.l 35)), oT 6 (.mv (.l 36)), oT 7 (.mv (ci 0))]
def a20b : ACode := (.seq (rq a20r0) (.seq (.seq (rq a20r1) (.cond (.g 12) (.seq (rq a20r2) .ret) .skip)) (.seq (rq a20r3) (.seq (.seq (rq a20r4) (.cond (.g 17) (.seq (rq a20r5) .ret) .skip)) (.seq (rq a20r6) (.seq (.seq (rq a20r7) (.cond (.g 31) (.seq (rq a20r8) .ret) .skip)) (.seq (rq a20r9) .ret)))))))
def a20 : AFun := ⟨3, 37, a20b, [.tmp (true, 6), .tmp (true, 7)]⟩
theorem c20 : compileFun Tryz.prog [0, 1, 2, 4, 6, 7, 8, 9, 12, 17, 31] Tryz.f20 = some a20 := by kernel_rfl
/- slices.IndexFunc[[]damask/api.PlainGlobal,damask/api.PlainGlobal] -/
def a41r0 : Rg := [oT 4 (.mv (ci 0))]
def a41r1 : Rg := [oL 6 (.mv (.g 0)), oT 7 (.len (.l 6)), oT 8 (.mv (ci 0))]
def a41r2 : Rg := [oT 9 (.bin .lss (.g 8) (.g 7))]
def a41r3 : Rg := [oL 10 (.mv (.g 8)), oT 5 (.mv (.l 10))]
def a41r4 : Rg := [oL 11 (.mv (.g 1)), oL 12 (.mv (.g 0)), oL 13 (.mv (.g 5)), oL 14 (.ia 6 (.l 12) (.l 13)), oL 15 (.load 6 true (.l 14)), oT 16 (.call false (.l 11) [(.l 15)])]
def a41r5 : Rg := [oL 17 (.mv (.g 5)), oT 4 (.mv (.l 17))]
def a41r6 : Rg := [oL 18 (.bin .add (.g 8) (ci 1)), oT 8 (.mv (.l 18))]
def a41l7 : ACode := (.seq (rq a41r2) (.seq (.cond (.g 9) .skip (.exit 0)) (.seq (.block 1 (.seq (rq a41r3) (.seq (rq a41r4) (.cond (.g 16) (.seq (rq a41r5) .ret) .skip)))) (rq a41r6))))
def a41r8 : Rg := [oT 4 (.mv (ci (-1)))]
def a41b : ACode := (.seq (rq a41r0) (.seq (.seq (rq a41r1) (.block 0 (.loop a41l7))) (.seq (rq a41r8) .ret)))
def a41 : AFun := ⟨2, 19, a41b, [.tmp (true, 4)]⟩
theorem c41 : compileFun Tryz.prog [0, 1, 4, 5, 7, 8, 9, 16] Tryz.f41 = some a41 := by kernel_rfl
/- damask/demand.Strict$1 -/
def a42r0 : Rg := [oT 2 (.box (.g 0)), oT 3 (.mv cF)]
def a42r1 : Rg := [oL 4 (.fa 0 (.g 2)), oL 5 (.ld (.l 4)), oL 6 (.ld (.g 1)), oL 7 (.bin .eql (.l 5) (.l 6)), oT 3 (.mv (.l 7))]
def a42b : ACode := (.seq (rq a42r0) (.seq (rq a42r1) .ret))
def a42 : AFun := ⟨2, 8, a42b, [.tmp (true, 3)]⟩
theorem c42 : compileFun Tryz.prog [0, 1, 2, 3] Tryz.f42 = some a42 := by kernel_rfl
/- damask/demand.Need$1 -/
/- damask/demand.Need -/
/- damask/demand.Cheap -/
/- damask/damaskref18.Program -/
def a21r0 : Rg := [oT 2 (.mv (.c nl)), oT 3 (.mv (ci 0))]
def a21r1 : Rg := [oT 4 (.mv (.c nl))]
def a21r2 : Rg := [oT 5 (.mv (ci 0))]
def a21r3 : Rg := [oL 10 (.mv (.g 5)), oL 11 (.mv (.g 0)), oL 12 (.len (.l 11)), oT 13 (.bin .lss (.l 10) (.l 12))]
def a21r4 : Rg := [oL 16 (.mv (.g 0)), oL 17 (.mv (.g 5)), oL 18 (.ia 6 (.l 16) (.l 17)), oL 19 (.fa 0 (.l 18)), oL 20 (.ld (.l 19)), oL 21 (.build [s0, nl, bF] [(0, 1, (.l 20)), (2, 1, cT)]), oT 6 (.alloc [s0, nl, bF]), oN (.store 3 (.g 6) (.l 21))]
def a21r5 : Rg := [oT 7 (.mv (ci 0))]
def a21r6 : Rg := [oL 22 (.mv (.g 7)), oL 23 (.mv (.g 0)), oL 24 (.mv (.g 5)), oL 25 (.ia 6 (.l 23) (.l 24)), oL 26 (.load 6 true (.l 25)), oL 27 (.cf 13 [(.l 26)]), oT 28 (.bin .lss (.l 22) (.l 27))]
def a21r7 : Rg := [oL 31 (.fa 1 (.g 6)), oL 32 (.ld (.l 31)), oL 33 (.buildSlice 1 false [bF] 1 [(0, cT)]), oL 34 (.append 1 1 (.l 32) (.l 33)), oL 35 (.fa 1 (.g 6)), oN (.store 1 (.l 35) (.l 34))]
def a21r8 : Rg := [oL 29 (.mv (.g 7)), oL 30 (.bin .add (.l 29) (ci 1)), oT 7 (.mv (.l 30))]
def a21l9 : ACode := (.seq (.seq (rq a21r6) (.cond (.g 28) .skip (.exit 2))) (.seq (.block 3 (rq a21r7)) (rq a21r8)))
def a21r10 : Rg := [oL 36 (.mv (.g 4)), oL 37 (.load 3 true (.g 6)), oL 38 (.buildSlice 3 true [s0, nl, bF] 1 [(0, (.l 37))]), oL 39 (.append 3 48 (.l 36) (.l 38)), oT 4 (.mv (.l 39))]
def a21r11 : Rg := [oL 14 (.mv (.g 5)), oL 15 (.bin .add (.l 14) (ci 1)), oT 5 (.mv (.l 15))]
def a21l12 : ACode := (.seq (.seq (rq a21r3) (.cond (.g 13) .skip (.exit 0))) (.seq (.block 1 (.seq (rq a21r4) (.seq (.seq (rq a21r5) (.block 2 (.loop a21l9))) (rq a21r10)))) (rq a21r11)))
def a21r13 : Rg := [oT 8 (.mv (ci 1))]
def a21r14 : Rg := [oL 42 (.mv (.g 0)), oL 43 (.mv (.g 4)), oL 44 (.cf 43 [(.l 42), (.l 43)]), oT 9 (.mv (.l 44))]
def a21r15 : Rg := [oL 45 (.mv (.g 4)), oL 46 (.mv (.g 9)), oT 47 (.cf 22 [(.l 45), (.l 46)])]
def a21r16 : Rg := [oL 48 (.mv (.g 4)), oL 49 (.mv (.g 8)), oT 2 (.mv (.l 48)), oT 3 (.mv (.l 49))]
def a21r17 : Rg := [oL 50 (.mv (.g 9)), oT 4 (.mv (.l 50))]
def a21r18 : Rg := [oL 40 (.mv (.g 8)), oL 41 (.bin .add (.l 40) (ci 1)), oT 8 (.mv (.l 41))]
def a21l19 : ACode := (.seq (.block 5 (.seq (rq a21r14) (.seq (.seq (rq a21r15) (.cond (.g 47) (.seq (rq a21r16) .ret) .skip)) (rq a21r17)))) (rq a21r18))
def a21b : ACode := (.seq (rq a21r0) (.seq (rq a21r1) (.seq (.seq (rq a21r2) (.block 0 (.loop a21l12))) (.seq (rq a21r13) (.block 4 (.loop a21l19))))))
def a21 : AFun := ⟨1, 51, a21b, [.tmp (true, 2), .tmp (true, 3)]⟩
theorem c21 : compileFun Tryz.prog [0, 2, 3, 4, 5, 6, 7, 8, 9, 13, 28, 47] Tryz.f21 = some a21 := by kernel_rfl
/- damask/damaskref18.round -/
def a43r0 : Rg := [oT 4 (.mv (.c nl))]
def a43r1 : Rg := [oL 13 (.mv (.g 0)), oL 14 (.mv (.g 1)), oL 15 (.build [nl, nl] [(0, 1, (.l 13)), (1, 1, (.l 14))]), oT 5 (.alloc [nl, nl]), oN (.store 2 (.g 5) (.l 15))]
def a43r2 : Rg := [oT 6 (.mv (.c nl))]
def a43r3 : Rg := [oT 7 (.mv (ci 0))]
def a43r4 : Rg := [oL 16 (.mv (.g 7)), oL 17 (.mv (.g 0)), oL 18 (.len (.l 17)), oT 19 (.bin .lss (.l 16) (.l 18))]
def a43r5 : Rg := [oL 22 (.mv (.g 0)), oL 23 (.mv (.g 7)), oL 24 (.ia 6 (.l 22) (.l 23)), oL 25 (.load 6 true (.l 24)), oL 26 (.cf 13 [(.l 25)]), oT 8 (.mv (.l 26))]
def a43r6 : Rg := [oL 27 (.mv (.g 0)), oL 28 (.mv (.g 7)), oL 29 (.ia 6 (.l 27) (.l 28)), oL 30 (.fa 1 (.l 29)), oL 31 (.load 5 true (.l 30)), oT 9 (.alloc [i0, i0, s0, nl, nl]), oN (.store 5 (.g 9) (.l 31))]
def a43r7 : Rg := [oL 32 (.mv (.g 8)), oT 33 (.bin .gtr (.l 32) (ci 0))]
def a43r8 : Rg := [oL 34 (.fa 3 (.g 9)), oL 35 (.ld (.l 34)), oL 36 (.ia 5 (.l 35) (ci 0)), oL 37 (.load 5 true (.l 36)), oN (.store 5 (.g 9) (.l 37))]
def a43r9 : Rg := [oL 38 (.load 2 true (.g 5)), oL 39 (.load 5 true (.g 9)), oL 40 (.cf 29 [(.l 38), (.l 39)]), oT 10 (.alloc [bF, nl]), oN (.store 2 (.g 10) (.l 40))]
def a43r10 : Rg := [oL 41 (.mv (.g 0)), oL 42 (.mv (.g 7)), oL 43 (.ia 6 (.l 41) (.l 42)), oL 44 (.fa 0 (.l 43)), oL 45 (.ld (.l 44)), oL 46 (.fa 0 (.g 10)), oL 47 (.ld (.l 46)), oL 48 (.build [s0, nl, bF] [(0, 1, (.l 45)), (2, 1, (.l 47))]), oT 11 (.alloc [s0, nl, bF]), oN (.store 3 (.g 11) (.l 48))]
def a43r11 : Rg := [oT 12 (.mv (ci 0))]
def a43r12 : Rg := [oL 49 (.mv (.g 12)), oL 50 (.mv (.g 8)), oT 51 (.bin .lss (.l 49) (.l 50))]
def a43r13 : Rg := [oL 54 (.fa 1 (.g 11)), oL 55 (.ld (.l 54)), oL 56 (.fa 0 (.g 10)), oL 57 (.ld (.l 56)), oL 58 (.mv (.l 57)), oLf 59 (.load 2 true (.g 10)) 58, oLf 60 (.mv (.g 8)) 58, oLf 61 (.bin .sub (.l 60) (ci 1)) 58, oLf 62 (.mv (.g 12)) 58, oLf 63 (.bin .sub (.l 61) (.l 62)) 58, oLf 64 (.ct 81 [(.l 59), (.l 63)]) 58, oL 65 (.pick (.l 58) cT (.l 64)), oL 66 (.buildSlice 1 false [bF] 1 [(0, (.l 65))]), oL 67 (.append 1 1 (.l 55) (.l 66)), oL 68 (.fa 1 (.g 11)), oN (.store 1 (.l 68) (.l 67))]
def a43r14 : Rg := [oL 52 (.mv (.g 12)), oL 53 (.bin .add (.l 52) (ci 1)), oT 12 (.mv (.l 53))]
def a43l15 : ACode := (.seq (.seq (rq a43r12) (.cond (.g 51) .skip (.exit 2))) (.seq (.block 3 (.reg true a43r13)) (rq a43r14)))
def a43r16 : Rg := [oL 69 (.mv (.g 6)), oL 70 (.load 3 true (.g 11)), oL 71 (.buildSlice 3 true [s0, nl, bF] 1 [(0, (.l 70))]), oL 72 (.append 3 48 (.l 69) (.l 71)), oT 6 (.mv (.l 72))]
def a43r17 : Rg := [oL 20 (.mv (.g 7)), oL 21 (.bin .add (.l 20) (ci 1)), oT 7 (.mv (.l 21))]
def a43l18 : ACode := (.seq (.seq (rq a43r4) (.cond (.g 19) .skip (.exit 0))) (.seq (.block 1 (.seq (rq a43r5) (.seq (rq a43r6) (.seq (.seq (rq a43r7) (.cond (.g 33) (rq a43r8) .skip)) (.seq (rq a43r9) (.seq (.reg true a43r10) (.seq (.seq (rq a43r11) (.block 2 (.loop a43l15))) (rq a43r16)))))))) (rq a43r17)))
def a43r19 : Rg := [oL 73 (.mv (.g 6)), oT 4 (.mv (.l 73))]
def a43b : ACode := (.seq (rq a43r0) (.seq (rq a43r1) (.seq (rq a43r2) (.seq (.seq (rq a43r3) (.block 0 (.loop a43l18))) (.seq (rq a43r19) .ret)))))
def a43 : AFun := ⟨2, 74, a43b, [.tmp (true, 4)]⟩
theorem c43 : compileFun Tryz.prog [0, 1, 4, 5, 6, 7, 8, 9, 10, 11, 12, 19, 33, 51] Tryz.f43 = some a43 := by kernel_rfl
/- damask/damaskref18.Same -/
def a22r0 : Rg := [oT 4 (.mv cF)]
def a22r1 : Rg := [oL 9 (.mv (.g 0)), oL 10 (.len (.l 9)), oL 11 (.mv (.g 1)), oL 12 (.len (.l 11)), oT 13 (.bin .neq (.l 10) (.l 12))]
def a22r2 : Rg := [oT 4 (.mv cF)]
def a22r3 : Rg := [oT 5 (.mv (ci 0))]
def a22r4 : Rg := [oL 14 (.mv (.g 5)), oL 15 (.mv (.g 0)), oL 16 (.len (.l 15)), oT 17 (.bin .lss (.l 14) (.l 16))]
def a22r5 : Rg := [oL 20 (.mv (.g 0)), oL 21 (.mv (.g 5)), oL 22 (.ia 3 (.l 20) (.l 21)), oL 23 (.load 3 true (.l 22)), oL 24 (.mv (.g 1)), oL 25 (.mv (.g 5)), oL 26 (.ia 3 (.l 24) (.l 25)), oL 27 (.load 3 true (.l 26)), oT 6 (.alloc [s0, nl, bF]), oT 7 (.alloc [s0, nl, bF]), ⟨none, .store 3 (.g 6) (.l 23), none, [7]⟩, oN (.store 3 (.g 7) (.l 27))]
def a22r6 : Rg := [oL 28 (.fa 0 (.g 6)), oL 29 (.ld (.l 28)), oL 30 (.fa 0 (.g 7)), oL 31 (.ld (.l 30)), oL 32 (.bin .neq (.l 29) (.l 31)), oL 33 (.mv (.l 32)), oLf 34 (.fa 2 (.g 6)) 33, oLf 35 (.ld (.l 34)) 33, oLf 36 (.fa 2 (.g 7)) 33, oLf 37 (.ld (.l 36)) 33, oLf 38 (.eqb true (.l 35) (.l 37)) 33, oL 39 (.pick (.l 33) cT (.l 38)), oL 40 (.mv (.l 39)), oLf 41 (.fa 1 (.g 6)) 40, oLf 42 (.ld (.l 41)) 40, oLf 43 (.len (.l 42)) 40, oLf 44 (.fa 1 (.g 7)) 40, oLf 45 (.ld (.l 44)) 40, oLf 46 (.len (.l 45)) 40, oLf 47 (.bin .neq (.l 43) (.l 46)) 40, oT 48 (.pick (.l 40) cT (.l 47))]
def a22r7 : Rg := [oT 4 (.mv cF)]
def a22r8 : Rg := [oT 8 (.mv (ci 0))]
def a22r9 : Rg := [oL 49 (.mv (.g 8)), oL 50 (.fa 1 (.g 6)), oL 51 (.ld (.l 50)), oL 52 (.len (.l 51)), oT 53 (.bin .lss (.l 49) (.l 52))]
def a22r10 : Rg := [oL 56 (.fa 1 (.g 6)), oL 57 (.ld (.l 56)), oL 58 (.mv (.g 8)), oL 59 (.ia 1 (.l 57) (.l 58)), oL 60 (.ld (.l 59)), oL 61 (.fa 1 (.g 7)), oL 62 (.ld (.l 61)), oL 63 (.mv (.g 8)), oL 64 (.ia 1 (.l 62) (.l 63)), oL 65 (.ld (.l 64)), oT 66 (.eqb true (.l 60) (.l 65))]
def a22r11 : Rg := [oT 4 (.mv cF)]
def a22r12 : Rg := [oL 54 (.mv (.g 8)), oL 55 (.bin .add (.l 54) (ci 1)), oT 8 (.mv (.l 55))]
def a22l13 : ACode := (.seq (.seq (rq a22r9) (.cond (.g 53) .skip (.exit 2))) (.seq (.block 3 (.seq (.reg true a22r10) (.cond (.g 66) (.seq (rq a22r11) .ret) .skip))) (rq a22r12)))
def a22r14 : Rg := [oL 18 (.mv (.g 5)), oL 19 (.bin .add (.l 18) (ci 1)), oT 5 (.mv (.l 19))]
def a22l15 : ACode := (.seq (.seq (rq a22r4) (.cond (.g 17) .skip (.exit 0))) (.seq (.block 1 (.seq (.reg true a22r5) (.seq (.seq (rq a22r6) (.cond (.g 48) (.seq (rq a22r7) .ret) .skip)) (.seq (rq a22r8) (.block 2 (.loop a22l13)))))) (rq a22r14)))
def a22r16 : Rg := [oT 4 (.mv cT)]
def a22b : ACode := (.seq (rq a22r0) (.seq (.seq (rq a22r1) (.cond (.g 13) (.seq (rq a22r2) .ret) .skip)) (.seq (.seq (rq a22r3) (.block 0 (.loop a22l15))) (.seq (rq a22r16) .ret))))
def a22 : AFun := ⟨2, 67, a22b, [.tmp (true, 4)]⟩
theorem c22 : compileFun Tryz.prog [0, 1, 4, 5, 6, 7, 8, 13, 17, 48, 53, 66] Tryz.f22 = some a22 := by kernel_rfl
/- (damask/damaskref18.Known).Of -/
def a29r0 : Rg := [oT 2 (.box (.g 0)), oT 3 (.box (.g 1)), oT 4 (.alloc [bF, nl])]
def a29r1 : Rg := [oL 7 (.fa 0 (.g 3)), oT 8 (.ld (.l 7))]
def a29r2 : Rg := [oL 10 (.bin .eql (.g 8) (ci 1)), oT 9 (.mv (.l 10))]
def a29r3 : Rg := [oL 11 (.fa 1 (.g 3)), oL 12 (.ld (.l 11)), oL 13 (.buildSlice 1 false [i0] 1 [(0, (.l 12))]), oL 14 (.build [bF, nl] [(1, 1, (.l 13))]), oN (.store 2 (.g 4) (.l 14))]
def a29r4 : Rg := [oL 16 (.bin .eql (.g 8) (ci 2)), oT 15 (.mv (.l 16))]
def a29r5 : Rg := [oL 17 (.fa 0 (.g 2)), oL 18 (.ld (.l 17)), oL 19 (.fa 2 (.g 3)), oL 20 (.ld (.l 19)), oL 21 (.cf 23 [(.l 18), (.l 20)]), oT 5 (.mv (.l 21))]
def a29r6 : Rg := [oL 22 (.fa 0 (.g 2)), oL 23 (.ld (.l 22)), oL 24 (.mv (.g 5)), oL 25 (.ia 6 (.l 23) (.l 24)), oL 26 (.load 6 true (.l 25)), oL 27 (.cf 13 [(.l 26)]), oL 28 (.bin .eql (.l 27) (ci 0)), oL 29 (.mv (.l 28)), oLt 30 (.fa 1 (.g 2)) 29, oLt 31 (.ld (.l 30)) 29, oLt 32 (.mv (.g 5)) 29, oLt 33 (.ia 3 (.l 31) (.l 32)) 29, oLt 34 (.fa 2 (.l 33)) 29, oLt 35 (.ld (.l 34)) 29, oL 36 (.pick (.l 29) (.l 35) cF), oL 37 (.build [bF, nl] [(0, 1, (.l 36))]), oN (.store 2 (.g 4) (.l 37))]
def a29r7 : Rg := [oL 39 (.bin .eql (.g 8) (ci 6)), oT 38 (.mv (.l 39))]
def a29r8 : Rg := [oL 40 (.load 2 true (.g 2)), oL 41 (.load 5 true (.g 3)), oL 42 (.cf 53 [(.l 40), (.l 41)]), oN (.store 2 (.g 4) (.l 42))]
def a29r9 : Rg := [oL 44 (.bin .eql (.g 8) (ci 7)), oT 43 (.mv (.l 44))]
def a29r10 : Rg := [oL 45 (.load 2 true (.g 2)), oL 46 (.load 5 true (.g 3)), oL 47 (.cf 54 [(.l 45), (.l 46)]), oN (.store 2 (.g 4) (.l 47))]
def a29r11 : Rg := [oL 49 (.bin .eql (.g 8) (ci 8)), oT 48 (.mv (.l 49))]
def a29r12 : Rg := [oL 50 (.load 2 true (.g 2)), oL 51 (.load 5 true (.g 3)), oL 52 (.cf 55 [(.l 50), (.l 51)]), oN (.store 2 (.g 4) (.l 52))]
def a29r13 : Rg := [oL 54 (.bin .eql (.g 8) (ci 9)), oT 53 (.mv (.l 54))]
def a29r14 : Rg := [oL 55 (.fa 2 (.g 3)), oL 56 (.ld (.l 55)), oL 57 (.cf 56 [(.l 56)]), oT 6 (.mv (.l 57))]
def a29r15 : Rg := [oL 58 (.mv (.g 6)), oL 59 (.cf 56 [(.c (.str ⟨#[116, 104, 114, 111, 119]⟩))]), oT 60 (.bin .lss (.l 58) (.l 59))]
def a29r16 : Rg := [oL 61 (.load 2 true (.g 2)), oL 62 (.fa 3 (.g 3)), oL 63 (.ld (.l 62)), oL 64 (.ia 5 (.l 63) (ci 0)), oL 65 (.load 5 true (.l 64)), oL 66 (.ct 29 [(.l 61), (.l 65)]), oL 67 (.load 2 true (.g 2)), oL 68 (.fa 3 (.g 3)), oL 69 (.ld (.l 68)), oL 70 (.ia 5 (.l 69) (ci 1)), oL 71 (.load 5 true (.l 70)), oL 72 (.ct 29 [(.l 67), (.l 71)]), oL 73 (.ct 57 [(.l 66), (.l 72)]), oN (.store 2 (.g 4) (.l 73))]
def a29r17 : Rg := [oL 74 (.fa 2 (.g 3)), oL 75 (.ld (.l 74)), oL 76 (.bin .eql (.l 75) (.c (.str ⟨#[116, 104, 114, 111, 119]⟩))), oL 77 (.build [bF, nl] [(0, 1, (.l 76))]), oN (.store 2 (.g 4) (.l 77))]
def a29r18 : Rg := [oL 78 (.build [bF, nl] []), oN (.store 2 (.g 4) (.l 78))]
def a29b : ACode := (.seq (rq a29r0) (.seq (.seq (rq a29r1) (.block 0 (.seq (rq a29r2) (.cond (.g 9) (.seq (rq a29r3) .ret) (.seq (rq a29r4) (.cond (.g 15) (.seq (rq a29r5) (.seq (rq a29r6) .ret)) (.seq (rq a29r7) (.cond (.g 38) (.seq (rq a29r8) .ret) (.seq (rq a29r9) (.cond (.g 43) (.seq (rq a29r10) .ret) (.seq (rq a29r11) (.cond (.g 48) (.seq (rq a29r12) .ret) (.seq (rq a29r13) (.cond (.g 53) (.seq (rq a29r14) (.seq (.seq (rq a29r15) (.cond (.g 60) (.seq (.reg true a29r16) .ret) .skip)) (.seq (rq a29r17) .ret))) .skip)))))))))))))) (.seq (rq a29r18) .ret)))
def a29 : AFun := ⟨2, 79, a29b, [.cell (true, 4) 2 true]⟩
theorem c29 : compileFun Tryz.prog [0, 1, 2, 3, 4, 5, 6, 8, 9, 15, 38, 43, 48, 53, 60] Tryz.f29 = some a29 := by kernel_rfl
/- (damask/damaskref18.Known).app -/
def a53r0 : Rg := [oT 2 (.box (.g 0)), oT 3 (.box (.g 1)), oT 4 (.alloc [bF, nl])]
def a53r1 : Rg := [oL 14 (.fa 3 (.g 3)), oL 15 (.ld (.l 14)), oL 16 (.ia 5 (.l 15) (ci 0)), oL 17 (.load 5 true (.l 16)), oL 18 (.fa 3 (.g 3)), oL 19 (.ld (.l 18)), oL 20 (.slice 5 (.l 19) (some (ci 1)) none none), oT 5 (.alloc [i0, i0, s0, nl, nl]), ⟨none, .store 5 (.g 5) (.l 17), none, [5]⟩, oT 6 (.mv (.l 20))]
def a53r2 : Rg := [oL 21 (.fa 0 (.g 5)), oL 22 (.ld (.l 21)), oL 23 (.bin .eql (.l 22) (ci 5)), oL 24 (.mv (.l 23)), oLt 25 (.mv (.g 6)) 24, oLt 26 (.len (.l 25)) 24, oLt 27 (.fa 1 (.g 5)) 24, oLt 28 (.ld (.l 27)) 24, oLt 29 (.bin .geq (.l 26) (.l 28)) 24, oT 30 (.pick (.l 24) (.l 29) cF)]
def a53r3 : Rg := [oL 31 (.load 2 true (.g 2)), oL 32 (.fa 3 (.g 5)), oL 33 (.ld (.l 32)), oL 34 (.ia 5 (.l 33) (ci 0)), oL 35 (.load 5 true (.l 34)), oL 36 (.ct 29 [(.l 31), (.l 35)]), oT 7 (.alloc [bF, nl]), oN (.store 2 (.g 7) (.l 36))]
def a53r4 : Rg := [oL 37 (.load 2 true (.g 7)), oL 38 (.fa 1 (.g 5)), oL 39 (.ld (.l 38)), oL 40 (.cf 94 [(.l 37), (.l 39)]), oT 8 (.alloc [bF, nl]), oN (.store 2 (.g 8) (.l 40))]
def a53r5 : Rg := [oT 9 (.mv (ci 0))]
def a53r6 : Rg := [oL 41 (.mv (.g 9)), oL 42 (.fa 1 (.g 5)), oL 43 (.ld (.l 42)), oT 44 (.bin .lss (.l 41) (.l 43))]
def a53r7 : Rg := [oL 47 (.fa 0 (.g 7)), oL 48 (.ld (.l 47)), oL 49 (.un .not (.l 48)), oL 50 (.mv (.l 49)), oLt 51 (.load 2 true (.g 7)) 50, oLt 52 (.fa 1 (.g 5)) 50, oLt 53 (.ld (.l 52)) 50, oLt 54 (.bin .sub (.l 53) (ci 1)) 50, oLt 55 (.mv (.g 9)) 50, oLt 56 (.bin .sub (.l 54) (.l 55)) 50, oLt 57 (.cf 81 [(.l 51), (.l 56)]) 50, oT 58 (.pick (.l 50) (.l 57) cF)]
def a53r8 : Rg := [oL 59 (.load 2 true (.g 8)), oL 60 (.load 2 true (.g 2)), oL 61 (.mv (.g 6)), oL 62 (.mv (.g 9)), oL 63 (.ia 5 (.l 61) (.l 62)), oL 64 (.load 5 true (.l 63)), oL 65 (.ct 29 [(.l 60), (.l 64)]), oL 66 (.ct 57 [(.l 59), (.l 65)]), oN (.store 2 (.g 8) (.l 66))]
def a53r9 : Rg := [oL 45 (.mv (.g 9)), oL 46 (.bin .add (.l 45) (ci 1)), oT 9 (.mv (.l 46))]
def a53l10 : ACode := (.seq (.seq (rq a53r6) (.cond (.g 44) .skip (.exit 0))) (.seq (.block 1 (.seq (rq a53r7) (.cond (.g 58) (.reg true a53r8) .skip))) (rq a53r9)))
def a53r11 : Rg := [oL 67 (.load 2 true (.g 8)), oN (.store 2 (.g 4) (.l 67))]
def a53r12 : Rg := [oL 68 (.fa 0 (.g 5)), oL 69 (.ld (.l 68)), oT 70 (.bin .neq (.l 69) (ci 2))]
def a53r13 : Rg := [oL 71 (.load 2 true (.g 2)), oL 72 (.load 5 true (.g 5)), oL 73 (.cf 29 [(.l 71), (.l 72)]), oN (.store 2 (.g 4) (.l 73))]
def a53r14 : Rg := [oL 74 (.fa 0 (.g 2)), oL 75 (.ld (.l 74)), oL 76 (.fa 2 (.g 5)), oL 77 (.ld (.l 76)), oL 78 (.cf 23 [(.l 75), (.l 77)]), oT 10 (.mv (.l 78))]
def a53r15 : Rg := [oL 79 (.fa 0 (.g 2)), oL 80 (.ld (.l 79)), oL 81 (.mv (.g 10)), oL 82 (.ia 6 (.l 80) (.l 81)), oL 83 (.load 6 true (.l 82)), oL 84 (.cf 13 [(.l 83)]), oT 11 (.mv (.l 84))]
def a53r16 : Rg := [oL 85 (.mv (.g 11)), oT 86 (.bin .eql (.l 85) (ci 0))]
def a53r17 : Rg := [oL 87 (.load 2 true (.g 2)), oL 88 (.load 5 true (.g 5)), oL 89 (.cf 29 [(.l 87), (.l 88)]), oN (.store 2 (.g 4) (.l 89))]
def a53r18 : Rg := [oL 90 (.mv (.g 6)), oL 91 (.len (.l 90)), oL 92 (.mv (.g 11)), oL 93 (.bin .lss (.l 91) (.l 92)), oL 94 (.mv (.l 93)), oLf 95 (.fa 1 (.g 2)) 94, oLf 96 (.ld (.l 95)) 94, oLf 97 (.mv (.g 10)) 94, oLf 98 (.ia 3 (.l 96) (.l 97)) 94, oLf 99 (.fa 2 (.l 98)) 94, oLf 100 (.ld (.l 99)) 94, oT 101 (.pick (.l 94) cT (.l 100))]
def a53r19 : Rg := [oL 102 (.mv (.g 6)), oL 103 (.len (.l 102)), oL 104 (.mv (.g 11)), oL 105 (.bin .geq (.l 103) (.l 104)), oL 106 (.build [bF, nl] [(0, 1, (.l 105))]), oN (.store 2 (.g 4) (.l 106))]
def a53r20 : Rg := [oT 12 (.alloc [bF, nl])]
def a53r21 : Rg := [oT 13 (.mv (ci 0))]
def a53r22 : Rg := [oL 107 (.mv (.g 13)), oL 108 (.mv (.g 11)), oT 109 (.bin .lss (.l 107) (.l 108))]
def a53r23 : Rg := [oL 112 (.fa 1 (.g 2)), oL 113 (.ld (.l 112)), oL 114 (.mv (.g 10)), oL 115 (.ia 3 (.l 113) (.l 114)), oL 116 (.fa 1 (.l 115)), oL 117 (.ld (.l 116)), oL 118 (.mv (.g 13)), oL 119 (.ia 1 (.l 117) (.l 118)), oT 120 (.ld (.l 119))]
def a53r24 : Rg := [oL 121 (.load 2 true (.g 12)), oL 122 (.load 2 true (.g 2)), oL 123 (.mv (.g 6)), oL 124 (.mv (.g 13)), oL 125 (.ia 5 (.l 123) (.l 124)), oL 126 (.load 5 true (.l 125)), oL 127 (.ct 29 [(.l 122), (.l 126)]), oL 128 (.ct 57 [(.l 121), (.l 127)]), oN (.store 2 (.g 12) (.l 128))]
def a53r25 : Rg := [oL 110 (.mv (.g 13)), oL 111 (.bin .add (.l 110) (ci 1)), oT 13 (.mv (.l 111))]
def a53l26 : ACode := (.seq (.seq (rq a53r22) (.cond (.g 109) .skip (.exit 2))) (.seq (.block 3 (.seq (rq a53r23) (.cond (.g 120) (.reg true a53r24) .skip))) (rq a53r25)))
def a53r27 : Rg := [oL 129 (.load 2 true (.g 12)), oN (.store 2 (.g 4) (.l 129))]
def a53b : ACode := (.seq (rq a53r0) (.seq (.reg true a53r1) (.seq (.seq (rq a53r2) (.cond (.g 30) (.seq (.reg true a53r3) (.seq (rq a53r4) (.seq (.seq (rq a53r5) (.block 0 (.loop a53l10))) (.seq (rq a53r11) .ret)))) .skip)) (.seq (.seq (rq a53r12) (.cond (.g 70) (.seq (rq a53r13) .ret) .skip)) (.seq (rq a53r14) (.seq (rq a53r15) (.seq (.seq (rq a53r16) (.cond (.g 86) (.seq (rq a53r17) .ret) .skip)) (.seq (.seq (rq a53r18) (.cond (.g 101) (.seq (rq a53r19) .ret) .skip)) (.seq (rq a53r20) (.seq (.seq (rq a53r21) (.block 2 (.loop a53l26))) (.seq (rq a53r27) .ret)))))))))))
def a53 : AFun := ⟨2, 130, a53b, [.cell (true, 4) 2 true]⟩
theorem c53 : compileFun Tryz.prog [0, 1, 2, 3, 4, 5, 6, 7, 8, 9, 10, 11, 12, 13, 30, 44, 58, 70, 86, 101, 109, 120] Tryz.f53 = some a53 := by kernel_rfl
/- (damask/damaskref18.Known).let -/
def a54r0 : Rg := [oT 2 (.box (.g 0)), oT 3 (.box (.g 1)), oT 4 (.alloc [bF, nl])]
def a54r1 : Rg := [oL 10 (.fa 3 (.g 3)), oL 11 (.ld (.l 10)), oL 12 (.len (.l 11)), oL 13 (.bin .sub (.l 12) (ci 1)), oT 5 (.mv (.l 13))]
def a54r2 : Rg := [oL 14 (.load 2 true (.g 2)), oL 15 (.fa 3 (.g 3)), oL 16 (.ld (.l 15)), oL 17 (.mv (.g 5)), oL 18 (.ia 5 (.l 16) (.l 17)), oL 19 (.load 5 true (.l 18)), oL 20 (.ct 29 [(.l 14), (.l 19)]), oT 6 (.alloc [bF, nl]), oN (.store 2 (.g 6) (.l 20))]
def a54r3 : Rg := [oL 21 (.mv (.g 5)), oL 22 (.mkslice 1 1 [bF] false (.l 21) (.l 21)), oT 7 (.mv (.l 22))]
def a54r4 : Rg := [oT 8 (.mv cT)]
def a54r5 : Rg := [oL 23 (.mv (.g 8)), oL 24 (.mv (.l 23)), oLt 25 (.fa 0 (.g 6)) 24, oLt 26 (.ld (.l 25)) 24, oLt 27 (.un .not (.l 26)) 24, oT 28 (.pick (.l 24) (.l 27) cF)]
def a54r6 : Rg := [oT 8 (.mv cF)]
def a54r7 : Rg := [oT 9 (.mv (ci 0))]
def a54r8 : Rg := [oL 29 (.mv (.g 9)), oL 30 (.mv (.g 5)), oL 31 (.bin .lss (.l 29) (.l 30)), oL 32 (.mv (.l 31)), oLt 33 (.mv (.g 8)) 32, oLt 34 (.un .not (.l 33)) 32, oT 35 (.pick (.l 32) (.l 34) cF)]
def a54r9 : Rg := [oL 38 (.mv (.g 7)), oL 39 (.mv (.g 9)), oL 40 (.ia 1 (.l 38) (.l 39)), oL 41 (.ld (.l 40)), oL 42 (.un .not (.l 41)), oL 43 (.mv (.l 42)), oLt 44 (.load 2 true (.g 6)) 43, oLt 45 (.mv (.g 9)) 43, oLt 46 (.cf 81 [(.l 44), (.l 45)]) 43, oT 47 (.pick (.l 43) (.l 46) cF)]
def a54r10 : Rg := [oL 48 (.mv (.g 7)), oL 49 (.mv (.g 9)), oL 50 (.ia 1 (.l 48) (.l 49)), oN (.store 1 (.l 50) cT)]
def a54r11 : Rg := [oL 51 (.load 2 true (.g 6)), oL 52 (.load 2 true (.g 2)), oL 53 (.fa 3 (.g 3)), oL 54 (.ld (.l 53)), oL 55 (.mv (.g 5)), oL 56 (.bin .sub (.l 55) (ci 1)), oL 57 (.mv (.g 9)), oL 58 (.bin .sub (.l 56) (.l 57)), oL 59 (.ia 5 (.l 54) (.l 58)), oL 60 (.load 5 true (.l 59)), oL 61 (.ct 29 [(.l 52), (.l 60)]), oL 62 (.ct 57 [(.l 51), (.l 61)]), oN (.store 2 (.g 6) (.l 62))]
def a54r12 : Rg := [oT 8 (.mv cT)]
def a54r13 : Rg := [oL 36 (.mv (.g 9)), oL 37 (.bin .add (.l 36) (ci 1)), oT 9 (.mv (.l 37))]
def a54l14 : ACode := (.seq (.seq (rq a54r8) (.cond (.g 35) .skip (.exit 2))) (.seq (.block 3 (.seq (rq a54r9) (.cond (.g 47) (.seq (rq a54r10) (.seq (.reg true a54r11) (rq a54r12))) .skip))) (rq a54r13)))
def a54l15 : ACode := (.seq (.seq (rq a54r5) (.cond (.g 28) .skip (.exit 0))) (.block 1 (.seq (rq a54r6) (.seq (rq a54r7) (.block 2 (.loop a54l14))))))
def a54r16 : Rg := [oL 63 (.load 2 true (.g 6)), oL 64 (.mv (.g 5)), oL 65 (.cf 94 [(.l 63), (.l 64)]), oN (.store 2 (.g 4) (.l 65))]
def a54b : ACode := (.seq (rq a54r0) (.seq (rq a54r1) (.seq (.reg true a54r2) (.seq (rq a54r3) (.seq (.seq (rq a54r4) (.block 0 (.loop a54l15))) (.seq (rq a54r16) .ret))))))
def a54 : AFun := ⟨2, 66, a54b, [.cell (true, 4) 2 true]⟩
theorem c54 : compileFun Tryz.prog [0, 1, 2, 3, 4, 5, 6, 7, 8, 9, 28, 35, 47] Tryz.f54 = some a54 := by kernel_rfl
/- (damask/damaskref18.Known).cases -/
def a55r0 : Rg := [oT 2 (.box (.g 0)), oT 3 (.box (.g 1)), oT 4 (.alloc [bF, nl])]
def a55r1 : Rg := [oT 5 (.alloc [bF, nl])]
def a55r2 : Rg := [oT 6 (.mv cF)]
def a55r3 : Rg := [oT 7 (.mv (ci 0))]
def a55r4 : Rg := [oL 9 (.mv (.g 7)), oL 10 (.fa 4 (.g 3)), oL 11 (.ld (.l 10)), oL 12 (.len (.l 11)), oT 13 (.bin .lss (.l 9) (.l 12))]
def a55r5 : Rg := [oL 16 (.load 2 true (.g 2)), oL 17 (.fa 4 (.g 3)), oL 18 (.ld (.l 17)), oL 19 (.mv (.g 7)), oL 20 (.ia 8 (.l 18) (.l 19)), oL 21 (.fa 3 (.l 20)), oL 22 (.load 5 true (.l 21)), oL 23 (.ct 29 [(.l 16), (.l 22)]), oL 24 (.fa 4 (.g 3)), oL 25 (.ld (.l 24)), oL 26 (.mv (.g 7)), oL 27 (.ia 8 (.l 25) (.l 26)), oL 28 (.load 8 true (.l 27)), oL 29 (.ct 95 [(.l 28)]), oL 30 (.ct 94 [(.l 23), (.l 29)]), oT 8 (.alloc [bF, nl]), oN (.store 2 (.g 8) (.l 30))]
def a55r6 : Rg := [oL 31 (.fa 0 (.g 8)), oT 32 (.ld (.l 31))]
def a55r7 : Rg := [oT 33 (.mv (.g 6))]
def a55r8 : Rg := [oL 34 (.load 2 true (.g 5)), oL 35 (.load 2 true (.g 8)), oL 36 (.cf 96 [(.l 34), (.l 35)]), oN (.store 2 (.g 8) (.l 36))]
def a55r9 : Rg := [oL 37 (.load 2 true (.g 8)), oN (.store 2 (.g 5) (.l 37))]
def a55r10 : Rg := [oT 6 (.mv cT)]
def a55r11 : Rg := [oL 14 (.mv (.g 7)), oL 15 (.bin .add (.l 14) (ci 1)), oT 7 (.mv (.l 15))]
def a55l12 : ACode := (.seq (.seq (rq a55r4) (.cond (.g 13) .skip (.exit 0))) (.seq (.block 1 (.seq (.reg true a55r5) (.seq (.seq (rq a55r6) (.cond (.g 32) (.exit 1) .skip)) (.seq (.seq (rq a55r7) (.cond (.g 33) (rq a55r8) .skip)) (.seq (rq a55r9) (rq a55r10)))))) (rq a55r11)))
def a55r13 : Rg := [oL 38 (.mv (.g 6)), oT 39 (.un .not (.l 38))]
def a55r14 : Rg := [oL 40 (.build [bF, nl] [(0, 1, cT)]), oN (.store 2 (.g 4) (.l 40))]
def a55r15 : Rg := [oL 41 (.load 2 true (.g 2)), oL 42 (.fa 3 (.g 3)), oL 43 (.ld (.l 42)), oL 44 (.ia 5 (.l 43) (ci 0)), oL 45 (.load 5 true (.l 44)), oL 46 (.ct 29 [(.l 41), (.l 45)]), oL 47 (.load 2 true (.g 5)), oL 48 (.ct 57 [(.l 46), (.l 47)]), oN (.store 2 (.g 4) (.l 48))]
def a55b : ACode := (.seq (rq a55r0) (.seq (rq a55r1) (.seq (rq a55r2) (.seq (.seq (rq a55r3) (.block 0 (.loop a55l12))) (.seq (.seq (rq a55r13) (.cond (.g 39) (.seq (rq a55r14) .ret) .skip)) (.seq (.reg true a55r15) .ret))))))
def a55 : AFun := ⟨2, 49, a55b, [.cell (true, 4) 2 true]⟩
theorem c55 : compileFun Tryz.prog [0, 1, 2, 3, 4, 5, 6, 7, 8, 13, 32, 33, 39] Tryz.f55 = some a55 := by kernel_rfl
/- (damask/damaskref18.Need).with -/
def a57r0 : Rg := [oT 2 (.box (.g 0)), oT 3 (.box (.g 1)), oT 4 (.alloc [bF, nl])]
def a57r1 : Rg := [oL 7 (.fa 0 (.g 2)), oL 8 (.ld (.l 7)), oL 9 (.mv (.l 8)), oLf 10 (.fa 0 (.g 3)) 9, oLf 11 (.ld (.l 10)) 9, oT 12 (.pick (.l 9) cT (.l 11))]
def a57r2 : Rg := [oL 13 (.build [bF, nl] [(0, 1, cT)]), oN (.store 2 (.g 4) (.l 13))]
def a57r3 : Rg := [oT 5 (.mkslice 1 0 [] true (.c .any) (.c .any))]
def a57r4 : Rg := [oL 14 (.mv (.g 5)), oL 15 (.fa 1 (.g 2)), oL 16 (.ld (.l 15)), oL 17 (.append 1 8 (.l 14) (.l 16)), oT 5 (.mv (.l 17))]
def a57r5 : Rg := [oT 6 (.mv (ci 0))]
def a57r6 : Rg := [oL 18 (.mv (.g 6)), oL 19 (.fa 1 (.g 3)), oL 20 (.ld (.l 19)), oL 21 (.len (.l 20)), oT 22 (.bin .lss (.l 18) (.l 21))]
def a57r7 : Rg := [oL 25 (.load 2 true (.g 2)), oL 26 (.fa 1 (.g 3)), oL 27 (.ld (.l 26)), oL 28 (.mv (.g 6)), oL 29 (.ia 1 (.l 27) (.l 28)), oL 30 (.ld (.l 29)), oL 31 (.ct 81 [(.l 25), (.l 30)]), oT 32 (.un .not (.l 31))]
def a57r8 : Rg := [oL 33 (.mv (.g 5)), oL 34 (.fa 1 (.g 3)), oL 35 (.ld (.l 34)), oL 36 (.mv (.g 6)), oL 37 (.ia 1 (.l 35) (.l 36)), oL 38 (.ld (.l 37)), oL 39 (.buildSlice 1 false [i0] 1 [(0, (.l 38))]), oL 40 (.append 1 8 (.l 33) (.l 39)), oT 5 (.mv (.l 40))]
def a57r9 : Rg := [oL 23 (.mv (.g 6)), oL 24 (.bin .add (.l 23) (ci 1)), oT 6 (.mv (.l 24))]
def a57l10 : ACode := (.seq (.seq (rq a57r6) (.cond (.g 22) .skip (.exit 0))) (.seq (.block 1 (.seq (.reg true a57r7) (.cond (.g 32) (rq a57r8) .skip))) (rq a57r9)))
def a57r11 : Rg := [oL 41 (.mv (.g 5)), oL 42 (.cf 98 [(.l 41)])]
def a57r12 : Rg := [oL 43 (.mv (.g 5)), oL 44 (.build [bF, nl] [(1, 1, (.l 43))]), oN (.store 2 (.g 4) (.l 44))]
def a57b : ACode := (.seq (rq a57r0) (.seq (.seq (rq a57r1) (.cond (.g 12) (.seq (rq a57r2) .ret) .skip)) (.seq (rq a57r3) (.seq (rq a57r4) (.seq (.seq (rq a57r5) (.block 0 (.loop a57l10))) (.seq (rq a57r11) (.seq (rq a57r12) .ret)))))))
def a57 : AFun := ⟨2, 45, a57b, [.cell (true, 4) 2 true]⟩
theorem c57 : compileFun Tryz.prog [0, 1, 2, 3, 4, 5, 6, 12, 22, 32, 6000001] Tryz.f57 = some a57 := by kernel_rfl
/- (damask/damaskref18.Need).has -/
def a81r0 : Rg := [oT 2 (.box (.g 0)), oT 4 (.mv cF)]
def a81r1 : Rg := [oT 5 (.mv (ci 0))]
def a81r2 : Rg := [oL 6 (.mv (.g 5)), oL 7 (.fa 1 (.g 2)), oL 8 (.ld (.l 7)), oL 9 (.len (.l 8)), oT 10 (.bin .lss (.l 6) (.l 9))]
def a81r3 : Rg := [oL 13 (.fa 1 (.g 2)), oL 14 (.ld (.l 13)), oL 15 (.mv (.g 5)), oL 16 (.ia 1 (.l 14) (.l 15)), oL 17 (.ld (.l 16)), oL 18 (.mv (.g 1)), oT 19 (.bin .eql (.l 17) (.l 18))]
def a81r4 : Rg := [oT 4 (.mv cT)]
def a81r5 : Rg := [oL 11 (.mv (.g 5)), oL 12 (.bin .add (.l 11) (ci 1)), oT 5 (.mv (.l 12))]
def a81l6 : ACode := (.seq (.seq (rq a81r2) (.cond (.g 10) .skip (.exit 0))) (.seq (.block 1 (.seq (rq a81r3) (.cond (.g 19) (.seq (rq a81r4) .ret) .skip))) (rq a81r5)))
def a81r7 : Rg := [oT 4 (.mv cF)]
def a81b : ACode := (.seq (rq a81r0) (.seq (.seq (rq a81r1) (.block 0 (.loop a81l6))) (.seq (rq a81r7) .ret)))
def a81 : AFun := ⟨2, 20, a81b, [.tmp (true, 4)]⟩
theorem c81 : compileFun Tryz.prog [0, 1, 2, 4, 5, 10, 19] Tryz.f81 = some a81 := by kernel_rfl
/- (damask/damaskref18.Need).out -/
def a94r0 : Rg := [oT 2 (.box (.g 0)), oT 4 (.alloc [bF, nl])]
def a94r1 : Rg := [oL 7 (.fa 0 (.g 2)), oT 8 (.ld (.l 7))]
def a94r2 : Rg := [oL 9 (.load 2 true (.g 2)), oN (.store 2 (.g 4) (.l 9))]
def a94r3 : Rg := [oT 5 (.mv (.c nl))]
def a94r4 : Rg := [oT 6 (.mv (ci 0))]
def a94r5 : Rg := [oL 10 (.mv (.g 6)), oL 11 (.fa 1 (.g 2)), oL 12 (.ld (.l 11)), oL 13 (.len (.l 12)), oT 14 (.bin .lss (.l 10) (.l 13))]
def a94r6 : Rg := [oL 17 (.fa 1 (.g 2)), oL 18 (.ld (.l 17)), oL 19 (.mv (.g 6)), oL 20 (.ia 1 (.l 18) (.l 19)), oL 21 (.ld (.l 20)), oL 22 (.mv (.g 1)), oT 23 (.bin .geq (.l 21) (.l 22))]
def a94r7 : Rg := [oL 24 (.mv (.g 5)), oL 25 (.fa 1 (.g 2)), oL 26 (.ld (.l 25)), oL 27 (.mv (.g 6)), oL 28 (.ia 1 (.l 26) (.l 27)), oL 29 (.ld (.l 28)), oL 30 (.mv (.g 1)), oL 31 (.bin .sub (.l 29) (.l 30)), oL 32 (.buildSlice 1 false [i0] 1 [(0, (.l 31))]), oL 33 (.append 1 8 (.l 24) (.l 32)), oT 5 (.mv (.l 33))]
def a94r8 : Rg := [oL 15 (.mv (.g 6)), oL 16 (.bin .add (.l 15) (ci 1)), oT 6 (.mv (.l 16))]
def a94l9 : ACode := (.seq (.seq (rq a94r5) (.cond (.g 14) .skip (.exit 0))) (.seq (.block 1 (.seq (rq a94r6) (.cond (.g 23) (rq a94r7) .skip))) (rq a94r8)))
def a94r10 : Rg := [oL 34 (.mv (.g 5)), oL 35 (.build [bF, nl] [(1, 1, (.l 34))]), oN (.store 2 (.g 4) (.l 35))]
def a94b : ACode := (.seq (rq a94r0) (.seq (.seq (rq a94r1) (.cond (.g 8) (.seq (rq a94r2) .ret) .skip)) (.seq (rq a94r3) (.seq (.seq (rq a94r4) (.block 0 (.loop a94l9))) (.seq (rq a94r10) .ret)))))
def a94 : AFun := ⟨2, 36, a94b, [.cell (true, 4) 2 true]⟩
theorem c94 : compileFun Tryz.prog [0, 1, 2, 4, 5, 6, 8, 14, 23] Tryz.f94 = some a94 := by kernel_rfl
/- (damask/damaskref18.Need).meet -/
def a96r0 : Rg := [oT 2 (.box (.g 0)), oT 3 (.box (.g 1)), oT 4 (.alloc [bF, nl])]
def a96r1 : Rg := [oT 5 (.mv (.c nl))]
def a96r2 : Rg := [oT 6 (.mv (ci 0))]
def a96r3 : Rg := [oL 7 (.mv (.g 6)), oL 8 (.fa 1 (.g 2)), oL 9 (.ld (.l 8)), oL 10 (.len (.l 9)), oT 11 (.bin .lss (.l 7) (.l 10))]
def a96r4 : Rg := [oL 14 (.load 2 true (.g 3)), oL 15 (.fa 1 (.g 2)), oL 16 (.ld (.l 15)), oL 17 (.mv (.g 6)), oL 18 (.ia 1 (.l 16) (.l 17)), oL 19 (.ld (.l 18)), oT 20 (.ct 81 [(.l 14), (.l 19)])]
def a96r5 : Rg := [oL 21 (.mv (.g 5)), oL 22 (.fa 1 (.g 2)), oL 23 (.ld (.l 22)), oL 24 (.mv (.g 6)), oL 25 (.ia 1 (.l 23) (.l 24)), oL 26 (.ld (.l 25)), oL 27 (.buildSlice 1 false [i0] 1 [(0, (.l 26))]), oL 28 (.append 1 8 (.l 21) (.l 27)), oT 5 (.mv (.l 28))]
def a96r6 : Rg := [oL 12 (.mv (.g 6)), oL 13 (.bin .add (.l 12) (ci 1)), oT 6 (.mv (.l 13))]
def a96l7 : ACode := (.seq (.seq (rq a96r3) (.cond (.g 11) .skip (.exit 0))) (.seq (.block 1 (.seq (.reg true a96r4) (.cond (.g 20) (rq a96r5) .skip))) (rq a96r6)))
def a96r8 : Rg := [oL 29 (.mv (.g 5)), oL 30 (.build [bF, nl] [(1, 1, (.l 29))]), oN (.store 2 (.g 4) (.l 30))]
def a96b : ACode := (.seq (rq a96r0) (.seq (rq a96r1) (.seq (.seq (rq a96r2) (.block 0 (.loop a96l7))) (.seq (rq a96r8) .ret))))
def a96 : AFun := ⟨2, 31, a96b, [.cell (true, 4) 2 true]⟩
theorem c96 : compileFun Tryz.prog [0, 1, 2, 3, 4, 5, 6, 11, 20] Tryz.f96 = some a96 := by kernel_rfl
/- damask/damaskref18.Wants -/
def a13r0 : Rg := [oT 1 (.box (.g 0)), oT 2 (.mv (ci 0))]
def a13r1 : Rg := [oL 3 (.fa 1 (.g 1)), oL 4 (.fa 0 (.l 3)), oL 5 (.ld (.l 4)), oT 6 (.bin .eql (.l 5) (ci 5))]
def a13r2 : Rg := [oL 7 (.fa 1 (.g 1)), oL 8 (.fa 1 (.l 7)), oL 9 (.ld (.l 8)), oT 2 (.mv (.l 9))]
def a13r3 : Rg := [oT 2 (.mv (ci 0))]
def a13b : ACode := (.seq (rq a13r0) (.seq (.seq (rq a13r1) (.cond (.g 6) (.seq (rq a13r2) .ret) .skip)) (.seq (rq a13r3) .ret)))
def a13 : AFun := ⟨1, 10, a13b, [.tmp (true, 2)]⟩
theorem c13 : compileFun Tryz.prog [0, 1, 2, 6] Tryz.f13 = some a13 := by kernel_rfl
/- damask/damaskref18.Cheap -/
/- damask/damasklaw18.awake -/
def a10r0 : Rg := [oT 0 (.mv cF)]
def a10r1 : Rg := [oL 10 (.cf 35 []), oL 11 (.cf 11 [(.l 10)]), oL 9 (.mv (.l 11)), oL 12 (.extract (.l 9) 0), oL 13 (.extract (.l 9) 1), oT 1 (.mv (.l 12)), oT 2 (.mv (.l 13))]
def a10r2 : Rg := [oL 15 (.cf 35 []), oL 16 (.cf 20 [(.l 15), (.c (.str ⟨#[107]⟩)), (ci 1)]), oL 14 (.mv (.l 16)), oL 17 (.extract (.l 14) 0), oL 18 (.extract (.l 14) 1), oT 3 (.mv (.l 17)), oT 4 (.mv (.l 18))]
def a10r3 : Rg := [oL 20 (.cf 35 []), oL 21 (.cf 20 [(.l 20), (.c (.str ⟨#[107]⟩)), (ci 2)]), oL 19 (.mv (.l 21)), oL 22 (.extract (.l 19) 0), oL 23 (.extract (.l 19) 1), oL 5 (.mv (.l 22)), oT 6 (.mv (.l 23))]
def a10r4 : Rg := [oL 25 (.cf 35 []), oL 26 (.cf 20 [(.l 25), (.c (.str ⟨#[120]⟩)), (ci 0)]), oL 24 (.mv (.l 26)), oL 27 (.extract (.l 24) 0), oL 28 (.extract (.l 24) 1), oL 7 (.mv (.l 27)), oT 8 (.mv (.l 28))]
def a10r5 : Rg := [oL 29 (.mv (.g 2)), oL 30 (.bin .neq (.l 29) (ci 0)), oL 31 (.mv (.l 30)), oLf 32 (.mv (.g 1)) 31, oLf 33 (.len (.l 32)) 31, oLf 34 (.bin .neq (.l 33) (ci 2)) 31, oL 35 (.pick (.l 31) cT (.l 34)), oL 36 (.mv (.l 35)), oLf 37 (.mv (.g 1)) 36, oLf 38 (.ia 3 (.l 37) (ci 0)) 36, oLf 39 (.fa 2 (.l 38)) 36, oLf 40 (.ld (.l 39)) 36, oLf 41 (.un .not (.l 40)) 36, oL 42 (.pick (.l 36) cT (.l 41)), oL 43 (.mv (.l 42)), oLf 44 (.mv (.g 1)) 43, oLf 45 (.ia 3 (.l 44) (ci 1)) 43, oLf 46 (.fa 1 (.l 45)) 43, oLf 47 (.ld (.l 46)) 43, oLf 48 (.len (.l 47)) 43, oLf 49 (.bin .neq (.l 48) (ci 2)) 43, oL 50 (.pick (.l 43) cT (.l 49)), oL 51 (.mv (.l 50)), oLf 52 (.mv (.g 1)) 51, oLf 53 (.ia 3 (.l 52) (ci 1)) 51, oLf 54 (.fa 1 (.l 53)) 51, oLf 55 (.ld (.l 54)) 51, oLf 56 (.ia 1 (.l 55) (ci 0)) 51, oLf 57 (.ld (.l 56)) 51, oL 58 (.pick (.l 51) cT (.l 57)), oL 59 (.mv (.l 58)), oLf 60 (.mv (.g 1)) 59, oLf 61 (.ia 3 (.l 60) (ci 1)) 59, oLf 62 (.fa 1 (.l 61)) 59, oLf 63 (.ld (.l 62)) 59, oLf 64 (.ia 1 (.l 63) (ci 1)) 59, oLf 65 (.ld (.l 64)) 59, oLf 66 (.un .not (.l 65)) 59, oL 67 (.pick (.l 59) cT (.l 66)), oL 68 (.mv (.l 67)), oLf 69 (.mv (.g 1)) 68, oLf 70 (.ia 3 (.l 69) (ci 1)) 68, oLf 71 (.fa 2 (.l 70)) 68, oLf 72 (.ld (.l 71)) 68, oL 73 (.pick (.l 68) cT (.l 72)), oL 74 (.mv (.l 73)), oLf 75 (.mv (.g 4)) 74, oLf 76 (.bin .neq (.l 75) (ci 0)) 74, oL 77 (.pick (.l 74) cT (.l 76)), oL 78 (.mv (.l 77)), oLf 79 (.mv (.g 3)) 78, oLf 80 (.un .not (.l 79)) 78, oT 81 (.pick (.l 78) cT (.l 80))]
def a10r6 : Rg := [oT 0 (.mv cF)]
def a10r7 : Rg := [oL 82 (.mv (.g 6)), oL 83 (.bin .eql (.l 82) (ci 2)), oL 84 (.mv (.l 83)), oLt 85 (.mv (.g 8)) 84, oLt 86 (.bin .eql (.l 85) (ci 6)) 84, oL 87 (.pick (.l 84) (.l 86) cF), oL 88 (.mv (.l 87)), oL 89 (.pick (.l 88) cT cF), oT 0 (.mv (.l 89))]
def a10b : ACode := (.seq (rq a10r0) (.seq (rq a10r1) (.seq (rq a10r2) (.seq (rq a10r3) (.seq (rq a10r4) (.seq (.seq (rq a10r5) (.cond (.g 81) (.seq (rq a10r6) .ret) .skip)) (.seq (rq a10r7) .ret)))))))
def a10 : AFun := ⟨0, 90, a10b, [.tmp (true, 0)]⟩
theorem c10 : compileFun Tryz.prog [0, 1, 2, 3, 4, 6, 8, 81] Tryz.f10 = some a10 := by kernel_rfl
/- damask/damasklaw18.sample -/
def a35r0 : Rg := [oT 0 (.mv (.c nl))]
def a35r1 : Rg := [oL 4 (.build [i0, i0, s0, nl, nl] [(0, 1, (ci 2)), (2, 1, (.c (.str ⟨#[104]⟩)))]), oL 5 (.build [i0, i0, s0, nl, nl] [(0, 1, (ci 1))]), oL 6 (.buildSlice 5 true [i0, i0, s0, nl, nl] 2 [(0, (.l 4)), (1, (.l 5))]), oT 1 (.mv (.l 6))]
def a35r2 : Rg := [oL 7 (.mv (.g 1)), oL 8 (.build [i0, i0, s0, nl, nl] [(0, 1, (ci 6)), (3, 1, (.l 7))]), oL 9 (.buildSlice 5 true [i0, i0, s0, nl, nl] 1 [(0, (.l 8))]), oL 10 (.build [i0, i0, s0, nl, nl] [(0, 1, (ci 5)), (1, 1, (ci 1)), (3, 1, (.l 9))]), oT 2 (.alloc [i0, i0, s0, nl, nl]), oN (.store 5 (.g 2) (.l 10))]
def a35r3 : Rg := [oL 11 (.build [i0, i0, s0, nl, nl] [(0, 1, (ci 1))]), oL 12 (.buildSlice 5 true [i0, i0, s0, nl, nl] 1 [(0, (.l 11))]), oL 13 (.build [i0, i0, s0, nl, nl] [(0, 1, (ci 1)), (1, 1, (ci 2))]), oL 14 (.build [i0, s0, i0, i0, i0, s0, nl, nl] [(0, 1, (ci 3)), (2, 1, (ci 1)), (3, 5, (.l 13))]), oL 15 (.build [i0, i0, s0, nl, nl] [(0, 1, (ci 3))]), oL 16 (.build [i0, s0, i0, i0, i0, s0, nl, nl] [(0, 1, (ci 1)), (3, 5, (.l 15))]), oL 17 (.buildSlice 8 true [i0, s0, i0, i0, i0, s0, nl, nl] 2 [(0, (.l 14)), (1, (.l 16))]), oL 18 (.build [i0, i0, s0, nl, nl] [(0, 1, (ci 8)), (3, 1, (.l 12)), (4, 1, (.l 17))]), oT 3 (.alloc [i0, i0, s0, nl, nl]), oN (.store 5 (.g 3) (.l 18))]
def a35r4 : Rg := [oL 19 (.load 5 true (.g 2)), oL 20 (.build [s0, i0, i0, s0, nl, nl] [(0, 1, (.c (.str ⟨#[104]⟩))), (1, 5, (.l 19))]), oL 21 (.load 5 true (.g 3)), oL 22 (.buildSlice 5 true [i0, i0, s0, nl, nl] 1 [(0, (.l 21))]), oL 23 (.build [i0, i0, s0, nl, nl] [(0, 1, (ci 5)), (1, 1, (ci 2)), (3, 1, (.l 22))]), oL 24 (.build [s0, i0, i0, s0, nl, nl] [(0, 1, (.c (.str ⟨#[107]⟩))), (1, 5, (.l 23))]), oL 25 (.buildSlice 6 true [s0, i0, i0, s0, nl, nl] 2 [(0, (.l 20)), (1, (.l 24))]), oT 0 (.mv (.l 25))]
def a35b : ACode := (.seq (rq a35r0) (.seq (rq a35r1) (.seq (rq a35r2) (.seq (rq a35r3) (.seq (rq a35r4) .ret)))))
def a35 : AFun := ⟨0, 26, a35b, [.tmp (true, 0)]⟩
theorem c35 : compileFun Tryz.prog [0, 1, 2, 3] Tryz.f35 = some a35 := by kernel_rfl
/- damask/damasklaw18.DemandPrograms -/
def a4r0 : Rg := [oT 6 (.mv cF)]
def a4r1 : Rg := [oL 16 (.mv (.g 0)), oL 17 (.build [i0, i0, s0, nl, nl] []), oL 18 (.cf 8 [(.l 16), (.l 17)]), oT 19 (.un .not (.l 18))]
def a4r2 : Rg := [oL 20 (.cf 10 []), oT 6 (.mv (.l 20))]
def a4r3 : Rg := [oL 22 (.mv (.g 0)), oL 23 (.cf 11 [(.l 22)]), oL 21 (.mv (.l 23)), oL 24 (.extract (.l 21) 0), oL 25 (.extract (.l 21) 1), oT 7 (.mv (.l 24)), oT 8 (.mv (.l 25))]
def a4r4 : Rg := [oL 27 (.mv (.g 0)), oL 28 (.cf 19 [(.l 27)]), oL 26 (.mv (.l 28)), oL 29 (.extract (.l 26) 0), oL 30 (.extract (.l 26) 1), oT 9 (.mv (.l 29)), oT 10 (.mv (.l 30))]
def a4r5 : Rg := [oL 32 (.mv (.g 0)), oL 33 (.mv (.g 1)), oL 34 (.mv (.g 2)), oL 35 (.cf 20 [(.l 32), (.l 33), (.l 34)]), oL 31 (.mv (.l 35)), oL 36 (.extract (.l 31) 0), oL 37 (.extract (.l 31) 1), oT 11 (.mv (.l 36)), oT 12 (.mv (.l 37))]
def a4r6 : Rg := [oL 38 (.mv (.g 0)), oL 39 (.cf 9 [(.l 38)]), oT 40 (.un .not (.l 39))]
def a4r7 : Rg := [oL 41 (.mv (.g 7)), oL 42 (.len (.l 41)), oL 43 (.bin .eql (.l 42) (ci 0)), oL 44 (.mv (.l 43)), oLt 45 (.mv (.g 8)) 44, oLt 46 (.bin .eql (.l 45) (ci 40)) 44, oL 47 (.pick (.l 44) (.l 46) cF), oL 48 (.mv (.l 47)), oLt 49 (.mv (.g 9)) 48, oLt 50 (.bin .eql (.l 49) (ci 0)) 48, oL 51 (.pick (.l 48) (.l 50) cF), oL 52 (.mv (.l 51)), oLt 53 (.mv (.g 10)) 52, oLt 54 (.bin .eql (.l 53) (ci 40)) 52, oL 55 (.pick (.l 52) (.l 54) cF), oL 56 (.mv (.l 55)), oLt 57 (.mv (.g 11)) 56, oLt 58 (.un .not (.l 57)) 56, oL 59 (.pick (.l 56) (.l 58) cF), oL 60 (.mv (.l 59)), oLt 61 (.mv (.g 12)) 60, oLt 62 (.bin .eql (.l 61) (ci 40)) 60, oL 63 (.pick (.l 60) (.l 62) cF), oL 64 (.mv (.l 63)), oLt 65 (.cf 10 []) 64, oL 66 (.pick (.l 64) (.l 65) cF), oT 6 (.mv (.l 66))]
def a4r8 : Rg := [oL 68 (.mv (.g 0)), oL 69 (.cf 21 [(.l 68)]), oL 67 (.mv (.l 69)), oL 70 (.extract (.l 67) 0), oL 71 (.extract (.l 67) 1), oT 13 (.mv (.l 70)), oT 14 (.mv (.l 71))]
def a4r9 : Rg := [oL 72 (.mv (.g 7)), oL 73 (.mv (.g 13)), oL 74 (.cf 22 [(.l 72), (.l 73)]), oL 75 (.un .not (.l 74)), oL 76 (.mv (.l 75)), oLf 77 (.mv (.g 8)) 76, oLf 78 (.bin .neq (.l 77) (ci 0)) 76, oL 79 (.pick (.l 76) cT (.l 78)), oL 80 (.mv (.l 79)), oLf 81 (.mv (.g 9)) 80, oLf 82 (.mv (.g 14)) 80, oLf 83 (.bin .neq (.l 81) (.l 82)) 80, oL 84 (.pick (.l 80) cT (.l 83)), oL 85 (.mv (.l 84)), oLf 86 (.mv (.g 10)) 85, oLf 87 (.bin .neq (.l 86) (ci 0)) 85, oT 88 (.pick (.l 85) cT (.l 87))]
def a4r10 : Rg := [oT 6 (.mv cF)]
def a4r11 : Rg := [oL 89 (.mv (.g 0)), oL 90 (.mv (.g 1)), oL 91 (.cf 23 [(.l 89), (.l 90)]), oT 15 (.mv (.l 91))]
def a4r12 : Rg := [oL 92 (.mv (.g 15)), oT 93 (.bin .lss (.l 92) (ci 0))]
def a4r13 : Rg := [oL 94 (.mv (.g 11)), oL 95 (.un .not (.l 94)), oL 96 (.mv (.l 95)), oLt 97 (.mv (.g 12)) 96, oLt 98 (.bin .eql (.l 97) (ci 6)) 96, oL 99 (.pick (.l 96) (.l 98) cF), oL 100 (.mv (.l 99)), oLt 101 (.cf 10 []) 100, oL 102 (.pick (.l 100) (.l 101) cF), oT 6 (.mv (.l 102))]
def a4r14 : Rg := [oL 103 (.mv (.g 2)), oL 104 (.bin .lss (.l 103) (ci 0)), oL 105 (.mv (.l 104)), oLf 106 (.mv (.g 2)) 105, oLf 107 (.mv (.g 13)) 105, oLf 108 (.mv (.g 15)) 105, oLf 109 (.ia 3 (.l 107) (.l 108)) 105, oLf 110 (.fa 1 (.l 109)) 105, oLf 111 (.ld (.l 110)) 105, oLf 112 (.len (.l 111)) 105, oLf 113 (.bin .geq (.l 106) (.l 112)) 105, oT 114 (.pick (.l 105) cT (.l 113))]
def a4r15 : Rg := [oL 115 (.mv (.g 11)), oL 116 (.un .not (.l 115)), oL 117 (.mv (.l 116)), oLt 118 (.mv (.g 12)) 117, oLt 119 (.bin .eql (.l 118) (ci 2)) 117, oL 120 (.pick (.l 117) (.l 119) cF), oL 121 (.mv (.l 120)), oLt 122 (.cf 10 []) 121, oL 123 (.pick (.l 121) (.l 122) cF), oT 6 (.mv (.l 123))]
def a4r16 : Rg := [oL 124 (.mv (.g 11)), oL 125 (.mv (.g 13)), oL 126 (.mv (.g 15)), oL 127 (.ia 3 (.l 125) (.l 126)), oL 128 (.fa 1 (.l 127)), oL 129 (.ld (.l 128)), oL 130 (.mv (.g 2)), oL 131 (.ia 1 (.l 129) (.l 130)), oL 132 (.ld (.l 131)), oL 133 (.eqb false (.l 124) (.l 132)), oL 134 (.mv (.l 133)), oLt 135 (.mv (.g 12)) 134, oLt 136 (.bin .eql (.l 135) (ci 0)) 134, oL 137 (.pick (.l 134) (.l 136) cF), oL 138 (.mv (.l 137)), oLt 139 (.cf 10 []) 138, oL 140 (.pick (.l 138) (.l 139) cF), oT 6 (.mv (.l 140))]
def a4b : ACode := (.seq (rq a4r0) (.seq (.seq (rq a4r1) (.cond (.g 19) (.seq (rq a4r2) .ret) .skip)) (.seq (rq a4r3) (.seq (rq a4r4) (.seq (rq a4r5) (.seq (.seq (rq a4r6) (.cond (.g 40) (.seq (rq a4r7) .ret) .skip)) (.seq (rq a4r8) (.seq (.seq (rq a4r9) (.cond (.g 88) (.seq (rq a4r10) .ret) .skip)) (.seq (rq a4r11) (.seq (.seq (rq a4r12) (.cond (.g 93) (.seq (rq a4r13) .ret) .skip)) (.seq (.seq (rq a4r14) (.cond (.g 114) (.seq (rq a4r15) .ret) .skip)) (.seq (rq a4r16) .ret))))))))))))
def a4 : AFun := ⟨3, 141, a4b, [.tmp (true, 6)]⟩
/- damask/damasklaw18.DemandNeeds -/
def a5r0 : Rg := [oT 3 (.box (.g 1)), oT 4 (.mv cF)]
def a5r1 : Rg := [oL 12 (.mv (.g 0)), oL 13 (.load 5 true (.g 3)), oL 14 (.cf 8 [(.l 12), (.l 13)]), oT 15 (.un .not (.l 14))]
def a5r2 : Rg := [oL 16 (.cf 10 []), oT 4 (.mv (.l 16))]
def a5r3 : Rg := [oL 17 (.load 5 true (.g 3)), oL 18 (.ct 24 [(.l 17)]), oL 19 (.load 5 true (.g 3)), oL 20 (.ct 25 [(.l 19)]), oT 21 (.eqb true (.l 18) (.l 20))]
def a5r4 : Rg := [oT 4 (.mv cF)]
def a5r5 : Rg := [oL 23 (.mv (.g 0)), oL 24 (.load 5 true (.g 3)), oL 25 (.cf 26 [(.l 23), (.l 24)]), oL 22 (.mv (.l 25)), oL 26 (.extract (.l 22) 0), oL 27 (.extract (.l 22) 1), oL 28 (.extract (.l 22) 2), oT 5 (.mv (.l 26)), oT 6 (.mv (.l 27)), oT 7 (.mv (.l 28))]
def a5r6 : Rg := [oL 29 (.mv (.g 0)), oL 30 (.cf 9 [(.l 29)]), oL 31 (.un .not (.l 30)), oL 32 (.mv (.l 31)), oLf 33 (.load 5 true (.g 3)) 32, oLf 34 (.cf 27 [(.l 33)]) 32, oLf 35 (.un .not (.l 34)) 32, oL 36 (.pick (.l 32) cT (.l 35)), oL 37 (.mv (.l 36)), oLf 38 (.mv (.g 0)) 37, oLf 39 (.load 5 true (.g 3)) 37, oLf 40 (.cf 28 [(.l 38), (.l 39)]) 37, oLf 41 (.un .not (.l 40)) 37, oT 42 (.pick (.l 37) cT (.l 41))]
def a5r7 : Rg := [oL 43 (.mv (.g 5)), oL 44 (.len (.l 43)), oL 45 (.bin .eql (.l 44) (ci 0)), oL 46 (.mv (.l 45)), oLt 47 (.mv (.g 6)) 46, oLt 48 (.un .not (.l 47)) 46, oL 49 (.pick (.l 46) (.l 48) cF), oL 50 (.mv (.l 49)), oLt 51 (.mv (.g 7)) 50, oLt 52 (.bin .eql (.l 51) (ci 40)) 50, oL 53 (.pick (.l 50) (.l 52) cF), oL 54 (.mv (.l 53)), oLt 55 (.cf 10 []) 54, oL 56 (.pick (.l 54) (.l 55) cF), oT 4 (.mv (.l 56))]
def a5r8 : Rg := [oL 58 (.mv (.g 0)), oL 59 (.cf 21 [(.l 58)]), oL 57 (.mv (.l 59)), oL 60 (.extract (.l 57) 0), oL 61 (.extract (.l 57) 1), oT 8 (.mv (.l 60)), oL 9 (.mv (.l 61))]
def a5r9 : Rg := [oL 62 (.mv (.g 0)), oL 63 (.mv (.g 8)), oL 64 (.build [nl, nl] [(0, 1, (.l 62)), (1, 1, (.l 63))]), oL 65 (.load 5 true (.g 3)), oL 66 (.cf 29 [(.l 64), (.l 65)]), oT 10 (.alloc [bF, nl]), oN (.store 2 (.g 10) (.l 66))]
def a5r10 : Rg := [oL 67 (.mv (.g 7)), oL 68 (.bin .neq (.l 67) (ci 0)), oL 69 (.mv (.l 68)), oLf 70 (.mv (.g 6)) 69, oLf 71 (.fa 0 (.g 10)) 69, oLf 72 (.ld (.l 71)) 69, oLf 73 (.eqb true (.l 70) (.l 72)) 69, oL 74 (.pick (.l 69) cT (.l 73)), oL 75 (.mv (.l 74)), oLf 76 (.mv (.g 5)) 75, oLf 77 (.len (.l 76)) 75, oLf 78 (.fa 1 (.g 10)) 75, oLf 79 (.ld (.l 78)) 75, oLf 80 (.len (.l 79)) 75, oLf 81 (.bin .neq (.l 77) (.l 80)) 75, oT 82 (.pick (.l 75) cT (.l 81))]
def a5r11 : Rg := [oT 4 (.mv cF)]
def a5r12 : Rg := [oT 11 (.mv (ci 0))]
def a5r13 : Rg := [oL 83 (.mv (.g 11)), oL 84 (.mv (.g 5)), oL 85 (.len (.l 84)), oT 86 (.bin .lss (.l 83) (.l 85))]
def a5r14 : Rg := [oL 89 (.mv (.g 5)), oL 90 (.mv (.g 11)), oL 91 (.ia 1 (.l 89) (.l 90)), oL 92 (.ld (.l 91)), oL 93 (.fa 1 (.g 10)), oL 94 (.ld (.l 93)), oL 95 (.mv (.g 11)), oL 96 (.ia 1 (.l 94) (.l 95)), oL 97 (.ld (.l 96)), oT 98 (.bin .neq (.l 92) (.l 97))]
def a5r15 : Rg := [oT 4 (.mv cF)]
def a5r16 : Rg := [oL 87 (.mv (.g 11)), oL 88 (.bin .add (.l 87) (ci 1)), oT 11 (.mv (.l 88))]
def a5l17 : ACode := (.seq (.seq (rq a5r13) (.cond (.g 86) .skip (.exit 0))) (.seq (.block 1 (.seq (.reg true a5r14) (.cond (.g 98) (.seq (rq a5r15) .ret) .skip))) (rq a5r16)))
def a5r18 : Rg := [oL 99 (.cf 10 []), oT 4 (.mv (.l 99))]
def a5b : ACode := (.seq (rq a5r0) (.seq (.seq (rq a5r1) (.cond (.g 15) (.seq (rq a5r2) .ret) .skip)) (.seq (.seq (.reg true a5r3) (.cond (.g 21) (.seq (rq a5r4) .ret) .skip)) (.seq (rq a5r5) (.seq (.seq (rq a5r6) (.cond (.g 42) (.seq (rq a5r7) .ret) .skip)) (.seq (rq a5r8) (.seq (rq a5r9) (.seq (.seq (rq a5r10) (.cond (.g 82) (.seq (rq a5r11) .ret) .skip)) (.seq (.seq (rq a5r12) (.block 0 (.loop a5l17))) (.seq (rq a5r18) .ret))))))))))
def a5 : AFun := ⟨2, 100, a5b, [.tmp (true, 4)]⟩
end Go.AL.Dm
