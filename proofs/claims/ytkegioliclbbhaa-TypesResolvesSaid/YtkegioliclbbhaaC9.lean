import Derived.Test.YtkegioliclbbhaaD1
import Derived.Test.YtkegioliclbbhaaProg
import Derived.KernelRfl
namespace Go.AL.Ty
open Go.Proofs

/- damask/damasklaw05.TypesResolves -/
def a11r0 : List AOper :=
  [⟨some (true, 3), .box (.g 1), none, []⟩,
   ⟨some (true, 4), .mv (.c (.bool false)), none, []⟩]
def a11r1 : List AOper :=
  [⟨some (false, 10), .buildSlice 10 true [(.int .i64 0), (.int .i64 0), (.str ⟨#[]⟩), (.list 0 .full []), (.int .i64 0), (.bool false), (.int .i64 0), (.int .i64 0), (.str ⟨#[]⟩), (.list 0 .full [])] 0 [], none, []⟩,
   ⟨some (false, 11), .mv (.g 0), none, []⟩,
   ⟨some (false, 12), .append 10 128 (.l 10) (.l 11), none, []⟩,
   ⟨some (false, 13), .load 4 true (.g 3), none, [2]⟩,
   ⟨some (false, 14), .call true (.c (.fn 49 [] [])) [(.l 12), (.l 13)], none, []⟩,
   ⟨some (false, 9), .mv (.l 14), none, []⟩,
   ⟨some (false, 15), .extract (.l 9) 0, none, []⟩,
   ⟨some (false, 16), .extract (.l 9) 1, none, []⟩,
   ⟨some (true, 5), .alloc [(.int .i64 0), (.int .i64 0), (.str ⟨#[]⟩), (.list 0 .full [])], none, []⟩,
   ⟨none, .store 4 (.g 5) (.l 15), none, []⟩,
   ⟨some (true, 6), .mv (.l 16), none, []⟩]
def a11r2 : List AOper :=
  [⟨some (false, 17), .load 4 true (.g 3), none, []⟩,
   ⟨some (false, 18), .call false (.c (.fn 13 [] [])) [(.l 17)], none, []⟩,
   ⟨some (false, 19), .un .not (.l 18), none, []⟩,
   ⟨some (false, 20), .mv (.l 19), none, []⟩,
   ⟨some (false, 21), .mv (.g 0), some (false, 20, false), []⟩,
   ⟨some (false, 22), .len (.l 21), some (false, 20, false), []⟩,
   ⟨some (false, 23), .bin .gtr (.l 22) (.c (.int .i64 600)), some (false, 20, false), []⟩,
   ⟨some (false, 24), .pick (.l 20) (.c (.bool true)) (.l 23), none, []⟩,
   ⟨some (false, 25), .mv (.l 24), none, []⟩,
   ⟨some (false, 26), .mv (.g 0), some (false, 25, false), []⟩,
   ⟨some (false, 27), .load 4 true (.g 3), some (false, 25, false), []⟩,
   ⟨some (false, 28), .call false (.c (.fn 50 [] [])) [(.l 26), (.l 27)], some (false, 25, false), []⟩,
   ⟨some (false, 29), .un .not (.l 28), some (false, 25, false), []⟩,
   ⟨some (false, 30), .pick (.l 25) (.c (.bool true)) (.l 29), none, []⟩,
   ⟨some (false, 31), .mv (.l 30), none, []⟩,
   ⟨some (false, 32), .mv (.g 0), some (false, 31, false), []⟩,
   ⟨some (false, 33), .call false (.c (.fn 51 [] [])) [(.l 32)], some (false, 31, false), []⟩,
   ⟨some (false, 34), .un .not (.l 33), some (false, 31, false), []⟩,
   ⟨some (true, 35), .pick (.l 31) (.c (.bool true)) (.l 34), none, []⟩]
def a11r3 : List AOper :=
  [⟨some (false, 36), .load 4 true (.g 5), none, []⟩,
   ⟨some (false, 37), .call false (.c (.fn 15 [] [])) [(.l 36)], none, []⟩,
   ⟨some (false, 38), .mv (.l 37), none, []⟩,
   ⟨some (false, 39), .mv (.g 6), some (false, 38, true), []⟩,
   ⟨some (false, 40), .bin .eql (.l 39) (.c (.int .i64 2)), some (false, 38, true), []⟩,
   ⟨some (false, 41), .pick (.l 38) (.l 40) (.c (.bool false)), none, []⟩,
   ⟨some (false, 42), .mv (.l 41), none, []⟩,
   ⟨some (false, 43), .call false (.c (.fn 16 [] [])) [], some (false, 42, true), []⟩,
   ⟨some (false, 44), .pick (.l 42) (.l 43) (.c (.bool false)), none, []⟩,
   ⟨some (true, 4), .mv (.l 44), none, []⟩]
def a11r4 : List AOper :=
  [⟨some (false, 46), .mv (.g 0), none, []⟩,
   ⟨some (false, 47), .load 4 true (.g 3), none, []⟩,
   ⟨some (false, 48), .call false (.c (.fn 52 [] [])) [(.l 46), (.l 47)], none, []⟩,
   ⟨some (false, 45), .mv (.l 48), none, []⟩,
   ⟨some (false, 49), .extract (.l 45) 0, none, []⟩,
   ⟨some (false, 50), .extract (.l 45) 1, none, []⟩,
   ⟨some (true, 7), .alloc [(.int .i64 0), (.int .i64 0), (.str ⟨#[]⟩), (.list 0 .full [])], none, []⟩,
   ⟨none, .store 4 (.g 7) (.l 49), none, []⟩,
   ⟨some (true, 8), .mv (.l 50), none, []⟩]
def a11r5 : List AOper :=
  [⟨some (false, 51), .mv (.g 6), none, []⟩,
   ⟨some (false, 52), .mv (.g 8), none, []⟩,
   ⟨some (false, 53), .bin .eql (.l 51) (.l 52), none, []⟩,
   ⟨some (false, 54), .mv (.l 53), none, []⟩,
   ⟨some (false, 55), .load 4 true (.g 5), some (false, 54, true), []⟩,
   ⟨some (false, 56), .load 4 true (.g 7), some (false, 54, true), []⟩,
   ⟨some (false, 57), .call false (.c (.fn 31 [] [])) [(.l 55), (.l 56)], some (false, 54, true), []⟩,
   ⟨some (false, 58), .pick (.l 54) (.l 57) (.c (.bool false)), none, []⟩,
   ⟨some (false, 59), .mv (.l 58), none, []⟩,
   ⟨some (false, 60), .call false (.c (.fn 16 [] [])) [], some (false, 59, true), []⟩,
   ⟨some (false, 61), .pick (.l 59) (.l 60) (.c (.bool false)), none, []⟩,
   ⟨some (true, 4), .mv (.l 61), none, []⟩]
def a11b : ACode :=
  (.seq (.reg false a11r0) (.seq (.reg true a11r1) (.seq (.seq (.reg false a11r2) (.cond (.g 35) (.seq (.reg false a11r3) .ret) .skip)) (.seq (.reg false a11r4) (.seq (.reg false a11r5) .ret)))))
def a11 : AFun := ⟨2, 62, a11b, [.tmp (true, 4)]⟩
theorem c11 : compileFun Try.prog [0, 1, 3, 4, 5, 6, 7, 8, 35] Try.f11 = some a11 := by kernel_rfl

/- damask/types.Resolve -/
def a49r0 : List AOper :=
  [⟨some (true, 2), .box (.g 0), none, []⟩,
   ⟨some (true, 3), .box (.g 1), none, []⟩,
   ⟨some (true, 4), .alloc [(.int .i64 0), (.int .i64 0), (.str ⟨#[]⟩), (.list 0 .full [])], none, []⟩,
   ⟨some (true, 5), .mv (.c (.int .i64 0)), none, []⟩]
def a49r1 : List AOper :=
  [⟨some (false, 9), .mkfn 87 [] [(.g 2)], none, []⟩,
   ⟨some (true, 6), .mv (.l 9), none, []⟩]
def a49r2 : List AOper :=
  [⟨some (false, 10), .load 1 false (.g 2), none, []⟩,
   ⟨some (false, 11), .len (.l 10), none, []⟩,
   ⟨some (false, 12), .bin .gtr (.l 11) (.c (.int .i64 600)), none, []⟩,
   ⟨some (false, 13), .mv (.l 12), none, []⟩,
   ⟨some (false, 14), .mv (.g 6), some (false, 13, false), []⟩,
   ⟨some (false, 15), .load 4 true (.g 3), some (false, 13, false), []⟩,
   ⟨some (false, 16), .call false (.l 14) [(.l 15)], some (false, 13, false), []⟩,
   ⟨some (false, 17), .un .not (.l 16), some (false, 13, false), []⟩,
   ⟨some (true, 18), .pick (.l 13) (.c (.bool true)) (.l 17), none, []⟩]
def a49r3 : List AOper :=
  [⟨some (false, 19), .build [(.int .i64 0), (.int .i64 0), (.str ⟨#[]⟩), (.list 0 .full [])] [], none, []⟩,
   ⟨none, .store 4 (.g 4) (.l 19), none, []⟩,
   ⟨some (true, 5), .mv (.c (.int .i64 2)), none, []⟩]
def a49r4 : List AOper :=
  [⟨some (true, 20), .load 1 false (.g 2), none, []⟩,
   ⟨some (true, 21), .len (.g 20), none, []⟩,
   ⟨some (true, 22), .mv (.c (.int .i64 0)), none, []⟩]
def a49r5 : List AOper :=
  [⟨some (true, 23), .bin .lss (.g 22) (.g 21), none, []⟩]
def a49r6 : List AOper :=
  [⟨some (false, 24), .indexAddr 10 (.g 20) (.g 22), none, []⟩,
   ⟨some (false, 25), .load 10 true (.l 24), none, []⟩,
   ⟨some (true, 8), .alloc [(.int .i64 0), (.int .i64 0), (.str ⟨#[]⟩), (.list 0 .full []), (.int .i64 0), (.bool false), (.int .i64 0), (.int .i64 0), (.str ⟨#[]⟩), (.list 0 .full [])], none, []⟩,
   ⟨none, .store 10 (.g 8) (.l 25), none, []⟩]
def a49r7 : List AOper :=
  [⟨some (false, 26), .fieldAddr 5 (.g 8), none, []⟩,
   ⟨some (false, 27), .load 1 false (.l 26), none, []⟩,
   ⟨some (false, 28), .mv (.l 27), none, []⟩,
   ⟨some (false, 29), .mv (.g 6), some (false, 28, true), []⟩,
   ⟨some (false, 30), .fieldAddr 6 (.g 8), some (false, 28, true), []⟩,
   ⟨some (false, 31), .load 4 true (.l 30), some (false, 28, true), []⟩,
   ⟨some (false, 32), .call false (.l 29) [(.l 31)], some (false, 28, true), []⟩,
   ⟨some (false, 33), .un .not (.l 32), some (false, 28, true), []⟩,
   ⟨some (false, 34), .mv (.l 33), some (false, 28, true), []⟩,
   ⟨some (false, 35), .fieldAddr 6 (.g 8), some (false, 34, false), []⟩,
   ⟨some (false, 36), .load 4 true (.l 35), some (false, 34, false), []⟩,
   ⟨some (false, 37), .call false (.c (.fn 91 [] [])) [(.l 36)], some (false, 34, false), []⟩,
   ⟨some (false, 38), .len (.l 37), some (false, 34, false), []⟩,
   ⟨some (false, 39), .bin .gtr (.l 38) (.c (.int .i64 0)), some (false, 34, false), []⟩,
   ⟨some (false, 40), .pick (.l 34) (.c (.bool true)) (.l 39), some (false, 28, true), []⟩,
   ⟨some (true, 41), .pick (.l 28) (.l 40) (.c (.bool false)), none, []⟩]
def a49r8 : List AOper :=
  [⟨some (false, 42), .build [(.int .i64 0), (.int .i64 0), (.str ⟨#[]⟩), (.list 0 .full [])] [], none, []⟩,
   ⟨none, .store 4 (.g 4) (.l 42), none, []⟩,
   ⟨some (true, 5), .mv (.c (.int .i64 2)), none, []⟩]
def a49r9 : List AOper :=
  [⟨some (false, 43), .bin .add (.g 22) (.c (.int .i64 1)), none, []⟩,
   ⟨some (true, 22), .mv (.l 43), none, []⟩]
def a49l10 : ACode :=
  (.seq (.reg false a49r5) (.seq (.cond (.g 23) .skip (.exit 0)) (.seq (.block 1 (.seq (.reg false a49r6) (.seq (.reg false a49r7) (.cond (.g 41) (.seq (.reg false a49r8) .ret) .skip)))) (.reg false a49r9))))
def a49r11 : List AOper :=
  [⟨some (false, 44), .load 1 false (.g 2), none, []⟩,
   ⟨some (true, 45), .call false (.c (.fn 92 [] [])) [(.l 44)], none, []⟩]
def a49r12 : List AOper :=
  [⟨some (false, 46), .build [(.int .i64 0), (.int .i64 0), (.str ⟨#[]⟩), (.list 0 .full [])] [], none, []⟩,
   ⟨none, .store 4 (.g 4) (.l 46), none, []⟩,
   ⟨some (true, 5), .mv (.c (.int .i64 2)), none, []⟩]
def a49r13 : List AOper :=
  [⟨some (false, 47), .load 1 false (.g 2), none, []⟩,
   ⟨some (false, 48), .load 4 true (.g 3), none, []⟩,
   ⟨some (false, 49), .call false (.c (.fn 93 [] [])) [(.l 47), (.l 48)], none, []⟩,
   ⟨some (false, 50), .extract (.l 49) 0, none, []⟩,
   ⟨some (false, 51), .extract (.l 49) 1, none, []⟩,
   ⟨none, .store 4 (.g 4) (.l 50), none, []⟩,
   ⟨some (true, 5), .mv (.l 51), none, []⟩]
def a49b : ACode :=
  (.seq (.seq (.reg false a49r0) (.frz 2)) (.seq (.reg false a49r1) (.seq (.seq (.reg false a49r2) (.cond (.g 18) (.seq (.reg false a49r3) .ret) .skip)) (.seq (.seq (.reg false a49r4) (.block 0 (.loop a49l10))) (.seq (.seq (.reg false a49r11) (.cond (.g 45) (.seq (.reg false a49r12) .ret) .skip)) (.seq (.reg false a49r13) .ret))))))
def a49 : AFun := ⟨2, 52, a49b, [.cell (true, 4) 4 true, .tmp (true, 5)]⟩
theorem c49 : compileFun Try.prog [0, 1, 2, 3, 4, 5, 6, 8, 18, 20, 21, 22, 23, 41, 45, 1000000000002] Try.f49 = some a49 := by kernel_rfl

/- damask/damaskref05.Known -/
def a50r0 : List AOper :=
  [⟨some (true, 3), .box (.g 1), none, []⟩,
   ⟨some (true, 4), .mv (.c (.bool false)), none, []⟩]
def a50r1 : List AOper :=
  [⟨some (false, 7), .load 4 true (.g 3), none, []⟩,
   ⟨some (true, 8), .call false (.c (.fn 46 [] [])) [(.l 7)], none, []⟩,
   ⟨some (true, 9), .len (.g 8), none, []⟩,
   ⟨some (true, 10), .mv (.c (.int .i64 0)), none, []⟩]
def a50r2 : List AOper :=
  [⟨some (true, 11), .bin .lss (.g 10) (.g 9), none, []⟩]
def a50r3 : List AOper :=
  [⟨some (false, 12), .indexAddr 1 (.g 8) (.g 10), none, []⟩,
   ⟨some (false, 13), .load 1 false (.l 12), none, []⟩,
   ⟨some (true, 6), .mv (.l 13), none, []⟩]
def a50r4 : List AOper :=
  [⟨some (false, 14), .mv (.g 6), none, []⟩,
   ⟨some (false, 15), .mv (.g 0), none, []⟩,
   ⟨some (false, 16), .len (.l 15), none, []⟩,
   ⟨some (true, 17), .bin .geq (.l 14) (.l 16), none, []⟩]
def a50r5 : List AOper :=
  [⟨some (true, 4), .mv (.c (.bool false)), none, []⟩]
def a50r6 : List AOper :=
  [⟨some (false, 18), .bin .add (.g 10) (.c (.int .i64 1)), none, []⟩,
   ⟨some (true, 10), .mv (.l 18), none, []⟩]
def a50l7 : ACode :=
  (.seq (.reg false a50r2) (.seq (.cond (.g 11) .skip (.exit 0)) (.seq (.block 1 (.seq (.reg false a50r3) (.seq (.reg false a50r4) (.cond (.g 17) (.seq (.reg false a50r5) .ret) .skip)))) (.reg false a50r6))))
def a50r8 : List AOper :=
  [⟨some (true, 4), .mv (.c (.bool true)), none, []⟩]
def a50b : ACode :=
  (.seq (.reg false a50r0) (.seq (.seq (.reg false a50r1) (.block 0 (.loop a50l7))) (.seq (.reg false a50r8) .ret)))
def a50 : AFun := ⟨2, 19, a50b, [.tmp (true, 4)]⟩
theorem c50 : compileFun Try.prog [0, 1, 3, 4, 6, 8, 9, 10, 11, 17] Try.f50 = some a50 := by kernel_rfl

/- damask/damaskref05.Solvable -/
def a51r0 : List AOper :=
  [⟨some (true, 2), .mv (.c (.bool false)), none, []⟩]
def a51r1 : List AOper :=
  [⟨some (true, 16), .mv (.g 0), none, []⟩,
   ⟨some (true, 17), .len (.g 16), none, []⟩,
   ⟨some (true, 18), .mv (.c (.int .i64 0)), none, []⟩]
def a51r2 : List AOper :=
  [⟨some (true, 19), .bin .lss (.g 18) (.g 17), none, []⟩]
def a51r3 : List AOper :=
  [⟨some (false, 20), .indexAddr 10 (.g 16) (.g 18), none, []⟩,
   ⟨some (false, 21), .load 10 true (.l 20), none, []⟩,
   ⟨some (true, 4), .alloc [(.int .i64 0), (.int .i64 0), (.str ⟨#[]⟩), (.list 0 .full []), (.int .i64 0), (.bool false), (.int .i64 0), (.int .i64 0), (.str ⟨#[]⟩), (.list 0 .full [])], none, []⟩,
   ⟨none, .store 10 (.g 4) (.l 21), none, []⟩]
def a51r4 : List AOper :=
  [⟨some (false, 22), .fieldAddr 5 (.g 4), none, []⟩,
   ⟨some (false, 23), .load 1 false (.l 22), none, []⟩,
   ⟨some (true, 24), .un .not (.l 23), none, []⟩]
def a51r5 : List AOper :=
  [⟨some (false, 25), .fieldAddr 6 (.g 4), none, []⟩,
   ⟨some (false, 26), .load 4 true (.l 25), none, []⟩,
   ⟨some (false, 27), .call false (.c (.fn 13 [] [])) [(.l 26)], none, []⟩,
   ⟨some (false, 28), .un .not (.l 27), none, []⟩,
   ⟨some (false, 29), .mv (.l 28), none, []⟩,
   ⟨some (false, 30), .fieldAddr 6 (.g 4), some (false, 29, false), []⟩,
   ⟨some (false, 31), .load 4 true (.l 30), some (false, 29, false), []⟩,
   ⟨some (false, 32), .call false (.c (.fn 45 [] [])) [(.l 31)], some (false, 29, false), []⟩,
   ⟨some (false, 33), .len (.l 32), some (false, 29, false), []⟩,
   ⟨some (false, 34), .bin .gtr (.l 33) (.c (.int .i64 0)), some (false, 29, false), []⟩,
   ⟨some (true, 35), .pick (.l 29) (.c (.bool true)) (.l 34), none, []⟩]
def a51r6 : List AOper :=
  [⟨some (true, 2), .mv (.c (.bool false)), none, []⟩]
def a51r7 : List AOper :=
  [⟨some (false, 36), .fieldAddr 6 (.g 4), none, []⟩,
   ⟨some (false, 37), .load 4 true (.l 36), none, []⟩,
   ⟨some (true, 38), .call false (.c (.fn 46 [] [])) [(.l 37)], none, []⟩,
   ⟨some (true, 39), .len (.g 38), none, []⟩,
   ⟨some (true, 40), .mv (.c (.int .i64 0)), none, []⟩]
def a51r8 : List AOper :=
  [⟨some (true, 41), .bin .lss (.g 40) (.g 39), none, []⟩]
def a51r9 : List AOper :=
  [⟨some (false, 42), .indexAddr 1 (.g 38) (.g 40), none, []⟩,
   ⟨some (false, 43), .load 1 false (.l 42), none, []⟩,
   ⟨some (true, 6), .mv (.l 43), none, []⟩]
def a51r10 : List AOper :=
  [⟨some (false, 44), .mv (.g 6), none, []⟩,
   ⟨some (false, 45), .mv (.g 0), none, []⟩,
   ⟨some (false, 46), .len (.l 45), none, []⟩,
   ⟨some (true, 47), .bin .geq (.l 44) (.l 46), none, []⟩]
def a51r11 : List AOper :=
  [⟨some (true, 2), .mv (.c (.bool false)), none, []⟩]
def a51r12 : List AOper :=
  [⟨some (false, 48), .bin .add (.g 40) (.c (.int .i64 1)), none, []⟩,
   ⟨some (true, 40), .mv (.l 48), none, []⟩]
def a51l13 : ACode :=
  (.seq (.reg false a51r8) (.seq (.cond (.g 41) .skip (.exit 2)) (.seq (.block 3 (.seq (.reg false a51r9) (.seq (.reg false a51r10) (.cond (.g 47) (.seq (.reg false a51r11) .ret) .skip)))) (.reg false a51r12))))
def a51r14 : List AOper :=
  [⟨some (false, 49), .bin .add (.g 18) (.c (.int .i64 1)), none, []⟩,
   ⟨some (true, 18), .mv (.l 49), none, []⟩]
def a51l15 : ACode :=
  (.seq (.reg false a51r2) (.seq (.cond (.g 19) .skip (.exit 0)) (.seq (.block 1 (.seq (.reg false a51r3) (.seq (.seq (.reg false a51r4) (.cond (.g 24) (.exit 1) .skip)) (.seq (.seq (.reg false a51r5) (.cond (.g 35) (.seq (.reg false a51r6) .ret) .skip)) (.seq (.reg false a51r7) (.block 2 (.loop a51l13))))))) (.reg false a51r14))))
def a51r16 : List AOper :=
  [⟨some (false, 50), .mv (.g 0), none, []⟩,
   ⟨some (false, 51), .len (.l 50), none, []⟩,
   ⟨some (false, 52), .mkslice 1 1 [(.bool false)] false (.l 51) (.l 51), none, []⟩,
   ⟨some (true, 7), .mv (.l 52), none, []⟩]
def a51r17 : List AOper :=
  [⟨some (false, 53), .mv (.g 0), none, []⟩,
   ⟨some (true, 54), .len (.l 53), none, []⟩,
   ⟨some (true, 55), .mv (.c (.int .i64 0)), none, []⟩]
def a51r18 : List AOper :=
  [⟨some (true, 56), .bin .lss (.g 55) (.g 54), none, []⟩]
def a51r19 : List AOper :=
  [⟨some (true, 8), .mv (.c (.bool false)), none, []⟩]
def a51r20 : List AOper :=
  [⟨some (true, 57), .mv (.g 0), none, []⟩,
   ⟨some (true, 58), .len (.g 57), none, []⟩,
   ⟨some (true, 59), .mv (.c (.int .i64 0)), none, []⟩]
def a51r21 : List AOper :=
  [⟨some (true, 60), .bin .lss (.g 59) (.g 58), none, []⟩]
def a51r22 : List AOper :=
  [⟨some (false, 61), .mv (.g 59), none, []⟩,
   ⟨some (false, 62), .indexAddr 10 (.g 57) (.g 59), none, []⟩,
   ⟨some (false, 63), .load 10 true (.l 62), none, []⟩,
   ⟨some (true, 10), .alloc [(.int .i64 0), (.int .i64 0), (.str ⟨#[]⟩), (.list 0 .full []), (.int .i64 0), (.bool false), (.int .i64 0), (.int .i64 0), (.str ⟨#[]⟩), (.list 0 .full [])], none, []⟩,
   ⟨some (true, 9), .mv (.l 61), none, []⟩,
   ⟨none, .store 10 (.g 10) (.l 63), none, []⟩]
def a51r23 : List AOper :=
  [⟨some (false, 64), .mv (.g 7), none, []⟩,
   ⟨some (false, 65), .mv (.g 9), none, []⟩,
   ⟨some (false, 66), .indexAddr 1 (.l 64) (.l 65), none, []⟩,
   ⟨some (true, 67), .load 1 false (.l 66), none, []⟩]
def a51r24 : List AOper :=
  [⟨some (true, 11), .mv (.c (.bool true)), none, []⟩]
def a51r25 : List AOper :=
  [⟨some (false, 68), .fieldAddr 5 (.g 10), none, []⟩,
   ⟨some (true, 69), .load 1 false (.l 68), none, []⟩]
def a51r26 : List AOper :=
  [⟨some (false, 70), .fieldAddr 6 (.g 10), none, []⟩,
   ⟨some (false, 71), .load 4 true (.l 70), none, []⟩,
   ⟨some (true, 72), .call false (.c (.fn 46 [] [])) [(.l 71)], none, []⟩,
   ⟨some (true, 73), .len (.g 72), none, []⟩,
   ⟨some (true, 74), .mv (.c (.int .i64 0)), none, []⟩]
def a51r27 : List AOper :=
  [⟨some (true, 75), .bin .lss (.g 74) (.g 73), none, []⟩]
def a51r28 : List AOper :=
  [⟨some (false, 76), .indexAddr 1 (.g 72) (.g 74), none, []⟩,
   ⟨some (false, 77), .load 1 false (.l 76), none, []⟩,
   ⟨some (true, 13), .mv (.l 77), none, []⟩]
def a51r29 : List AOper :=
  [⟨some (false, 78), .mv (.g 11), none, []⟩,
   ⟨some (false, 79), .mv (.l 78), none, []⟩,
   ⟨some (false, 80), .mv (.g 7), some (false, 79, true), []⟩,
   ⟨some (false, 81), .mv (.g 13), some (false, 79, true), []⟩,
   ⟨some (false, 82), .indexAddr 1 (.l 80) (.l 81), some (false, 79, true), []⟩,
   ⟨some (false, 83), .load 1 false (.l 82), some (false, 79, true), []⟩,
   ⟨some (false, 84), .pick (.l 79) (.l 83) (.c (.bool false)), none, []⟩,
   ⟨some (true, 11), .mv (.l 84), none, []⟩]
def a51r30 : List AOper :=
  [⟨some (false, 85), .bin .add (.g 74) (.c (.int .i64 1)), none, []⟩,
   ⟨some (true, 74), .mv (.l 85), none, []⟩]
def a51l31 : ACode :=
  (.seq (.reg false a51r27) (.seq (.cond (.g 75) .skip (.exit 8)) (.seq (.block 9 (.seq (.reg false a51r28) (.reg false a51r29))) (.reg false a51r30))))
def a51r32 : List AOper :=
  [⟨some (false, 86), .mv (.g 7), none, []⟩,
   ⟨some (false, 87), .mv (.g 9), none, []⟩,
   ⟨some (false, 88), .mv (.g 11), none, []⟩,
   ⟨some (false, 89), .indexAddr 1 (.l 86) (.l 87), none, []⟩,
   ⟨none, .store 1 (.l 89) (.l 88), none, []⟩]
def a51r33 : List AOper :=
  [⟨some (false, 90), .mv (.g 8), none, []⟩,
   ⟨some (false, 91), .mv (.l 90), none, []⟩,
   ⟨some (false, 92), .mv (.g 11), some (false, 91, false), []⟩,
   ⟨some (false, 93), .pick (.l 91) (.c (.bool true)) (.l 92), none, []⟩,
   ⟨some (true, 8), .mv (.l 93), none, []⟩]
def a51r34 : List AOper :=
  [⟨some (false, 94), .bin .add (.g 59) (.c (.int .i64 1)), none, []⟩,
   ⟨some (true, 59), .mv (.l 94), none, []⟩]
def a51l35 : ACode :=
  (.seq (.reg false a51r21) (.seq (.cond (.g 60) .skip (.exit 6)) (.seq (.block 7 (.seq (.reg false a51r22) (.seq (.seq (.reg false a51r23) (.cond (.g 67) (.exit 7) .skip)) (.seq (.reg false a51r24) (.seq (.seq (.reg false a51r25) (.cond (.g 69) (.seq (.reg false a51r26) (.block 8 (.loop a51l31))) .skip)) (.seq (.reg false a51r32) (.reg false a51r33))))))) (.reg false a51r34))))
def a51r36 : List AOper :=
  [⟨some (false, 95), .mv (.g 8), none, []⟩,
   ⟨some (true, 96), .un .not (.l 95), none, []⟩]
def a51r37 : List AOper :=
  [⟨some (false, 97), .bin .add (.g 55) (.c (.int .i64 1)), none, []⟩,
   ⟨some (true, 55), .mv (.l 97), none, []⟩]
def a51l38 : ACode :=
  (.seq (.reg false a51r18) (.seq (.cond (.g 56) .skip (.exit 4)) (.seq (.block 5 (.seq (.reg false a51r19) (.seq (.seq (.reg false a51r20) (.block 6 (.loop a51l35))) (.seq (.reg false a51r36) (.cond (.g 96) (.exit 4) .skip))))) (.reg false a51r37))))
def a51r39 : List AOper :=
  [⟨some (true, 98), .mv (.g 7), none, []⟩,
   ⟨some (true, 99), .len (.g 98), none, []⟩,
   ⟨some (true, 100), .mv (.c (.int .i64 0)), none, []⟩]
def a51r40 : List AOper :=
  [⟨some (true, 101), .bin .lss (.g 100) (.g 99), none, []⟩]
def a51r41 : List AOper :=
  [⟨some (false, 102), .indexAddr 1 (.g 98) (.g 100), none, []⟩,
   ⟨some (false, 103), .load 1 false (.l 102), none, []⟩,
   ⟨some (true, 15), .mv (.l 103), none, []⟩]
def a51r42 : List AOper :=
  [⟨some (false, 104), .mv (.g 15), none, []⟩,
   ⟨some (true, 105), .un .not (.l 104), none, []⟩]
def a51r43 : List AOper :=
  [⟨some (true, 2), .mv (.c (.bool false)), none, []⟩]
def a51r44 : List AOper :=
  [⟨some (false, 106), .bin .add (.g 100) (.c (.int .i64 1)), none, []⟩,
   ⟨some (true, 100), .mv (.l 106), none, []⟩]
def a51l45 : ACode :=
  (.seq (.reg false a51r40) (.seq (.cond (.g 101) .skip (.exit 10)) (.seq (.block 11 (.seq (.reg false a51r41) (.seq (.reg false a51r42) (.cond (.g 105) (.seq (.reg false a51r43) .ret) .skip)))) (.reg false a51r44))))
def a51r46 : List AOper :=
  [⟨some (true, 2), .mv (.c (.bool true)), none, []⟩]
def a51b : ACode :=
  (.seq (.reg false a51r0) (.seq (.seq (.reg false a51r1) (.block 0 (.loop a51l15))) (.seq (.reg false a51r16) (.seq (.seq (.reg false a51r17) (.block 4 (.loop a51l38))) (.seq (.seq (.reg false a51r39) (.block 10 (.loop a51l45))) (.seq (.reg false a51r46) .ret))))))
def a51 : AFun := ⟨1, 107, a51b, [.tmp (true, 2)]⟩
theorem c51 : compileFun Try.prog [0, 2, 4, 6, 7, 8, 9, 10, 11, 13, 15, 16, 17, 18, 19, 24, 35, 38, 39, 40, 41, 47, 54, 55, 56, 57, 58, 59, 60, 67, 69, 72, 73, 74, 75, 96, 98, 99, 100, 101, 105] Try.f51 = some a51 := by kernel_rfl

/- damask/damaskref05.Resolve -/
def a52r0 : List AOper :=
  [⟨some (true, 3), .box (.g 1), none, []⟩,
   ⟨some (true, 4), .alloc [(.int .i64 0), (.int .i64 0), (.str ⟨#[]⟩), (.list 0 .full [])], none, []⟩,
   ⟨some (true, 5), .mv (.c (.int .i64 0)), none, []⟩]
def a52r1 : List AOper :=
  [⟨some (true, 6), .alloc [(.int .i64 0)], none, []⟩,
   ⟨none, .store 1 (.g 6) (.c (.int .i64 0)), none, []⟩]
def a52r2 : List AOper :=
  [⟨some (false, 10), .mv (.g 0), none, []⟩,
   ⟨some (false, 11), .load 4 true (.g 3), none, []⟩,
   ⟨some (false, 12), .call false (.c (.fn 94 [] [])) [(.l 10), (.l 11), (.c (.int .i64 1)), (.g 6)], none, []⟩,
   ⟨some (false, 9), .mv (.l 12), none, []⟩,
   ⟨some (false, 13), .extract (.l 9) 0, none, []⟩,
   ⟨some (false, 14), .extract (.l 9) 1, none, []⟩,
   ⟨some (true, 7), .alloc [(.int .i64 0), (.int .i64 0), (.str ⟨#[]⟩), (.list 0 .full [])], none, []⟩,
   ⟨none, .store 4 (.g 7) (.l 13), none, []⟩,
   ⟨some (true, 8), .mv (.l 14), none, []⟩]
def a52r3 : List AOper :=
  [⟨some (false, 15), .mv (.g 8), none, []⟩,
   ⟨some (true, 16), .un .not (.l 15), none, []⟩]
def a52r4 : List AOper :=
  [⟨some (false, 17), .build [(.int .i64 0), (.int .i64 0), (.str ⟨#[]⟩), (.list 0 .full [])] [], none, []⟩,
   ⟨none, .store 4 (.g 4) (.l 17), none, []⟩,
   ⟨some (true, 5), .mv (.c (.int .i64 5)), none, []⟩]
def a52r5 : List AOper :=
  [⟨some (false, 18), .load 4 true (.g 7), none, []⟩,
   ⟨none, .store 4 (.g 4) (.l 18), none, []⟩,
   ⟨some (true, 5), .mv (.c (.int .i64 0)), none, []⟩]
def a52b : ACode :=
  (.seq (.reg false a52r0) (.seq (.reg false a52r1) (.seq (.reg false a52r2) (.seq (.seq (.reg false a52r3) (.cond (.g 16) (.seq (.reg false a52r4) .ret) .skip)) (.seq (.reg false a52r5) .ret)))))
def a52 : AFun := ⟨2, 19, a52b, [.cell (true, 4) 4 true, .tmp (true, 5)]⟩
theorem c52 : compileFun Try.prog [0, 1, 3, 4, 5, 6, 7, 8, 16] Try.f52 = some a52 := by kernel_rfl

/- damask/types.Resolve$1 -/
def a87r0 : List AOper :=
  [⟨some (true, 2), .box (.g 0), none, []⟩,
   ⟨some (true, 3), .mv (.c (.bool false)), none, []⟩]
def a87r1 : List AOper :=
  [⟨some (false, 4), .load 4 true (.g 2), none, []⟩,
   ⟨some (false, 5), .call false (.c (.fn 53 [] [])) [(.l 4)], none, []⟩,
   ⟨some (false, 6), .mv (.l 5), none, []⟩,
   ⟨some (false, 7), .load 4 true (.g 2), some (false, 6, true), []⟩,
   ⟨some (false, 8), .call false (.c (.fn 89 [] [])) [(.l 7)], some (false, 6, true), []⟩,
   ⟨some (false, 9), .mkfn 90 [] [(.g 1)], some (false, 6, true), []⟩,
   ⟨some (false, 10), .call false (.c (.fn 88 [] [])) [(.l 8), (.l 9)], some (false, 6, true), []⟩,
   ⟨some (false, 11), .un .not (.l 10), some (false, 6, true), []⟩,
   ⟨some (false, 12), .pick (.l 6) (.l 11) (.c (.bool false)), none, []⟩,
   ⟨some (true, 3), .mv (.l 12), none, []⟩]
def a87b : ACode :=
  (.seq (.reg false a87r0) (.seq (.reg false a87r1) .ret))
def a87 : AFun := ⟨2, 13, a87b, [.tmp (true, 3)]⟩
theorem c87 : compileFun Try.prog [0, 1, 2, 3] Try.f87 = some a87 := by kernel_rfl

/- slices.ContainsFunc[[]int,int] -/
def a88r0 : List AOper :=
  [⟨some (true, 4), .mv (.c (.bool false)), none, []⟩]
def a88r1 : List AOper :=
  [⟨some (false, 5), .mv (.g 0), none, []⟩,
   ⟨some (false, 6), .mv (.g 1), none, []⟩,
   ⟨some (false, 7), .call false (.c (.fn 121 [] [])) [(.l 5), (.l 6)], none, []⟩,
   ⟨some (false, 8), .bin .geq (.l 7) (.c (.int .i64 0)), none, []⟩,
   ⟨some (true, 4), .mv (.l 8), none, []⟩]
def a88b : ACode :=
  (.seq (.reg false a88r0) (.seq (.reg false a88r1) .ret))
def a88 : AFun := ⟨2, 9, a88b, [.tmp (true, 4)]⟩
theorem c88 : compileFun Try.prog [0, 1, 4] Try.f88 = some a88 := by kernel_rfl

/- damask/types.MetasOf -/
def a89r0 : List AOper :=
  [⟨some (true, 1), .box (.g 0), none, []⟩,
   ⟨some (true, 2), .mv (.c (.list 0 .full [])), none, []⟩]
def a89r1 : List AOper :=
  [⟨some (false, 3), .load 4 true (.g 1), none, []⟩,
   ⟨some (false, 4), .call false (.c (.fn 119 [] [])) [(.l 3), (.c (.int .i64 6))], none, []⟩,
   ⟨some (true, 2), .mv (.l 4), none, []⟩]
def a89b : ACode :=
  (.seq (.reg false a89r0) (.seq (.reg false a89r1) .ret))
def a89 : AFun := ⟨1, 5, a89b, [.tmp (true, 2)]⟩
theorem c89 : compileFun Try.prog [0, 1, 2] Try.f89 = some a89 := by kernel_rfl

/- damask/types.Resolve$1$1 -/
def a90r0 : List AOper :=
  [⟨some (true, 3), .mv (.c (.bool false)), none, []⟩]
def a90r1 : List AOper :=
  [⟨some (false, 4), .mv (.g 0), none, []⟩,
   ⟨some (false, 5), .load 1 false (.g 1), none, []⟩,
   ⟨some (false, 6), .len (.l 5), none, []⟩,
   ⟨some (false, 7), .bin .geq (.l 4) (.l 6), none, []⟩,
   ⟨some (true, 3), .mv (.l 7), none, []⟩]
def a90b : ACode :=
  (.seq (.reg false a90r0) (.seq (.reg false a90r1) .ret))
def a90 : AFun := ⟨2, 8, a90b, [.tmp (true, 3)]⟩
theorem c90 : compileFun Try.prog [0, 1, 3] Try.f90 = some a90 := by kernel_rfl

/- damask/types.FreeOf -/
def a91r0 : List AOper :=
  [⟨some (true, 1), .box (.g 0), none, []⟩,
   ⟨some (true, 2), .mv (.c (.list 0 .full [])), none, []⟩]
def a91r1 : List AOper :=
  [⟨some (false, 3), .load 4 true (.g 1), none, []⟩,
   ⟨some (false, 4), .call false (.c (.fn 119 [] [])) [(.l 3), (.c (.int .i64 1))], none, []⟩,
   ⟨some (true, 2), .mv (.l 4), none, []⟩]
def a91b : ACode :=
  (.seq (.reg false a91r0) (.seq (.reg false a91r1) .ret))
def a91 : AFun := ⟨1, 5, a91b, [.tmp (true, 2)]⟩
theorem c91 : compileFun Try.prog [0, 1, 2] Try.f91 = some a91 := by kernel_rfl

/- damask/types.Ring -/
def a92r0 : List AOper :=
  [⟨some (true, 1), .box (.g 0), none, []⟩,
   ⟨some (true, 2), .mv (.c (.bool false)), none, []⟩]
def a92r1 : List AOper :=
  [⟨some (false, 6), .load 1 false (.g 1), none, []⟩,
   ⟨some (false, 7), .len (.l 6), none, []⟩,
   ⟨some (false, 8), .mkslice 1 8 [(.int .i64 0)] false (.l 7) (.l 7), none, []⟩,
   ⟨some (true, 3), .alloc [(.list 0 .full [])], none, []⟩,
   ⟨none, .store 1 (.g 3) (.l 8), none, []⟩]
def a92r2 : List AOper :=
  [⟨some (true, 4), .alloc [.nilfn], none, []⟩]
def a92r3 : List AOper :=
  [⟨some (false, 9), .mkfn 122 [] [(.g 3), (.g 1), (.g 4)], none, []⟩,
   ⟨none, .store 1 (.g 4) (.l 9), none, []⟩]
def a92r4 : List AOper :=
  [⟨some (false, 10), .load 1 false (.g 1), none, []⟩,
   ⟨some (true, 11), .len (.l 10), none, []⟩,
   ⟨some (true, 12), .mv (.c (.int .i64 0)), none, []⟩]
def a92r5 : List AOper :=
  [⟨some (true, 13), .bin .lss (.g 12) (.g 11), none, []⟩]
def a92r6 : List AOper :=
  [⟨some (false, 14), .mv (.g 12), none, []⟩,
   ⟨some (true, 5), .mv (.l 14), none, []⟩]
def a92r7 : List AOper :=
  [⟨some (false, 15), .load 1 false (.g 4), none, []⟩,
   ⟨some (false, 16), .mv (.g 5), none, []⟩,
   ⟨some (true, 17), .call false (.l 15) [(.l 16)], none, []⟩]
def a92r8 : List AOper :=
  [⟨some (true, 2), .mv (.c (.bool true)), none, []⟩]
def a92r9 : List AOper :=
  [⟨some (false, 18), .bin .add (.g 12) (.c (.int .i64 1)), none, []⟩,
   ⟨some (true, 12), .mv (.l 18), none, []⟩]
def a92l10 : ACode :=
  (.seq (.reg false a92r5) (.seq (.cond (.g 13) .skip (.exit 0)) (.seq (.block 1 (.seq (.reg false a92r6) (.seq (.reg false a92r7) (.cond (.g 17) (.seq (.reg false a92r8) .ret) .skip)))) (.reg false a92r9))))
def a92r11 : List AOper :=
  [⟨some (true, 2), .mv (.c (.bool false)), none, []⟩]
def a92b : ACode :=
  (.seq (.seq (.reg false a92r0) (.frz 1)) (.seq (.seq (.reg false a92r1) (.frz 3)) (.seq (.reg false a92r2) (.seq (.reg false a92r3) (.seq (.seq (.reg false a92r4) (.block 0 (.loop a92l10))) (.seq (.reg false a92r11) .ret))))))
def a92 : AFun := ⟨1, 19, a92b, [.tmp (true, 2)]⟩
theorem c92 : compileFun Try.prog [0, 1, 2, 3, 4, 5, 11, 12, 13, 17, 1000000000001, 2000000000003] Try.f92 = some a92 := by kernel_rfl

/- damask/types.Full -/
def a93r0 : List AOper :=
  [⟨some (true, 3), .box (.g 1), none, []⟩,
   ⟨some (true, 4), .alloc [(.int .i64 0), (.int .i64 0), (.str ⟨#[]⟩), (.list 0 .full [])], none, []⟩,
   ⟨some (true, 5), .mv (.c (.int .i64 0)), none, []⟩]
def a93r1 : List AOper :=
  [⟨some (false, 8), .mv (.g 0), none, []⟩,
   ⟨some (false, 9), .mkmap, none, []⟩,
   ⟨some (false, 10), .mkmap, none, []⟩,
   ⟨some (false, 11), .build [(.list 0 .full []), .nilmap, .nilmap, (.int .i64 0)] [(0, 1, (.l 8)), (1, 1, (.l 9)), (2, 1, (.l 10))], none, []⟩,
   ⟨some (true, 6), .alloc [(.list 0 .full []), .nilmap, .nilmap, (.int .i64 0)], none, []⟩,
   ⟨none, .store 4 (.g 6) (.l 11), none, []⟩]
def a93r2 : List AOper :=
  [⟨some (false, 12), .load 4 true (.g 3), none, []⟩,
   ⟨some (false, 13), .call false (.c (.fn 123 [] [])) [(.g 6), (.l 12)], none, []⟩,
   ⟨some (true, 7), .alloc [(.int .i64 0), (.int .i64 0), (.str ⟨#[]⟩), (.list 0 .full [])], none, []⟩,
   ⟨none, .store 4 (.g 7) (.l 13), none, []⟩]
def a93r3 : List AOper :=
  [⟨some (false, 14), .fieldAddr 3 (.g 6), none, []⟩,
   ⟨some (false, 15), .load 1 false (.l 14), none, []⟩,
   ⟨some (true, 16), .bin .neq (.l 15) (.c (.int .i64 0)), none, []⟩]
def a93r4 : List AOper :=
  [⟨some (false, 17), .build [(.int .i64 0), (.int .i64 0), (.str ⟨#[]⟩), (.list 0 .full [])] [], none, []⟩,
   ⟨some (false, 18), .fieldAddr 3 (.g 6), none, []⟩,
   ⟨some (false, 19), .load 1 false (.l 18), none, []⟩,
   ⟨none, .store 4 (.g 4) (.l 17), none, [2]⟩,
   ⟨some (true, 5), .mv (.l 19), none, []⟩]
def a93r5 : List AOper :=
  [⟨some (false, 20), .load 4 true (.g 7), none, []⟩,
   ⟨some (false, 21), .call false (.c (.fn 55 [] [])) [(.l 20)], none, []⟩,
   ⟨some (false, 22), .extract (.l 21) 0, none, []⟩,
   ⟨some (false, 23), .extract (.l 21) 1, none, []⟩,
   ⟨none, .store 4 (.g 4) (.l 22), none, []⟩,
   ⟨some (true, 5), .mv (.l 23), none, []⟩]
def a93b : ACode :=
  (.seq (.reg false a93r0) (.seq (.reg false a93r1) (.seq (.reg false a93r2) (.seq (.seq (.reg false a93r3) (.cond (.g 16) (.seq (.reg true a93r4) .ret) .skip)) (.seq (.reg false a93r5) .ret)))))
def a93 : AFun := ⟨2, 24, a93b, [.cell (true, 4) 4 true, .tmp (true, 5)]⟩
theorem c93 : compileFun Try.prog [0, 1, 3, 4, 5, 6, 7, 16] Try.f93 = some a93 := by kernel_rfl

/- damask/damaskref05.resolve -/
def a94r0 : List AOper :=
  [⟨some (true, 5), .box (.g 1), none, []⟩,
   ⟨some (true, 8), .alloc [(.int .i64 0), (.int .i64 0), (.str ⟨#[]⟩), (.list 0 .full [])], none, []⟩,
   ⟨some (true, 9), .mv (.c (.bool false)), none, []⟩]
def a94r1 : List AOper :=
  [⟨some (false, 15), .fieldAddr 0 (.g 5), none, []⟩,
   ⟨some (false, 16), .load 1 false (.l 15), none, []⟩,
   ⟨some (false, 17), .bin .eql (.l 16) (.c (.int .i64 6)), none, []⟩,
   ⟨some (false, 18), .mv (.l 17), none, []⟩,
   ⟨some (false, 19), .mv (.g 0), some (false, 18, true), []⟩,
   ⟨some (false, 20), .fieldAddr 1 (.g 5), some (false, 18, true), []⟩,
   ⟨some (false, 21), .load 1 false (.l 20), some (false, 18, true), []⟩,
   ⟨some (false, 22), .indexAddr 10 (.l 19) (.l 21), some (false, 18, true), []⟩,
   ⟨some (false, 23), .fieldAddr 5 (.l 22), some (false, 18, true), []⟩,
   ⟨some (false, 24), .load 1 false (.l 23), some (false, 18, true), []⟩,
   ⟨some (true, 25), .pick (.l 18) (.l 24) (.c (.bool false)), none, []⟩]
def a94r2 : List AOper :=
  [⟨some (false, 26), .mv (.g 0), none, []⟩,
   ⟨some (false, 27), .fieldAddr 1 (.g 5), none, []⟩,
   ⟨some (false, 28), .load 1 false (.l 27), none, []⟩,
   ⟨some (false, 29), .indexAddr 10 (.l 26) (.l 28), none, []⟩,
   ⟨some (false, 30), .fieldAddr 6 (.l 29), none, []⟩,
   ⟨some (false, 31), .load 4 true (.l 30), none, []⟩,
   ⟨none, .store 4 (.g 5) (.l 31), none, []⟩]
def a94l3 : ACode :=
  (.seq (.seq (.reg false a94r1) (.cond (.g 25) .skip (.exit 0))) (.block 1 (.reg false a94r2)))
def a94r4 : List AOper :=
  [⟨some (false, 32), .mv (.g 3), none, []⟩,
   ⟨some (false, 33), .nilCheck (.l 32), none, []⟩,
   ⟨some (false, 34), .load 1 false (.l 33), none, []⟩,
   ⟨some (false, 35), .bin .add (.l 34) (.c (.int .i64 1)), none, []⟩,
   ⟨some (false, 36), .nilCheck (.l 32), none, []⟩,
   ⟨none, .store 1 (.l 36) (.l 35), none, []⟩]
def a94r5 : List AOper :=
  [⟨some (false, 37), .mv (.g 3), none, []⟩,
   ⟨some (false, 38), .nilCheck (.l 37), none, []⟩,
   ⟨some (false, 39), .load 1 false (.l 38), none, []⟩,
   ⟨some (false, 40), .bin .gtr (.l 39) (.c (.int .i64 600)), none, []⟩,
   ⟨some (false, 41), .mv (.l 40), none, []⟩,
   ⟨some (false, 42), .mv (.g 2), some (false, 41, false), []⟩,
   ⟨some (false, 43), .bin .gtr (.l 42) (.c (.int .i64 40)), some (false, 41, false), []⟩,
   ⟨some (true, 44), .pick (.l 41) (.c (.bool true)) (.l 43), none, []⟩]
def a94r6 : List AOper :=
  [⟨some (false, 45), .build [(.int .i64 0), (.int .i64 0), (.str ⟨#[]⟩), (.list 0 .full [])] [], none, []⟩,
   ⟨none, .store 4 (.g 8) (.l 45), none, []⟩,
   ⟨some (true, 9), .mv (.c (.bool false)), none, []⟩]
def a94r7 : List AOper :=
  [⟨some (false, 46), .fieldAddr 0 (.g 5), none, []⟩,
   ⟨some (false, 47), .load 1 false (.l 46), none, []⟩,
   ⟨some (false, 48), .fieldAddr 1 (.g 5), none, []⟩,
   ⟨some (false, 49), .load 1 false (.l 48), none, []⟩,
   ⟨some (false, 50), .fieldAddr 2 (.g 5), none, []⟩,
   ⟨some (false, 51), .load 1 false (.l 50), none, []⟩,
   ⟨some (false, 52), .build [(.int .i64 0), (.int .i64 0), (.str ⟨#[]⟩), (.list 0 .full [])] [(0, 1, (.l 47)), (1, 1, (.l 49)), (2, 1, (.l 51))], none, []⟩,
   ⟨some (true, 10), .alloc [(.int .i64 0), (.int .i64 0), (.str ⟨#[]⟩), (.list 0 .full [])], none, []⟩,
   ⟨none, .store 4 (.g 10) (.l 52), none, []⟩]
def a94r8 : List AOper :=
  [⟨some (false, 53), .fieldAddr 3 (.g 5), none, []⟩,
   ⟨some (true, 54), .load 1 false (.l 53), none, []⟩,
   ⟨some (true, 55), .len (.g 54), none, []⟩,
   ⟨some (true, 56), .mv (.c (.int .i64 0)), none, []⟩]
def a94r9 : List AOper :=
  [⟨some (true, 57), .bin .lss (.g 56) (.g 55), none, []⟩]
def a94r10 : List AOper :=
  [⟨some (false, 58), .indexAddr 4 (.g 54) (.g 56), none, []⟩,
   ⟨some (false, 59), .load 4 true (.l 58), none, []⟩,
   ⟨some (true, 12), .alloc [(.int .i64 0), (.int .i64 0), (.str ⟨#[]⟩), (.list 0 .full [])], none, []⟩,
   ⟨none, .store 4 (.g 12) (.l 59), none, []⟩]
def a94r11 : List AOper :=
  [⟨some (false, 61), .mv (.g 0), none, []⟩,
   ⟨some (false, 62), .load 4 true (.g 12), none, []⟩,
   ⟨some (false, 63), .mv (.g 2), none, []⟩,
   ⟨some (false, 64), .bin .add (.l 63) (.c (.int .i64 1)), none, []⟩,
   ⟨some (false, 65), .mv (.g 3), none, []⟩,
   ⟨some (false, 66), .call false (.c (.fn 94 [] [])) [(.l 61), (.l 62), (.l 64), (.l 65)], none, []⟩,
   ⟨some (false, 60), .mv (.l 66), none, []⟩,
   ⟨some (false, 67), .extract (.l 60) 0, none, []⟩,
   ⟨some (false, 68), .extract (.l 60) 1, none, []⟩,
   ⟨some (true, 13), .alloc [(.int .i64 0), (.int .i64 0), (.str ⟨#[]⟩), (.list 0 .full [])], none, []⟩,
   ⟨none, .store 4 (.g 13) (.l 67), none, []⟩,
   ⟨some (true, 14), .mv (.l 68), none, []⟩]
def a94r12 : List AOper :=
  [⟨some (false, 69), .mv (.g 14), none, []⟩,
   ⟨some (true, 70), .un .not (.l 69), none, []⟩]
def a94r13 : List AOper :=
  [⟨some (false, 71), .build [(.int .i64 0), (.int .i64 0), (.str ⟨#[]⟩), (.list 0 .full [])] [], none, []⟩,
   ⟨none, .store 4 (.g 8) (.l 71), none, []⟩,
   ⟨some (true, 9), .mv (.c (.bool false)), none, []⟩]
def a94r14 : List AOper :=
  [⟨some (false, 72), .fieldAddr 3 (.g 10), none, []⟩,
   ⟨some (false, 73), .load 1 false (.l 72), none, []⟩,
   ⟨some (false, 74), .load 4 true (.g 13), none, []⟩,
   ⟨some (false, 75), .buildSlice 4 true [(.int .i64 0), (.int .i64 0), (.str ⟨#[]⟩), (.list 0 .full [])] 1 [(0, (.l 74))], none, []⟩,
   ⟨some (false, 76), .append 4 56 (.l 73) (.l 75), none, []⟩,
   ⟨some (false, 77), .fieldAddr 3 (.g 10), none, []⟩,
   ⟨none, .store 1 (.l 77) (.l 76), none, []⟩]
def a94r15 : List AOper :=
  [⟨some (false, 78), .bin .add (.g 56) (.c (.int .i64 1)), none, []⟩,
   ⟨some (true, 56), .mv (.l 78), none, []⟩]
def a94l16 : ACode :=
  (.seq (.reg false a94r9) (.seq (.cond (.g 57) .skip (.exit 2)) (.seq (.block 3 (.seq (.reg false a94r10) (.seq (.reg false a94r11) (.seq (.seq (.reg false a94r12) (.cond (.g 70) (.seq (.reg false a94r13) .ret) .skip)) (.reg false a94r14))))) (.reg false a94r15))))
def a94r17 : List AOper :=
  [⟨some (false, 79), .load 4 true (.g 10), none, []⟩,
   ⟨none, .store 4 (.g 8) (.l 79), none, []⟩,
   ⟨some (true, 9), .mv (.c (.bool true)), none, []⟩]
def a94b : ACode :=
  (.seq (.reg false a94r0) (.seq (.block 0 (.loop a94l3)) (.seq (.reg false a94r4) (.seq (.seq (.reg false a94r5) (.cond (.g 44) (.seq (.reg false a94r6) .ret) .skip)) (.seq (.reg false a94r7) (.seq (.seq (.reg false a94r8) (.block 2 (.loop a94l16))) (.seq (.reg false a94r17) .ret)))))))
def a94 : AFun := ⟨4, 80, a94b, [.cell (true, 8) 4 true, .tmp (true, 9)]⟩
theorem c94 : compileFun Try.prog [0, 1, 2, 3, 5, 8, 9, 10, 12, 13, 14, 25, 44, 54, 55, 56, 57, 70] Try.f94 = some a94 := by kernel_rfl

/- slices.IndexFunc[[]int,int] -/
def a121r0 : List AOper :=
  [⟨some (true, 4), .mv (.c (.int .i64 0)), none, []⟩]
def a121r1 : List AOper :=
  [⟨some (false, 6), .mv (.g 0), none, []⟩,
   ⟨some (true, 7), .len (.l 6), none, []⟩,
   ⟨some (true, 8), .mv (.c (.int .i64 0)), none, []⟩]
def a121r2 : List AOper :=
  [⟨some (true, 9), .bin .lss (.g 8) (.g 7), none, []⟩]
def a121r3 : List AOper :=
  [⟨some (false, 10), .mv (.g 8), none, []⟩,
   ⟨some (true, 5), .mv (.l 10), none, []⟩]
def a121r4 : List AOper :=
  [⟨some (false, 11), .mv (.g 1), none, []⟩,
   ⟨some (false, 12), .mv (.g 0), none, []⟩,
   ⟨some (false, 13), .mv (.g 5), none, []⟩,
   ⟨some (false, 14), .indexAddr 1 (.l 12) (.l 13), none, []⟩,
   ⟨some (false, 15), .load 1 false (.l 14), none, []⟩,
   ⟨some (true, 16), .call false (.l 11) [(.l 15)], none, []⟩]
def a121r5 : List AOper :=
  [⟨some (false, 17), .mv (.g 5), none, []⟩,
   ⟨some (true, 4), .mv (.l 17), none, []⟩]
def a121r6 : List AOper :=
  [⟨some (false, 18), .bin .add (.g 8) (.c (.int .i64 1)), none, []⟩,
   ⟨some (true, 8), .mv (.l 18), none, []⟩]
def a121l7 : ACode :=
  (.seq (.reg false a121r2) (.seq (.cond (.g 9) .skip (.exit 0)) (.seq (.block 1 (.seq (.reg false a121r3) (.seq (.reg false a121r4) (.cond (.g 16) (.seq (.reg false a121r5) .ret) .skip)))) (.reg false a121r6))))
def a121r8 : List AOper :=
  [⟨some (true, 4), .mv (.c (.int .i64 (-1))), none, []⟩]
def a121b : ACode :=
  (.seq (.reg false a121r0) (.seq (.seq (.reg false a121r1) (.block 0 (.loop a121l7))) (.seq (.reg false a121r8) .ret)))
def a121 : AFun := ⟨2, 19, a121b, [.tmp (true, 4)]⟩
theorem c121 : compileFun Try.prog [0, 1, 4, 5, 7, 8, 9, 16] Try.f121 = some a121 := by kernel_rfl

/- damask/types.Ring$1 -/
def a122r0 : List AOper :=
  [⟨some (true, 5), .mv (.c (.bool false)), none, []⟩]
def a122r1 : List AOper :=
  [⟨some (false, 9), .load 1 false (.g 1), none, []⟩,
   ⟨some (false, 10), .mv (.g 0), none, []⟩,
   ⟨some (false, 11), .indexAddr 1 (.l 9) (.l 10), none, []⟩,
   ⟨some (false, 12), .load 1 false (.l 11), none, []⟩,
   ⟨some (false, 13), .bin .eql (.l 12) (.c (.int .i64 1)), none, []⟩,
   ⟨some (true, 8), .mv (.l 13), none, []⟩]
def a122r2 : List AOper :=
  [⟨some (true, 5), .mv (.c (.bool true)), none, []⟩]
def a122r3 : List AOper :=
  [⟨some (false, 15), .load 1 false (.g 1), none, []⟩,
   ⟨some (false, 16), .mv (.g 0), none, []⟩,
   ⟨some (false, 17), .indexAddr 1 (.l 15) (.l 16), none, []⟩,
   ⟨some (false, 18), .load 1 false (.l 17), none, []⟩,
   ⟨some (false, 19), .bin .eql (.l 18) (.c (.int .i64 2)), none, []⟩,
   ⟨some (false, 20), .mv (.l 19), none, []⟩,
   ⟨some (false, 21), .load 1 false (.g 2), some (false, 20, false), []⟩,
   ⟨some (false, 22), .mv (.g 0), some (false, 20, false), []⟩,
   ⟨some (false, 23), .indexAddr 10 (.l 21) (.l 22), some (false, 20, false), []⟩,
   ⟨some (false, 24), .fieldAddr 5 (.l 23), some (false, 20, false), []⟩,
   ⟨some (false, 25), .load 1 false (.l 24), some (false, 20, false), []⟩,
   ⟨some (false, 26), .un .not (.l 25), some (false, 20, false), []⟩,
   ⟨some (false, 27), .pick (.l 20) (.c (.bool true)) (.l 26), none, []⟩,
   ⟨some (true, 14), .mv (.l 27), none, []⟩]
def a122r4 : List AOper :=
  [⟨some (true, 5), .mv (.c (.bool false)), none, []⟩]
def a122r5 : List AOper :=
  [⟨some (false, 28), .load 1 false (.g 1), none, []⟩,
   ⟨some (false, 29), .mv (.g 0), none, []⟩,
   ⟨some (false, 30), .indexAddr 1 (.l 28) (.l 29), none, []⟩,
   ⟨none, .store 1 (.l 30) (.c (.int .i64 1)), none, []⟩]
def a122r6 : List AOper :=
  [⟨some (false, 31), .load 1 false (.g 2), none, []⟩,
   ⟨some (false, 32), .mv (.g 0), none, []⟩,
   ⟨some (false, 33), .indexAddr 10 (.l 31) (.l 32), none, []⟩,
   ⟨some (false, 34), .fieldAddr 6 (.l 33), none, []⟩,
   ⟨some (false, 35), .load 4 true (.l 34), none, []⟩,
   ⟨some (true, 36), .call false (.c (.fn 89 [] [])) [(.l 35)], none, []⟩,
   ⟨some (true, 37), .len (.g 36), none, []⟩,
   ⟨some (true, 38), .mv (.c (.int .i64 0)), none, []⟩]
def a122r7 : List AOper :=
  [⟨some (true, 39), .bin .lss (.g 38) (.g 37), none, []⟩]
def a122r8 : List AOper :=
  [⟨some (false, 40), .indexAddr 1 (.g 36) (.g 38), none, []⟩,
   ⟨some (false, 41), .load 1 false (.l 40), none, []⟩,
   ⟨some (true, 7), .mv (.l 41), none, []⟩]
def a122r9 : List AOper :=
  [⟨some (false, 42), .mv (.g 7), none, []⟩,
   ⟨some (false, 43), .load 1 false (.g 2), none, []⟩,
   ⟨some (false, 44), .len (.l 43), none, []⟩,
   ⟨some (false, 45), .bin .lss (.l 42) (.l 44), none, []⟩,
   ⟨some (false, 46), .mv (.l 45), none, []⟩,
   ⟨some (false, 47), .load 1 false (.g 3), some (false, 46, true), []⟩,
   ⟨some (false, 48), .mv (.g 7), some (false, 46, true), []⟩,
   ⟨some (false, 49), .call false (.l 47) [(.l 48)], some (false, 46, true), []⟩,
   ⟨some (true, 50), .pick (.l 46) (.l 49) (.c (.bool false)), none, []⟩]
def a122r10 : List AOper :=
  [⟨some (true, 5), .mv (.c (.bool true)), none, []⟩]
def a122r11 : List AOper :=
  [⟨some (false, 51), .bin .add (.g 38) (.c (.int .i64 1)), none, []⟩,
   ⟨some (true, 38), .mv (.l 51), none, []⟩]
def a122l12 : ACode :=
  (.seq (.reg false a122r7) (.seq (.cond (.g 39) .skip (.exit 1)) (.seq (.block 2 (.seq (.reg false a122r8) (.seq (.reg false a122r9) (.cond (.g 50) (.seq (.reg false a122r10) .ret) .skip)))) (.reg false a122r11))))
def a122r13 : List AOper :=
  [⟨some (false, 52), .load 1 false (.g 1), none, []⟩,
   ⟨some (false, 53), .mv (.g 0), none, []⟩,
   ⟨some (false, 54), .indexAddr 1 (.l 52) (.l 53), none, []⟩,
   ⟨none, .store 1 (.l 54) (.c (.int .i64 2)), none, []⟩]
def a122r14 : List AOper :=
  [⟨some (true, 5), .mv (.c (.bool false)), none, []⟩]
def a122b : ACode :=
  (.seq (.reg false a122r0) (.seq (.block 0 (.seq (.reg false a122r1) (.cond (.g 8) (.seq (.reg false a122r2) .ret) (.seq (.reg false a122r3) (.cond (.g 14) (.seq (.reg false a122r4) .ret) .skip))))) (.seq (.reg false a122r5) (.seq (.seq (.reg false a122r6) (.block 1 (.loop a122l12))) (.seq (.reg false a122r13) (.seq (.reg false a122r14) .ret))))))
def a122 : AFun := ⟨4, 55, a122b, [.tmp (true, 5)]⟩
theorem c122 : compileFun Try.prog [0, 1, 2, 3, 5, 7, 8, 14, 36, 37, 38, 39, 50] Try.f122 = some a122 := by kernel_rfl

/- (*damask/types.resolver).all -/
def a123r0 : List AOper :=
  [⟨some (true, 2), .box (.g 0), none, []⟩,
   ⟨some (true, 3), .box (.g 1), none, []⟩,
   ⟨some (true, 4), .alloc [(.int .i64 0), (.int .i64 0), (.str ⟨#[]⟩), (.list 0 .full [])], none, []⟩]
def a123r1 : List AOper :=
  [⟨some (false, 5), .load 4 true (.g 3), none, []⟩,
   ⟨some (false, 6), .mkfn 136 [] [(.g 2)], none, []⟩,
   ⟨some (false, 7), .call false (.c (.fn 98 [] [])) [(.l 5), (.c (.int .i64 0)), (.l 6)], none, []⟩,
   ⟨none, .store 4 (.g 4) (.l 7), none, []⟩]
def a123b : ACode :=
  (.seq (.seq (.reg false a123r0) (.frz 2)) (.seq (.reg false a123r1) .ret))
def a123 : AFun := ⟨2, 8, a123b, [.cell (true, 4) 4 true]⟩
theorem c123 : compileFun Try.prog [0, 1, 2, 3, 4, 1000000000002] Try.f123 = some a123 := by kernel_rfl

/- (*damask/types.resolver).all$1 -/
def a136r0 : List AOper :=
  [⟨some (true, 3), .box (.g 0), none, []⟩,
   ⟨some (true, 5), .alloc [(.int .i64 0), (.int .i64 0), (.str ⟨#[]⟩), (.list 0 .full [])], none, []⟩,
   ⟨some (true, 6), .mv (.c (.bool false)), none, []⟩]
def a136r1 : List AOper :=
  [⟨some (false, 10), .load 1 false (.g 2), none, []⟩,
   ⟨some (false, 11), .nilCheck (.l 10), none, []⟩,
   ⟨some (false, 12), .fieldAddr 3 (.l 11), none, []⟩,
   ⟨some (false, 13), .load 1 false (.l 12), none, []⟩,
   ⟨some (false, 14), .bin .neq (.l 13) (.c (.int .i64 0)), none, []⟩,
   ⟨some (false, 15), .mv (.l 14), none, []⟩,
   ⟨some (false, 16), .fieldAddr 0 (.g 3), some (false, 15, false), []⟩,
   ⟨some (false, 17), .load 1 false (.l 16), some (false, 15, false), []⟩,
   ⟨some (false, 18), .bin .neq (.l 17) (.c (.int .i64 6)), some (false, 15, false), []⟩,
   ⟨some (false, 19), .pick (.l 15) (.c (.bool true)) (.l 18), none, []⟩,
   ⟨some (false, 20), .mv (.l 19), none, []⟩,
   ⟨some (false, 21), .fieldAddr 1 (.g 3), some (false, 20, false), []⟩,
   ⟨some (false, 22), .load 1 false (.l 21), some (false, 20, false), []⟩,
   ⟨some (false, 23), .load 1 false (.g 2), some (false, 20, false), []⟩,
   ⟨some (false, 24), .nilCheck (.l 23), some (false, 20, false), []⟩,
   ⟨some (false, 25), .fieldAddr 0 (.l 24), some (false, 20, false), []⟩,
   ⟨some (false, 26), .load 1 false (.l 25), some (false, 20, false), []⟩,
   ⟨some (false, 27), .len (.l 26), some (false, 20, false), []⟩,
   ⟨some (false, 28), .bin .geq (.l 22) (.l 27), some (false, 20, false), []⟩,
   ⟨some (false, 29), .pick (.l 20) (.c (.bool true)) (.l 28), none, []⟩,
   ⟨some (false, 30), .mv (.l 29), none, []⟩,
   ⟨some (false, 31), .load 1 false (.g 2), some (false, 30, false), []⟩,
   ⟨some (false, 32), .nilCheck (.l 31), some (false, 30, false), []⟩,
   ⟨some (false, 33), .fieldAddr 0 (.l 32), some (false, 30, false), []⟩,
   ⟨some (false, 34), .load 1 false (.l 33), some (false, 30, false), []⟩,
   ⟨some (false, 35), .fieldAddr 1 (.g 3), some (false, 30, false), []⟩,
   ⟨some (false, 36), .load 1 false (.l 35), some (false, 30, false), []⟩,
   ⟨some (false, 37), .indexAddr 10 (.l 34) (.l 36), some (false, 30, false), []⟩,
   ⟨some (false, 38), .fieldAddr 5 (.l 37), some (false, 30, false), []⟩,
   ⟨some (false, 39), .load 1 false (.l 38), some (false, 30, false), []⟩,
   ⟨some (false, 40), .un .not (.l 39), some (false, 30, false), []⟩,
   ⟨some (true, 41), .pick (.l 30) (.c (.bool true)) (.l 40), none, []⟩]
def a136r2 : List AOper :=
  [⟨some (false, 42), .load 4 true (.g 3), none, []⟩,
   ⟨some (false, 43), .load 1 false (.g 2), none, []⟩,
   ⟨some (false, 44), .nilCheck (.l 43), none, []⟩,
   ⟨some (false, 45), .fieldAddr 3 (.l 44), none, []⟩,
   ⟨some (false, 46), .load 1 false (.l 45), none, []⟩,
   ⟨some (false, 47), .bin .neq (.l 46) (.c (.int .i64 0)), none, []⟩,
   ⟨some (false, 48), .mv (.l 47), none, []⟩,
   ⟨some (false, 49), .fieldAddr 0 (.g 3), some (false, 48, false), []⟩,
   ⟨some (false, 50), .load 1 false (.l 49), some (false, 48, false), []⟩,
   ⟨some (false, 51), .bin .eql (.l 50) (.c (.int .i64 6)), some (false, 48, false), []⟩,
   ⟨some (false, 52), .pick (.l 48) (.c (.bool true)) (.l 51), none, []⟩,
   ⟨none, .store 4 (.g 5) (.l 42), none, [8]⟩,
   ⟨some (true, 6), .mv (.l 52), none, []⟩]
def a136r3 : List AOper :=
  [⟨some (false, 54), .load 1 false (.g 2), none, []⟩,
   ⟨some (false, 55), .nilCheck (.l 54), none, []⟩,
   ⟨some (false, 56), .fieldAddr 2 (.l 55), none, []⟩,
   ⟨some (false, 57), .load 1 false (.l 56), none, []⟩,
   ⟨some (false, 58), .fieldAddr 1 (.g 3), none, []⟩,
   ⟨some (false, 59), .load 1 false (.l 58), none, []⟩,
   ⟨some (false, 60), .lookup false true [(.int .i64 0), (.int .i64 0), (.str ⟨#[]⟩), (.list 0 .full [])] true (.l 57) (.l 59), none, []⟩,
   ⟨some (false, 53), .mv (.l 60), none, []⟩,
   ⟨some (false, 61), .extract (.l 53) 0, none, []⟩,
   ⟨some (false, 62), .extract (.l 53) 1, none, []⟩,
   ⟨some (true, 7), .alloc [(.int .i64 0), (.int .i64 0), (.str ⟨#[]⟩), (.list 0 .full [])], none, []⟩,
   ⟨none, .store 4 (.g 7) (.l 61), none, []⟩,
   ⟨some (true, 8), .mv (.l 62), none, []⟩]
def a136r4 : List AOper :=
  [⟨some (true, 63), .mv (.g 8), none, []⟩]
def a136r5 : List AOper :=
  [⟨some (false, 64), .load 4 true (.g 7), none, []⟩,
   ⟨none, .store 4 (.g 5) (.l 64), none, []⟩,
   ⟨some (true, 6), .mv (.c (.bool true)), none, []⟩]
def a136r6 : List AOper :=
  [⟨some (false, 65), .load 1 false (.g 2), none, []⟩,
   ⟨some (false, 66), .nilCheck (.l 65), none, []⟩,
   ⟨some (false, 67), .fieldAddr 1 (.l 66), none, []⟩,
   ⟨some (false, 68), .load 1 false (.l 67), none, []⟩,
   ⟨some (false, 69), .fieldAddr 1 (.g 3), none, []⟩,
   ⟨some (false, 70), .load 1 false (.l 69), none, []⟩,
   ⟨some (true, 71), .lookup false false [(.bool false)] false (.l 68) (.l 70), none, []⟩]
def a136r7 : List AOper :=
  [⟨some (false, 72), .load 1 false (.g 2), none, []⟩,
   ⟨some (false, 73), .nilCheck (.l 72), none, []⟩,
   ⟨some (false, 74), .fieldAddr 3 (.l 73), none, []⟩,
   ⟨none, .store 1 (.l 74) (.c (.int .i64 2)), none, []⟩]
def a136r8 : List AOper :=
  [⟨some (false, 75), .load 4 true (.g 3), none, []⟩,
   ⟨none, .store 4 (.g 5) (.l 75), none, []⟩,
   ⟨some (true, 6), .mv (.c (.bool true)), none, []⟩]
def a136r9 : List AOper :=
  [⟨some (false, 76), .load 1 false (.g 2), none, []⟩,
   ⟨some (false, 77), .nilCheck (.l 76), none, []⟩,
   ⟨some (false, 78), .fieldAddr 1 (.l 77), none, []⟩,
   ⟨some (false, 79), .load 1 false (.l 78), none, []⟩,
   ⟨some (false, 80), .fieldAddr 1 (.g 3), none, []⟩,
   ⟨some (false, 81), .load 1 false (.l 80), none, []⟩,
   ⟨none, .mapUpdate false (.l 79) (.l 81) (.c (.bool true)), none, []⟩]
def a136r10 : List AOper :=
  [⟨some (false, 82), .load 1 false (.g 2), none, []⟩,
   ⟨some (false, 83), .load 1 false (.g 2), none, []⟩,
   ⟨some (false, 84), .nilCheck (.l 83), none, []⟩,
   ⟨some (false, 85), .fieldAddr 0 (.l 84), none, []⟩,
   ⟨some (false, 86), .load 1 false (.l 85), none, []⟩,
   ⟨some (false, 87), .fieldAddr 1 (.g 3), none, []⟩,
   ⟨some (false, 88), .load 1 false (.l 87), none, []⟩,
   ⟨some (false, 89), .indexAddr 10 (.l 86) (.l 88), none, []⟩,
   ⟨some (false, 90), .fieldAddr 6 (.l 89), none, []⟩,
   ⟨some (false, 91), .load 4 true (.l 90), none, []⟩]
def a136s10 : List AOper :=
  [⟨none, .store 4 (.g 9) (.l 92), none, []⟩]
def a136r11 : List AOper :=
  [⟨some (false, 93), .load 1 false (.g 2), none, []⟩,
   ⟨some (false, 94), .nilCheck (.l 93), none, []⟩,
   ⟨some (false, 95), .fieldAddr 1 (.l 94), none, []⟩,
   ⟨some (false, 96), .load 1 false (.l 95), none, []⟩,
   ⟨some (false, 97), .fieldAddr 1 (.g 3), none, []⟩,
   ⟨some (false, 98), .load 1 false (.l 97), none, []⟩,
   ⟨none, .delete false (.l 96) (.l 98), none, []⟩]
def a136r12 : List AOper :=
  [⟨some (false, 99), .load 1 false (.g 2), none, []⟩,
   ⟨some (false, 100), .nilCheck (.l 99), none, []⟩,
   ⟨some (false, 101), .fieldAddr 3 (.l 100), none, []⟩,
   ⟨some (false, 102), .load 1 false (.l 101), none, []⟩,
   ⟨some (false, 103), .bin .eql (.l 102) (.c (.int .i64 0)), none, []⟩,
   ⟨some (false, 104), .mv (.l 103), none, []⟩,
   ⟨some (false, 105), .load 4 true (.g 9), some (false, 104, true), []⟩,
   ⟨some (false, 106), .call false (.c (.fn 53 [] [])) [(.l 105)], some (false, 104, true), []⟩,
   ⟨some (false, 107), .un .not (.l 106), some (false, 104, true), []⟩,
   ⟨some (true, 108), .pick (.l 104) (.l 107) (.c (.bool false)), none, []⟩]
def a136r13 : List AOper :=
  [⟨some (false, 109), .load 1 false (.g 2), none, []⟩,
   ⟨some (false, 110), .nilCheck (.l 109), none, []⟩,
   ⟨some (false, 111), .fieldAddr 3 (.l 110), none, []⟩,
   ⟨none, .store 1 (.l 111) (.c (.int .i64 5)), none, []⟩]
def a136r14 : List AOper :=
  [⟨some (false, 112), .load 1 false (.g 2), none, []⟩,
   ⟨some (false, 113), .nilCheck (.l 112), none, []⟩,
   ⟨some (false, 114), .fieldAddr 2 (.l 113), none, []⟩,
   ⟨some (false, 115), .load 1 false (.l 114), none, []⟩,
   ⟨some (false, 116), .fieldAddr 1 (.g 3), none, []⟩,
   ⟨some (false, 117), .load 1 false (.l 116), none, []⟩,
   ⟨some (false, 118), .load 4 true (.g 9), none, []⟩,
   ⟨none, .mapUpdate false (.l 115) (.l 117) (.l 118), none, []⟩]
def a136r15 : List AOper :=
  [⟨some (false, 119), .load 4 true (.g 9), none, []⟩,
   ⟨none, .store 4 (.g 5) (.l 119), none, []⟩,
   ⟨some (true, 6), .mv (.c (.bool true)), none, []⟩]
def a136b : ACode :=
  (.seq (.reg false a136r0) (.seq (.seq (.reg true a136r1) (.cond (.g 41) (.seq (.reg true a136r2) .ret) .skip)) (.seq (.seq (.reg true a136r3) (.seq (.reg false a136r4) (.cond (.g 63) (.seq (.reg false a136r5) .ret) .skip))) (.seq (.seq (.reg true a136r6) (.cond (.g 71) (.seq (.reg false a136r7) (.seq (.reg false a136r8) .ret)) .skip)) (.seq (.reg true a136r9) (.seq (.reg3 a136r10 [(.int .i64 0), (.int .i64 0), (.str ⟨#[]⟩), (.list 0 .full [])] true 9 ⟨some (false, 92), .call false (.c (.fn 123 [] [])) [(.l 82), (.l 91)], none, []⟩ a136s10) (.seq (.reg true a136r11) (.seq (.seq (.reg false a136r12) (.cond (.g 108) (.reg false a136r13) .skip)) (.seq (.reg true a136r14) (.seq (.reg false a136r15) .ret))))))))))
def a136 : AFun := ⟨3, 120, a136b, [.cell (true, 5) 4 true, .tmp (true, 6)]⟩
theorem c136 : compileFun Try.prog [0, 1, 2, 3, 5, 6, 7, 8, 9, 41, 63, 71, 108, 11000000999998] Try.f136 = some a136 := by kernel_rfl

end Go.AL.Ty
