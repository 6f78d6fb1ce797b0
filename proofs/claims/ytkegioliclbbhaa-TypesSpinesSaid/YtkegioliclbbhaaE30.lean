import Derived.Test.YtkegioliclbbhaaD1
import Derived.Test.YtkegioliclbbhaaProg
import Derived.KernelRfl
import Derived.Test.YtkegioliclbbhaaG2
namespace Go.AL.Ty
open Go.Proofs

/- damask/damasklaw05.TypesSpines -/
def a6r0 : List AOper :=
  [⟨some (true, 2), .box (.g 0), none, []⟩,
   ⟨some (true, 4), .mv (.c (.bool false)), none, []⟩]
def a6r1 : List AOper :=
  [⟨some (false, 20), .load 4 true (.g 2), none, []⟩,
   ⟨some (false, 21), .call false (.c (.fn 25 [] [])) [(.l 20)], none, []⟩,
   ⟨some (false, 19), .mv (.l 21), none, []⟩,
   ⟨some (false, 22), .extract (.l 19) 0, none, []⟩,
   ⟨some (false, 23), .extract (.l 19) 1, none, []⟩,
   ⟨some (false, 24), .extract (.l 19) 2, none, []⟩,
   ⟨some (true, 5), .alloc [(.int .i64 0), (.int .i64 0), (.str ⟨#[]⟩), (.list 0 .full [])], none, []⟩,
   ⟨none, .store 4 (.g 5) (.l 22), none, []⟩,
   ⟨some (true, 6), .mv (.l 23), none, []⟩,
   ⟨some (true, 7), .mv (.l 24), none, []⟩]
def a6r2 : List AOper :=
  [⟨some (false, 26), .load 4 true (.g 2), none, []⟩,
   ⟨some (false, 27), .call false (.c (.fn 26 [] [])) [(.l 26)], none, []⟩,
   ⟨some (false, 25), .mv (.l 27), none, []⟩,
   ⟨some (false, 28), .extract (.l 25) 0, none, []⟩,
   ⟨some (false, 29), .extract (.l 25) 1, none, []⟩,
   ⟨some (false, 30), .extract (.l 25) 2, none, []⟩,
   ⟨some (true, 9), .alloc [(.int .i64 0), (.int .i64 0), (.str ⟨#[]⟩), (.list 0 .full [])], none, []⟩,
   ⟨some (true, 8), .mv (.l 28), none, []⟩,
   ⟨none, .store 4 (.g 9) (.l 29), none, []⟩,
   ⟨some (true, 10), .mv (.l 30), none, []⟩]
def a6r3 : List AOper :=
  [⟨some (false, 32), .load 4 true (.g 2), none, []⟩,
   ⟨some (false, 33), .buildSlice 4 true [(.int .i64 0), (.int .i64 0), (.str ⟨#[]⟩), (.list 0 .full [])] 0 [], none, []⟩,
   ⟨some (false, 34), .mv (.g 1), none, []⟩,
   ⟨some (false, 35), .append 4 56 (.l 33) (.l 34), none, [0]⟩,
   ⟨some (false, 36), .call true (.c (.fn 27 [] [])) [(.l 32), (.l 35)], none, []⟩,
   ⟨some (false, 31), .mv (.l 36), none, []⟩,
   ⟨some (false, 37), .extract (.l 31) 0, none, []⟩,
   ⟨some (false, 38), .extract (.l 31) 1, none, []⟩,
   ⟨some (true, 11), .alloc [(.int .i64 0), (.int .i64 0), (.str ⟨#[]⟩), (.list 0 .full [])], none, []⟩,
   ⟨none, .store 4 (.g 11) (.l 37), none, []⟩,
   ⟨some (true, 12), .mv (.l 38), none, []⟩]
def a6r4 : List AOper :=
  [⟨some (false, 40), .buildSlice 4 true [(.int .i64 0), (.int .i64 0), (.str ⟨#[]⟩), (.list 0 .full [])] 0 [], none, []⟩,
   ⟨some (false, 41), .mv (.g 1), none, []⟩,
   ⟨some (false, 42), .append 4 56 (.l 40) (.l 41), none, []⟩,
   ⟨some (false, 43), .load 4 true (.g 2), none, [2]⟩,
   ⟨some (false, 44), .call true (.c (.fn 28 [] [])) [(.l 42), (.l 43)], none, []⟩,
   ⟨some (false, 39), .mv (.l 44), none, []⟩,
   ⟨some (false, 45), .extract (.l 39) 0, none, []⟩,
   ⟨some (false, 46), .extract (.l 39) 1, none, []⟩,
   ⟨some (true, 13), .alloc [(.int .i64 0), (.int .i64 0), (.str ⟨#[]⟩), (.list 0 .full [])], none, []⟩,
   ⟨none, .store 4 (.g 13) (.l 45), none, []⟩,
   ⟨some (true, 14), .mv (.l 46), none, []⟩]
def a6r5 : List AOper :=
  [⟨some (false, 47), .load 4 true (.g 2), none, []⟩,
   ⟨some (false, 48), .call false (.c (.fn 13 [] [])) [(.l 47)], none, []⟩,
   ⟨some (true, 49), .un .not (.l 48), none, []⟩]
def a6r6 : List AOper :=
  [⟨some (false, 50), .mv (.g 7), none, []⟩,
   ⟨some (false, 51), .bin .eql (.l 50) (.c (.int .i64 2)), none, []⟩,
   ⟨some (false, 52), .mv (.l 51), none, []⟩,
   ⟨some (false, 53), .mv (.g 10), some (false, 52, true), []⟩,
   ⟨some (false, 54), .bin .eql (.l 53) (.c (.int .i64 2)), some (false, 52, true), []⟩,
   ⟨some (false, 55), .pick (.l 52) (.l 54) (.c (.bool false)), none, []⟩,
   ⟨some (false, 56), .mv (.l 55), none, []⟩,
   ⟨some (false, 57), .mv (.g 12), some (false, 56, true), []⟩,
   ⟨some (false, 58), .bin .eql (.l 57) (.c (.int .i64 2)), some (false, 56, true), []⟩,
   ⟨some (false, 59), .pick (.l 56) (.l 58) (.c (.bool false)), none, []⟩,
   ⟨some (false, 60), .mv (.l 59), none, []⟩,
   ⟨some (false, 61), .mv (.g 14), some (false, 60, true), []⟩,
   ⟨some (false, 62), .bin .eql (.l 61) (.c (.int .i64 2)), some (false, 60, true), []⟩,
   ⟨some (false, 63), .pick (.l 60) (.l 62) (.c (.bool false)), none, []⟩,
   ⟨some (false, 64), .mv (.l 63), none, []⟩,
   ⟨some (false, 65), .load 4 true (.g 5), some (false, 64, true), []⟩,
   ⟨some (false, 66), .call false (.c (.fn 15 [] [])) [(.l 65)], some (false, 64, true), []⟩,
   ⟨some (false, 67), .pick (.l 64) (.l 66) (.c (.bool false)), none, []⟩,
   ⟨some (false, 68), .mv (.l 67), none, []⟩,
   ⟨some (false, 69), .load 4 true (.g 9), some (false, 68, true), []⟩,
   ⟨some (false, 70), .call false (.c (.fn 15 [] [])) [(.l 69)], some (false, 68, true), []⟩,
   ⟨some (false, 71), .pick (.l 68) (.l 70) (.c (.bool false)), none, []⟩,
   ⟨some (false, 72), .mv (.l 71), none, []⟩,
   ⟨some (false, 73), .load 4 true (.g 11), some (false, 72, true), []⟩,
   ⟨some (false, 74), .call false (.c (.fn 15 [] [])) [(.l 73)], some (false, 72, true), []⟩,
   ⟨some (false, 75), .pick (.l 72) (.l 74) (.c (.bool false)), none, []⟩,
   ⟨some (false, 76), .mv (.l 75), none, []⟩,
   ⟨some (false, 77), .load 4 true (.g 13), some (false, 76, true), []⟩,
   ⟨some (false, 78), .call false (.c (.fn 15 [] [])) [(.l 77)], some (false, 76, true), []⟩,
   ⟨some (false, 79), .pick (.l 76) (.l 78) (.c (.bool false)), none, []⟩,
   ⟨some (false, 80), .mv (.l 79), none, []⟩,
   ⟨some (false, 81), .mv (.g 6), some (false, 80, true), []⟩,
   ⟨some (false, 82), .len (.l 81), some (false, 80, true), []⟩,
   ⟨some (false, 83), .mv (.g 8), some (false, 80, true), []⟩,
   ⟨some (false, 84), .len (.l 83), some (false, 80, true), []⟩,
   ⟨some (false, 85), .bin .add (.l 82) (.l 84), some (false, 80, true), []⟩,
   ⟨some (false, 86), .bin .eql (.l 85) (.c (.int .i64 0)), some (false, 80, true), []⟩,
   ⟨some (false, 87), .pick (.l 80) (.l 86) (.c (.bool false)), none, []⟩,
   ⟨some (false, 88), .mv (.l 87), none, []⟩,
   ⟨some (false, 89), .call false (.c (.fn 16 [] [])) [], some (false, 88, true), []⟩,
   ⟨some (false, 90), .pick (.l 88) (.l 89) (.c (.bool false)), none, []⟩,
   ⟨some (true, 4), .mv (.l 90), none, []⟩]
def a6r7 : List AOper :=
  [⟨some (false, 92), .load 4 true (.g 2), none, []⟩,
   ⟨some (false, 93), .call false (.c (.fn 29 [] [])) [(.l 92)], none, []⟩,
   ⟨some (false, 91), .mv (.l 93), none, []⟩,
   ⟨some (false, 94), .extract (.l 91) 0, none, []⟩,
   ⟨some (false, 95), .extract (.l 91) 1, none, []⟩,
   ⟨some (true, 15), .alloc [(.int .i64 0), (.int .i64 0), (.str ⟨#[]⟩), (.list 0 .full [])], none, []⟩,
   ⟨none, .store 4 (.g 15) (.l 94), none, []⟩,
   ⟨some (true, 16), .mv (.l 95), none, []⟩]
def a6r8 : List AOper :=
  [⟨some (false, 97), .load 4 true (.g 2), none, []⟩,
   ⟨some (false, 98), .call false (.c (.fn 30 [] [])) [(.l 97)], none, []⟩,
   ⟨some (false, 96), .mv (.l 98), none, []⟩,
   ⟨some (false, 99), .extract (.l 96) 0, none, []⟩,
   ⟨some (false, 100), .extract (.l 96) 1, none, []⟩,
   ⟨some (true, 18), .alloc [(.int .i64 0), (.int .i64 0), (.str ⟨#[]⟩), (.list 0 .full [])], none, []⟩,
   ⟨some (true, 17), .mv (.l 99), none, []⟩,
   ⟨none, .store 4 (.g 18) (.l 100), none, []⟩]
def a6r9 : List AOper :=
  [⟨some (false, 101), .mv (.g 7), none, []⟩,
   ⟨some (false, 102), .bin .neq (.l 101) (.c (.int .i64 0)), none, []⟩,
   ⟨some (false, 103), .mv (.l 102), none, []⟩,
   ⟨some (false, 104), .mv (.g 10), some (false, 103, false), []⟩,
   ⟨some (false, 105), .bin .neq (.l 104) (.c (.int .i64 0)), some (false, 103, false), []⟩,
   ⟨some (false, 106), .pick (.l 103) (.c (.bool true)) (.l 105), none, []⟩,
   ⟨some (false, 107), .mv (.l 106), none, []⟩,
   ⟨some (false, 108), .load 4 true (.g 5), some (false, 107, false), []⟩,
   ⟨some (false, 109), .load 4 true (.g 15), some (false, 107, false), []⟩,
   ⟨some (false, 110), .call false (.c (.fn 31 [] [])) [(.l 108), (.l 109)], some (false, 107, false), []⟩,
   ⟨some (false, 111), .un .not (.l 110), some (false, 107, false), []⟩,
   ⟨some (false, 112), .pick (.l 107) (.c (.bool true)) (.l 111), none, []⟩,
   ⟨some (false, 113), .mv (.l 112), none, []⟩,
   ⟨some (false, 114), .mv (.g 6), some (false, 113, false), []⟩,
   ⟨some (false, 115), .mv (.g 16), some (false, 113, false), []⟩,
   ⟨some (false, 116), .call false (.c (.fn 32 [] [])) [(.l 114), (.l 115)], some (false, 113, false), []⟩,
   ⟨some (false, 117), .un .not (.l 116), some (false, 113, false), []⟩,
   ⟨some (false, 118), .pick (.l 113) (.c (.bool true)) (.l 117), none, []⟩,
   ⟨some (false, 119), .mv (.l 118), none, []⟩,
   ⟨some (false, 120), .mv (.g 8), some (false, 119, false), []⟩,
   ⟨some (false, 121), .mv (.g 17), some (false, 119, false), []⟩,
   ⟨some (false, 122), .call false (.c (.fn 32 [] [])) [(.l 120), (.l 121)], some (false, 119, false), []⟩,
   ⟨some (false, 123), .un .not (.l 122), some (false, 119, false), []⟩,
   ⟨some (false, 124), .pick (.l 119) (.c (.bool true)) (.l 123), none, []⟩,
   ⟨some (false, 125), .mv (.l 124), none, []⟩,
   ⟨some (false, 126), .load 4 true (.g 9), some (false, 125, false), []⟩,
   ⟨some (false, 127), .load 4 true (.g 18), some (false, 125, false), []⟩,
   ⟨some (false, 128), .call false (.c (.fn 31 [] [])) [(.l 126), (.l 127)], some (false, 125, false), []⟩,
   ⟨some (false, 129), .un .not (.l 128), some (false, 125, false), []⟩,
   ⟨some (true, 130), .pick (.l 125) (.c (.bool true)) (.l 129), none, []⟩]
def a6r10 : List AOper :=
  [⟨some (true, 4), .mv (.c (.bool false)), none, []⟩]
def a6r11 : List AOper :=
  [⟨some (false, 131), .mv (.g 1), none, []⟩,
   ⟨some (false, 132), .call false (.c (.fn 14 [] [])) [(.l 131)], none, []⟩,
   ⟨some (true, 133), .un .not (.l 132), none, []⟩]
def a6r12 : List AOper :=
  [⟨some (false, 134), .mv (.g 12), none, []⟩,
   ⟨some (false, 135), .bin .eql (.l 134) (.c (.int .i64 2)), none, []⟩,
   ⟨some (false, 136), .mv (.l 135), none, []⟩,
   ⟨some (false, 137), .mv (.g 14), some (false, 136, true), []⟩,
   ⟨some (false, 138), .bin .eql (.l 137) (.c (.int .i64 2)), some (false, 136, true), []⟩,
   ⟨some (false, 139), .pick (.l 136) (.l 138) (.c (.bool false)), none, []⟩,
   ⟨some (false, 140), .mv (.l 139), none, []⟩,
   ⟨some (false, 141), .load 4 true (.g 11), some (false, 140, true), []⟩,
   ⟨some (false, 142), .call false (.c (.fn 15 [] [])) [(.l 141)], some (false, 140, true), []⟩,
   ⟨some (false, 143), .pick (.l 140) (.l 142) (.c (.bool false)), none, []⟩,
   ⟨some (false, 144), .mv (.l 143), none, []⟩,
   ⟨some (false, 145), .load 4 true (.g 13), some (false, 144, true), []⟩,
   ⟨some (false, 146), .call false (.c (.fn 15 [] [])) [(.l 145)], some (false, 144, true), []⟩,
   ⟨some (false, 147), .pick (.l 144) (.l 146) (.c (.bool false)), none, []⟩,
   ⟨some (false, 148), .mv (.l 147), none, []⟩,
   ⟨some (false, 149), .call false (.c (.fn 16 [] [])) [], some (false, 148, true), []⟩,
   ⟨some (false, 150), .pick (.l 148) (.l 149) (.c (.bool false)), none, []⟩,
   ⟨some (true, 4), .mv (.l 150), none, []⟩]
def a6r13 : List AOper :=
  [⟨some (false, 151), .load 4 true (.g 11), none, []⟩,
   ⟨some (false, 152), .mv (.g 12), none, []⟩,
   ⟨some (false, 153), .load 4 true (.g 2), none, []⟩,
   ⟨some (false, 154), .mv (.g 1), none, []⟩,
   ⟨some (false, 155), .call true (.c (.fn 33 [] [])) [(.l 153), (.l 154)], none, []⟩,
   ⟨some (false, 156), .call true (.c (.fn 17 [] [])) [(.l 151), (.l 152), (.l 155)], none, []⟩,
   ⟨some (false, 157), .mv (.l 156), none, []⟩,
   ⟨some (false, 158), .load 4 true (.g 13), some (false, 157, true), []⟩,
   ⟨some (false, 159), .mv (.g 14), some (false, 157, true), []⟩,
   ⟨some (false, 160), .mv (.g 1), some (false, 157, true), []⟩,
   ⟨some (false, 161), .load 4 true (.g 2), some (false, 157, true), []⟩,
   ⟨some (false, 162), .call true (.c (.fn 34 [] [])) [(.l 160), (.l 161)], some (false, 157, true), []⟩,
   ⟨some (false, 163), .call true (.c (.fn 17 [] [])) [(.l 158), (.l 159), (.l 162)], some (false, 157, true), []⟩,
   ⟨some (false, 164), .pick (.l 157) (.l 163) (.c (.bool false)), none, []⟩,
   ⟨some (false, 165), .mv (.l 164), none, []⟩,
   ⟨some (false, 166), .call true (.c (.fn 16 [] [])) [], some (false, 165, true), []⟩,
   ⟨some (false, 167), .pick (.l 165) (.l 166) (.c (.bool false)), none, []⟩,
   ⟨some (true, 4), .mv (.l 167), none, []⟩]
def a6b : ACode :=
  (.seq (.reg false a6r0) (.seq (.reg false a6r1) (.seq (.reg false a6r2) (.seq (.reg true a6r3) (.seq (.reg true a6r4) (.seq (.seq (.reg false a6r5) (.cond (.g 49) (.seq (.reg false a6r6) .ret) .skip)) (.seq (.reg false a6r7) (.seq (.reg false a6r8) (.seq (.seq (.reg false a6r9) (.cond (.g 130) (.seq (.reg false a6r10) .ret) .skip)) (.seq (.seq (.reg false a6r11) (.cond (.g 133) (.seq (.reg false a6r12) .ret) .skip)) (.seq (.reg true a6r13) .ret)))))))))))
def a6 : AFun := ⟨2, 168, a6b, [.tmp (true, 4)]⟩
theorem c6 : compileFun Try.prog [0, 1, 2, 4, 5, 6, 7, 8, 9, 10, 11, 12, 13, 14, 15, 16, 17, 18, 49, 130, 133] Try.f6 = some a6 := by kernel_rfl

/- damask/types.Arguments -/
def a26r0 : List AOper :=
  [⟨some (true, 1), .box (.g 0), none, []⟩,
   ⟨some (true, 2), .mv (.c (.list 0 .full [])), none, []⟩,
   ⟨some (true, 3), .alloc [(.int .i64 0), (.int .i64 0), (.str ⟨#[]⟩), (.list 0 .full [])], none, []⟩,
   ⟨some (true, 4), .mv (.c (.int .i64 0)), none, []⟩]
def a26r1 : List AOper :=
  [⟨some (false, 7), .load 4 true (.g 1), none, []⟩,
   ⟨some (false, 8), .call false (.c (.fn 53 [] [])) [(.l 7)], none, []⟩,
   ⟨some (true, 9), .un .not (.l 8), none, []⟩]
def a26r2 : List AOper :=
  [⟨some (false, 10), .build [(.int .i64 0), (.int .i64 0), (.str ⟨#[]⟩), (.list 0 .full [])] [], none, []⟩,
   ⟨some (true, 2), .mv (.c (.list 0 .full [])), none, []⟩,
   ⟨none, .store 4 (.g 3) (.l 10), none, []⟩,
   ⟨some (true, 4), .mv (.c (.int .i64 2)), none, []⟩]
def a26r3 : List AOper :=
  [⟨some (false, 12), .load 4 true (.g 1), none, []⟩,
   ⟨some (false, 13), .call false (.c (.fn 69 [] [])) [(.l 12)], none, []⟩,
   ⟨some (false, 14), .call false (.c (.fn 70 [] [])) [(.l 13)], none, []⟩,
   ⟨some (false, 11), .mv (.l 14), none, []⟩,
   ⟨some (false, 15), .extract (.l 11) 0, none, []⟩,
   ⟨some (false, 16), .extract (.l 11) 1, none, []⟩,
   ⟨some (true, 6), .alloc [(.int .i64 0), (.int .i64 0), (.str ⟨#[]⟩), (.list 0 .full [])], none, []⟩,
   ⟨some (true, 5), .mv (.l 15), none, []⟩,
   ⟨none, .store 4 (.g 6) (.l 16), none, []⟩]
def a26r4 : List AOper :=
  [⟨some (false, 17), .mv (.g 5), none, []⟩,
   ⟨some (false, 18), .load 4 true (.g 6), none, []⟩,
   ⟨some (true, 2), .mv (.l 17), none, []⟩,
   ⟨none, .store 4 (.g 3) (.l 18), none, []⟩,
   ⟨some (true, 4), .mv (.c (.int .i64 0)), none, []⟩]
def a26b : ACode :=
  (.seq (.reg false a26r0) (.seq (.seq (.reg false a26r1) (.cond (.g 9) (.seq (.reg false a26r2) .ret) .skip)) (.seq (.reg false a26r3) (.seq (.reg true a26r4) .ret))))
def a26 : AFun := ⟨1, 19, a26b, [.tmp (true, 2), .cell (true, 3) 4 true, .tmp (true, 4)]⟩
theorem c26 : compileFun Try.prog [0, 1, 2, 3, 4, 5, 6, 9] Try.f26 = some a26 := by kernel_rfl

/- damask/types.Apply -/
def a27r0 : List AOper :=
  [⟨some (true, 2), .box (.g 0), none, []⟩,
   ⟨some (true, 4), .alloc [(.int .i64 0), (.int .i64 0), (.str ⟨#[]⟩), (.list 0 .full [])], none, []⟩,
   ⟨some (true, 5), .mv (.c (.int .i64 0)), none, []⟩]
def a27r1 : List AOper :=
  [⟨some (false, 6), .load 4 true (.g 2), none, []⟩,
   ⟨some (false, 7), .call false (.c (.fn 53 [] [])) [(.l 6)], none, []⟩,
   ⟨some (false, 8), .un .not (.l 7), none, []⟩,
   ⟨some (false, 9), .mv (.l 8), none, []⟩,
   ⟨some (false, 10), .mv (.g 1), some (false, 9, false), []⟩,
   ⟨some (false, 11), .call false (.c (.fn 54 [] [])) [(.l 10)], some (false, 9, false), []⟩,
   ⟨some (false, 12), .un .not (.l 11), some (false, 9, false), []⟩,
   ⟨some (true, 13), .pick (.l 9) (.c (.bool true)) (.l 12), none, []⟩]
def a27r2 : List AOper :=
  [⟨some (false, 14), .build [(.int .i64 0), (.int .i64 0), (.str ⟨#[]⟩), (.list 0 .full [])] [], none, []⟩,
   ⟨none, .store 4 (.g 4) (.l 14), none, []⟩,
   ⟨some (true, 5), .mv (.c (.int .i64 2)), none, []⟩]
def a27r3 : List AOper :=
  [⟨some (false, 15), .load 4 true (.g 2), none, []⟩,
   ⟨some (false, 16), .mv (.g 1), none, []⟩,
   ⟨some (false, 17), .call false (.c (.fn 71 [] [])) [(.l 15), (.l 16)], none, []⟩,
   ⟨some (false, 18), .call false (.c (.fn 69 [] [])) [(.l 17)], none, []⟩,
   ⟨some (false, 19), .call false (.c (.fn 55 [] [])) [(.l 18)], none, []⟩,
   ⟨some (false, 20), .extract (.l 19) 0, none, []⟩,
   ⟨some (false, 21), .extract (.l 19) 1, none, []⟩,
   ⟨none, .store 4 (.g 4) (.l 20), none, []⟩,
   ⟨some (true, 5), .mv (.l 21), none, []⟩]
def a27b : ACode :=
  (.seq (.reg false a27r0) (.seq (.seq (.reg false a27r1) (.cond (.g 13) (.seq (.reg false a27r2) .ret) .skip)) (.seq (.reg false a27r3) .ret)))
def a27 : AFun := ⟨2, 22, a27b, [.cell (true, 4) 4 true, .tmp (true, 5)]⟩
theorem c27 : compileFun Try.prog [0, 1, 2, 4, 5, 13] Try.f27 = some a27 := by kernel_rfl

/- damask/types.Fun -/
def a28r0 : List AOper :=
  [⟨some (true, 3), .box (.g 1), none, []⟩,
   ⟨some (true, 4), .alloc [(.int .i64 0), (.int .i64 0), (.str ⟨#[]⟩), (.list 0 .full [])], none, []⟩,
   ⟨some (true, 5), .mv (.c (.int .i64 0)), none, []⟩]
def a28r1 : List AOper :=
  [⟨some (false, 6), .mv (.g 0), none, []⟩,
   ⟨some (false, 7), .call false (.c (.fn 54 [] [])) [(.l 6)], none, []⟩,
   ⟨some (false, 8), .un .not (.l 7), none, []⟩,
   ⟨some (false, 9), .mv (.l 8), none, []⟩,
   ⟨some (false, 10), .load 4 true (.g 3), some (false, 9, false), []⟩,
   ⟨some (false, 11), .call false (.c (.fn 53 [] [])) [(.l 10)], some (false, 9, false), []⟩,
   ⟨some (false, 12), .un .not (.l 11), some (false, 9, false), []⟩,
   ⟨some (true, 13), .pick (.l 9) (.c (.bool true)) (.l 12), none, []⟩]
def a28r2 : List AOper :=
  [⟨some (false, 14), .build [(.int .i64 0), (.int .i64 0), (.str ⟨#[]⟩), (.list 0 .full [])] [], none, []⟩,
   ⟨none, .store 4 (.g 4) (.l 14), none, []⟩,
   ⟨some (true, 5), .mv (.c (.int .i64 2)), none, []⟩]
def a28r3 : List AOper :=
  [⟨some (false, 15), .mv (.g 0), none, []⟩,
   ⟨some (false, 16), .load 4 true (.g 3), none, []⟩,
   ⟨some (false, 17), .call false (.c (.fn 72 [] [])) [(.l 15), (.l 16)], none, []⟩,
   ⟨some (false, 18), .call false (.c (.fn 69 [] [])) [(.l 17)], none, []⟩,
   ⟨some (false, 19), .call false (.c (.fn 55 [] [])) [(.l 18)], none, []⟩,
   ⟨some (false, 20), .extract (.l 19) 0, none, []⟩,
   ⟨some (false, 21), .extract (.l 19) 1, none, []⟩,
   ⟨none, .store 4 (.g 4) (.l 20), none, []⟩,
   ⟨some (true, 5), .mv (.l 21), none, []⟩]
def a28b : ACode :=
  (.seq (.reg false a28r0) (.seq (.seq (.reg false a28r1) (.cond (.g 13) (.seq (.reg false a28r2) .ret) .skip)) (.seq (.reg false a28r3) .ret)))
def a28 : AFun := ⟨2, 22, a28b, [.cell (true, 4) 4 true, .tmp (true, 5)]⟩
theorem c28 : compileFun Try.prog [0, 1, 3, 4, 5, 13] Try.f28 = some a28 := by kernel_rfl

/- damask/damaskref05.Spine -/
def a29r0 : List AOper :=
  [⟨some (true, 1), .box (.g 0), none, []⟩,
   ⟨some (true, 2), .alloc [(.int .i64 0), (.int .i64 0), (.str ⟨#[]⟩), (.list 0 .full [])], none, []⟩,
   ⟨some (true, 3), .mv (.c (.list 0 .full [])), none, []⟩]
def a29r1 : List AOper :=
  [⟨some (true, 4), .mv (.c (.list 0 .full [])), none, []⟩]
def a29r2 : List AOper :=
  [⟨some (false, 7), .fieldAddr 0 (.g 1), none, []⟩,
   ⟨some (false, 8), .load 1 false (.l 7), none, []⟩,
   ⟨some (true, 9), .bin .eql (.l 8) (.c (.int .i64 3)), none, []⟩]
def a29r3 : List AOper :=
  [⟨some (false, 10), .mv (.g 4), none, []⟩,
   ⟨some (false, 11), .fieldAddr 3 (.g 1), none, []⟩,
   ⟨some (false, 12), .load 1 false (.l 11), none, []⟩,
   ⟨some (false, 13), .indexAddr 4 (.l 12) (.c (.int .i64 1)), none, []⟩,
   ⟨some (false, 14), .load 4 true (.l 13), none, []⟩,
   ⟨some (false, 15), .buildSlice 4 true [(.int .i64 0), (.int .i64 0), (.str ⟨#[]⟩), (.list 0 .full [])] 1 [(0, (.l 14))], none, []⟩,
   ⟨some (false, 16), .append 4 56 (.l 10) (.l 15), none, []⟩,
   ⟨some (true, 4), .mv (.l 16), none, []⟩]
def a29r4 : List AOper :=
  [⟨some (false, 17), .fieldAddr 3 (.g 1), none, []⟩,
   ⟨some (false, 18), .load 1 false (.l 17), none, []⟩,
   ⟨some (false, 19), .indexAddr 4 (.l 18) (.c (.int .i64 0)), none, []⟩,
   ⟨some (false, 20), .load 4 true (.l 19), none, []⟩,
   ⟨none, .store 4 (.g 1) (.l 20), none, []⟩]
def a29l5 : ACode :=
  (.seq (.seq (.reg false a29r2) (.cond (.g 9) .skip (.exit 0))) (.block 1 (.seq (.reg false a29r3) (.reg false a29r4))))
def a29r6 : List AOper :=
  [⟨some (true, 5), .mv (.c (.list 0 .full [])), none, []⟩]
def a29r7 : List AOper :=
  [⟨some (false, 21), .mv (.g 4), none, []⟩,
   ⟨some (false, 22), .len (.l 21), none, []⟩,
   ⟨some (false, 23), .bin .sub (.l 22) (.c (.int .i64 1)), none, []⟩,
   ⟨some (true, 6), .mv (.l 23), none, []⟩]
def a29r8 : List AOper :=
  [⟨some (false, 24), .mv (.g 6), none, []⟩,
   ⟨some (true, 25), .bin .geq (.l 24) (.c (.int .i64 0)), none, []⟩]
def a29r9 : List AOper :=
  [⟨some (false, 28), .mv (.g 5), none, []⟩,
   ⟨some (false, 29), .mv (.g 4), none, []⟩,
   ⟨some (false, 30), .mv (.g 6), none, []⟩,
   ⟨some (false, 31), .indexAddr 4 (.l 29) (.l 30), none, []⟩,
   ⟨some (false, 32), .load 4 true (.l 31), none, []⟩,
   ⟨some (false, 33), .buildSlice 4 true [(.int .i64 0), (.int .i64 0), (.str ⟨#[]⟩), (.list 0 .full [])] 1 [(0, (.l 32))], none, []⟩,
   ⟨some (false, 34), .append 4 56 (.l 28) (.l 33), none, []⟩,
   ⟨some (true, 5), .mv (.l 34), none, []⟩]
def a29r10 : List AOper :=
  [⟨some (false, 26), .mv (.g 6), none, []⟩,
   ⟨some (false, 27), .bin .sub (.l 26) (.c (.int .i64 1)), none, []⟩,
   ⟨some (true, 6), .mv (.l 27), none, []⟩]
def a29l11 : ACode :=
  (.seq (.seq (.reg false a29r8) (.cond (.g 25) .skip (.exit 2))) (.seq (.block 3 (.reg false a29r9)) (.reg false a29r10)))
def a29r12 : List AOper :=
  [⟨some (false, 35), .load 4 true (.g 1), none, []⟩,
   ⟨some (false, 36), .mv (.g 5), none, []⟩,
   ⟨none, .store 4 (.g 2) (.l 35), none, []⟩,
   ⟨some (true, 3), .mv (.l 36), none, []⟩]
def a29b : ACode :=
  (.seq (.reg false a29r0) (.seq (.reg false a29r1) (.seq (.block 0 (.loop a29l5)) (.seq (.reg false a29r6) (.seq (.seq (.reg false a29r7) (.block 2 (.loop a29l11))) (.seq (.reg false a29r12) .ret))))))
def a29 : AFun := ⟨1, 37, a29b, [.cell (true, 2) 4 true, .tmp (true, 3)]⟩
theorem c29 : compileFun Try.prog [0, 1, 2, 3, 4, 5, 6, 9, 25] Try.f29 = some a29 := by kernel_rfl

/- damask/damaskref05.Arguments -/
def a30r0 : List AOper :=
  [⟨some (true, 1), .box (.g 0), none, []⟩,
   ⟨some (true, 2), .mv (.c (.list 0 .full [])), none, []⟩,
   ⟨some (true, 3), .alloc [(.int .i64 0), (.int .i64 0), (.str ⟨#[]⟩), (.list 0 .full [])], none, []⟩]
def a30r1 : List AOper :=
  [⟨some (true, 4), .mv (.c (.list 0 .full [])), none, []⟩]
def a30r2 : List AOper :=
  [⟨some (false, 9), .load 4 true (.g 1), none, []⟩,
   ⟨some (false, 10), .call false (.c (.fn 73 [] [])) [(.l 9)], none, []⟩,
   ⟨some (false, 8), .mv (.l 10), none, []⟩,
   ⟨some (false, 11), .extract (.l 8) 0, none, []⟩,
   ⟨some (false, 12), .extract (.l 8) 1, none, []⟩,
   ⟨some (false, 13), .extract (.l 8) 2, none, []⟩,
   ⟨some (true, 5), .alloc [(.int .i64 0), (.int .i64 0), (.str ⟨#[]⟩), (.list 0 .full [])], none, []⟩,
   ⟨some (true, 6), .alloc [(.int .i64 0), (.int .i64 0), (.str ⟨#[]⟩), (.list 0 .full [])], none, []⟩,
   ⟨none, .store 4 (.g 5) (.l 11), none, []⟩,
   ⟨none, .store 4 (.g 6) (.l 12), none, []⟩,
   ⟨some (true, 7), .mv (.l 13), none, []⟩]
def a30r3 : List AOper :=
  [⟨some (false, 14), .mv (.g 7), none, []⟩,
   ⟨some (true, 15), .un .not (.l 14), none, []⟩]
def a30r4 : List AOper :=
  [⟨some (false, 16), .mv (.g 4), none, []⟩,
   ⟨some (false, 17), .load 4 true (.g 1), none, []⟩,
   ⟨some (true, 2), .mv (.l 16), none, []⟩,
   ⟨none, .store 4 (.g 3) (.l 17), none, []⟩]
def a30r5 : List AOper :=
  [⟨some (false, 18), .mv (.g 4), none, []⟩,
   ⟨some (false, 19), .load 4 true (.g 5), none, []⟩,
   ⟨some (false, 20), .buildSlice 4 true [(.int .i64 0), (.int .i64 0), (.str ⟨#[]⟩), (.list 0 .full [])] 1 [(0, (.l 19))], none, []⟩,
   ⟨some (false, 21), .append 4 56 (.l 18) (.l 20), none, []⟩,
   ⟨some (true, 4), .mv (.l 21), none, []⟩]
def a30r6 : List AOper :=
  [⟨some (false, 22), .load 4 true (.g 6), none, []⟩,
   ⟨none, .store 4 (.g 1) (.l 22), none, []⟩]
def a30l7 : ACode :=
  (.block 1 (.seq (.reg false a30r2) (.seq (.seq (.reg false a30r3) (.cond (.g 15) (.seq (.reg true a30r4) .ret) .skip)) (.seq (.reg false a30r5) (.reg false a30r6)))))
def a30b : ACode :=
  (.seq (.reg false a30r0) (.seq (.reg false a30r1) (.block 0 (.loop a30l7))))
def a30 : AFun := ⟨1, 23, a30b, [.tmp (true, 2), .cell (true, 3) 4 true]⟩
theorem c30 : compileFun Try.prog [0, 1, 2, 3, 4, 5, 6, 7, 15] Try.f30 = some a30 := by kernel_rfl

/- damask/damaskref05.Fun -/
def a34r0 : List AOper :=
  [⟨some (true, 3), .box (.g 1), none, []⟩,
   ⟨some (true, 4), .alloc [(.int .i64 0), (.int .i64 0), (.str ⟨#[]⟩), (.list 0 .full [])], none, []⟩]
def a34r1 : List AOper :=
  [⟨some (false, 5), .mv (.g 0), none, []⟩,
   ⟨some (false, 6), .load 4 true (.g 3), none, []⟩,
   ⟨some (false, 7), .call false (.c (.fn 77 [] [])) [(.l 5), (.l 6)], none, []⟩,
   ⟨none, .store 4 (.g 4) (.l 7), none, []⟩]
def a34b : ACode :=
  (.seq (.reg false a34r0) (.seq (.reg false a34r1) .ret))
def a34 : AFun := ⟨2, 8, a34b, [.cell (true, 4) 4 true]⟩
theorem c34 : compileFun Try.prog [0, 1, 3, 4] Try.f34 = some a34 := by kernel_rfl

/- damask/types.Split -/
def a70r0 : List AOper :=
  [⟨some (true, 1), .box (.g 0), none, []⟩,
   ⟨some (true, 2), .mv (.c (.list 0 .full [])), none, []⟩,
   ⟨some (true, 3), .alloc [(.int .i64 0), (.int .i64 0), (.str ⟨#[]⟩), (.list 0 .full [])], none, []⟩]
def a70r1 : List AOper :=
  [⟨some (true, 4), .mv (.c (.list 0 .full [])), none, []⟩]
def a70r2 : List AOper :=
  [⟨some (false, 9), .load 4 true (.g 1), none, []⟩,
   ⟨some (false, 10), .call false (.c (.fn 112 [] [])) [(.l 9), (.c (.str ⟨#[45, 62]⟩))], none, []⟩,
   ⟨some (false, 8), .mv (.l 10), none, []⟩,
   ⟨some (false, 11), .extract (.l 8) 0, none, []⟩,
   ⟨some (false, 12), .extract (.l 8) 1, none, []⟩,
   ⟨some (false, 13), .extract (.l 8) 2, none, []⟩,
   ⟨some (true, 5), .alloc [(.int .i64 0), (.int .i64 0), (.str ⟨#[]⟩), (.list 0 .full [])], none, []⟩,
   ⟨some (true, 6), .alloc [(.int .i64 0), (.int .i64 0), (.str ⟨#[]⟩), (.list 0 .full [])], none, []⟩,
   ⟨none, .store 4 (.g 5) (.l 11), none, []⟩,
   ⟨none, .store 4 (.g 6) (.l 12), none, []⟩,
   ⟨some (true, 7), .mv (.l 13), none, []⟩]
def a70r3 : List AOper :=
  [⟨some (false, 14), .mv (.g 7), none, []⟩,
   ⟨some (true, 15), .un .not (.l 14), none, []⟩]
def a70r4 : List AOper :=
  [⟨some (false, 16), .mv (.g 4), none, []⟩,
   ⟨some (false, 17), .load 4 true (.g 1), none, []⟩,
   ⟨some (true, 2), .mv (.l 16), none, []⟩,
   ⟨none, .store 4 (.g 3) (.l 17), none, []⟩]
def a70r5 : List AOper :=
  [⟨some (false, 18), .mv (.g 4), none, []⟩,
   ⟨some (false, 19), .load 4 true (.g 5), none, []⟩,
   ⟨some (false, 20), .buildSlice 4 true [(.int .i64 0), (.int .i64 0), (.str ⟨#[]⟩), (.list 0 .full [])] 1 [(0, (.l 19))], none, []⟩,
   ⟨some (false, 21), .append 4 56 (.l 18) (.l 20), none, []⟩,
   ⟨some (false, 22), .load 4 true (.g 6), none, [3]⟩,
   ⟨some (true, 4), .mv (.l 21), none, []⟩,
   ⟨none, .store 4 (.g 1) (.l 22), none, []⟩]
def a70l6 : ACode :=
  (.block 1 (.seq (.reg false a70r2) (.seq (.seq (.reg false a70r3) (.cond (.g 15) (.seq (.reg true a70r4) .ret) .skip)) (.reg true a70r5))))
def a70b : ACode :=
  (.seq (.reg false a70r0) (.seq (.reg false a70r1) (.block 0 (.loop a70l6))))
def a70 : AFun := ⟨1, 23, a70b, [.tmp (true, 2), .cell (true, 3) 4 true]⟩
theorem c70 : compileFun Try.prog [0, 1, 2, 3, 4, 5, 6, 7, 15] Try.f70 = some a70 := by kernel_rfl

/- damask/types.App -/
def a71r0 : List AOper :=
  [⟨some (true, 2), .box (.g 0), none, []⟩,
   ⟨some (true, 4), .alloc [(.int .i64 0), (.int .i64 0), (.str ⟨#[]⟩), (.list 0 .full [])], none, []⟩]
def a71r1 : List AOper :=
  [⟨some (true, 7), .mv (.g 1), none, []⟩,
   ⟨some (true, 8), .len (.g 7), none, []⟩,
   ⟨some (true, 9), .mv (.c (.int .i64 0)), none, []⟩]
def a71r2 : List AOper :=
  [⟨some (true, 10), .bin .lss (.g 9) (.g 8), none, []⟩]
def a71r3 : List AOper :=
  [⟨some (false, 11), .indexAddr 4 (.g 7) (.g 9), none, []⟩,
   ⟨some (false, 12), .load 4 true (.l 11), none, []⟩,
   ⟨some (true, 6), .alloc [(.int .i64 0), (.int .i64 0), (.str ⟨#[]⟩), (.list 0 .full [])], none, []⟩,
   ⟨none, .store 4 (.g 6) (.l 12), none, []⟩]
def a71r4 : List AOper :=
  [⟨some (false, 13), .load 4 true (.g 2), none, []⟩,
   ⟨some (false, 14), .load 4 true (.g 6), none, []⟩,
   ⟨some (false, 15), .buildSlice 4 true [(.int .i64 0), (.int .i64 0), (.str ⟨#[]⟩), (.list 0 .full [])] 2 [(0, (.l 13)), (1, (.l 14))], none, []⟩,
   ⟨some (false, 16), .build [(.int .i64 0), (.int .i64 0), (.str ⟨#[]⟩), (.list 0 .full [])] [(0, 1, (.c (.int .i64 3))), (3, 1, (.l 15))], none, []⟩,
   ⟨none, .store 4 (.g 2) (.l 16), none, []⟩]
def a71r5 : List AOper :=
  [⟨some (false, 17), .bin .add (.g 9) (.c (.int .i64 1)), none, []⟩,
   ⟨some (true, 9), .mv (.l 17), none, []⟩]
def a71l6 : ACode :=
  (.seq (.reg false a71r2) (.seq (.cond (.g 10) .skip (.exit 0)) (.seq (.block 1 (.seq (.reg false a71r3) (.reg false a71r4))) (.reg false a71r5))))
def a71r7 : List AOper :=
  [⟨some (false, 18), .load 4 true (.g 2), none, []⟩,
   ⟨none, .store 4 (.g 4) (.l 18), none, []⟩]
def a71b : ACode :=
  (.seq (.reg false a71r0) (.seq (.seq (.reg false a71r1) (.block 0 (.loop a71l6))) (.seq (.reg false a71r7) .ret)))
def a71 : AFun := ⟨2, 19, a71b, [.cell (true, 4) 4 true]⟩
theorem c71 : compileFun Try.prog [0, 1, 2, 4, 6, 7, 8, 9, 10] Try.f71 = some a71 := by kernel_rfl

/- damask/damaskref05.Split -/
def a73r0 : List AOper :=
  [⟨some (true, 1), .box (.g 0), none, []⟩,
   ⟨some (true, 2), .alloc [(.int .i64 0), (.int .i64 0), (.str ⟨#[]⟩), (.list 0 .full [])], none, []⟩,
   ⟨some (true, 3), .alloc [(.int .i64 0), (.int .i64 0), (.str ⟨#[]⟩), (.list 0 .full [])], none, []⟩,
   ⟨some (true, 4), .mv (.c (.bool false)), none, []⟩]
def a73r1 : List AOper :=
  [⟨some (false, 5), .load 4 true (.g 1), none, []⟩,
   ⟨some (false, 6), .call false (.c (.fn 115 [] [])) [(.l 5)], none, []⟩,
   ⟨some (false, 7), .extract (.l 6) 0, none, []⟩,
   ⟨some (false, 8), .extract (.l 6) 1, none, []⟩,
   ⟨some (false, 9), .extract (.l 6) 2, none, []⟩,
   ⟨none, .store 4 (.g 2) (.l 7), none, []⟩,
   ⟨none, .store 4 (.g 3) (.l 8), none, []⟩,
   ⟨some (true, 4), .mv (.l 9), none, []⟩]
def a73b : ACode :=
  (.seq (.reg false a73r0) (.seq (.reg false a73r1) .ret))
def a73 : AFun := ⟨1, 10, a73b, [.cell (true, 2) 4 true, .cell (true, 3) 4 true, .tmp (true, 4)]⟩
theorem c73 : compileFun Try.prog [0, 1, 2, 3, 4] Try.f73 = some a73 := by kernel_rfl

/- damask/damaskkit.Fun -/
def a77r0 : List AOper :=
  [⟨some (true, 3), .box (.g 1), none, []⟩,
   ⟨some (true, 4), .alloc [(.int .i64 0), (.int .i64 0), (.str ⟨#[]⟩), (.list 0 .full [])], none, []⟩]
def a77r1 : List AOper :=
  [⟨some (false, 6), .mv (.g 0), none, []⟩,
   ⟨some (false, 7), .len (.l 6), none, []⟩,
   ⟨some (false, 8), .bin .sub (.l 7) (.c (.int .i64 1)), none, []⟩,
   ⟨some (true, 5), .mv (.l 8), none, []⟩]
def a77r2 : List AOper :=
  [⟨some (false, 9), .mv (.g 5), none, []⟩,
   ⟨some (true, 10), .bin .geq (.l 9) (.c (.int .i64 0)), none, []⟩]
def a77r3 : List AOper :=
  [⟨some (false, 13), .mv (.g 0), none, []⟩,
   ⟨some (false, 14), .mv (.g 5), none, []⟩,
   ⟨some (false, 15), .indexAddr 4 (.l 13) (.l 14), none, []⟩,
   ⟨some (false, 16), .load 4 true (.l 15), none, []⟩,
   ⟨some (false, 17), .load 4 true (.g 3), none, []⟩,
   ⟨some (false, 18), .call true (.c (.fn 100 [] [])) [(.l 16), (.l 17)], none, []⟩,
   ⟨none, .store 4 (.g 3) (.l 18), none, []⟩]
def a77r4 : List AOper :=
  [⟨some (false, 11), .mv (.g 5), none, []⟩,
   ⟨some (false, 12), .bin .sub (.l 11) (.c (.int .i64 1)), none, []⟩,
   ⟨some (true, 5), .mv (.l 12), none, []⟩]
def a77l5 : ACode :=
  (.seq (.seq (.reg false a77r2) (.cond (.g 10) .skip (.exit 0))) (.seq (.block 1 (.reg true a77r3)) (.reg false a77r4)))
def a77r6 : List AOper :=
  [⟨some (false, 19), .load 4 true (.g 3), none, []⟩,
   ⟨none, .store 4 (.g 4) (.l 19), none, []⟩]
def a77b : ACode :=
  (.seq (.reg false a77r0) (.seq (.seq (.reg false a77r1) (.block 0 (.loop a77l5))) (.seq (.reg false a77r6) .ret)))
def a77 : AFun := ⟨2, 20, a77b, [.cell (true, 4) 4 true]⟩
theorem c77 : compileFun Try.prog [0, 1, 3, 4, 5, 10] Try.f77 = some a77 := by kernel_rfl

/- damask/types.Pair -/
def a112r0 : List AOper :=
  [⟨some (true, 2), .box (.g 0), none, []⟩,
   ⟨some (true, 4), .alloc [(.int .i64 0), (.int .i64 0), (.str ⟨#[]⟩), (.list 0 .full [])], none, []⟩,
   ⟨some (true, 5), .alloc [(.int .i64 0), (.int .i64 0), (.str ⟨#[]⟩), (.list 0 .full [])], none, []⟩,
   ⟨some (true, 6), .mv (.c (.bool false)), none, []⟩]
def a112r1 : List AOper :=
  [⟨some (false, 7), .fieldAddr 0 (.g 2), none, []⟩,
   ⟨some (false, 8), .load 1 false (.l 7), none, []⟩,
   ⟨some (false, 9), .bin .eql (.l 8) (.c (.int .i64 3)), none, []⟩,
   ⟨some (false, 10), .mv (.l 9), none, []⟩,
   ⟨some (false, 11), .fieldAddr 3 (.g 2), some (false, 10, true), []⟩,
   ⟨some (false, 12), .load 1 false (.l 11), some (false, 10, true), []⟩,
   ⟨some (false, 13), .indexAddr 4 (.l 12) (.c (.int .i64 0)), some (false, 10, true), []⟩,
   ⟨some (false, 14), .fieldAddr 0 (.l 13), some (false, 10, true), []⟩,
   ⟨some (false, 15), .load 1 false (.l 14), some (false, 10, true), []⟩,
   ⟨some (false, 16), .bin .eql (.l 15) (.c (.int .i64 3)), some (false, 10, true), []⟩,
   ⟨some (false, 17), .pick (.l 10) (.l 16) (.c (.bool false)), none, []⟩,
   ⟨some (false, 18), .mv (.l 17), none, []⟩,
   ⟨some (false, 19), .fieldAddr 3 (.g 2), some (false, 18, true), []⟩,
   ⟨some (false, 20), .load 1 false (.l 19), some (false, 18, true), []⟩,
   ⟨some (false, 21), .indexAddr 4 (.l 20) (.c (.int .i64 0)), some (false, 18, true), []⟩,
   ⟨some (false, 22), .fieldAddr 3 (.l 21), some (false, 18, true), []⟩,
   ⟨some (false, 23), .load 1 false (.l 22), some (false, 18, true), []⟩,
   ⟨some (false, 24), .indexAddr 4 (.l 23) (.c (.int .i64 0)), some (false, 18, true), []⟩,
   ⟨some (false, 25), .fieldAddr 0 (.l 24), some (false, 18, true), []⟩,
   ⟨some (false, 26), .load 1 false (.l 25), some (false, 18, true), []⟩,
   ⟨some (false, 27), .bin .eql (.l 26) (.c (.int .i64 2)), some (false, 18, true), []⟩,
   ⟨some (false, 28), .pick (.l 18) (.l 27) (.c (.bool false)), none, []⟩,
   ⟨some (false, 29), .mv (.l 28), none, []⟩,
   ⟨some (false, 30), .fieldAddr 3 (.g 2), some (false, 29, true), []⟩,
   ⟨some (false, 31), .load 1 false (.l 30), some (false, 29, true), []⟩,
   ⟨some (false, 32), .indexAddr 4 (.l 31) (.c (.int .i64 0)), some (false, 29, true), []⟩,
   ⟨some (false, 33), .fieldAddr 3 (.l 32), some (false, 29, true), []⟩,
   ⟨some (false, 34), .load 1 false (.l 33), some (false, 29, true), []⟩,
   ⟨some (false, 35), .indexAddr 4 (.l 34) (.c (.int .i64 0)), some (false, 29, true), []⟩,
   ⟨some (false, 36), .fieldAddr 2 (.l 35), some (false, 29, true), []⟩,
   ⟨some (false, 37), .load 1 false (.l 36), some (false, 29, true), []⟩,
   ⟨some (false, 38), .mv (.g 1), some (false, 29, true), []⟩,
   ⟨some (false, 39), .bin .eql (.l 37) (.l 38), some (false, 29, true), []⟩,
   ⟨some (true, 40), .pick (.l 29) (.l 39) (.c (.bool false)), none, []⟩]
def a112r2 : List AOper :=
  [⟨some (false, 41), .fieldAddr 3 (.g 2), none, []⟩,
   ⟨some (false, 42), .load 1 false (.l 41), none, []⟩,
   ⟨some (false, 43), .indexAddr 4 (.l 42) (.c (.int .i64 0)), none, []⟩,
   ⟨some (false, 44), .fieldAddr 3 (.l 43), none, []⟩,
   ⟨some (false, 45), .load 1 false (.l 44), none, []⟩,
   ⟨some (false, 46), .indexAddr 4 (.l 45) (.c (.int .i64 1)), none, []⟩,
   ⟨some (false, 47), .load 4 true (.l 46), none, []⟩,
   ⟨some (false, 48), .fieldAddr 3 (.g 2), none, []⟩,
   ⟨some (false, 49), .load 1 false (.l 48), none, []⟩,
   ⟨some (false, 50), .indexAddr 4 (.l 49) (.c (.int .i64 1)), none, []⟩,
   ⟨some (false, 51), .load 4 true (.l 50), none, []⟩,
   ⟨none, .store 4 (.g 4) (.l 47), none, [8, 10]⟩,
   ⟨none, .store 4 (.g 5) (.l 51), none, []⟩,
   ⟨some (true, 6), .mv (.c (.bool true)), none, []⟩]
def a112r3 : List AOper :=
  [⟨some (false, 52), .build [(.int .i64 0), (.int .i64 0), (.str ⟨#[]⟩), (.list 0 .full [])] [], none, []⟩,
   ⟨some (false, 53), .build [(.int .i64 0), (.int .i64 0), (.str ⟨#[]⟩), (.list 0 .full [])] [], none, []⟩,
   ⟨none, .store 4 (.g 4) (.l 52), none, []⟩,
   ⟨none, .store 4 (.g 5) (.l 53), none, []⟩,
   ⟨some (true, 6), .mv (.c (.bool false)), none, []⟩]
def a112b : ACode :=
  (.seq (.reg false a112r0) (.seq (.seq (.reg false a112r1) (.cond (.g 40) (.seq (.reg true a112r2) .ret) .skip)) (.seq (.reg false a112r3) .ret)))
def a112 : AFun := ⟨2, 54, a112b, [.cell (true, 4) 4 true, .cell (true, 5) 4 true, .tmp (true, 6)]⟩
theorem c112 : compileFun Try.prog [0, 1, 2, 4, 5, 6, 40] Try.f112 = some a112 := by kernel_rfl

/- damask/types.Arrow -/
def a114r0 : List AOper :=
  [⟨some (true, 2), .box (.g 0), none, []⟩,
   ⟨some (true, 3), .box (.g 1), none, []⟩,
   ⟨some (true, 4), .alloc [(.int .i64 0), (.int .i64 0), (.str ⟨#[]⟩), (.list 0 .full [])], none, []⟩]
def a114r1 : List AOper :=
  [⟨some (false, 5), .call true (.c (.fn 128 [] [])) [(.c (.str ⟨#[45, 62]⟩))], none, []⟩,
   ⟨some (false, 6), .load 4 true (.g 2), none, []⟩,
   ⟨some (false, 7), .load 4 true (.g 3), none, []⟩,
   ⟨some (false, 8), .buildSlice 4 true [(.int .i64 0), (.int .i64 0), (.str ⟨#[]⟩), (.list 0 .full [])] 2 [(0, (.l 6)), (1, (.l 7))], none, []⟩,
   ⟨some (false, 9), .call true (.c (.fn 71 [] [])) [(.l 5), (.l 8)], none, []⟩,
   ⟨none, .store 4 (.g 4) (.l 9), none, []⟩]
def a114b : ACode :=
  (.seq (.reg false a114r0) (.seq (.reg true a114r1) .ret))
def a114 : AFun := ⟨2, 10, a114b, [.cell (true, 4) 4 true]⟩
theorem c114 : compileFun Try.prog [0, 1, 2, 3, 4] Try.f114 = some a114 := by kernel_rfl

/- damask/damaskkit.Split -/
def a115r0 : List AOper :=
  [⟨some (true, 1), .box (.g 0), none, []⟩,
   ⟨some (true, 2), .alloc [(.int .i64 0), (.int .i64 0), (.str ⟨#[]⟩), (.list 0 .full [])], none, []⟩,
   ⟨some (true, 3), .alloc [(.int .i64 0), (.int .i64 0), (.str ⟨#[]⟩), (.list 0 .full [])], none, []⟩,
   ⟨some (true, 4), .mv (.c (.bool false)), none, []⟩]
def a115r1 : List AOper :=
  [⟨some (false, 5), .load 4 true (.g 1), none, []⟩,
   ⟨some (false, 6), .call false (.c (.fn 129 [] [])) [(.l 5), (.c (.str ⟨#[45, 62]⟩))], none, []⟩,
   ⟨some (false, 7), .extract (.l 6) 0, none, []⟩,
   ⟨some (false, 8), .extract (.l 6) 1, none, []⟩,
   ⟨some (false, 9), .extract (.l 6) 2, none, []⟩,
   ⟨none, .store 4 (.g 2) (.l 7), none, []⟩,
   ⟨none, .store 4 (.g 3) (.l 8), none, []⟩,
   ⟨some (true, 4), .mv (.l 9), none, []⟩]
def a115b : ACode :=
  (.seq (.reg false a115r0) (.seq (.reg false a115r1) .ret))
def a115 : AFun := ⟨1, 10, a115b, [.cell (true, 2) 4 true, .cell (true, 3) 4 true, .tmp (true, 4)]⟩
theorem c115 : compileFun Try.prog [0, 1, 2, 3, 4] Try.f115 = some a115 := by kernel_rfl

/- damask/types.Con -/
def a128r0 : List AOper :=
  [⟨some (true, 2), .alloc [(.int .i64 0), (.int .i64 0), (.str ⟨#[]⟩), (.list 0 .full [])], none, []⟩]
def a128r1 : List AOper :=
  [⟨some (false, 3), .mv (.g 0), none, []⟩,
   ⟨some (false, 4), .build [(.int .i64 0), (.int .i64 0), (.str ⟨#[]⟩), (.list 0 .full [])] [(0, 1, (.c (.int .i64 2))), (2, 1, (.l 3))], none, []⟩,
   ⟨none, .store 4 (.g 2) (.l 4), none, []⟩]
def a128b : ACode :=
  (.seq (.reg false a128r0) (.seq (.reg false a128r1) .ret))
def a128 : AFun := ⟨1, 5, a128b, [.cell (true, 2) 4 true]⟩
theorem c128 : compileFun Try.prog [0, 2] Try.f128 = some a128 := by kernel_rfl

/- damask/damaskkit.pair -/
def a129r0 : List AOper :=
  [⟨some (true, 2), .box (.g 0), none, []⟩,
   ⟨some (true, 4), .alloc [(.int .i64 0), (.int .i64 0), (.str ⟨#[]⟩), (.list 0 .full [])], none, []⟩,
   ⟨some (true, 5), .alloc [(.int .i64 0), (.int .i64 0), (.str ⟨#[]⟩), (.list 0 .full [])], none, []⟩,
   ⟨some (true, 6), .mv (.c (.bool false)), none, []⟩]
def a129r1 : List AOper :=
  [⟨some (false, 8), .fieldAddr 0 (.g 2), none, []⟩,
   ⟨some (false, 9), .load 1 false (.l 8), none, []⟩,
   ⟨some (false, 10), .bin .neq (.l 9) (.c (.int .i64 3)), none, []⟩,
   ⟨some (false, 11), .mv (.l 10), none, []⟩,
   ⟨some (false, 12), .fieldAddr 3 (.g 2), some (false, 11, false), []⟩,
   ⟨some (false, 13), .load 1 false (.l 12), some (false, 11, false), []⟩,
   ⟨some (false, 14), .indexAddr 4 (.l 13) (.c (.int .i64 0)), some (false, 11, false), []⟩,
   ⟨some (false, 15), .fieldAddr 0 (.l 14), some (false, 11, false), []⟩,
   ⟨some (false, 16), .load 1 false (.l 15), some (false, 11, false), []⟩,
   ⟨some (false, 17), .bin .neq (.l 16) (.c (.int .i64 3)), some (false, 11, false), []⟩,
   ⟨some (true, 18), .pick (.l 11) (.c (.bool true)) (.l 17), none, []⟩]
def a129r2 : List AOper :=
  [⟨some (false, 19), .build [(.int .i64 0), (.int .i64 0), (.str ⟨#[]⟩), (.list 0 .full [])] [], none, []⟩,
   ⟨some (false, 20), .build [(.int .i64 0), (.int .i64 0), (.str ⟨#[]⟩), (.list 0 .full [])] [], none, []⟩,
   ⟨none, .store 4 (.g 4) (.l 19), none, []⟩,
   ⟨none, .store 4 (.g 5) (.l 20), none, []⟩,
   ⟨some (true, 6), .mv (.c (.bool false)), none, []⟩]
def a129r3 : List AOper :=
  [⟨some (false, 21), .fieldAddr 3 (.g 2), none, []⟩,
   ⟨some (false, 22), .load 1 false (.l 21), none, []⟩,
   ⟨some (false, 23), .indexAddr 4 (.l 22) (.c (.int .i64 0)), none, []⟩,
   ⟨some (false, 24), .fieldAddr 3 (.l 23), none, []⟩,
   ⟨some (false, 25), .load 1 false (.l 24), none, []⟩,
   ⟨some (false, 26), .indexAddr 4 (.l 25) (.c (.int .i64 0)), none, []⟩,
   ⟨some (false, 27), .load 4 true (.l 26), none, []⟩,
   ⟨some (true, 7), .alloc [(.int .i64 0), (.int .i64 0), (.str ⟨#[]⟩), (.list 0 .full [])], none, []⟩,
   ⟨none, .store 4 (.g 7) (.l 27), none, []⟩]
def a129r4 : List AOper :=
  [⟨some (false, 28), .fieldAddr 0 (.g 7), none, []⟩,
   ⟨some (false, 29), .load 1 false (.l 28), none, []⟩,
   ⟨some (false, 30), .bin .neq (.l 29) (.c (.int .i64 2)), none, []⟩,
   ⟨some (false, 31), .mv (.l 30), none, []⟩,
   ⟨some (false, 32), .fieldAddr 2 (.g 7), some (false, 31, false), []⟩,
   ⟨some (false, 33), .load 1 false (.l 32), some (false, 31, false), []⟩,
   ⟨some (false, 34), .mv (.g 1), some (false, 31, false), []⟩,
   ⟨some (false, 35), .bin .neq (.l 33) (.l 34), some (false, 31, false), []⟩,
   ⟨some (true, 36), .pick (.l 31) (.c (.bool true)) (.l 35), none, []⟩]
def a129r5 : List AOper :=
  [⟨some (false, 37), .build [(.int .i64 0), (.int .i64 0), (.str ⟨#[]⟩), (.list 0 .full [])] [], none, []⟩,
   ⟨some (false, 38), .build [(.int .i64 0), (.int .i64 0), (.str ⟨#[]⟩), (.list 0 .full [])] [], none, []⟩,
   ⟨none, .store 4 (.g 4) (.l 37), none, []⟩,
   ⟨none, .store 4 (.g 5) (.l 38), none, []⟩,
   ⟨some (true, 6), .mv (.c (.bool false)), none, []⟩]
def a129r6 : List AOper :=
  [⟨some (false, 39), .fieldAddr 3 (.g 2), none, []⟩,
   ⟨some (false, 40), .load 1 false (.l 39), none, []⟩,
   ⟨some (false, 41), .indexAddr 4 (.l 40) (.c (.int .i64 0)), none, []⟩,
   ⟨some (false, 42), .fieldAddr 3 (.l 41), none, []⟩,
   ⟨some (false, 43), .load 1 false (.l 42), none, []⟩,
   ⟨some (false, 44), .indexAddr 4 (.l 43) (.c (.int .i64 1)), none, []⟩,
   ⟨some (false, 45), .load 4 true (.l 44), none, []⟩,
   ⟨some (false, 46), .fieldAddr 3 (.g 2), none, []⟩,
   ⟨some (false, 47), .load 1 false (.l 46), none, []⟩,
   ⟨some (false, 48), .indexAddr 4 (.l 47) (.c (.int .i64 1)), none, []⟩,
   ⟨some (false, 49), .load 4 true (.l 48), none, []⟩,
   ⟨none, .store 4 (.g 4) (.l 45), none, [8, 10]⟩,
   ⟨none, .store 4 (.g 5) (.l 49), none, []⟩,
   ⟨some (true, 6), .mv (.c (.bool true)), none, []⟩]
def a129b : ACode :=
  (.seq (.reg false a129r0) (.seq (.seq (.reg false a129r1) (.cond (.g 18) (.seq (.reg false a129r2) .ret) .skip)) (.seq (.reg false a129r3) (.seq (.seq (.reg false a129r4) (.cond (.g 36) (.seq (.reg false a129r5) .ret) .skip)) (.seq (.reg true a129r6) .ret)))))
def a129 : AFun := ⟨2, 50, a129b, [.cell (true, 4) 4 true, .cell (true, 5) 4 true, .tmp (true, 6)]⟩
theorem c129 : compileFun Try.prog [0, 1, 2, 4, 5, 6, 7, 18, 36] Try.f129 = some a129 := by kernel_rfl

end Go.AL.Ty
/- Pairs, arguments of functions. -/
set_option linter.unusedVariables false
set_option linter.unusedSimpArgs false
namespace Go.AL.Ty
open Go Go.Proofs

theorem get0 {α : Type} (x : α) (l : List α) : (x :: l)[0]? = some x := rfl
theorem get1 {α : Type} (x y : α) (l : List α) : (x :: y :: l)[1]? = some y := rfl

/-- Both arguments of a constant that is applied to two. -/
def pairOf (x : ByteArray) (t : Ty) : Option (Ty × Ty) :=
  match t.args with
  | [f, b] => if t.op = 3 ∧ f.op = 3 then (match f.args with | [g, a] => if g.op = 2 ∧ g.s = x then some (a, b) else none | _ => none) else none
  | _ => none
def pairR (x : ByteArray) (t : Ty) : AV := match pairOf x t with | some (a, b) => .tup [a.av, b.av, .bool true] | none => .tup [nul.av, nul.av, .bool false]

/-- The shapes of a proper type, as pairs look at it. -/
theorem shapes_of {t : Ty} (h : Gd t) (x : ByteArray) : (t.op ≠ 3 ∧ pairOf x t = none) ∨ (∃ f b, t = app f b ∧ f.op ≠ 3 ∧ pairOf x t = none) ∨
    (∃ g a b, t = app (app g a) b ∧ g.op ≠ 2 ∧ pairOf x t = none) ∨ (∃ g a b, t = app (app g a) b ∧ g.op = 2 ∧ g.s ≠ x ∧ pairOf x t = none) ∨
    (∃ g a b, t = app (app g a) b ∧ g.op = 2 ∧ g.s = x ∧ Gd a ∧ Gd b ∧ pairOf x t = some (a, b)) := by
  by_cases h1 : t.op = 3
  · obtain ⟨f, b, rfl, hf, hb⟩ := h.app h1
    by_cases h2 : f.op = 3
    · obtain ⟨g, a, rfl, hg, ha⟩ := hf.app h2
      by_cases h3 : g.op = 2
      · by_cases h4 : g.s = x
        · exact .inr (.inr (.inr (.inr ⟨g, a, b, rfl, h3, h4, ha, hb, by simp [pairOf, app, h3, h4]⟩)))
        · exact .inr (.inr (.inr (.inl ⟨g, a, b, rfl, h3, h4, by simp [pairOf, app, h4]⟩)))
      · exact .inr (.inr (.inl ⟨g, a, b, rfl, h3, by simp [pairOf, app, h3]⟩))
    · exact .inr (.inl ⟨f, b, rfl, h2, by simp [pairOf, app, h2]⟩)
  · refine .inl ⟨h1, ?_⟩
    unfold pairOf
    split
    · rw [if_neg (by simp [h1])]
    · rfl

theorem p112 (t : Ty) (x : ByteArray) (hg : Gd t) : PureC Try.prog 112 [t.av, .str x] (pairR x t) := by
  refine PureC.intro fun s => fun_sound mixed Try.func112 Try.call112 c112 rfl (awpFun_go _ _ _ _ ?_)
  rcases shapes_of hg x with ⟨h1, h2⟩ | ⟨f, b, rfl, h1, h2⟩ | ⟨g, a, b, rfl, h1, h2⟩ | ⟨g, a, b, rfl, h1, h3, h2⟩ | ⟨g, a, b, rfl, h1, h3, ha, hb, h2⟩ <;> rw [pairR, h2]
  · simp (implicitDefEqProofs := false) (maxSteps := 2000000) (disch := (first | omega | (simp only [St.new_nx, St.set_nx, St.del_nx, St.bump_nx]; done) | (simp only [St.new_nx, St.set_nx, St.del_nx, St.bump_nx]; omega) | fail)) [a112, a112b, a112r0, a112r1, a112r3, h1, nul, av_mk]
  · simp (implicitDefEqProofs := false) (maxSteps := 2000000) (disch := (first | omega | (simp only [St.new_nx, St.set_nx, St.del_nx, St.bump_nx]; done) | (simp only [St.new_nx, St.set_nx, St.del_nx, St.bump_nx]; omega) | fail)) [a112, a112b, a112r0, a112r1, a112r3, h1, nul, av_mk, app, get0, get1]
  · simp (implicitDefEqProofs := false) (maxSteps := 2000000) (disch := (first | omega | (simp only [St.new_nx, St.set_nx, St.del_nx, St.bump_nx]; done) | (simp only [St.new_nx, St.set_nx, St.del_nx, St.bump_nx]; omega) | fail)) [a112, a112b, a112r0, a112r1, a112r3, h1, nul, av_mk, app, get0, get1]
  · simp (implicitDefEqProofs := false) (maxSteps := 2000000) (disch := (first | omega | (simp only [St.new_nx, St.set_nx, St.del_nx, St.bump_nx]; done) | (simp only [St.new_nx, St.set_nx, St.del_nx, St.bump_nx]; omega) | fail)) [a112, a112b, a112r0, a112r1, a112r3, h1, h3, nul, av_mk, app, get0, get1]
  · simp (implicitDefEqProofs := false) (maxSteps := 2000000) (disch := (first | omega | (simp only [St.new_nx, St.set_nx, St.del_nx, St.bump_nx]; done) | (simp only [St.new_nx, St.set_nx, St.del_nx, St.bump_nx]; omega) | fail)) [a112, a112b, a112r0, a112r1, a112r2, h1, h3, nul, av_mk, app, get0, get1]

theorem p129 (t : Ty) (x : ByteArray) (hg : Gd t) : PureC Try.prog 129 [t.av, .str x] (pairR x t) := by
  refine PureC.intro fun s => fun_sound mixed Try.func129 Try.call129 c129 rfl (awpFun_go _ _ _ _ ?_)
  rcases shapes_of hg x with ⟨h1, h2⟩ | ⟨f, b, rfl, h1, h2⟩ | ⟨g, a, b, rfl, h1, h2⟩ | ⟨g, a, b, rfl, h1, h3, h2⟩ | ⟨g, a, b, rfl, h1, h3, ha, hb, h2⟩ <;> rw [pairR, h2]
  · simp (implicitDefEqProofs := false) (maxSteps := 2000000) (disch := (first | omega | (simp only [St.new_nx, St.set_nx, St.del_nx, St.bump_nx]; done) | (simp only [St.new_nx, St.set_nx, St.del_nx, St.bump_nx]; omega) | fail)) [a129, a129b, a129r0, a129r1, a129r2, h1, nul, av_mk]
  · simp (implicitDefEqProofs := false) (maxSteps := 2000000) (disch := (first | omega | (simp only [St.new_nx, St.set_nx, St.del_nx, St.bump_nx]; done) | (simp only [St.new_nx, St.set_nx, St.del_nx, St.bump_nx]; omega) | fail)) [a129, a129b, a129r0, a129r1, a129r2, h1, nul, av_mk, app, get0, get1]
  · simp (implicitDefEqProofs := false) (maxSteps := 2000000) (disch := (first | omega | (simp only [St.new_nx, St.set_nx, St.del_nx, St.bump_nx]; done) | (simp only [St.new_nx, St.set_nx, St.del_nx, St.bump_nx]; omega) | fail)) [a129, a129b, a129r0, a129r1, a129r3, a129r4, a129r5, h1, nul, av_mk, app, get0, get1]
  · simp (implicitDefEqProofs := false) (maxSteps := 2000000) (disch := (first | omega | (simp only [St.new_nx, St.set_nx, St.del_nx, St.bump_nx]; done) | (simp only [St.new_nx, St.set_nx, St.del_nx, St.bump_nx]; omega) | fail)) [a129, a129b, a129r0, a129r1, a129r3, a129r4, a129r5, h1, h3, nul, av_mk, app, get0, get1]
  · simp (implicitDefEqProofs := false) (maxSteps := 2000000) (disch := (first | omega | (simp only [St.new_nx, St.set_nx, St.del_nx, St.bump_nx]; done) | (simp only [St.new_nx, St.set_nx, St.del_nx, St.bump_nx]; omega) | fail)) [a129, a129b, a129r0, a129r1, a129r3, a129r4, a129r6, h1, h3, nul, av_mk, app, get0, get1]

def arr : ByteArray := ⟨#[45, 62]⟩
theorem p115 (t : Ty) (hg : Gd t) : PureC Try.prog 115 [t.av] (pairR arr t) := by
  refine PureC.intro fun s => fun_sound mixed Try.func115 Try.call115 c115 rfl (awpFun_go _ _ _ _ ?_)
  have h := p129 t arr hg
  rw [pairR] at h ⊢
  generalize pairOf arr t = po at h ⊢
  cases po with
  | none =>
    simp only at h ⊢
    simp (implicitDefEqProofs := false) (maxSteps := 2000000) (disch := (first | omega | (simp only [St.new_nx, St.set_nx, St.del_nx, St.bump_nx]; done) | (simp only [St.new_nx, St.set_nx, St.del_nx, St.bump_nx]; omega) | fail)) [a115, a115b, a115r0, a115r1]
    refine go_pure h fun mm1 hm1 => ?_
    try simp only [St.new_nx, St.bump_nx, St.set_nx, St.del_nx] at hm1
    simp (implicitDefEqProofs := false) (maxSteps := 2000000) (disch := (first | omega | (simp only [St.new_nx, St.set_nx, St.del_nx, St.bump_nx]; done) | (simp only [St.new_nx, St.set_nx, St.del_nx, St.bump_nx]; omega) | fail))
  | some x =>
    obtain ⟨a, b⟩ := x
    simp only at h ⊢
    simp (implicitDefEqProofs := false) (maxSteps := 2000000) (disch := (first | omega | (simp only [St.new_nx, St.set_nx, St.del_nx, St.bump_nx]; done) | (simp only [St.new_nx, St.set_nx, St.del_nx, St.bump_nx]; omega) | fail)) [a115, a115b, a115r0, a115r1]
    refine go_pure h fun mm2 hm2 => ?_
    try simp only [St.new_nx, St.bump_nx, St.set_nx, St.del_nx] at hm2
    simp (implicitDefEqProofs := false) (maxSteps := 2000000) (disch := (first | omega | (simp only [St.new_nx, St.set_nx, St.del_nx, St.bump_nx]; done) | (simp only [St.new_nx, St.set_nx, St.del_nx, St.bump_nx]; omega) | fail))
theorem p73 (t : Ty) (hg : Gd t) : PureC Try.prog 73 [t.av] (pairR arr t) := by
  refine PureC.intro fun s => fun_sound mixed Try.func73 Try.call73 c73 rfl (awpFun_go _ _ _ _ ?_)
  have h := p115 t hg
  rw [pairR] at h ⊢
  generalize pairOf arr t = po at h ⊢
  cases po with
  | none =>
    simp only at h ⊢
    simp (implicitDefEqProofs := false) (maxSteps := 2000000) (disch := (first | omega | (simp only [St.new_nx, St.set_nx, St.del_nx, St.bump_nx]; done) | (simp only [St.new_nx, St.set_nx, St.del_nx, St.bump_nx]; omega) | fail)) [a73, a73b, a73r0, a73r1]
    refine go_pure h fun mm3 hm3 => ?_
    try simp only [St.new_nx, St.bump_nx, St.set_nx, St.del_nx] at hm3
    simp (implicitDefEqProofs := false) (maxSteps := 2000000) (disch := (first | omega | (simp only [St.new_nx, St.set_nx, St.del_nx, St.bump_nx]; done) | (simp only [St.new_nx, St.set_nx, St.del_nx, St.bump_nx]; omega) | fail))
  | some x =>
    obtain ⟨a, b⟩ := x
    simp only at h ⊢
    simp (implicitDefEqProofs := false) (maxSteps := 2000000) (disch := (first | omega | (simp only [St.new_nx, St.set_nx, St.del_nx, St.bump_nx]; done) | (simp only [St.new_nx, St.set_nx, St.del_nx, St.bump_nx]; omega) | fail)) [a73, a73b, a73r0, a73r1]
    refine go_pure h fun mm4 hm4 => ?_
    try simp only [St.new_nx, St.bump_nx, St.set_nx, St.del_nx] at hm4
    simp (implicitDefEqProofs := false) (maxSteps := 2000000) (disch := (first | omega | (simp only [St.new_nx, St.set_nx, St.del_nx, St.bump_nx]; done) | (simp only [St.new_nx, St.set_nx, St.del_nx, St.bump_nx]; omega) | fail))
theorem p128 (x : ByteArray) : PureC Try.prog 128 [.str x] (con x).av := by
  refine PureC.intro fun s => fun_sound mixed Try.func128 Try.call128 c128 rfl (awpFun_go _ _ _ _ ?_)
  simp (implicitDefEqProofs := false) (maxSteps := 2000000) (disch := (first | omega | (simp only [St.new_nx, St.set_nx, St.del_nx, St.bump_nx]; done) | (simp only [St.new_nx, St.set_nx, St.del_nx, St.bump_nx]; omega) | fail)) [a128, a128b, a128r0, a128r1, con, av_mk]

/-- What is split off. -/
def splt : Nat → Ty → List Ty → List Ty × Ty
  | 0, t, acc => (acc, t)
  | n + 1, t, acc => match pairOf arr t with | some (a, b) => splt n b (acc ++ [a]) | none => (acc, t)
theorem pairOf_ht {x : ByteArray} {t a b : Ty} (hg : Gd t) (h : pairOf x t = some (a, b)) : Gd a ∧ Gd b ∧ ht b < ht t := by
  rcases shapes_of hg x with ⟨h1, h2⟩ | ⟨f, b', rfl, h1, h2⟩ | ⟨g, a', b', rfl, h1, h2⟩ | ⟨g, a', b', rfl, h1, h3, h2⟩ | ⟨g, a', b', rfl, h1, h3, ha, hb, h2⟩ <;> rw [h2] at h <;> cases h
  exact ⟨ha, hb, (ht_app _ _).2⟩
end Go.AL.Ty
