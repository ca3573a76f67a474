/-
  The functions of the program as the abstract machine reads them. Written by gen_fns.py out of Lean's own reckoning of 'compF'.
-/
import Derived.Test.YtmhbmnonichopaaXMA
import Derived.Test.YtmhbmnonichopaaProg
namespace Go.Ax
open Go.Proofs
def af3 : AFn := ⟨71, [(.tmp 4)], (.seq (.region [⟨(some 2), (.box (.tmp 0)), none⟩, ⟨(some 4), (.mv (.const (.bool false))), none⟩]) (.seq (.seq (.region [⟨(some 13), (.load (some 7) (.tmp 2)),
  none⟩, ⟨(some 14), (.call (.func 14) [(.tmp 13)]), none⟩, ⟨(some 15), (.mv (.tmp 14)), none⟩, ⟨(some 16), (.mv (.tmp 1)), (some (15, false))⟩, ⟨(some 17), (.len (.tmp 16)),
  (some (15, false))⟩, ⟨(some 18), (.bin .gtr (.tmp 17) (.const (.int .i64 40))), (some (15, false))⟩, ⟨(some 19), (.pick (.tmp 15) (.const (.bool true)) (.tmp 18)), none⟩])
  (.cond (.tmp 19) (.seq (.region [⟨(some 20), (.call (.func 15) []), none⟩, ⟨(some 4), (.mv (.tmp 20)), none⟩]) .ret) .skip)) (.seq (.region [⟨(some 22), (.load (some 7) (.tmp
  2)), none⟩, ⟨(some 23), (.call (.func 16) [(.tmp 22)]), none⟩, ⟨(some 21), (.mv (.tmp 23)), none⟩, ⟨(some 24), (.ext (.tmp 21) 0), none⟩, ⟨(some 25), (.ext (.tmp 21) 1), none⟩,
  ⟨(some 5), (.mv (.tmp 24)), none⟩, ⟨(some 6), (.mv (.tmp 25)), none⟩]) (.seq (.region [⟨(some 27), (.load (some 7) (.tmp 2)), none⟩, ⟨(some 28), (.call (.func 17) [(.tmp 27)]),
  none⟩, ⟨(some 26), (.mv (.tmp 28)), none⟩, ⟨(some 29), (.ext (.tmp 26) 0), none⟩, ⟨(some 30), (.ext (.tmp 26) 1), none⟩, ⟨(some 7), (.mv (.tmp 29)), none⟩, ⟨(some 8), (.mv (.tmp
  30)), none⟩]) (.seq (.region [⟨(some 32), (.load (some 7) (.tmp 2)), none⟩, ⟨(some 33), (.mv (.tmp 1)), none⟩, ⟨(some 34), (.call (.func 18) [(.tmp 32), (.tmp 33)]), none⟩,
  ⟨(some 31), (.mv (.tmp 34)), none⟩, ⟨(some 35), (.ext (.tmp 31) 0), none⟩, ⟨(some 36), (.ext (.tmp 31) 1), none⟩, ⟨(some 9), (.mv (.tmp 35)), none⟩, ⟨(some 10), (.mv (.tmp 36)),
  none⟩]) (.seq (.region [⟨(some 38), (.load (some 7) (.tmp 2)), none⟩, ⟨(some 39), (.mv (.tmp 1)), none⟩, ⟨(some 40), (.call (.func 19) [(.tmp 38), (.tmp 39)]), none⟩, ⟨(some 37),
   (.mv (.tmp 40)), none⟩, ⟨(some 41), (.ext (.tmp 37) 0), none⟩, ⟨(some 42), (.ext (.tmp 37) 1), none⟩, ⟨(some 11), (.mv (.tmp 41)), none⟩, ⟨(some 12), (.mv (.tmp 42)), none⟩])
  (.seq (.draw [⟨(some 43), (.load (some 7) (.tmp 2)), none⟩, ⟨(some 44), (.call (.func 20) [(.tmp 43)]), none⟩, ⟨(some 45), (.load (some 7) (.tmp 2)), none⟩, ⟨(some 46), (.call
  (.func 21) [(.tmp 45)]), none⟩, ⟨(some 47), (.bin .eql (.tmp 44) (.tmp 46)), none⟩, ⟨(some 48), (.mv (.tmp 47)), none⟩, ⟨(some 49), (.mv (.tmp 5)), (some (48, true))⟩, ⟨(some
  50), (.mv (.tmp 7)), (some (48, true))⟩, ⟨(some 51), (.call (.func 22) [(.tmp 49), (.tmp 50)]), (some (48, true))⟩, ⟨(some 52), (.pick (.tmp 48) (.tmp 51) (.const (.bool
  false))), none⟩, ⟨(some 53), (.mv (.tmp 52)), none⟩, ⟨(some 54), (.mv (.tmp 6)), (some (53, true))⟩, ⟨(some 55), (.mv (.tmp 8)), (some (53, true))⟩, ⟨(some 56), (.bin .eql (.tmp
  54) (.tmp 55)), (some (53, true))⟩, ⟨(some 57), (.pick (.tmp 53) (.tmp 56) (.const (.bool false))), none⟩, ⟨(some 58), (.mv (.tmp 57)), none⟩, ⟨(some 59), (.mv (.tmp 9)), (some
  (58, true))⟩, ⟨(some 60), (.mv (.tmp 11)), (some (58, true))⟩, ⟨(some 61), (.bin .eql (.tmp 59) (.tmp 60)), (some (58, true))⟩, ⟨(some 62), (.pick (.tmp 58) (.tmp 61) (.const
  (.bool false))), none⟩, ⟨(some 63), (.mv (.tmp 62)), none⟩, ⟨(some 64), (.mv (.tmp 10)), (some (63, true))⟩, ⟨(some 65), (.mv (.tmp 12)), (some (63, true))⟩, ⟨(some 66), (.bin
  .eql (.tmp 64) (.tmp 65)), (some (63, true))⟩, ⟨(some 67), (.pick (.tmp 63) (.tmp 66) (.const (.bool false))), none⟩, ⟨(some 68), (.mv (.tmp 67)), none⟩, ⟨(some 69), (.call
  (.func 15) []), (some (68, true))⟩, ⟨(some 70), (.pick (.tmp 68) (.tmp 69) (.const (.bool false))), none⟩, ⟨(some 4), (.mv (.tmp 70)), none⟩] [(1, 2)]) .ret)))))))⟩
def af4 : AFn := ⟨53, [(.tmp 8)], (.seq (.region [⟨(some 4), (.box (.tmp 0)), none⟩, ⟨(some 8), (.mv (.const (.bool false))), none⟩]) (.seq (.seq (.region [⟨(some 13), (.load (some 7) (.tmp 4)),
  none⟩, ⟨(some 14), (.call (.func 14) [(.tmp 13)]), none⟩, ⟨(some 15), (.mv (.tmp 14)), none⟩, ⟨(some 16), (.mv (.tmp 1)), (some (15, false))⟩, ⟨(some 17), (.len (.tmp 16)),
  (some (15, false))⟩, ⟨(some 18), (.bin .gtr (.tmp 17) (.const (.int .i64 40))), (some (15, false))⟩, ⟨(some 19), (.pick (.tmp 15) (.const (.bool true)) (.tmp 18)), none⟩, ⟨(some
  20), (.mv (.tmp 19)), none⟩, ⟨(some 21), (.mv (.tmp 3)), (some (20, false))⟩, ⟨(some 22), (.len (.tmp 21)), (some (20, false))⟩, ⟨(some 23), (.bin .gtr (.tmp 22) (.const (.int
  .i64 40))), (some (20, false))⟩, ⟨(some 24), (.pick (.tmp 20) (.const (.bool true)) (.tmp 23)), none⟩]) (.cond (.tmp 24) (.seq (.region [⟨(some 25), (.call (.func 15) []), none⟩,
   ⟨(some 8), (.mv (.tmp 25)), none⟩]) .ret) .skip)) (.seq (.region [⟨(some 27), (.load (some 7) (.tmp 4)), none⟩, ⟨(some 28), (.mv (.tmp 1)), none⟩, ⟨(some 29), (.mv (.tmp 2)),
  none⟩, ⟨(some 30), (.mv (.tmp 3)), none⟩, ⟨(some 31), (.call (.func 23) [(.tmp 27), (.tmp 28), (.tmp 29), (.tmp 30)]), none⟩, ⟨(some 26), (.mv (.tmp 31)), none⟩, ⟨(some 32),
  (.ext (.tmp 26) 0), none⟩, ⟨(some 33), (.ext (.tmp 26) 1), none⟩, ⟨(some 9), (.mv (.tmp 32)), none⟩, ⟨(some 10), (.mv (.tmp 33)), none⟩]) (.seq (.region [⟨(some 35), (.load
  (some 7) (.tmp 4)), none⟩, ⟨(some 36), (.mv (.tmp 1)), none⟩, ⟨(some 37), (.mv (.tmp 2)), none⟩, ⟨(some 38), (.mv (.tmp 3)), none⟩, ⟨(some 39), (.call (.func 24) [(.tmp 35),
  (.tmp 36), (.tmp 37), (.tmp 38)]), none⟩, ⟨(some 34), (.mv (.tmp 39)), none⟩, ⟨(some 40), (.ext (.tmp 34) 0), none⟩, ⟨(some 41), (.ext (.tmp 34) 1), none⟩, ⟨(some 11), (.mv
  (.tmp 40)), none⟩, ⟨(some 12), (.mv (.tmp 41)), none⟩]) (.seq (.region [⟨(some 42), (.mv (.tmp 9)), none⟩, ⟨(some 43), (.mv (.tmp 11)), none⟩, ⟨(some 44), (.call (.func 25)
  [(.tmp 42), (.tmp 43)]), none⟩, ⟨(some 45), (.mv (.tmp 44)), none⟩, ⟨(some 46), (.mv (.tmp 10)), (some (45, true))⟩, ⟨(some 47), (.mv (.tmp 12)), (some (45, true))⟩, ⟨(some 48),
  (.bin .eql (.tmp 46) (.tmp 47)), (some (45, true))⟩, ⟨(some 49), (.pick (.tmp 45) (.tmp 48) (.const (.bool false))), none⟩, ⟨(some 50), (.mv (.tmp 49)), none⟩, ⟨(some 51),
  (.call (.func 15) []), (some (50, true))⟩, ⟨(some 52), (.pick (.tmp 50) (.tmp 51) (.const (.bool false))), none⟩, ⟨(some 8), (.mv (.tmp 52)), none⟩]) .ret)))))⟩
def af5 : AFn := ⟨73, [(.tmp 2)], (.seq (.region [⟨(some 1), (.box (.tmp 0)), none⟩, ⟨(some 2), (.mv (.const (.bool false))), none⟩]) (.seq (.seq (.region [⟨(some 15), (.load (some 7) (.tmp 1)),
  none⟩, ⟨(some 16), (.call (.func 14) [(.tmp 15)]), none⟩]) (.cond (.tmp 16) (.seq (.region [⟨(some 17), (.call (.func 15) []), none⟩, ⟨(some 2), (.mv (.tmp 17)), none⟩]) .ret)
  .skip)) (.seq (.region [⟨(some 19), (.load (some 7) (.tmp 1)), none⟩, ⟨(some 20), (.call (.func 26) [(.tmp 19)]), none⟩, ⟨(some 18), (.mv (.tmp 20)), none⟩, ⟨(some 21), (.ext
  (.tmp 18) 0), none⟩, ⟨(some 22), (.ext (.tmp 18) 1), none⟩, ⟨(some 23), (.ext (.tmp 18) 2), none⟩, ⟨(some 3), (.mv (.tmp 21)), none⟩, ⟨(some 4), (.mv (.tmp 22)), none⟩, ⟨(some
  5), (.mv (.tmp 23)), none⟩]) (.seq (.region [⟨(some 25), (.load (some 7) (.tmp 1)), none⟩, ⟨(some 26), (.call (.func 27) [(.tmp 25)]), none⟩, ⟨(some 24), (.mv (.tmp 26)), none⟩,
  ⟨(some 27), (.ext (.tmp 24) 0), none⟩, ⟨(some 28), (.ext (.tmp 24) 1), none⟩, ⟨(some 29), (.ext (.tmp 24) 2), none⟩, ⟨(some 6), (.mv (.tmp 27)), none⟩, ⟨(some 7), (.mv (.tmp
  28)), none⟩, ⟨(some 8), (.mv (.tmp 29)), none⟩]) (.seq (.region [⟨(some 31), (.load (some 7) (.tmp 1)), none⟩, ⟨(some 32), (.call (.func 28) [(.tmp 31)]), none⟩, ⟨(some 30),
  (.mv (.tmp 32)), none⟩, ⟨(some 33), (.ext (.tmp 30) 0), none⟩, ⟨(some 34), (.ext (.tmp 30) 1), none⟩, ⟨(some 35), (.ext (.tmp 30) 2), none⟩, ⟨(some 9), (.mv (.tmp 33)), none⟩,
  ⟨(some 10), (.mv (.tmp 34)), none⟩, ⟨(some 11), (.mv (.tmp 35)), none⟩]) (.seq (.region [⟨(some 37), (.load (some 7) (.tmp 1)), none⟩, ⟨(some 38), (.call (.func 29) [(.tmp 37)]),
   none⟩, ⟨(some 36), (.mv (.tmp 38)), none⟩, ⟨(some 39), (.ext (.tmp 36) 0), none⟩, ⟨(some 40), (.ext (.tmp 36) 1), none⟩, ⟨(some 41), (.ext (.tmp 36) 2), none⟩, ⟨(some 12), (.mv
  (.tmp 39)), none⟩, ⟨(some 13), (.mv (.tmp 40)), none⟩, ⟨(some 14), (.mv (.tmp 41)), none⟩]) (.seq (.region [⟨(some 42), (.mv (.tmp 3)), none⟩, ⟨(some 43), (.mv (.tmp 6)), none⟩,
  ⟨(some 44), (.call (.func 30) [(.tmp 42), (.tmp 43)]), none⟩, ⟨(some 45), (.mv (.tmp 44)), none⟩, ⟨(some 46), (.mv (.tmp 4)), (some (45, true))⟩, ⟨(some 47), (.mv (.tmp 7)),
  (some (45, true))⟩, ⟨(some 48), (.bin .eql (.tmp 46) (.tmp 47)), (some (45, true))⟩, ⟨(some 49), (.pick (.tmp 45) (.tmp 48) (.const (.bool false))), none⟩, ⟨(some 50), (.mv
  (.tmp 49)), none⟩, ⟨(some 51), (.mv (.tmp 5)), (some (50, true))⟩, ⟨(some 52), (.mv (.tmp 8)), (some (50, true))⟩, ⟨(some 53), (.bin .eql (.tmp 51) (.tmp 52)), (some (50,
  true))⟩, ⟨(some 54), (.pick (.tmp 50) (.tmp 53) (.const (.bool false))), none⟩, ⟨(some 55), (.mv (.tmp 54)), none⟩, ⟨(some 56), (.mv (.tmp 9)), (some (55, true))⟩, ⟨(some 57),
  (.mv (.tmp 12)), (some (55, true))⟩, ⟨(some 58), (.bin .eql (.tmp 56) (.tmp 57)), (some (55, true))⟩, ⟨(some 59), (.pick (.tmp 55) (.tmp 58) (.const (.bool false))), none⟩,
  ⟨(some 60), (.mv (.tmp 59)), none⟩, ⟨(some 61), (.mv (.tmp 10)), (some (60, true))⟩, ⟨(some 62), (.mv (.tmp 13)), (some (60, true))⟩, ⟨(some 63), (.bin .eql (.tmp 61) (.tmp 62)),
   (some (60, true))⟩, ⟨(some 64), (.pick (.tmp 60) (.tmp 63) (.const (.bool false))), none⟩, ⟨(some 65), (.mv (.tmp 64)), none⟩, ⟨(some 66), (.mv (.tmp 11)), (some (65, true))⟩,
  ⟨(some 67), (.mv (.tmp 14)), (some (65, true))⟩, ⟨(some 68), (.bin .eql (.tmp 66) (.tmp 67)), (some (65, true))⟩, ⟨(some 69), (.pick (.tmp 65) (.tmp 68) (.const (.bool false))),
  none⟩, ⟨(some 70), (.mv (.tmp 69)), none⟩, ⟨(some 71), (.call (.func 15) []), (some (70, true))⟩, ⟨(some 72), (.pick (.tmp 70) (.tmp 71) (.const (.bool false))), none⟩, ⟨(some
  2), (.mv (.tmp 72)), none⟩]) .ret)))))))⟩
def af6 : AFn := ⟨82, [(.tmp 4)], (.seq (.region [⟨(some 2), (.box (.tmp 0)), none⟩, ⟨(some 4), (.mv (.const (.bool false))), none⟩]) (.seq (.seq (.region [⟨(some 16), (.load (some 7) (.tmp 2)),
  none⟩, ⟨(some 17), (.call (.func 14) [(.tmp 16)]), none⟩, ⟨(some 18), (.mv (.tmp 17)), none⟩, ⟨(some 19), (.mv (.tmp 1)), (some (18, false))⟩, ⟨(some 20), (.len (.tmp 19)),
  (some (18, false))⟩, ⟨(some 21), (.bin .gtr (.tmp 20) (.const (.int .i64 40))), (some (18, false))⟩, ⟨(some 22), (.pick (.tmp 18) (.const (.bool true)) (.tmp 21)), none⟩])
  (.cond (.tmp 22) (.seq (.region [⟨(some 23), (.call (.func 15) []), none⟩, ⟨(some 4), (.mv (.tmp 23)), none⟩]) .ret) .skip)) (.seq (.region [⟨(some 25), (.load (some 7) (.tmp
  2)), none⟩, ⟨(some 26), (.mv (.tmp 1)), none⟩, ⟨(some 27), (.call (.func 31) [(.tmp 25), (.tmp 26)]), none⟩, ⟨(some 24), (.mv (.tmp 27)), none⟩, ⟨(some 28), (.ext (.tmp 24) 0),
  none⟩, ⟨(some 29), (.ext (.tmp 24) 1), none⟩, ⟨(some 5), (.mv (.tmp 28)), none⟩, ⟨(some 6), (.mv (.tmp 29)), none⟩]) (.seq (.region [⟨(some 31), (.load (some 7) (.tmp 2)), none⟩,
   ⟨(some 32), (.mv (.tmp 1)), none⟩, ⟨(some 33), (.call (.func 32) [(.tmp 31), (.tmp 32)]), none⟩, ⟨(some 30), (.mv (.tmp 33)), none⟩, ⟨(some 34), (.ext (.tmp 30) 0), none⟩,
  ⟨(some 35), (.ext (.tmp 30) 1), none⟩, ⟨(some 7), (.mv (.tmp 34)), none⟩, ⟨(some 8), (.mv (.tmp 35)), none⟩]) (.seq (.seq (.region [⟨(some 36), (.mv (.tmp 5)), none⟩, ⟨(some 37),
   (.mv (.tmp 7)), none⟩, ⟨(some 38), (.bin .neq (.tmp 36) (.tmp 37)), none⟩, ⟨(some 39), (.mv (.tmp 38)), none⟩, ⟨(some 40), (.mv (.tmp 6)), (some (39, false))⟩, ⟨(some 41), (.mv
  (.tmp 8)), (some (39, false))⟩, ⟨(some 42), (.bin .neq (.tmp 40) (.tmp 41)), (some (39, false))⟩, ⟨(some 43), (.pick (.tmp 39) (.const (.bool true)) (.tmp 42)), none⟩]) (.cond
  (.tmp 43) (.seq (.region [⟨(some 4), (.mv (.const (.bool false))), none⟩]) .ret) .skip)) (.seq (.region [⟨(some 45), (.load (some 7) (.tmp 2)), none⟩, ⟨(some 46), (.call (.func
  33) [(.tmp 45)]), none⟩, ⟨(some 44), (.mv (.tmp 46)), none⟩, ⟨(some 47), (.ext (.tmp 44) 0), none⟩, ⟨(some 48), (.ext (.tmp 44) 1), none⟩, ⟨(some 9), (.mv (.tmp 47)), none⟩,
  ⟨(some 10), (.mv (.tmp 48)), none⟩]) (.seq (.region [⟨(some 50), (.load (some 7) (.tmp 2)), none⟩, ⟨(some 51), (.call (.func 27) [(.tmp 50)]), none⟩, ⟨(some 49), (.mv (.tmp 51)),
   none⟩, ⟨(some 52), (.ext (.tmp 49) 0), none⟩, ⟨(some 53), (.ext (.tmp 49) 1), none⟩, ⟨(some 54), (.ext (.tmp 49) 2), none⟩, ⟨(some 11), (.mv (.tmp 52)), none⟩, ⟨(some 12), (.mv
  (.tmp 53)), none⟩, ⟨(some 13), (.mv (.tmp 54)), none⟩]) (.seq (.seq (.region [⟨(some 55), (.mv (.tmp 10)), none⟩, ⟨(some 56), (.mv (.tmp 13)), none⟩, ⟨(some 57), (.bin .neq
  (.tmp 55) (.tmp 56)), none⟩]) (.cond (.tmp 57) (.seq (.region [⟨(some 4), (.mv (.const (.bool false))), none⟩]) .ret) .skip)) (.seq (.seq (.region [⟨(some 58), (.mv (.tmp 10)),
  none⟩, ⟨(some 59), (.bin .neq (.tmp 58) (.const (.int .i64 0))), none⟩]) (.cond (.tmp 59) (.seq (.region [⟨(some 60), (.mv (.tmp 9)), none⟩, ⟨(some 61), (.len (.tmp 60)), none⟩,
  ⟨(some 62), (.bin .eql (.tmp 61) (.const (.int .i64 0))), none⟩, ⟨(some 63), (.mv (.tmp 62)), none⟩, ⟨(some 64), (.call (.func 15) []), (some (63, true))⟩, ⟨(some 65), (.pick
  (.tmp 63) (.tmp 64) (.const (.bool false))), none⟩, ⟨(some 4), (.mv (.tmp 65)), none⟩]) .ret) .skip)) (.seq (.region [⟨(some 67), (.load (some 7) (.tmp 2)), none⟩, ⟨(some 68),
  (.mv (.tmp 9)), none⟩, ⟨(some 69), (.call (.func 32) [(.tmp 67), (.tmp 68)]), none⟩, ⟨(some 66), (.mv (.tmp 69)), none⟩, ⟨(some 70), (.ext (.tmp 66) 0), none⟩, ⟨(some 71), (.ext
  (.tmp 66) 1), none⟩, ⟨(some 14), (.mv (.tmp 70)), none⟩, ⟨(some 15), (.mv (.tmp 71)), none⟩]) (.seq (.region [⟨(some 72), (.mv (.tmp 15)), none⟩, ⟨(some 73), (.bin .eql (.tmp
  72) (.const (.int .i64 0))), none⟩, ⟨(some 74), (.mv (.tmp 73)), none⟩, ⟨(some 75), (.mv (.tmp 14)), (some (74, true))⟩, ⟨(some 76), (.mv (.tmp 12)), (some (74, true))⟩, ⟨(some
  77), (.bin .eql (.tmp 75) (.tmp 76)), (some (74, true))⟩, ⟨(some 78), (.pick (.tmp 74) (.tmp 77) (.const (.bool false))), none⟩, ⟨(some 79), (.mv (.tmp 78)), none⟩, ⟨(some 80),
  (.call (.func 15) []), (some (79, true))⟩, ⟨(some 81), (.pick (.tmp 79) (.tmp 80) (.const (.bool false))), none⟩, ⟨(some 4), (.mv (.tmp 81)), none⟩]) .ret)))))))))))⟩
def af7 : AFn := ⟨248, [(.tmp 8)], (.seq (.region [⟨(some 4), (.box (.tmp 0)), none⟩, ⟨(some 8), (.mv (.const (.bool false))), none⟩]) (.seq (.seq (.region [⟨(some 31), (.load (some 7) (.tmp 4)),
  none⟩, ⟨(some 32), (.call (.func 34) [(.tmp 31)]), none⟩, ⟨(some 33), (.un .not (.tmp 32)), none⟩, ⟨(some 34), (.mv (.tmp 33)), none⟩, ⟨(some 35), (.mv (.tmp 1)), (some (34,
  false))⟩, ⟨(some 36), (.len (.tmp 35)), (some (34, false))⟩, ⟨(some 37), (.bin .gtr (.tmp 36) (.const (.int .i64 40))), (some (34, false))⟩, ⟨(some 38), (.pick (.tmp 34) (.const
  (.bool true)) (.tmp 37)), none⟩, ⟨(some 39), (.mv (.tmp 38)), none⟩, ⟨(some 40), (.mv (.tmp 2)), (some (39, false))⟩, ⟨(some 41), (.len (.tmp 40)), (some (39, false))⟩, ⟨(some
  42), (.bin .gtr (.tmp 41) (.const (.int .i64 60))), (some (39, false))⟩, ⟨(some 43), (.pick (.tmp 39) (.const (.bool true)) (.tmp 42)), none⟩, ⟨(some 44), (.mv (.tmp 43)), none⟩,
   ⟨(some 45), (.mv (.tmp 3)), (some (44, false))⟩, ⟨(some 46), (.len (.tmp 45)), (some (44, false))⟩, ⟨(some 47), (.bin .gtr (.tmp 46) (.const (.int .i64 40))), (some (44,
  false))⟩, ⟨(some 48), (.pick (.tmp 44) (.const (.bool true)) (.tmp 47)), none⟩]) (.cond (.tmp 48) (.seq (.region [⟨(some 49), (.call (.func 15) []), none⟩, ⟨(some 8), (.mv (.tmp
  49)), none⟩]) .ret) .skip)) (.seq (.region [⟨(some 51), (.load (some 7) (.tmp 4)), none⟩, ⟨(some 52), (.call (.func 26) [(.tmp 51)]), none⟩, ⟨(some 50), (.mv (.tmp 52)), none⟩,
  ⟨(some 53), (.ext (.tmp 50) 0), none⟩, ⟨(some 54), (.ext (.tmp 50) 1), none⟩, ⟨(some 55), (.ext (.tmp 50) 2), none⟩, ⟨(some 9), (.mv (.tmp 53)), none⟩, ⟨(some 10), (.mv (.tmp
  54)), none⟩, ⟨(some 11), (.mv (.tmp 55)), none⟩]) (.seq (.region [⟨(some 56), (.load (some 7) (.tmp 4)), none⟩, ⟨(some 57), (.mv (.tmp 1)), none⟩, ⟨(some 58), (.call (.func 35)
  [(.tmp 56), (.tmp 57)]), none⟩, ⟨(some 59), (.mv (.tmp 3)), none⟩, ⟨(some 60), (.mv (.tmp 9)), none⟩, ⟨(some 61), (.bslice [(.slc none 0 0 true 0), (.slc none 0 0 true 0), (.slc
  none 0 0 true 0)] 3 1 [(0, (1, (.tmp 58))), (1, (1, (.tmp 59))), (2, (1, (.tmp 60)))]), none⟩, ⟨(some 12), (.mv (.tmp 61)), none⟩]) (.seq (.region [⟨(some 63), (.load (some 7)
  (.tmp 4)), none⟩, ⟨(some 64), (.mv (.tmp 2)), none⟩, ⟨(some 65), (.call (.func 36) [(.tmp 63), (.tmp 64)]), none⟩, ⟨(some 62), (.mv (.tmp 65)), none⟩, ⟨(some 66), (.ext (.tmp
  62) 0), none⟩, ⟨(some 67), (.ext (.tmp 62) 1), none⟩, ⟨(some 13), (.mv (.tmp 66)), none⟩, ⟨(some 14), (.mv (.tmp 67)), none⟩]) (.seq (.region [⟨(some 15), (.mv (.const (.slc
  none 0 0 true 0))), none⟩, ⟨(some 16), (.mv (.const (.slc none 0 0 true 0))), none⟩]) (.seq (.seq (.region [⟨(some 17), (.mv (.const (.int .i64 0))), none⟩]) (.block 0 (.loop
  (.seq (.seq (.region [⟨(some 68), (.mv (.tmp 17)), none⟩, ⟨(some 69), (.faddr 5 (.tmp 4)), none⟩, ⟨(some 70), (.load none (.tmp 69)), none⟩, ⟨(some 71), (.len (.tmp 70)), none⟩,
  ⟨(some 72), (.bin .lss (.tmp 68) (.tmp 71)), none⟩]) (.cond (.tmp 72) .skip (.exit 0))) (.seq (.block 1 (.draw [⟨(some 75), (.mv (.tmp 15)), none⟩, ⟨(some 76), (.faddr 5 (.tmp
  4)), none⟩, ⟨(some 77), (.load none (.tmp 76)), none⟩, ⟨(some 78), (.mv (.tmp 17)), none⟩, ⟨(some 79), (.iaddrS 2 (.tmp 77) (.tmp 78)), none⟩, ⟨(some 80), (.faddr 0 (.tmp 79)),
  none⟩, ⟨(some 81), (.load none (.tmp 80)), none⟩, ⟨(some 82), (.bslice [(.int .i64 0)] 1 1 [(0, (1, (.tmp 81)))]), none⟩, ⟨(some 83), (.app 1 8 (.tmp 75) (.tmp 82)), none⟩,
  ⟨(some 84), (.mv (.tmp 16)), none⟩, ⟨(some 85), (.faddr 5 (.tmp 4)), none⟩, ⟨(some 86), (.load none (.tmp 85)), none⟩, ⟨(some 87), (.mv (.tmp 17)), none⟩, ⟨(some 88), (.iaddrS 2
  (.tmp 86) (.tmp 87)), none⟩, ⟨(some 89), (.faddr 1 (.tmp 88)), none⟩, ⟨(some 90), (.load none (.tmp 89)), none⟩, ⟨(some 91), (.bslice [(.int .i64 0)] 1 1 [(0, (1, (.tmp 90)))]),
  none⟩, ⟨(some 92), (.app 1 8 (.tmp 84) (.tmp 91)), none⟩, ⟨(some 15), (.mv (.tmp 83)), none⟩, ⟨(some 16), (.mv (.tmp 92)), none⟩] [(7, 11), (8, 11), (7, 15), (8, 15), (2, 16),
  (6, 16), (7, 16), (8, 16)])) (.region [⟨(some 73), (.mv (.tmp 17)), none⟩, ⟨(some 74), (.bin .add (.tmp 73) (.const (.int .i64 1))), none⟩, ⟨(some 17), (.mv (.tmp 74)),
  none⟩])))))) (.seq (.seq (.region [⟨(some 93), (.mv (.tmp 11)), none⟩, ⟨(some 94), (.bin .eql (.tmp 93) (.const (.int .i64 0))), none⟩, ⟨(some 95), (.mv (.tmp 94)), none⟩,
  ⟨(some 96), (.load (some 7) (.tmp 4)), (some (95, true))⟩, ⟨(some 97), (.call (.func 21) [(.tmp 96)]), (some (95, true))⟩, ⟨(some 98), (.bin .eql (.tmp 97) (.const (.int .i64
  0))), (some (95, true))⟩, ⟨(some 99), (.pick (.tmp 95) (.tmp 98) (.const (.bool false))), none⟩]) (.cond (.tmp 99) (.seq (.region [⟨(some 101), (.load (some 7) (.tmp 4)), none⟩,
  ⟨(some 102), (.mv (.tmp 9)), none⟩, ⟨(some 103), (.call (.func 18) [(.tmp 101), (.tmp 102)]), none⟩, ⟨(some 100), (.mv (.tmp 103)), none⟩, ⟨(some 104), (.ext (.tmp 100) 0),
  none⟩, ⟨(some 105), (.ext (.tmp 100) 1), none⟩, ⟨(some 18), (.mv (.tmp 104)), none⟩, ⟨(some 19), (.mv (.tmp 105)), none⟩]) (.seq (.region [⟨(some 106), (.mv (.tmp 19)), none⟩,
  ⟨(some 107), (.bin .neq (.tmp 106) (.const (.int .i64 0))), none⟩]) (.cond (.tmp 107) (.seq (.region [⟨(some 8), (.mv (.const (.bool false))), none⟩]) .ret) .skip))) .skip))
  (.seq (.seq (.region [⟨(some 20), (.mv (.const (.int .i64 0))), none⟩]) (.block 2 (.loop (.seq (.seq (.region [⟨(some 108), (.mv (.tmp 20)), none⟩, ⟨(some 109), (.bin .lss (.tmp
  108) (.const (.int .i64 3))), none⟩]) (.cond (.tmp 109) .skip (.exit 2))) (.seq (.block 3 (.seq (.draw [⟨(some 113), (.load (some 7) (.tmp 4)), none⟩, ⟨(some 114), (.mv (.tmp
  12)), none⟩, ⟨(some 115), (.mv (.tmp 20)), none⟩, ⟨(some 116), (.iaddrS 1 (.tmp 114) (.tmp 115)), none⟩, ⟨(some 117), (.load none (.tmp 116)), none⟩, ⟨(some 118), (.call (.func
  18) [(.tmp 113), (.tmp 117)]), none⟩, ⟨(some 112), (.mv (.tmp 118)), none⟩, ⟨(some 119), (.ext (.tmp 112) 0), none⟩, ⟨(some 120), (.ext (.tmp 112) 1), none⟩, ⟨(some 21), (.mv
  (.tmp 119)), none⟩, ⟨(some 22), (.mv (.tmp 120)), none⟩] []) (.seq (.seq (.region [⟨(some 121), (.mv (.tmp 22)), none⟩, ⟨(some 122), (.bin .eql (.tmp 121) (.const (.int .i64
  0))), none⟩]) (.cond (.tmp 122) (.seq (.draw [⟨(some 124), (.load (some 7) (.tmp 4)), none⟩, ⟨(some 125), (.mv (.tmp 12)), none⟩, ⟨(some 126), (.mv (.tmp 20)), none⟩, ⟨(some
  127), (.iaddrS 1 (.tmp 125) (.tmp 126)), none⟩, ⟨(some 128), (.load none (.tmp 127)), none⟩, ⟨(some 129), (.mv (.tmp 13)), none⟩, ⟨(some 130), (.mv (.tmp 14)), none⟩, ⟨(some
  131), (.call (.func 23) [(.tmp 124), (.tmp 128), (.tmp 129), (.tmp 130)]), none⟩, ⟨(some 123), (.mv (.tmp 131)), none⟩, ⟨(some 132), (.ext (.tmp 123) 0), none⟩, ⟨(some 133),
  (.ext (.tmp 123) 1), none⟩, ⟨(some 23), (.mv (.tmp 132)), none⟩, ⟨(some 24), (.mv (.tmp 133)), none⟩] []) (.seq (.seq (.region [⟨(some 134), (.mv (.tmp 24)), none⟩, ⟨(some 135),
  (.bin .neq (.tmp 134) (.const (.int .i64 0))), none⟩, ⟨(some 136), (.mv (.tmp 135)), none⟩, ⟨(some 137), (.mv (.tmp 23)), (some (136, false))⟩, ⟨(some 138), (.len (.tmp 137)),
  (some (136, false))⟩, ⟨(some 139), (.faddr 5 (.tmp 4)), (some (136, false))⟩, ⟨(some 140), (.load none (.tmp 139)), (some (136, false))⟩, ⟨(some 141), (.len (.tmp 140)), (some
  (136, false))⟩, ⟨(some 142), (.bin .neq (.tmp 138) (.tmp 141)), (some (136, false))⟩, ⟨(some 143), (.pick (.tmp 136) (.const (.bool true)) (.tmp 142)), none⟩, ⟨(some 144), (.mv
  (.tmp 143)), none⟩, ⟨(some 145), (.mv (.tmp 12)), (some (144, false))⟩, ⟨(some 146), (.mv (.tmp 20)), (some (144, false))⟩, ⟨(some 147), (.iaddrS 1 (.tmp 145) (.tmp 146)), (some
  (144, false))⟩, ⟨(some 148), (.load none (.tmp 147)), (some (144, false))⟩, ⟨(some 149), (.len (.tmp 148)), (some (144, false))⟩, ⟨(some 150), (.mv (.tmp 23)), (some (144,
  false))⟩, ⟨(some 151), (.len (.tmp 150)), (some (144, false))⟩, ⟨(some 152), (.bin .neq (.tmp 149) (.tmp 151)), (some (144, false))⟩, ⟨(some 153), (.pick (.tmp 144) (.const
  (.bool true)) (.tmp 152)), none⟩]) (.cond (.tmp 153) (.seq (.region [⟨(some 8), (.mv (.const (.bool false))), none⟩]) .ret) .skip)) (.seq (.region [⟨(some 154), (.mv (.tmp 13)),
  none⟩, ⟨(some 25), (.mv (.tmp 154)), none⟩]) (.seq (.region [⟨(some 26), (.mv (.const (.int .i64 0))), none⟩]) (.block 4 (.loop (.seq (.seq (.region [⟨(some 155), (.mv (.tmp
  26)), none⟩, ⟨(some 156), (.mv (.tmp 23)), none⟩, ⟨(some 157), (.len (.tmp 156)), none⟩, ⟨(some 158), (.bin .lss (.tmp 155) (.tmp 157)), none⟩]) (.cond (.tmp 158) .skip (.exit
  4))) (.seq (.block 5 (.seq (.draw [⟨(some 161), (.mv (.tmp 25)), none⟩, ⟨(some 162), (.mv (.tmp 12)), none⟩, ⟨(some 163), (.mv (.tmp 20)), none⟩, ⟨(some 164), (.iaddrS 1 (.tmp
  162) (.tmp 163)), none⟩, ⟨(some 165), (.load none (.tmp 164)), none⟩, ⟨(some 166), (.mv (.tmp 26)), none⟩, ⟨(some 167), (.iaddrS 1 (.tmp 165) (.tmp 166)), none⟩, ⟨(some 168),
  (.load none (.tmp 167)), none⟩, ⟨(some 169), (.faddr 1 (.tmp 4)), none⟩, ⟨(some 170), (.load none (.tmp 169)), none⟩, ⟨(some 171), (.bin .mul (.tmp 168) (.tmp 170)), none⟩,
  ⟨(some 172), (.bin .add (.tmp 161) (.tmp 171)), none⟩, ⟨(some 25), (.mv (.tmp 172)), none⟩] []) (.seq (.seq (.draw [⟨(some 173), (.mv (.tmp 25)), none⟩, ⟨(some 174), (.faddr 0
  (.tmp 4)), none⟩, ⟨(some 175), (.load none (.tmp 174)), none⟩, ⟨(some 176), (.bin .gtr (.tmp 173) (.tmp 175)), none⟩, ⟨(some 177), (.mv (.tmp 176)), none⟩, ⟨(some 178), (.mv
  (.tmp 25)), (some (177, false))⟩, ⟨(some 179), (.mv (.tmp 14)), (some (177, false))⟩, ⟨(some 180), (.mv (.tmp 26)), (some (177, false))⟩, ⟨(some 181), (.iaddrS 1 (.tmp 179)
  (.tmp 180)), (some (177, false))⟩, ⟨(some 182), (.load none (.tmp 181)), (some (177, false))⟩, ⟨(some 183), (.bin .sub (.tmp 178) (.tmp 182)), (some (177, false))⟩, ⟨(some 184),
  (.mv (.tmp 23)), (some (177, false))⟩, ⟨(some 185), (.mv (.tmp 26)), (some (177, false))⟩, ⟨(some 186), (.iaddrS 1 (.tmp 184) (.tmp 185)), (some (177, false))⟩, ⟨(some 187),
  (.load none (.tmp 186)), (some (177, false))⟩, ⟨(some 188), (.bin .neq (.tmp 183) (.tmp 187)), (some (177, false))⟩, ⟨(some 189), (.pick (.tmp 177) (.const (.bool true)) (.tmp
  188)), none⟩, ⟨(some 190), (.mv (.tmp 189)), none⟩, ⟨(some 191), (.mv (.tmp 23)), (some (190, false))⟩, ⟨(some 192), (.mv (.tmp 26)), (some (190, false))⟩, ⟨(some 193), (.iaddrS
  1 (.tmp 191) (.tmp 192)), (some (190, false))⟩, ⟨(some 194), (.load none (.tmp 193)), (some (190, false))⟩, ⟨(some 195), (.bin .lss (.tmp 194) (.const (.int .i64 0))), (some
  (190, false))⟩, ⟨(some 196), (.pick (.tmp 190) (.const (.bool true)) (.tmp 195)), none⟩] []) (.cond (.tmp 196) (.seq (.region [⟨(some 8), (.mv (.const (.bool false))), none⟩])
  .ret) .skip)) (.region [⟨(some 197), (.mv (.tmp 23)), none⟩, ⟨(some 198), (.mv (.tmp 26)), none⟩, ⟨(some 199), (.iaddrS 1 (.tmp 197) (.tmp 198)), none⟩, ⟨(some 200), (.load none
  (.tmp 199)), none⟩, ⟨(some 25), (.mv (.tmp 200)), none⟩])))) (.region [⟨(some 159), (.mv (.tmp 26)), none⟩, ⟨(some 160), (.bin .add (.tmp 159) (.const (.int .i64 1))), none⟩,
  ⟨(some 26), (.mv (.tmp 160)), none⟩]))))))))) .skip)) (.seq (.region [⟨(some 201), (.mv (.tmp 22)), none⟩, ⟨(some 202), (.bin .eql (.tmp 201) (.const (.int .i64 10))), none⟩,
  ⟨(some 203), (.mv (.tmp 202)), none⟩, ⟨(some 204), (.mv (.tmp 22)), (some (203, false))⟩, ⟨(some 205), (.bin .eql (.tmp 204) (.const (.int .i64 20))), (some (203, false))⟩,
  ⟨(some 206), (.pick (.tmp 203) (.const (.bool true)) (.tmp 205)), none⟩]) (.cond (.tmp 206) (.seq (.draw [⟨(some 208), (.load (some 7) (.tmp 4)), none⟩, ⟨(some 209), (.mv (.tmp
  12)), none⟩, ⟨(some 210), (.mv (.tmp 20)), none⟩, ⟨(some 211), (.iaddrS 1 (.tmp 209) (.tmp 210)), none⟩, ⟨(some 212), (.load none (.tmp 211)), none⟩, ⟨(some 213), (.faddr 3
  (.tmp 4)), none⟩, ⟨(some 214), (.faddr 1 (.tmp 213)), none⟩, ⟨(some 215), (.load none (.tmp 214)), none⟩, ⟨(some 216), (.mv (.tmp 15)), none⟩, ⟨(some 217), (.call (.func 23)
  [(.tmp 208), (.tmp 212), (.tmp 215), (.tmp 216)]), none⟩, ⟨(some 207), (.mv (.tmp 217)), none⟩, ⟨(some 218), (.ext (.tmp 207) 0), none⟩, ⟨(some 219), (.ext (.tmp 207) 1), none⟩,
  ⟨(some 27), (.mv (.tmp 218)), none⟩, ⟨(some 28), (.mv (.tmp 219)), none⟩] []) (.seq (.draw [⟨(some 221), (.load (some 7) (.tmp 4)), none⟩, ⟨(some 222), (.mv (.tmp 12)), none⟩,
  ⟨(some 223), (.mv (.tmp 20)), none⟩, ⟨(some 224), (.iaddrS 1 (.tmp 222) (.tmp 223)), none⟩, ⟨(some 225), (.load none (.tmp 224)), none⟩, ⟨(some 226), (.faddr 3 (.tmp 4)), none⟩,
  ⟨(some 227), (.faddr 0 (.tmp 226)), none⟩, ⟨(some 228), (.load none (.tmp 227)), none⟩, ⟨(some 229), (.mv (.tmp 16)), none⟩, ⟨(some 230), (.call (.func 23) [(.tmp 221), (.tmp
  225), (.tmp 228), (.tmp 229)]), none⟩, ⟨(some 220), (.mv (.tmp 230)), none⟩, ⟨(some 231), (.ext (.tmp 220) 0), none⟩, ⟨(some 232), (.ext (.tmp 220) 1), none⟩, ⟨(some 29), (.mv
  (.tmp 231)), none⟩, ⟨(some 30), (.mv (.tmp 232)), none⟩] []) (.seq (.region [⟨(some 233), (.mv (.tmp 22)), none⟩, ⟨(some 234), (.bin .eql (.tmp 233) (.const (.int .i64 10))),
  none⟩, ⟨(some 235), (.mv (.tmp 234)), none⟩, ⟨(some 236), (.mv (.tmp 28)), (some (235, true))⟩, ⟨(some 237), (.bin .neq (.tmp 236) (.const (.int .i64 10))), (some (235, true))⟩,
  ⟨(some 238), (.pick (.tmp 235) (.tmp 237) (.const (.bool false))), none⟩, ⟨(some 239), (.mv (.tmp 238)), none⟩, ⟨(some 240), (.mv (.tmp 22)), (some (239, false))⟩, ⟨(some 241),
  (.bin .eql (.tmp 240) (.const (.int .i64 20))), (some (239, false))⟩, ⟨(some 242), (.mv (.tmp 241)), (some (239, false))⟩, ⟨(some 243), (.mv (.tmp 30)), (some (242, true))⟩,
  ⟨(some 244), (.bin .neq (.tmp 243) (.const (.int .i64 20))), (some (242, true))⟩, ⟨(some 245), (.pick (.tmp 242) (.tmp 244) (.const (.bool false))), (some (239, false))⟩, ⟨(some
  246), (.pick (.tmp 239) (.const (.bool true)) (.tmp 245)), none⟩]) (.cond (.tmp 246) (.seq (.region [⟨(some 8), (.mv (.const (.bool false))), none⟩]) .ret) .skip)))) .skip)))))
  (.region [⟨(some 110), (.mv (.tmp 20)), none⟩, ⟨(some 111), (.bin .add (.tmp 110) (.const (.int .i64 1))), none⟩, ⟨(some 20), (.mv (.tmp 111)), none⟩])))))) (.seq (.region
  [⟨(some 247), (.call (.func 15) []), none⟩, ⟨(some 8), (.mv (.tmp 247)), none⟩]) .ret))))))))))⟩
def af8 : AFn := ⟨201, [(.tmp 8)], (.seq (.region [⟨(some 4), (.box (.tmp 0)), none⟩, ⟨(some 8), (.mv (.const (.bool false))), none⟩]) (.seq (.seq (.region [⟨(some 29), (.load (some 7) (.tmp 4)),
  none⟩, ⟨(some 30), (.call (.func 34) [(.tmp 29)]), none⟩, ⟨(some 31), (.un .not (.tmp 30)), none⟩, ⟨(some 32), (.mv (.tmp 31)), none⟩, ⟨(some 33), (.mv (.tmp 1)), (some (32,
  false))⟩, ⟨(some 34), (.len (.tmp 33)), (some (32, false))⟩, ⟨(some 35), (.bin .gtr (.tmp 34) (.const (.int .i64 40))), (some (32, false))⟩, ⟨(some 36), (.pick (.tmp 32) (.const
  (.bool true)) (.tmp 35)), none⟩, ⟨(some 37), (.mv (.tmp 36)), none⟩, ⟨(some 38), (.mv (.tmp 2)), (some (37, false))⟩, ⟨(some 39), (.len (.tmp 38)), (some (37, false))⟩, ⟨(some
  40), (.bin .gtr (.tmp 39) (.const (.int .i64 40))), (some (37, false))⟩, ⟨(some 41), (.pick (.tmp 37) (.const (.bool true)) (.tmp 40)), none⟩, ⟨(some 42), (.mv (.tmp 41)), none⟩,
   ⟨(some 43), (.mv (.tmp 3)), (some (42, false))⟩, ⟨(some 44), (.len (.tmp 43)), (some (42, false))⟩, ⟨(some 45), (.bin .gtr (.tmp 44) (.const (.int .i64 60))), (some (42,
  false))⟩, ⟨(some 46), (.pick (.tmp 42) (.const (.bool true)) (.tmp 45)), none⟩]) (.cond (.tmp 46) (.seq (.region [⟨(some 47), (.call (.func 15) []), none⟩, ⟨(some 8), (.mv (.tmp
  47)), none⟩]) .ret) .skip)) (.seq (.region [⟨(some 9), (.mv (.const (.slc none 0 0 true 0))), none⟩]) (.seq (.seq (.region [⟨(some 10), (.mv (.const (.int .i64 0))), none⟩])
  (.block 0 (.loop (.seq (.seq (.region [⟨(some 48), (.mv (.tmp 10)), none⟩, ⟨(some 49), (.faddr 5 (.tmp 4)), none⟩, ⟨(some 50), (.load none (.tmp 49)), none⟩, ⟨(some 51), (.len
  (.tmp 50)), none⟩, ⟨(some 52), (.bin .lss (.tmp 48) (.tmp 51)), none⟩]) (.cond (.tmp 52) .skip (.exit 0))) (.seq (.block 1 (.seq (.region [⟨(some 11), (.mv (.const (.int .i64
  0))), none⟩]) (.seq (.seq (.region [⟨(some 55), (.mv (.tmp 3)), none⟩, ⟨(some 56), (.len (.tmp 55)), none⟩, ⟨(some 57), (.bin .gtr (.tmp 56) (.const (.int .i64 0))), none⟩])
  (.cond (.tmp 57) (.region [⟨(some 58), (.mv (.tmp 3)), none⟩, ⟨(some 59), (.mv (.tmp 10)), none⟩, ⟨(some 60), (.mv (.tmp 3)), none⟩, ⟨(some 61), (.len (.tmp 60)), none⟩, ⟨(some
  62), (.bin .rem (.tmp 59) (.tmp 61)), none⟩, ⟨(some 63), (.iaddrS 1 (.tmp 58) (.tmp 62)), none⟩, ⟨(some 64), (.load none (.tmp 63)), none⟩, ⟨(some 65), (.conv .i64 (.tmp 64)),
  none⟩, ⟨(some 66), (.bin .rem (.tmp 65) (.const (.int .i64 100001))), none⟩, ⟨(some 11), (.mv (.tmp 66)), none⟩]) .skip)) (.region [⟨(some 67), (.mv (.tmp 9)), none⟩, ⟨(some 68),
   (.mv (.tmp 11)), none⟩, ⟨(some 69), (.bslice [(.int .i64 0)] 1 1 [(0, (1, (.tmp 68)))]), none⟩, ⟨(some 70), (.app 1 8 (.tmp 67) (.tmp 69)), none⟩, ⟨(some 9), (.mv (.tmp 70)),
  none⟩])))) (.region [⟨(some 53), (.mv (.tmp 10)), none⟩, ⟨(some 54), (.bin .add (.tmp 53) (.const (.int .i64 1))), none⟩, ⟨(some 10), (.mv (.tmp 54)), none⟩])))))) (.seq
  (.region [⟨(some 72), (.load (some 7) (.tmp 4)), none⟩, ⟨(some 73), (.mv (.tmp 9)), none⟩, ⟨(some 74), (.call (.func 31) [(.tmp 72), (.tmp 73)]), none⟩, ⟨(some 71), (.mv (.tmp
  74)), none⟩, ⟨(some 75), (.ext (.tmp 71) 0), none⟩, ⟨(some 76), (.ext (.tmp 71) 1), none⟩, ⟨(some 12), (.mv (.tmp 75)), none⟩, ⟨(some 13), (.mv (.tmp 76)), none⟩]) (.seq
  (.region [⟨(some 78), (.load (some 7) (.tmp 4)), none⟩, ⟨(some 79), (.call (.func 26) [(.tmp 78)]), none⟩, ⟨(some 77), (.mv (.tmp 79)), none⟩, ⟨(some 80), (.ext (.tmp 77) 0),
  none⟩, ⟨(some 81), (.ext (.tmp 77) 1), none⟩, ⟨(some 82), (.ext (.tmp 77) 2), none⟩, ⟨(some 14), (.mv (.tmp 80)), none⟩, ⟨(some 15), (.mv (.tmp 81)), none⟩, ⟨(some 16), (.mv
  (.tmp 82)), none⟩]) (.seq (.seq (.region [⟨(some 83), (.mv (.tmp 13)), none⟩, ⟨(some 84), (.bin .neq (.tmp 83) (.const (.int .i64 0))), none⟩, ⟨(some 85), (.mv (.tmp 84)), none⟩,
   ⟨(some 86), (.mv (.tmp 16)), (some (85, false))⟩, ⟨(some 87), (.bin .neq (.tmp 86) (.const (.int .i64 0))), (some (85, false))⟩, ⟨(some 88), (.mv (.tmp 87)), (some (85,
  false))⟩, ⟨(some 89), (.mv (.tmp 16)), (some (88, true))⟩, ⟨(some 90), (.bin .neq (.tmp 89) (.const (.int .i64 13))), (some (88, true))⟩, ⟨(some 91), (.pick (.tmp 88) (.tmp 90)
  (.const (.bool false))), (some (85, false))⟩, ⟨(some 92), (.pick (.tmp 85) (.const (.bool true)) (.tmp 91)), none⟩]) (.cond (.tmp 92) (.seq (.region [⟨(some 8), (.mv (.const
  (.bool false))), none⟩]) .ret) .skip)) (.seq (.region [⟨(some 93), (.load (some 7) (.tmp 4)), none⟩, ⟨(some 94), (.mv (.tmp 1)), none⟩, ⟨(some 95), (.call (.func 35) [(.tmp 93),
  (.tmp 94)]), none⟩, ⟨(some 96), (.mv (.tmp 2)), none⟩, ⟨(some 97), (.bslice [(.slc none 0 0 true 0), (.slc none 0 0 true 0)] 2 1 [(0, (1, (.tmp 95))), (1, (1, (.tmp 96)))]),
  none⟩, ⟨(some 17), (.mv (.tmp 97)), none⟩]) (.seq (.seq (.region [⟨(some 18), (.mv (.const (.int .i64 0))), none⟩]) (.block 2 (.loop (.seq (.seq (.region [⟨(some 98), (.mv (.tmp
  18)), none⟩, ⟨(some 99), (.bin .lss (.tmp 98) (.const (.int .i64 2))), none⟩]) (.cond (.tmp 99) .skip (.exit 2))) (.seq (.block 3 (.seq (.draw [⟨(some 103), (.load (some 7)
  (.tmp 4)), none⟩, ⟨(some 104), (.mv (.tmp 17)), none⟩, ⟨(some 105), (.mv (.tmp 18)), none⟩, ⟨(some 106), (.iaddrS 1 (.tmp 104) (.tmp 105)), none⟩, ⟨(some 107), (.load none (.tmp
  106)), none⟩, ⟨(some 108), (.call (.func 18) [(.tmp 103), (.tmp 107)]), none⟩, ⟨(some 102), (.mv (.tmp 108)), none⟩, ⟨(some 109), (.ext (.tmp 102) 0), none⟩, ⟨(some 110), (.ext
  (.tmp 102) 1), none⟩, ⟨(some 19), (.mv (.tmp 109)), none⟩, ⟨(some 20), (.mv (.tmp 110)), none⟩] []) (.seq (.seq (.region [⟨(some 111), (.mv (.tmp 20)), none⟩, ⟨(some 112), (.bin
  .neq (.tmp 111) (.const (.int .i64 0))), none⟩]) (.cond (.tmp 112) (.exit 3) .skip)) (.seq (.region [⟨(some 113), (.mv (.tmp 16)), none⟩, ⟨(some 114), (.bin .neq (.tmp 113)
  (.const (.int .i64 0))), none⟩, ⟨(some 115), (.mv (.tmp 114)), none⟩, ⟨(some 116), (.mv (.tmp 19)), (some (115, false))⟩, ⟨(some 117), (.mv (.tmp 12)), (some (115, false))⟩,
  ⟨(some 118), (.bin .lss (.tmp 116) (.tmp 117)), (some (115, false))⟩, ⟨(some 119), (.pick (.tmp 115) (.const (.bool true)) (.tmp 118)), none⟩, ⟨(some 120), (.mv (.tmp 119)),
  none⟩, ⟨(some 121), (.mv (.tmp 19)), (some (120, false))⟩, ⟨(some 122), (.mv (.tmp 15)), (some (120, false))⟩, ⟨(some 123), (.bin .lss (.tmp 121) (.tmp 122)), (some (120,
  false))⟩, ⟨(some 124), (.pick (.tmp 120) (.const (.bool true)) (.tmp 123)), none⟩, ⟨(some 125), (.mv (.tmp 124)), none⟩, ⟨(some 126), (.mv (.tmp 19)), (some (125, false))⟩,
  ⟨(some 127), (.mv (.tmp 15)), (some (125, false))⟩, ⟨(some 128), (.bin .eql (.tmp 126) (.tmp 127)), (some (125, false))⟩, ⟨(some 129), (.mv (.tmp 128)), (some (125, false))⟩,
  ⟨(some 130), (.mv (.tmp 17)), (some (129, true))⟩, ⟨(some 131), (.mv (.tmp 18)), (some (129, true))⟩, ⟨(some 132), (.iaddrS 1 (.tmp 130) (.tmp 131)), (some (129, true))⟩, ⟨(some
  133), (.load none (.tmp 132)), (some (129, true))⟩, ⟨(some 134), (.mv (.tmp 14)), (some (129, true))⟩, ⟨(some 135), (.call (.func 37) [(.tmp 133), (.tmp 134)]), (some (129,
  true))⟩, ⟨(some 136), (.pick (.tmp 129) (.tmp 135) (.const (.bool false))), (some (125, false))⟩, ⟨(some 137), (.pick (.tmp 125) (.const (.bool true)) (.tmp 136)), none⟩])
  (.cond (.tmp 137) (.seq (.region [⟨(some 8), (.mv (.const (.bool false))), none⟩]) .ret) .skip))))) (.region [⟨(some 100), (.mv (.tmp 18)), none⟩, ⟨(some 101), (.bin .add (.tmp
  100) (.const (.int .i64 1))), none⟩, ⟨(some 18), (.mv (.tmp 101)), none⟩])))))) (.seq (.seq (.region [⟨(some 138), (.mv (.tmp 16)), none⟩, ⟨(some 139), (.bin .neq (.tmp 138)
  (.const (.int .i64 0))), none⟩]) (.cond (.tmp 139) (.seq (.region [⟨(some 140), (.call (.func 15) []), none⟩, ⟨(some 8), (.mv (.tmp 140)), none⟩]) .ret) .skip)) (.seq (.region
  [⟨(some 142), (.load (some 7) (.tmp 4)), none⟩, ⟨(some 143), (.call (.func 33) [(.tmp 142)]), none⟩, ⟨(some 141), (.mv (.tmp 143)), none⟩, ⟨(some 144), (.ext (.tmp 141) 0),
  none⟩, ⟨(some 145), (.ext (.tmp 141) 1), none⟩, ⟨(some 21), (.mv (.tmp 144)), none⟩, ⟨(some 22), (.mv (.tmp 145)), none⟩]) (.seq (.region [⟨(some 147), (.load (some 7) (.tmp 4)),
   none⟩, ⟨(some 148), (.mv (.tmp 21)), none⟩, ⟨(some 149), (.call (.func 31) [(.tmp 147), (.tmp 148)]), none⟩, ⟨(some 146), (.mv (.tmp 149)), none⟩, ⟨(some 150), (.ext (.tmp 146)
  0), none⟩, ⟨(some 151), (.ext (.tmp 146) 1), none⟩, ⟨(some 23), (.mv (.tmp 150)), none⟩, ⟨(some 24), (.mv (.tmp 151)), none⟩]) (.seq (.region [⟨(some 153), (.load (some 7) (.tmp
  4)), none⟩, ⟨(some 154), (.mv (.tmp 21)), none⟩, ⟨(some 155), (.call (.func 32) [(.tmp 153), (.tmp 154)]), none⟩, ⟨(some 152), (.mv (.tmp 155)), none⟩, ⟨(some 156), (.ext (.tmp
  152) 0), none⟩, ⟨(some 157), (.ext (.tmp 152) 1), none⟩, ⟨(some 25), (.mv (.tmp 156)), none⟩, ⟨(some 26), (.mv (.tmp 157)), none⟩]) (.seq (.region [⟨(some 159), (.load (some 7)
  (.tmp 4)), none⟩, ⟨(some 160), (.mv (.tmp 14)), none⟩, ⟨(some 161), (.call (.func 19) [(.tmp 159), (.tmp 160)]), none⟩, ⟨(some 158), (.mv (.tmp 161)), none⟩, ⟨(some 162), (.ext
  (.tmp 158) 0), none⟩, ⟨(some 163), (.ext (.tmp 158) 1), none⟩, ⟨(some 27), (.mv (.tmp 162)), none⟩, ⟨(some 28), (.mv (.tmp 163)), none⟩]) (.seq (.region [⟨(some 164), (.mv (.tmp
  22)), none⟩, ⟨(some 165), (.bin .eql (.tmp 164) (.const (.int .i64 0))), none⟩, ⟨(some 166), (.mv (.tmp 165)), none⟩, ⟨(some 167), (.mv (.tmp 24)), (some (166, true))⟩, ⟨(some
  168), (.bin .eql (.tmp 167) (.const (.int .i64 0))), (some (166, true))⟩, ⟨(some 169), (.pick (.tmp 166) (.tmp 168) (.const (.bool false))), none⟩, ⟨(some 170), (.mv (.tmp 169)),
   none⟩, ⟨(some 171), (.mv (.tmp 26)), (some (170, true))⟩, ⟨(some 172), (.bin .eql (.tmp 171) (.const (.int .i64 0))), (some (170, true))⟩, ⟨(some 173), (.pick (.tmp 170) (.tmp
  172) (.const (.bool false))), none⟩, ⟨(some 174), (.mv (.tmp 173)), none⟩, ⟨(some 175), (.mv (.tmp 28)), (some (174, true))⟩, ⟨(some 176), (.bin .eql (.tmp 175) (.const (.int
  .i64 0))), (some (174, true))⟩, ⟨(some 177), (.pick (.tmp 174) (.tmp 176) (.const (.bool false))), none⟩, ⟨(some 178), (.mv (.tmp 177)), none⟩, ⟨(some 179), (.mv (.tmp 23)),
  (some (178, true))⟩, ⟨(some 180), (.mv (.tmp 15)), (some (178, true))⟩, ⟨(some 181), (.bin .eql (.tmp 179) (.tmp 180)), (some (178, true))⟩, ⟨(some 182), (.pick (.tmp 178) (.tmp
  181) (.const (.bool false))), none⟩, ⟨(some 183), (.mv (.tmp 182)), none⟩, ⟨(some 184), (.mv (.tmp 25)), (some (183, true))⟩, ⟨(some 185), (.mv (.tmp 15)), (some (183, true))⟩,
  ⟨(some 186), (.bin .eql (.tmp 184) (.tmp 185)), (some (183, true))⟩, ⟨(some 187), (.pick (.tmp 183) (.tmp 186) (.const (.bool false))), none⟩, ⟨(some 188), (.mv (.tmp 187)),
  none⟩, ⟨(some 189), (.mv (.tmp 27)), (some (188, true))⟩, ⟨(some 190), (.mv (.tmp 15)), (some (188, true))⟩, ⟨(some 191), (.bin .eql (.tmp 189) (.tmp 190)), (some (188, true))⟩,
  ⟨(some 192), (.pick (.tmp 188) (.tmp 191) (.const (.bool false))), none⟩, ⟨(some 193), (.mv (.tmp 192)), none⟩, ⟨(some 194), (.mv (.tmp 12)), (some (193, true))⟩, ⟨(some 195),
  (.mv (.tmp 15)), (some (193, true))⟩, ⟨(some 196), (.bin .leq (.tmp 194) (.tmp 195)), (some (193, true))⟩, ⟨(some 197), (.pick (.tmp 193) (.tmp 196) (.const (.bool false))),
  none⟩, ⟨(some 198), (.mv (.tmp 197)), none⟩, ⟨(some 199), (.call (.func 15) []), (some (198, true))⟩, ⟨(some 200), (.pick (.tmp 198) (.tmp 199) (.const (.bool false))), none⟩,
  ⟨(some 8), (.mv (.tmp 200)), none⟩]) .ret)))))))))))))))⟩
def af9 : AFn := ⟨117, [(.tmp 4)], (.seq (.region [⟨(some 2), (.box (.tmp 0)), none⟩, ⟨(some 4), (.mv (.const (.bool false))), none⟩]) (.seq (.seq (.region [⟨(some 16), (.load (some 7) (.tmp 2)),
  none⟩, ⟨(some 17), (.call (.func 34) [(.tmp 16)]), none⟩, ⟨(some 18), (.un .not (.tmp 17)), none⟩, ⟨(some 19), (.mv (.tmp 18)), none⟩, ⟨(some 20), (.mv (.tmp 1)), (some (19,
  false))⟩, ⟨(some 21), (.len (.tmp 20)), (some (19, false))⟩, ⟨(some 22), (.bin .gtr (.tmp 21) (.const (.int .i64 40))), (some (19, false))⟩, ⟨(some 23), (.pick (.tmp 19) (.const
  (.bool true)) (.tmp 22)), none⟩]) (.cond (.tmp 23) (.seq (.region [⟨(some 24), (.call (.func 15) []), none⟩, ⟨(some 4), (.mv (.tmp 24)), none⟩]) .ret) .skip)) (.seq (.region
  [⟨(some 26), (.load (some 7) (.tmp 2)), none⟩, ⟨(some 27), (.call (.func 28) [(.tmp 26)]), none⟩, ⟨(some 25), (.mv (.tmp 27)), none⟩, ⟨(some 28), (.ext (.tmp 25) 0), none⟩,
  ⟨(some 29), (.ext (.tmp 25) 1), none⟩, ⟨(some 30), (.ext (.tmp 25) 2), none⟩, ⟨(some 5), (.mv (.tmp 28)), none⟩, ⟨(some 6), (.mv (.tmp 29)), none⟩, ⟨(some 7), (.mv (.tmp 30)),
  none⟩]) (.seq (.region [⟨(some 32), (.load (some 7) (.tmp 2)), none⟩, ⟨(some 33), (.call (.func 26) [(.tmp 32)]), none⟩, ⟨(some 31), (.mv (.tmp 33)), none⟩, ⟨(some 34), (.ext
  (.tmp 31) 0), none⟩, ⟨(some 35), (.ext (.tmp 31) 1), none⟩, ⟨(some 36), (.ext (.tmp 31) 2), none⟩, ⟨(some 8), (.mv (.tmp 34)), none⟩, ⟨(some 9), (.mv (.tmp 35)), none⟩, ⟨(some
  10), (.mv (.tmp 36)), none⟩]) (.seq (.draw [⟨(some 38), (.load (some 7) (.tmp 2)), none⟩, ⟨(some 39), (.load (some 7) (.tmp 2)), none⟩, ⟨(some 40), (.mv (.tmp 1)), none⟩, ⟨(some
  41), (.call (.func 35) [(.tmp 39), (.tmp 40)]), none⟩, ⟨(some 42), (.call (.func 18) [(.tmp 38), (.tmp 41)]), none⟩, ⟨(some 37), (.mv (.tmp 42)), none⟩, ⟨(some 43), (.ext (.tmp
  37) 0), none⟩, ⟨(some 44), (.ext (.tmp 37) 1), none⟩, ⟨(some 11), (.mv (.tmp 43)), none⟩, ⟨(some 12), (.mv (.tmp 44)), none⟩] [(0, 3)]) (.seq (.region [⟨(some 46), (.load (some
  7) (.tmp 2)), none⟩, ⟨(some 47), (.call (.func 16) [(.tmp 46)]), none⟩, ⟨(some 45), (.mv (.tmp 47)), none⟩, ⟨(some 48), (.ext (.tmp 45) 0), none⟩, ⟨(some 49), (.ext (.tmp 45) 1),
   none⟩, ⟨(some 13), (.mv (.tmp 48)), none⟩, ⟨(some 14), (.mv (.tmp 49)), none⟩]) (.seq (.seq (.region [⟨(some 50), (.mv (.tmp 14)), none⟩, ⟨(some 51), (.bin .neq (.tmp 50)
  (.const (.int .i64 0))), none⟩, ⟨(some 52), (.mv (.tmp 51)), none⟩, ⟨(some 53), (.mv (.tmp 13)), (some (52, false))⟩, ⟨(some 54), (.len (.tmp 53)), (some (52, false))⟩, ⟨(some
  55), (.faddr 5 (.tmp 2)), (some (52, false))⟩, ⟨(some 56), (.load none (.tmp 55)), (some (52, false))⟩, ⟨(some 57), (.len (.tmp 56)), (some (52, false))⟩, ⟨(some 58), (.bin .neq
  (.tmp 54) (.tmp 57)), (some (52, false))⟩, ⟨(some 59), (.pick (.tmp 52) (.const (.bool true)) (.tmp 58)), none⟩]) (.cond (.tmp 59) (.seq (.region [⟨(some 4), (.mv (.const (.bool
  false))), none⟩]) .ret) .skip)) (.seq (.seq (.region [⟨(some 60), (.mv (.tmp 7)), none⟩, ⟨(some 61), (.bin .eql (.tmp 60) (.const (.int .i64 5))), none⟩]) (.cond (.tmp 61) (.seq
  (.region [⟨(some 62), (.mv (.tmp 10)), none⟩, ⟨(some 63), (.bin .eql (.tmp 62) (.const (.int .i64 0))), none⟩, ⟨(some 64), (.mv (.tmp 63)), none⟩, ⟨(some 65), (.call (.func 15)
  []), (some (64, true))⟩, ⟨(some 66), (.pick (.tmp 64) (.tmp 65) (.const (.bool false))), none⟩, ⟨(some 4), (.mv (.tmp 66)), none⟩]) .ret) .skip)) (.seq (.seq (.region [⟨(some
  67), (.mv (.tmp 7)), none⟩, ⟨(some 68), (.bin .neq (.tmp 67) (.const (.int .i64 0))), none⟩, ⟨(some 69), (.mv (.tmp 68)), none⟩, ⟨(some 70), (.mv (.tmp 10)), (some (69, false))⟩,
   ⟨(some 71), (.bin .neq (.tmp 70) (.const (.int .i64 13))), (some (69, false))⟩, ⟨(some 72), (.pick (.tmp 69) (.const (.bool true)) (.tmp 71)), none⟩, ⟨(some 73), (.mv (.tmp
  72)), none⟩, ⟨(some 74), (.mv (.tmp 12)), (some (73, false))⟩, ⟨(some 75), (.bin .eql (.tmp 74) (.const (.int .i64 0))), (some (73, false))⟩, ⟨(some 76), (.pick (.tmp 73)
  (.const (.bool true)) (.tmp 75)), none⟩, ⟨(some 77), (.mv (.tmp 76)), none⟩, ⟨(some 78), (.mv (.tmp 5)), (some (77, false))⟩, ⟨(some 79), (.bin .lss (.tmp 78) (.const (.int .i64
  (-1)))), (some (77, false))⟩, ⟨(some 80), (.pick (.tmp 77) (.const (.bool true)) (.tmp 79)), none⟩, ⟨(some 81), (.mv (.tmp 80)), none⟩, ⟨(some 82), (.mv (.tmp 6)), (some (81,
  false))⟩, ⟨(some 83), (.mv (.tmp 5)), (some (81, false))⟩, ⟨(some 84), (.mnx true [(.const (.int .i64 0)), (.tmp 83)]), (some (81, false))⟩, ⟨(some 85), (.bin .lss (.tmp 82)
  (.tmp 84)), (some (81, false))⟩, ⟨(some 86), (.pick (.tmp 81) (.const (.bool true)) (.tmp 85)), none⟩, ⟨(some 87), (.mv (.tmp 86)), none⟩, ⟨(some 88), (.mv (.tmp 6)), (some (87,
  false))⟩, ⟨(some 89), (.mv (.tmp 13)), (some (87, false))⟩, ⟨(some 90), (.len (.tmp 89)), (some (87, false))⟩, ⟨(some 91), (.bin .geq (.tmp 88) (.tmp 90)), (some (87, false))⟩,
  ⟨(some 92), (.pick (.tmp 87) (.const (.bool true)) (.tmp 91)), none⟩]) (.cond (.tmp 92) (.seq (.region [⟨(some 4), (.mv (.const (.bool false))), none⟩]) .ret) .skip)) (.seq
  (.region [⟨(some 15), (.mv (.const (.int .i64 0))), none⟩]) (.seq (.seq (.region [⟨(some 93), (.mv (.tmp 5)), none⟩, ⟨(some 94), (.bin .geq (.tmp 93) (.const (.int .i64 0))),
  none⟩]) (.cond (.tmp 94) (.region [⟨(some 95), (.mv (.tmp 13)), none⟩, ⟨(some 96), (.mv (.tmp 5)), none⟩, ⟨(some 97), (.iaddrS 2 (.tmp 95) (.tmp 96)), none⟩, ⟨(some 98), (.faddr
  1 (.tmp 97)), none⟩, ⟨(some 99), (.load none (.tmp 98)), none⟩, ⟨(some 15), (.mv (.tmp 99)), none⟩]) .skip)) (.seq (.draw [⟨(some 100), (.mv (.tmp 13)), none⟩, ⟨(some 101), (.mv
  (.tmp 6)), none⟩, ⟨(some 102), (.iaddrS 2 (.tmp 100) (.tmp 101)), none⟩, ⟨(some 103), (.faddr 0 (.tmp 102)), none⟩, ⟨(some 104), (.load none (.tmp 103)), none⟩, ⟨(some 105),
  (.mv (.tmp 15)), none⟩, ⟨(some 106), (.faddr 2 (.tmp 2)), none⟩, ⟨(some 107), (.load none (.tmp 106)), none⟩, ⟨(some 108), (.mv (.tmp 6)), none⟩, ⟨(some 109), (.mv (.tmp 5)),
  none⟩, ⟨(some 110), (.bin .sub (.tmp 108) (.tmp 109)), none⟩, ⟨(some 111), (.bin .mul (.tmp 107) (.tmp 110)), none⟩, ⟨(some 112), (.bin .add (.tmp 105) (.tmp 111)), none⟩,
  ⟨(some 113), (.bin .gtr (.tmp 104) (.tmp 112)), none⟩, ⟨(some 114), (.mv (.tmp 113)), none⟩, ⟨(some 115), (.call (.func 15) []), (some (114, true))⟩, ⟨(some 116), (.pick (.tmp
  114) (.tmp 115) (.const (.bool false))), none⟩, ⟨(some 4), (.mv (.tmp 116)), none⟩] []) .ret))))))))))))⟩
def af10 : AFn := ⟨164, [(.tmp 12)], (.seq (.region [⟨(some 6), (.box (.tmp 0)), none⟩, ⟨(some 7), (.box (.tmp 1)), none⟩, ⟨(some 12), (.mv (.const (.bool false))), none⟩]) (.seq (.seq (.region
  [⟨(some 31), (.load (some 7) (.tmp 6)), none⟩, ⟨(some 32), (.call (.func 34) [(.tmp 31)]), none⟩, ⟨(some 33), (.un .not (.tmp 32)), none⟩, ⟨(some 34), (.mv (.tmp 33)), none⟩,
  ⟨(some 35), (.mv (.tmp 5)), (some (34, false))⟩, ⟨(some 36), (.len (.tmp 35)), (some (34, false))⟩, ⟨(some 37), (.bin .gtr (.tmp 36) (.const (.int .i64 40))), (some (34,
  false))⟩, ⟨(some 38), (.pick (.tmp 34) (.const (.bool true)) (.tmp 37)), none⟩]) (.cond (.tmp 38) (.seq (.region [⟨(some 39), (.call (.func 15) []), none⟩, ⟨(some 12), (.mv
  (.tmp 39)), none⟩]) .ret) .skip)) (.seq (.draw [⟨(some 40), (.load (some 7) (.tmp 6)), none⟩, ⟨(some 41), (.load (some 7) (.tmp 6)), none⟩, ⟨(some 42), (.load (some 7) (.tmp 6)),
   none⟩, ⟨(some 43), (.load (some 7) (.tmp 6)), none⟩, ⟨(some 13), (.alloc [(.int .i64 0), (.int .i64 0), (.int .i64 0), (.int .i64 0), (.int .i64 0), (.slc none 0 0 true 0),
  (.slc none 0 0 true 0)]), none⟩, ⟨(some 14), (.alloc [(.int .i64 0), (.int .i64 0), (.int .i64 0), (.int .i64 0), (.int .i64 0), (.slc none 0 0 true 0), (.slc none 0 0 true 0)]),
   none⟩, ⟨(some 15), (.alloc [(.int .i64 0), (.int .i64 0), (.int .i64 0), (.int .i64 0), (.int .i64 0), (.slc none 0 0 true 0), (.slc none 0 0 true 0)]), none⟩, ⟨(some 16),
  (.alloc [(.int .i64 0), (.int .i64 0), (.int .i64 0), (.int .i64 0), (.int .i64 0), (.slc none 0 0 true 0), (.slc none 0 0 true 0)]), none⟩, ⟨none, (.store 7 (.tmp 13) (.tmp
  40)), none⟩, ⟨none, (.store 7 (.tmp 14) (.tmp 41)), none⟩, ⟨none, (.store 7 (.tmp 15) (.tmp 42)), none⟩, ⟨none, (.store 7 (.tmp 16) (.tmp 43)), none⟩] [(0, 4), (1, 4), (2, 4),
  (3, 4), (0, 5), (1, 5), (2, 5), (3, 5), (4, 5), (0, 6), (1, 6), (2, 6), (3, 6), (4, 6), (5, 6), (0, 7), (1, 7), (2, 7), (3, 7), (4, 7), (5, 7), (6, 7), (1, 8), (2, 8), (3, 8),
  (2, 9), (3, 9), (3, 10)]) (.seq (.region [⟨(some 44), (.faddr 3 (.tmp 6)), none⟩, ⟨(some 45), (.load (some 2) (.tmp 44)), none⟩, ⟨(some 46), (.iaddrA 4 1 (.tmp 7) (.const (.int
  .i64 0))), none⟩, ⟨(some 47), (.load none (.tmp 46)), none⟩, ⟨(some 48), (.iaddrA 4 1 (.tmp 7) (.const (.int .i64 1))), none⟩, ⟨(some 49), (.load none (.tmp 48)), none⟩, ⟨(some
  50), (.call (.func 38) [(.tmp 45), (.tmp 47), (.tmp 49)]), none⟩, ⟨(some 51), (.faddr 3 (.tmp 13)), none⟩, ⟨none, (.store 2 (.tmp 51) (.tmp 50)), none⟩]) (.seq (.region [⟨(some
  52), (.bslice [] 0 2 []), none⟩, ⟨(some 53), (.faddr 5 (.tmp 6)), none⟩, ⟨(some 54), (.load none (.tmp 53)), none⟩, ⟨(some 55), (.app 2 16 (.tmp 52) (.tmp 54)), none⟩, ⟨(some
  56), (.faddr 5 (.tmp 14)), none⟩, ⟨none, (.store 1 (.tmp 56) (.tmp 55)), none⟩]) (.seq (.region [⟨(some 57), (.mv (.tmp 2)), none⟩, ⟨(some 58), (.conv .i64 (.tmp 57)), none⟩,
  ⟨(some 59), (.faddr 5 (.tmp 6)), none⟩, ⟨(some 60), (.load none (.tmp 59)), none⟩, ⟨(some 61), (.len (.tmp 60)), none⟩, ⟨(some 62), (.bin .rem (.tmp 58) (.tmp 61)), none⟩,
  ⟨(some 17), (.mv (.tmp 62)), none⟩]) (.seq (.draw [⟨(some 63), (.faddr 5 (.tmp 14)), none⟩, ⟨(some 64), (.load none (.tmp 63)), none⟩, ⟨(some 65), (.mv (.tmp 17)), none⟩, ⟨(some
  66), (.faddr 5 (.tmp 6)), none⟩, ⟨(some 67), (.load none (.tmp 66)), none⟩, ⟨(some 68), (.mv (.tmp 17)), none⟩, ⟨(some 69), (.iaddrS 2 (.tmp 67) (.tmp 68)), none⟩, ⟨(some 70),
  (.load (some 2) (.tmp 69)), none⟩, ⟨(some 71), (.iaddrA 4 1 (.tmp 7) (.const (.int .i64 2))), none⟩, ⟨(some 72), (.load none (.tmp 71)), none⟩, ⟨(some 73), (.iaddrA 4 1 (.tmp 7)
  (.const (.int .i64 3))), none⟩, ⟨(some 74), (.load none (.tmp 73)), none⟩, ⟨(some 75), (.call (.func 38) [(.tmp 70), (.tmp 72), (.tmp 74)]), none⟩, ⟨(some 76), (.iaddrS 2 (.tmp
  64) (.tmp 65)), none⟩, ⟨none, (.store 2 (.tmp 76) (.tmp 75)), none⟩] [(1, 12)]) (.seq (.region [⟨(some 77), (.faddr 0 (.tmp 6)), none⟩, ⟨(some 78), (.load none (.tmp 77)), none⟩,
   ⟨(some 79), (.mv (.tmp 3)), none⟩, ⟨(some 80), (.conv .i64 (.tmp 79)), none⟩, ⟨(some 81), (.bin .add (.tmp 78) (.tmp 80)), none⟩, ⟨(some 82), (.mnx false [(.const (.int .i64
  100000)), (.tmp 81)]), none⟩, ⟨(some 83), (.faddr 0 (.tmp 15)), none⟩, ⟨none, (.store 1 (.tmp 83) (.tmp 82)), none⟩]) (.seq (.region [⟨(some 84), (.faddr 2 (.tmp 6)), none⟩,
  ⟨(some 85), (.load none (.tmp 84)), none⟩, ⟨(some 86), (.mv (.tmp 4)), none⟩, ⟨(some 87), (.conv .i64 (.tmp 86)), none⟩, ⟨(some 88), (.bin .add (.tmp 85) (.tmp 87)), none⟩,
  ⟨(some 89), (.mnx false [(.const (.int .i64 10)), (.tmp 88)]), none⟩, ⟨(some 90), (.faddr 2 (.tmp 16)), none⟩, ⟨none, (.store 1 (.tmp 90) (.tmp 89)), none⟩]) (.seq (.region
  [⟨(some 92), (.load (some 7) (.tmp 6)), none⟩, ⟨(some 93), (.call (.func 26) [(.tmp 92)]), none⟩, ⟨(some 91), (.mv (.tmp 93)), none⟩, ⟨(some 94), (.ext (.tmp 91) 0), none⟩,
  ⟨(some 95), (.ext (.tmp 91) 1), none⟩, ⟨(some 96), (.ext (.tmp 91) 2), none⟩, ⟨(some 18), (.mv (.tmp 94)), none⟩, ⟨(some 19), (.mv (.tmp 95)), none⟩, ⟨(some 20), (.mv (.tmp 96)),
   none⟩]) (.seq (.region [⟨(some 97), (.load (some 7) (.tmp 6)), none⟩, ⟨(some 98), (.mv (.tmp 5)), none⟩, ⟨(some 99), (.call (.func 35) [(.tmp 97), (.tmp 98)]), none⟩, ⟨(some
  21), (.mv (.tmp 99)), none⟩]) (.seq (.region [⟨(some 101), (.load (some 7) (.tmp 6)), none⟩, ⟨(some 102), (.mv (.tmp 21)), none⟩, ⟨(some 103), (.call (.func 18) [(.tmp 101),
  (.tmp 102)]), none⟩, ⟨(some 100), (.mv (.tmp 103)), none⟩, ⟨(some 104), (.ext (.tmp 100) 0), none⟩, ⟨(some 105), (.ext (.tmp 100) 1), none⟩, ⟨(some 22), (.mv (.tmp 104)), none⟩,
  ⟨(some 23), (.mv (.tmp 105)), none⟩]) (.seq (.region [⟨(some 106), (.load (some 7) (.tmp 13)), none⟩, ⟨(some 107), (.load (some 7) (.tmp 14)), none⟩, ⟨(some 108), (.load (some
  7) (.tmp 15)), none⟩, ⟨(some 109), (.load (some 7) (.tmp 16)), none⟩, ⟨(some 110), (.bslice [(.int .i64 0), (.int .i64 0), (.int .i64 0), (.int .i64 0), (.int .i64 0), (.slc
  none 0 0 true 0), (.slc none 0 0 true 0), (.int .i64 0), (.int .i64 0), (.int .i64 0), (.int .i64 0), (.int .i64 0), (.slc none 0 0 true 0), (.slc none 0 0 true 0), (.int .i64
  0), (.int .i64 0), (.int .i64 0), (.int .i64 0), (.int .i64 0), (.slc none 0 0 true 0), (.slc none 0 0 true 0), (.int .i64 0), (.int .i64 0), (.int .i64 0), (.int .i64 0), (.int
  .i64 0), (.slc none 0 0 true 0), (.slc none 0 0 true 0)] 4 7 [(0, (7, (.tmp 106))), (7, (7, (.tmp 107))), (14, (7, (.tmp 108))), (21, (7, (.tmp 109)))]), none⟩, ⟨(some 24), (.mv
  (.tmp 110)), none⟩]) (.seq (.seq (.region [⟨(some 25), (.mv (.const (.int .i64 0))), none⟩]) (.block 0 (.loop (.seq (.seq (.region [⟨(some 111), (.mv (.tmp 25)), none⟩, ⟨(some
  112), (.bin .lss (.tmp 111) (.const (.int .i64 4))), none⟩]) (.cond (.tmp 112) .skip (.exit 0))) (.seq (.block 1 (.seq (.region [⟨(some 116), (.mv (.tmp 24)), none⟩, ⟨(some 117),
   (.mv (.tmp 25)), none⟩, ⟨(some 118), (.iaddrS 7 (.tmp 116) (.tmp 117)), none⟩, ⟨(some 119), (.load (some 7) (.tmp 118)), none⟩, ⟨(some 120), (.call (.func 26) [(.tmp 119)]),
  none⟩, ⟨(some 115), (.mv (.tmp 120)), none⟩, ⟨(some 121), (.ext (.tmp 115) 0), none⟩, ⟨(some 122), (.ext (.tmp 115) 1), none⟩, ⟨(some 123), (.ext (.tmp 115) 2), none⟩, ⟨(some
  26), (.mv (.tmp 121)), none⟩, ⟨(some 27), (.mv (.tmp 122)), none⟩, ⟨(some 28), (.mv (.tmp 123)), none⟩]) (.seq (.seq (.region [⟨(some 124), (.mv (.tmp 20)), none⟩, ⟨(some 125),
  (.bin .eql (.tmp 124) (.const (.int .i64 0))), none⟩, ⟨(some 126), (.mv (.tmp 125)), none⟩, ⟨(some 127), (.mv (.tmp 28)), (some (126, true))⟩, ⟨(some 128), (.bin .neq (.tmp 127)
  (.const (.int .i64 0))), (some (126, true))⟩, ⟨(some 129), (.mv (.tmp 128)), (some (126, true))⟩, ⟨(some 130), (.mv (.tmp 27)), (some (129, false))⟩, ⟨(some 131), (.mv (.tmp
  19)), (some (129, false))⟩, ⟨(some 132), (.bin .gtr (.tmp 130) (.tmp 131)), (some (129, false))⟩, ⟨(some 133), (.pick (.tmp 129) (.const (.bool true)) (.tmp 132)), (some (126,
  true))⟩, ⟨(some 134), (.pick (.tmp 126) (.tmp 133) (.const (.bool false))), none⟩, ⟨(some 135), (.mv (.tmp 134)), none⟩, ⟨(some 136), (.mv (.tmp 28)), (some (135, false))⟩,
  ⟨(some 137), (.bin .neq (.tmp 136) (.const (.int .i64 0))), (some (135, false))⟩, ⟨(some 138), (.mv (.tmp 137)), (some (135, false))⟩, ⟨(some 139), (.mv (.tmp 28)), (some (138,
  true))⟩, ⟨(some 140), (.bin .neq (.tmp 139) (.const (.int .i64 13))), (some (138, true))⟩, ⟨(some 141), (.pick (.tmp 138) (.tmp 140) (.const (.bool false))), (some (135,
  false))⟩, ⟨(some 142), (.pick (.tmp 135) (.const (.bool true)) (.tmp 141)), none⟩]) (.cond (.tmp 142) (.seq (.region [⟨(some 12), (.mv (.const (.bool false))), none⟩]) .ret)
  .skip)) (.seq (.region [⟨(some 144), (.mv (.tmp 24)), none⟩, ⟨(some 145), (.mv (.tmp 25)), none⟩, ⟨(some 146), (.iaddrS 7 (.tmp 144) (.tmp 145)), none⟩, ⟨(some 147), (.load
  (some 7) (.tmp 146)), none⟩, ⟨(some 148), (.mv (.tmp 21)), none⟩, ⟨(some 149), (.call (.func 18) [(.tmp 147), (.tmp 148)]), none⟩, ⟨(some 143), (.mv (.tmp 149)), none⟩, ⟨(some
  150), (.ext (.tmp 143) 0), none⟩, ⟨(some 151), (.ext (.tmp 143) 1), none⟩, ⟨(some 29), (.mv (.tmp 150)), none⟩, ⟨(some 30), (.mv (.tmp 151)), none⟩]) (.seq (.region [⟨(some 152),
   (.mv (.tmp 23)), none⟩, ⟨(some 153), (.bin .eql (.tmp 152) (.const (.int .i64 0))), none⟩, ⟨(some 154), (.mv (.tmp 153)), none⟩, ⟨(some 155), (.mv (.tmp 30)), (some (154,
  true))⟩, ⟨(some 156), (.bin .neq (.tmp 155) (.const (.int .i64 0))), (some (154, true))⟩, ⟨(some 157), (.mv (.tmp 156)), (some (154, true))⟩, ⟨(some 158), (.mv (.tmp 29)), (some
  (157, false))⟩, ⟨(some 159), (.mv (.tmp 22)), (some (157, false))⟩, ⟨(some 160), (.bin .neq (.tmp 158) (.tmp 159)), (some (157, false))⟩, ⟨(some 161), (.pick (.tmp 157) (.const
  (.bool true)) (.tmp 160)), (some (154, true))⟩, ⟨(some 162), (.pick (.tmp 154) (.tmp 161) (.const (.bool false))), none⟩]) (.cond (.tmp 162) (.seq (.region [⟨(some 12), (.mv
  (.const (.bool false))), none⟩]) .ret) .skip)))))) (.region [⟨(some 113), (.mv (.tmp 25)), none⟩, ⟨(some 114), (.bin .add (.tmp 113) (.const (.int .i64 1))), none⟩, ⟨(some 25),
  (.mv (.tmp 114)), none⟩])))))) (.seq (.region [⟨(some 163), (.call (.func 15) []), none⟩, ⟨(some 12), (.mv (.tmp 163)), none⟩]) .ret)))))))))))))))⟩
def af11 : AFn := ⟨176, [(.tmp 8)], (.seq (.region [⟨(some 4), (.box (.tmp 0)), none⟩, ⟨(some 8), (.mv (.const (.bool false))), none⟩]) (.seq (.seq (.region [⟨(some 27), (.load (some 7) (.tmp 4)),
  none⟩, ⟨(some 28), (.call (.func 34) [(.tmp 27)]), none⟩, ⟨(some 29), (.un .not (.tmp 28)), none⟩]) (.cond (.tmp 29) (.seq (.region [⟨(some 30), (.call (.func 15) []), none⟩,
  ⟨(some 8), (.mv (.tmp 30)), none⟩]) .ret) .skip)) (.seq (.region [⟨(some 32), (.load (some 7) (.tmp 4)), none⟩, ⟨(some 33), (.call (.func 26) [(.tmp 32)]), none⟩, ⟨(some 31),
  (.mv (.tmp 33)), none⟩, ⟨(some 34), (.ext (.tmp 31) 0), none⟩, ⟨(some 35), (.ext (.tmp 31) 1), none⟩, ⟨(some 36), (.ext (.tmp 31) 2), none⟩, ⟨(some 9), (.mv (.tmp 34)), none⟩,
  ⟨(some 10), (.mv (.tmp 35)), none⟩, ⟨(some 11), (.mv (.tmp 36)), none⟩]) (.seq (.seq (.region [⟨(some 37), (.mv (.tmp 11)), none⟩, ⟨(some 38), (.bin .neq (.tmp 37) (.const (.int
  .i64 0))), none⟩]) (.cond (.tmp 38) (.seq (.region [⟨(some 39), (.mv (.tmp 11)), none⟩, ⟨(some 40), (.bin .eql (.tmp 39) (.const (.int .i64 13))), none⟩, ⟨(some 41), (.mv (.tmp
  40)), none⟩, ⟨(some 42), (.call (.func 15) []), (some (41, true))⟩, ⟨(some 43), (.pick (.tmp 41) (.tmp 42) (.const (.bool false))), none⟩, ⟨(some 8), (.mv (.tmp 43)), none⟩])
  .ret) .skip)) (.seq (.region [⟨(some 44), (.mv (.tmp 1)), none⟩, ⟨(some 45), (.conv .i64 (.tmp 44)), none⟩, ⟨(some 46), (.bin .rem (.tmp 45) (.const (.int .i64 9))), none⟩,
  ⟨(some 47), (.bin .add (.const (.int .i64 1)) (.tmp 46)), none⟩, ⟨(some 12), (.mv (.tmp 47)), none⟩]) (.seq (.region [⟨(some 48), (.mv (.tmp 3)), none⟩, ⟨(some 49), (.conv .i64
  (.tmp 48)), none⟩, ⟨(some 50), (.faddr 6 (.tmp 4)), none⟩, ⟨(some 51), (.load none (.tmp 50)), none⟩, ⟨(some 52), (.len (.tmp 51)), none⟩, ⟨(some 53), (.bin .rem (.tmp 49) (.tmp
  52)), none⟩, ⟨(some 13), (.mv (.tmp 53)), none⟩]) (.seq (.draw [⟨(some 54), (.load (some 7) (.tmp 4)), none⟩, ⟨(some 55), (.load (some 7) (.tmp 4)), none⟩, ⟨(some 56), (.load
  (some 7) (.tmp 4)), none⟩, ⟨(some 14), (.alloc [(.int .i64 0), (.int .i64 0), (.int .i64 0), (.int .i64 0), (.int .i64 0), (.slc none 0 0 true 0), (.slc none 0 0 true 0)]),
  none⟩, ⟨(some 15), (.alloc [(.int .i64 0), (.int .i64 0), (.int .i64 0), (.int .i64 0), (.int .i64 0), (.slc none 0 0 true 0), (.slc none 0 0 true 0)]), none⟩, ⟨(some 16),
  (.alloc [(.int .i64 0), (.int .i64 0), (.int .i64 0), (.int .i64 0), (.int .i64 0), (.slc none 0 0 true 0), (.slc none 0 0 true 0)]), none⟩, ⟨none, (.store 7 (.tmp 14) (.tmp
  54)), none⟩, ⟨none, (.store 7 (.tmp 15) (.tmp 55)), none⟩, ⟨none, (.store 7 (.tmp 16) (.tmp 56)), none⟩] [(0, 3), (1, 3), (2, 3), (0, 4), (1, 4), (2, 4), (3, 4), (0, 5), (1, 5),
  (2, 5), (3, 5), (4, 5), (1, 6), (2, 6), (2, 7)]) (.seq (.region [⟨(some 57), (.bslice [] 0 1 []), none⟩, ⟨(some 58), (.faddr 6 (.tmp 4)), none⟩, ⟨(some 59), (.load none (.tmp
  58)), none⟩, ⟨(some 60), (.app 1 8 (.tmp 57) (.tmp 59)), none⟩, ⟨(some 61), (.faddr 6 (.tmp 14)), none⟩, ⟨none, (.store 1 (.tmp 61) (.const (.slc none 0 0 true 0))), none⟩,
  ⟨(some 62), (.faddr 6 (.tmp 15)), none⟩, ⟨none, (.store 1 (.tmp 62) (.const (.slc none 0 0 true 0))), none⟩, ⟨(some 63), (.faddr 6 (.tmp 16)), none⟩, ⟨none, (.store 1 (.tmp 63)
  (.tmp 60)), none⟩]) (.seq (.seq (.region [⟨(some 17), (.mv (.const (.int .i64 0))), none⟩]) (.block 0 (.loop (.seq (.seq (.region [⟨(some 64), (.mv (.tmp 17)), none⟩, ⟨(some 65),
   (.faddr 6 (.tmp 4)), none⟩, ⟨(some 66), (.load none (.tmp 65)), none⟩, ⟨(some 67), (.len (.tmp 66)), none⟩, ⟨(some 68), (.bin .lss (.tmp 64) (.tmp 67)), none⟩]) (.cond (.tmp
  68) .skip (.exit 0))) (.seq (.block 1 (.seq (.draw [⟨(some 71), (.faddr 6 (.tmp 14)), none⟩, ⟨(some 72), (.load none (.tmp 71)), none⟩, ⟨(some 73), (.mv (.tmp 12)), none⟩,
  ⟨(some 74), (.faddr 6 (.tmp 4)), none⟩, ⟨(some 75), (.load none (.tmp 74)), none⟩, ⟨(some 76), (.mv (.tmp 17)), none⟩, ⟨(some 77), (.iaddrS 1 (.tmp 75) (.tmp 76)), none⟩, ⟨(some
  78), (.load none (.tmp 77)), none⟩, ⟨(some 79), (.bin .mul (.tmp 73) (.tmp 78)), none⟩, ⟨(some 80), (.bslice [(.int .i64 0)] 1 1 [(0, (1, (.tmp 79)))]), none⟩, ⟨(some 81), (.app
  1 8 (.tmp 72) (.tmp 80)), none⟩, ⟨(some 82), (.faddr 6 (.tmp 14)), none⟩, ⟨none, (.store 1 (.tmp 82) (.tmp 81)), none⟩] [(1, 9)]) (.draw [⟨(some 83), (.faddr 6 (.tmp 15)), none⟩,
   ⟨(some 84), (.load none (.tmp 83)), none⟩, ⟨(some 85), (.faddr 6 (.tmp 4)), none⟩, ⟨(some 86), (.load none (.tmp 85)), none⟩, ⟨(some 87), (.mv (.tmp 17)), none⟩, ⟨(some 88),
  (.iaddrS 1 (.tmp 86) (.tmp 87)), none⟩, ⟨(some 89), (.load none (.tmp 88)), none⟩, ⟨(some 90), (.mv (.tmp 2)), none⟩, ⟨(some 91), (.conv .i64 (.tmp 90)), none⟩, ⟨(some 92),
  (.bin .add (.tmp 89) (.tmp 91)), none⟩, ⟨(some 93), (.bslice [(.int .i64 0)] 1 1 [(0, (1, (.tmp 92)))]), none⟩, ⟨(some 94), (.app 1 8 (.tmp 84) (.tmp 93)), none⟩, ⟨(some 95),
  (.faddr 6 (.tmp 15)), none⟩, ⟨none, (.store 1 (.tmp 95) (.tmp 94)), none⟩] [(1, 10)]))) (.region [⟨(some 69), (.mv (.tmp 17)), none⟩, ⟨(some 70), (.bin .add (.tmp 69) (.const
  (.int .i64 1))), none⟩, ⟨(some 17), (.mv (.tmp 70)), none⟩])))))) (.seq (.region [⟨(some 96), (.faddr 6 (.tmp 16)), none⟩, ⟨(some 97), (.load none (.tmp 96)), none⟩, ⟨(some 98),
  (.mv (.tmp 13)), none⟩, ⟨(some 99), (.iaddrS 1 (.tmp 97) (.tmp 98)), none⟩, ⟨(some 100), (.load none (.tmp 99)), none⟩, ⟨(some 101), (.mv (.tmp 2)), none⟩, ⟨(some 102), (.conv
  .i64 (.tmp 101)), none⟩, ⟨(some 103), (.bin .add (.tmp 100) (.tmp 102)), none⟩, ⟨(some 104), (.iaddrS 1 (.tmp 97) (.tmp 98)), none⟩, ⟨none, (.store 1 (.tmp 104) (.tmp 103)),
  none⟩]) (.seq (.seq (.region [⟨(some 105), (.load (some 7) (.tmp 14)), none⟩, ⟨(some 106), (.call (.func 34) [(.tmp 105)]), none⟩]) (.cond (.tmp 106) (.seq (.region [⟨(some 108),
   (.load (some 7) (.tmp 14)), none⟩, ⟨(some 109), (.call (.func 26) [(.tmp 108)]), none⟩, ⟨(some 107), (.mv (.tmp 109)), none⟩, ⟨(some 110), (.ext (.tmp 107) 0), none⟩, ⟨(some
  111), (.ext (.tmp 107) 1), none⟩, ⟨(some 112), (.ext (.tmp 107) 2), none⟩, ⟨(some 18), (.mv (.tmp 110)), none⟩, ⟨(some 19), (.mv (.tmp 111)), none⟩, ⟨(some 20), (.mv (.tmp 112)),
   none⟩]) (.seq (.region [⟨(some 113), (.mv (.tmp 20)), none⟩, ⟨(some 114), (.bin .neq (.tmp 113) (.const (.int .i64 0))), none⟩, ⟨(some 115), (.mv (.tmp 114)), none⟩, ⟨(some
  116), (.mv (.tmp 19)), (some (115, false))⟩, ⟨(some 117), (.mv (.tmp 12)), (some (115, false))⟩, ⟨(some 118), (.mv (.tmp 10)), (some (115, false))⟩, ⟨(some 119), (.bin .mul
  (.tmp 117) (.tmp 118)), (some (115, false))⟩, ⟨(some 120), (.bin .neq (.tmp 116) (.tmp 119)), (some (115, false))⟩, ⟨(some 121), (.pick (.tmp 115) (.const (.bool true)) (.tmp
  120)), none⟩, ⟨(some 122), (.mv (.tmp 121)), none⟩, ⟨(some 123), (.mv (.tmp 9)), (some (122, false))⟩, ⟨(some 124), (.mv (.tmp 18)), (some (122, false))⟩, ⟨(some 125), (.call
  (.func 30) [(.tmp 123), (.tmp 124)]), (some (122, false))⟩, ⟨(some 126), (.un .not (.tmp 125)), (some (122, false))⟩, ⟨(some 127), (.pick (.tmp 122) (.const (.bool true)) (.tmp
  126)), none⟩]) (.cond (.tmp 127) (.seq (.region [⟨(some 8), (.mv (.const (.bool false))), none⟩]) .ret) .skip))) .skip)) (.seq (.seq (.region [⟨(some 128), (.load (some 7) (.tmp
  15)), none⟩, ⟨(some 129), (.call (.func 34) [(.tmp 128)]), none⟩]) (.cond (.tmp 129) (.seq (.region [⟨(some 131), (.load (some 7) (.tmp 15)), none⟩, ⟨(some 132), (.call (.func
  26) [(.tmp 131)]), none⟩, ⟨(some 130), (.mv (.tmp 132)), none⟩, ⟨(some 133), (.ext (.tmp 130) 0), none⟩, ⟨(some 134), (.ext (.tmp 130) 1), none⟩, ⟨(some 135), (.ext (.tmp 130)
  2), none⟩, ⟨(some 21), (.mv (.tmp 133)), none⟩, ⟨(some 22), (.mv (.tmp 134)), none⟩, ⟨(some 23), (.mv (.tmp 135)), none⟩]) (.seq (.region [⟨(some 136), (.mv (.tmp 23)), none⟩,
  ⟨(some 137), (.bin .neq (.tmp 136) (.const (.int .i64 0))), none⟩, ⟨(some 138), (.mv (.tmp 137)), none⟩, ⟨(some 139), (.mv (.tmp 22)), (some (138, false))⟩, ⟨(some 140), (.mv
  (.tmp 10)), (some (138, false))⟩, ⟨(some 141), (.mv (.tmp 2)), (some (138, false))⟩, ⟨(some 142), (.conv .i64 (.tmp 141)), (some (138, false))⟩, ⟨(some 143), (.mv (.tmp 21)),
  (some (138, false))⟩, ⟨(some 144), (.call (.func 39) [(.tmp 143)]), (some (138, false))⟩, ⟨(some 145), (.bin .mul (.tmp 142) (.tmp 144)), (some (138, false))⟩, ⟨(some 146),
  (.bin .add (.tmp 140) (.tmp 145)), (some (138, false))⟩, ⟨(some 147), (.bin .lss (.tmp 139) (.tmp 146)), (some (138, false))⟩, ⟨(some 148), (.pick (.tmp 138) (.const (.bool
  true)) (.tmp 147)), none⟩, ⟨(some 149), (.mv (.tmp 148)), none⟩, ⟨(some 150), (.mv (.tmp 22)), (some (149, false))⟩, ⟨(some 151), (.mv (.tmp 10)), (some (149, false))⟩, ⟨(some
  152), (.mv (.tmp 2)), (some (149, false))⟩, ⟨(some 153), (.conv .i64 (.tmp 152)), (some (149, false))⟩, ⟨(some 154), (.mv (.tmp 9)), (some (149, false))⟩, ⟨(some 155), (.call
  (.func 39) [(.tmp 154)]), (some (149, false))⟩, ⟨(some 156), (.bin .mul (.tmp 153) (.tmp 155)), (some (149, false))⟩, ⟨(some 157), (.bin .add (.tmp 151) (.tmp 156)), (some (149,
  false))⟩, ⟨(some 158), (.bin .gtr (.tmp 150) (.tmp 157)), (some (149, false))⟩, ⟨(some 159), (.pick (.tmp 149) (.const (.bool true)) (.tmp 158)), none⟩]) (.cond (.tmp 159) (.seq
  (.region [⟨(some 8), (.mv (.const (.bool false))), none⟩]) .ret) .skip))) .skip)) (.seq (.seq (.region [⟨(some 160), (.load (some 7) (.tmp 16)), none⟩, ⟨(some 161), (.call
  (.func 34) [(.tmp 160)]), none⟩]) (.cond (.tmp 161) (.seq (.region [⟨(some 163), (.load (some 7) (.tmp 16)), none⟩, ⟨(some 164), (.call (.func 26) [(.tmp 163)]), none⟩, ⟨(some
  162), (.mv (.tmp 164)), none⟩, ⟨(some 165), (.ext (.tmp 162) 0), none⟩, ⟨(some 166), (.ext (.tmp 162) 1), none⟩, ⟨(some 167), (.ext (.tmp 162) 2), none⟩, ⟨(some 24), (.mv (.tmp
  165)), none⟩, ⟨(some 25), (.mv (.tmp 166)), none⟩, ⟨(some 26), (.mv (.tmp 167)), none⟩]) (.seq (.region [⟨(some 168), (.mv (.tmp 26)), none⟩, ⟨(some 169), (.bin .neq (.tmp 168)
  (.const (.int .i64 0))), none⟩, ⟨(some 170), (.mv (.tmp 169)), none⟩, ⟨(some 171), (.mv (.tmp 25)), (some (170, false))⟩, ⟨(some 172), (.mv (.tmp 10)), (some (170, false))⟩,
  ⟨(some 173), (.bin .lss (.tmp 171) (.tmp 172)), (some (170, false))⟩, ⟨(some 174), (.pick (.tmp 170) (.const (.bool true)) (.tmp 173)), none⟩]) (.cond (.tmp 174) (.seq (.region
  [⟨(some 8), (.mv (.const (.bool false))), none⟩]) .ret) .skip))) .skip)) (.seq (.region [⟨(some 175), (.call (.func 15) []), none⟩, ⟨(some 8), (.mv (.tmp 175)), none⟩])
  .ret))))))))))))))⟩
def af12 : AFn := ⟨133, [(.tmp 6)], (.seq (.region [⟨(some 3), (.box (.tmp 0)), none⟩, ⟨(some 6), (.mv (.const (.bool false))), none⟩]) (.seq (.seq (.region [⟨(some 15), (.load (some 7) (.tmp 3)),
  none⟩, ⟨(some 16), (.call (.func 34) [(.tmp 15)]), none⟩, ⟨(some 17), (.un .not (.tmp 16)), none⟩, ⟨(some 18), (.mv (.tmp 17)), none⟩, ⟨(some 19), (.faddr 5 (.tmp 3)), (some (18,
   false))⟩, ⟨(some 20), (.load none (.tmp 19)), (some (18, false))⟩, ⟨(some 21), (.len (.tmp 20)), (some (18, false))⟩, ⟨(some 22), (.bin .lss (.tmp 21) (.const (.int .i64 2))),
  (some (18, false))⟩, ⟨(some 23), (.pick (.tmp 18) (.const (.bool true)) (.tmp 22)), none⟩, ⟨(some 24), (.mv (.tmp 23)), none⟩, ⟨(some 25), (.mv (.tmp 1)), (some (24, false))⟩,
  ⟨(some 26), (.len (.tmp 25)), (some (24, false))⟩, ⟨(some 27), (.bin .gtr (.tmp 26) (.const (.int .i64 40))), (some (24, false))⟩, ⟨(some 28), (.pick (.tmp 24) (.const (.bool
  true)) (.tmp 27)), none⟩, ⟨(some 29), (.mv (.tmp 28)), none⟩, ⟨(some 30), (.mv (.tmp 2)), (some (29, false))⟩, ⟨(some 31), (.len (.tmp 30)), (some (29, false))⟩, ⟨(some 32),
  (.bin .gtr (.tmp 31) (.const (.int .i64 40))), (some (29, false))⟩, ⟨(some 33), (.pick (.tmp 29) (.const (.bool true)) (.tmp 32)), none⟩]) (.cond (.tmp 33) (.seq (.region
  [⟨(some 34), (.call (.func 15) []), none⟩, ⟨(some 6), (.mv (.tmp 34)), none⟩]) .ret) .skip)) (.seq (.region [⟨(some 35), (.load (some 7) (.tmp 3)), none⟩, ⟨(some 7), (.alloc
  [(.int .i64 0), (.int .i64 0), (.int .i64 0), (.int .i64 0), (.int .i64 0), (.slc none 0 0 true 0), (.slc none 0 0 true 0)]), none⟩, ⟨none, (.store 7 (.tmp 7) (.tmp 35)),
  none⟩]) (.seq (.draw [⟨(some 36), (.faddr 3 (.tmp 3)), none⟩, ⟨(some 37), (.faddr 0 (.tmp 36)), none⟩, ⟨(some 38), (.load none (.tmp 37)), none⟩, ⟨(some 39), (.faddr 5 (.tmp 3)),
   none⟩, ⟨(some 40), (.load none (.tmp 39)), none⟩, ⟨(some 41), (.iaddrS 2 (.tmp 40) (.const (.int .i64 0))), none⟩, ⟨(some 42), (.faddr 1 (.tmp 41)), none⟩, ⟨(some 43), (.load
  none (.tmp 42)), none⟩, ⟨(some 44), (.bin .sub (.tmp 38) (.tmp 43)), none⟩, ⟨(some 45), (.faddr 3 (.tmp 3)), none⟩, ⟨(some 46), (.faddr 1 (.tmp 45)), none⟩, ⟨(some 47), (.load
  none (.tmp 46)), none⟩, ⟨(some 48), (.faddr 5 (.tmp 3)), none⟩, ⟨(some 49), (.load none (.tmp 48)), none⟩, ⟨(some 50), (.iaddrS 2 (.tmp 49) (.const (.int .i64 0))), none⟩,
  ⟨(some 51), (.faddr 0 (.tmp 50)), none⟩, ⟨(some 52), (.load none (.tmp 51)), none⟩, ⟨(some 53), (.bin .sub (.tmp 47) (.tmp 52)), none⟩, ⟨(some 54), (.call (.func 40) [(.tmp 44),
  (.tmp 53)]), none⟩, ⟨(some 55), (.faddr 3 (.tmp 7)), none⟩, ⟨none, (.store 2 (.tmp 55) (.tmp 54)), none⟩] []) (.seq (.draw [⟨(some 56), (.faddr 5 (.tmp 3)), none⟩, ⟨(some 57),
  (.load none (.tmp 56)), none⟩, ⟨(some 58), (.slc 2 (.tmp 57) (some (.const (.int .i64 1))) none none), none⟩, ⟨(some 59), (.faddr 6 (.tmp 3)), none⟩, ⟨(some 60), (.load none
  (.tmp 59)), none⟩, ⟨(some 61), (.slc 1 (.tmp 60) (some (.const (.int .i64 1))) none none), none⟩, ⟨(some 62), (.faddr 5 (.tmp 7)), none⟩, ⟨none, (.store 1 (.tmp 62) (.tmp 58)),
  none⟩, ⟨(some 63), (.faddr 6 (.tmp 7)), none⟩, ⟨none, (.store 1 (.tmp 63) (.tmp 61)), none⟩] [(4, 7)]) (.seq (.region [⟨(some 64), (.load (some 7) (.tmp 3)), none⟩, ⟨(some 65),
  (.mv (.tmp 1)), none⟩, ⟨(some 66), (.call (.func 35) [(.tmp 64), (.tmp 65)]), none⟩, ⟨(some 67), (.mv (.tmp 2)), none⟩, ⟨(some 68), (.bslice [(.slc none 0 0 true 0), (.slc none
  0 0 true 0)] 2 1 [(0, (1, (.tmp 66))), (1, (1, (.tmp 67)))]), none⟩, ⟨(some 8), (.mv (.tmp 68)), none⟩]) (.seq (.seq (.region [⟨(some 9), (.mv (.const (.int .i64 0))), none⟩])
  (.block 0 (.loop (.seq (.seq (.region [⟨(some 69), (.mv (.tmp 9)), none⟩, ⟨(some 70), (.bin .lss (.tmp 69) (.const (.int .i64 2))), none⟩]) (.cond (.tmp 70) .skip (.exit 0)))
  (.seq (.block 1 (.seq (.region [⟨(some 73), (.mv (.tmp 8)), none⟩, ⟨(some 74), (.mv (.tmp 9)), none⟩, ⟨(some 75), (.iaddrS 1 (.tmp 73) (.tmp 74)), none⟩, ⟨(some 76), (.load none
  (.tmp 75)), none⟩, ⟨(some 10), (.mv (.tmp 76)), none⟩]) (.seq (.seq (.region [⟨(some 77), (.mv (.tmp 10)), none⟩, ⟨(some 78), (.len (.tmp 77)), none⟩, ⟨(some 79), (.faddr 5
  (.tmp 3)), none⟩, ⟨(some 80), (.load none (.tmp 79)), none⟩, ⟨(some 81), (.len (.tmp 80)), none⟩, ⟨(some 82), (.bin .neq (.tmp 78) (.tmp 81)), none⟩, ⟨(some 83), (.mv (.tmp 82)),
   none⟩, ⟨(some 84), (.mv (.tmp 10)), (some (83, false))⟩, ⟨(some 85), (.iaddrS 1 (.tmp 84) (.const (.int .i64 0))), (some (83, false))⟩, ⟨(some 86), (.load none (.tmp 85)),
  (some (83, false))⟩, ⟨(some 87), (.bin .neq (.tmp 86) (.const (.int .i64 0))), (some (83, false))⟩, ⟨(some 88), (.pick (.tmp 83) (.const (.bool true)) (.tmp 87)), none⟩]) (.cond
  (.tmp 88) (.exit 1) .skip)) (.seq (.region [⟨(some 90), (.load (some 7) (.tmp 3)), none⟩, ⟨(some 91), (.mv (.tmp 10)), none⟩, ⟨(some 92), (.call (.func 18) [(.tmp 90), (.tmp
  91)]), none⟩, ⟨(some 89), (.mv (.tmp 92)), none⟩, ⟨(some 93), (.ext (.tmp 89) 0), none⟩, ⟨(some 94), (.ext (.tmp 89) 1), none⟩, ⟨(some 11), (.mv (.tmp 93)), none⟩, ⟨(some 12),
  (.mv (.tmp 94)), none⟩]) (.seq (.draw [⟨(some 96), (.load (some 7) (.tmp 7)), none⟩, ⟨(some 97), (.mv (.tmp 10)), none⟩, ⟨(some 98), (.slc 1 (.tmp 97) (some (.const (.int .i64
  1))) none none), none⟩, ⟨(some 99), (.call (.func 18) [(.tmp 96), (.tmp 98)]), none⟩, ⟨(some 95), (.mv (.tmp 99)), none⟩, ⟨(some 100), (.ext (.tmp 95) 0), none⟩, ⟨(some 101),
  (.ext (.tmp 95) 1), none⟩, ⟨(some 13), (.mv (.tmp 100)), none⟩, ⟨(some 14), (.mv (.tmp 101)), none⟩] []) (.seq (.region [⟨(some 102), (.mv (.tmp 12)), none⟩, ⟨(some 103), (.bin
  .eql (.tmp 102) (.const (.int .i64 0))), none⟩, ⟨(some 104), (.mv (.tmp 103)), none⟩, ⟨(some 105), (.mv (.tmp 14)), (some (104, true))⟩, ⟨(some 106), (.bin .neq (.tmp 105)
  (.const (.int .i64 0))), (some (104, true))⟩, ⟨(some 107), (.mv (.tmp 106)), (some (104, true))⟩, ⟨(some 108), (.mv (.tmp 11)), (some (107, false))⟩, ⟨(some 109), (.mv (.tmp
  13)), (some (107, false))⟩, ⟨(some 110), (.bin .neq (.tmp 108) (.tmp 109)), (some (107, false))⟩, ⟨(some 111), (.pick (.tmp 107) (.const (.bool true)) (.tmp 110)), (some (104,
  true))⟩, ⟨(some 112), (.pick (.tmp 104) (.tmp 111) (.const (.bool false))), none⟩, ⟨(some 113), (.mv (.tmp 112)), none⟩, ⟨(some 114), (.mv (.tmp 14)), (some (113, false))⟩,
  ⟨(some 115), (.bin .eql (.tmp 114) (.const (.int .i64 0))), (some (113, false))⟩, ⟨(some 116), (.mv (.tmp 115)), (some (113, false))⟩, ⟨(some 117), (.faddr 3 (.tmp 7)), (some
  (116, true))⟩, ⟨(some 118), (.faddr 0 (.tmp 117)), (some (116, true))⟩, ⟨(some 119), (.load none (.tmp 118)), (some (116, true))⟩, ⟨(some 120), (.bin .geq (.tmp 119) (.const
  (.int .i64 0))), (some (116, true))⟩, ⟨(some 121), (.pick (.tmp 116) (.tmp 120) (.const (.bool false))), (some (113, false))⟩, ⟨(some 122), (.mv (.tmp 121)), (some (113,
  false))⟩, ⟨(some 123), (.mv (.tmp 12)), (some (122, true))⟩, ⟨(some 124), (.bin .neq (.tmp 123) (.const (.int .i64 0))), (some (122, true))⟩, ⟨(some 125), (.mv (.tmp 124)),
  (some (122, true))⟩, ⟨(some 126), (.mv (.tmp 11)), (some (125, false))⟩, ⟨(some 127), (.mv (.tmp 13)), (some (125, false))⟩, ⟨(some 128), (.bin .neq (.tmp 126) (.tmp 127)),
  (some (125, false))⟩, ⟨(some 129), (.pick (.tmp 125) (.const (.bool true)) (.tmp 128)), (some (122, true))⟩, ⟨(some 130), (.pick (.tmp 122) (.tmp 129) (.const (.bool false))),
  (some (113, false))⟩, ⟨(some 131), (.pick (.tmp 113) (.const (.bool true)) (.tmp 130)), none⟩]) (.cond (.tmp 131) (.seq (.region [⟨(some 6), (.mv (.const (.bool false))),
  none⟩]) .ret) .skip))))))) (.region [⟨(some 71), (.mv (.tmp 9)), none⟩, ⟨(some 72), (.bin .add (.tmp 71) (.const (.int .i64 1))), none⟩, ⟨(some 9), (.mv (.tmp 72)), none⟩]))))))
  (.seq (.region [⟨(some 132), (.call (.func 15) []), none⟩, ⟨(some 6), (.mv (.tmp 132)), none⟩]) .ret))))))))⟩
def af13 : AFn := ⟨98, [(.tmp 0)], (.seq (.region [⟨(some 0), (.mv (.const (.bool false))), none⟩]) (.seq (.region [⟨(some 16), (.call (.func 41) []), none⟩, ⟨(some 17), (.call (.func 41) []),
  none⟩, ⟨(some 1), (.alloc [(.int .i64 0), (.int .i64 0), (.int .i64 0), (.int .i64 0), (.int .i64 0), (.slc none 0 0 true 0), (.slc none 0 0 true 0)]), none⟩, ⟨(some 2), (.alloc
  [(.int .i64 0), (.int .i64 0), (.int .i64 0), (.int .i64 0), (.int .i64 0), (.slc none 0 0 true 0), (.slc none 0 0 true 0)]), none⟩, ⟨none, (.store 7 (.tmp 1) (.tmp 16)), none⟩,
  ⟨none, (.store 7 (.tmp 2) (.tmp 17)), none⟩]) (.seq (.region [⟨(some 18), (.faddr 2 (.tmp 2)), none⟩, ⟨none, (.store 1 (.tmp 18) (.const (.int .i64 0))), none⟩]) (.seq (.region
  [⟨(some 20), (.load (some 7) (.tmp 1)), none⟩, ⟨(some 21), (.bslice [(.int .i64 0), (.int .i64 0), (.int .i64 0)] 3 1 [(0, (1, (.const (.int .i64 0)))), (1, (1, (.const (.int
  .i64 0)))), (2, (1, (.const (.int .i64 3))))]), none⟩, ⟨(some 22), (.call (.func 18) [(.tmp 20), (.tmp 21)]), none⟩, ⟨(some 19), (.mv (.tmp 22)), none⟩, ⟨(some 23), (.ext (.tmp
  19) 0), none⟩, ⟨(some 24), (.ext (.tmp 19) 1), none⟩, ⟨(some 3), (.mv (.tmp 23)), none⟩, ⟨(some 4), (.mv (.tmp 24)), none⟩]) (.seq (.region [⟨(some 26), (.load (some 7) (.tmp
  1)), none⟩, ⟨(some 27), (.bslice [(.int .i64 0), (.int .i64 0), (.int .i64 0)] 3 1 [(0, (1, (.const (.int .i64 5)))), (1, (1, (.const (.int .i64 5)))), (2, (1, (.const (.int
  .i64 5))))]), none⟩, ⟨(some 28), (.call (.func 31) [(.tmp 26), (.tmp 27)]), none⟩, ⟨(some 25), (.mv (.tmp 28)), none⟩, ⟨(some 29), (.ext (.tmp 25) 0), none⟩, ⟨(some 30), (.ext
  (.tmp 25) 1), none⟩, ⟨(some 5), (.mv (.tmp 29)), none⟩, ⟨(some 6), (.mv (.tmp 30)), none⟩]) (.seq (.region [⟨(some 32), (.load (some 7) (.tmp 1)), none⟩, ⟨(some 33), (.bslice
  [(.int .i64 0), (.int .i64 0), (.int .i64 0)] 3 1 [(0, (1, (.const (.int .i64 4)))), (1, (1, (.const (.int .i64 4)))), (2, (1, (.const (.int .i64 4))))]), none⟩, ⟨(some 34),
  (.call (.func 31) [(.tmp 32), (.tmp 33)]), none⟩, ⟨(some 31), (.mv (.tmp 34)), none⟩, ⟨(some 35), (.ext (.tmp 31) 0), none⟩, ⟨(some 36), (.ext (.tmp 31) 1), none⟩, ⟨(some 7),
  (.mv (.tmp 35)), none⟩, ⟨(some 8), (.mv (.tmp 36)), none⟩]) (.seq (.region [⟨(some 38), (.load (some 7) (.tmp 2)), none⟩, ⟨(some 39), (.call (.func 28) [(.tmp 38)]), none⟩,
  ⟨(some 37), (.mv (.tmp 39)), none⟩, ⟨(some 40), (.ext (.tmp 37) 0), none⟩, ⟨(some 41), (.ext (.tmp 37) 1), none⟩, ⟨(some 42), (.ext (.tmp 37) 2), none⟩, ⟨(some 9), (.mv (.tmp
  40)), none⟩, ⟨(some 10), (.mv (.tmp 41)), none⟩, ⟨(some 11), (.mv (.tmp 42)), none⟩]) (.seq (.region [⟨(some 44), (.load (some 7) (.tmp 1)), none⟩, ⟨(some 45), (.bslice [(.int
  .i64 0), (.int .i64 0), (.int .i64 0)] 3 1 [(0, (1, (.const (.int .i64 2)))), (1, (1, (.const (.int .i64 0)))), (2, (1, (.const (.int .i64 0))))]), none⟩, ⟨(some 46), (.bslice
  [(.int .i64 0), (.int .i64 0), (.int .i64 0)] 3 1 [(0, (1, (.const (.int .i64 20)))), (1, (1, (.const (.int .i64 30)))), (2, (1, (.const (.int .i64 20))))]), none⟩, ⟨(some 47),
  (.call (.func 23) [(.tmp 44), (.tmp 45), (.const (.int .i64 50)), (.tmp 46)]), none⟩, ⟨(some 43), (.mv (.tmp 47)), none⟩, ⟨(some 48), (.ext (.tmp 43) 0), none⟩, ⟨(some 49),
  (.ext (.tmp 43) 1), none⟩, ⟨(some 12), (.mv (.tmp 48)), none⟩, ⟨(some 13), (.mv (.tmp 49)), none⟩]) (.seq (.region [⟨(some 51), (.load (some 7) (.tmp 1)), none⟩, ⟨(some 52),
  (.bslice [(.int .i64 0), (.int .i64 0), (.int .i64 0)] 3 1 [(0, (1, (.const (.int .i64 0)))), (1, (1, (.const (.int .i64 0)))), (2, (1, (.const (.int .i64 0))))]), none⟩, ⟨(some
  53), (.bslice [(.int .i64 0), (.int .i64 0), (.int .i64 0)] 3 1 [(0, (1, (.const (.int .i64 20)))), (1, (1, (.const (.int .i64 30)))), (2, (1, (.const (.int .i64 20))))]), none⟩,
   ⟨(some 54), (.call (.func 23) [(.tmp 51), (.tmp 52), (.const (.int .i64 40)), (.tmp 53)]), none⟩, ⟨(some 50), (.mv (.tmp 54)), none⟩, ⟨(some 55), (.ext (.tmp 50) 0), none⟩,
  ⟨(some 56), (.ext (.tmp 50) 1), none⟩, ⟨(some 14), (.mv (.tmp 55)), none⟩, ⟨(some 15), (.mv (.tmp 56)), none⟩]) (.seq (.region [⟨(some 57), (.mv (.tmp 4)), none⟩, ⟨(some 58),
  (.bin .eql (.tmp 57) (.const (.int .i64 3))), none⟩, ⟨(some 59), (.mv (.tmp 58)), none⟩, ⟨(some 60), (.mv (.tmp 6)), (some (59, true))⟩, ⟨(some 61), (.bin .eql (.tmp 60) (.const
  (.int .i64 0))), (some (59, true))⟩, ⟨(some 62), (.pick (.tmp 59) (.tmp 61) (.const (.bool false))), none⟩, ⟨(some 63), (.mv (.tmp 62)), none⟩, ⟨(some 64), (.mv (.tmp 8)), (some
  (63, true))⟩, ⟨(some 65), (.bin .eql (.tmp 64) (.const (.int .i64 0))), (some (63, true))⟩, ⟨(some 66), (.pick (.tmp 63) (.tmp 65) (.const (.bool false))), none⟩, ⟨(some 67),
  (.mv (.tmp 66)), none⟩, ⟨(some 68), (.mv (.tmp 11)), (some (67, true))⟩, ⟨(some 69), (.bin .eql (.tmp 68) (.const (.int .i64 0))), (some (67, true))⟩, ⟨(some 70), (.pick (.tmp
  67) (.tmp 69) (.const (.bool false))), none⟩, ⟨(some 71), (.mv (.tmp 70)), none⟩, ⟨(some 72), (.mv (.tmp 13)), (some (71, true))⟩, ⟨(some 73), (.bin .eql (.tmp 72) (.const (.int
  .i64 10))), (some (71, true))⟩, ⟨(some 74), (.pick (.tmp 71) (.tmp 73) (.const (.bool false))), none⟩, ⟨(some 75), (.mv (.tmp 74)), none⟩, ⟨(some 76), (.mv (.tmp 15)), (some (75,
   true))⟩, ⟨(some 77), (.bin .eql (.tmp 76) (.const (.int .i64 20))), (some (75, true))⟩, ⟨(some 78), (.pick (.tmp 75) (.tmp 77) (.const (.bool false))), none⟩, ⟨(some 79), (.mv
  (.tmp 78)), none⟩, ⟨(some 80), (.mv (.tmp 5)), (some (79, true))⟩, ⟨(some 81), (.bin .eql (.tmp 80) (.const (.int .i64 13))), (some (79, true))⟩, ⟨(some 82), (.pick (.tmp 79)
  (.tmp 81) (.const (.bool false))), none⟩, ⟨(some 83), (.mv (.tmp 82)), none⟩, ⟨(some 84), (.mv (.tmp 7)), (some (83, true))⟩, ⟨(some 85), (.bin .eql (.tmp 84) (.const (.int .i64
  12))), (some (83, true))⟩, ⟨(some 86), (.pick (.tmp 83) (.tmp 85) (.const (.bool false))), none⟩, ⟨(some 87), (.mv (.tmp 86)), none⟩, ⟨(some 88), (.mv (.tmp 9)), (some (87,
  true))⟩, ⟨(some 89), (.bin .eql (.tmp 88) (.const (.int .i64 (-1)))), (some (87, true))⟩, ⟨(some 90), (.pick (.tmp 87) (.tmp 89) (.const (.bool false))), none⟩, ⟨(some 91), (.mv
  (.tmp 90)), none⟩, ⟨(some 92), (.mv (.tmp 10)), (some (91, true))⟩, ⟨(some 93), (.bin .eql (.tmp 92) (.const (.int .i64 1))), (some (91, true))⟩, ⟨(some 94), (.pick (.tmp 91)
  (.tmp 93) (.const (.bool false))), none⟩, ⟨(some 95), (.mv (.tmp 94)), none⟩, ⟨(some 96), (.call (.func 15) []), (some (95, true))⟩, ⟨(some 97), (.pick (.tmp 95) (.tmp 96)
  (.const (.bool false))), none⟩, ⟨(some 0), (.mv (.tmp 97)), none⟩]) .ret))))))))))⟩
def af14 : AFn := ⟨13, [(.tmp 2)], (.seq (.region [⟨(some 1), (.box (.tmp 0)), none⟩, ⟨(some 2), (.mv (.const (.bool false))), none⟩]) (.seq (.region [⟨(some 3), (.faddr 5 (.tmp 1)), none⟩, ⟨(some
  4), (.load none (.tmp 3)), none⟩, ⟨(some 5), (.len (.tmp 4)), none⟩, ⟨(some 6), (.bin .gtr (.tmp 5) (.const (.int .i64 30))), none⟩, ⟨(some 7), (.mv (.tmp 6)), none⟩, ⟨(some 8),
  (.faddr 6 (.tmp 1)), (some (7, false))⟩, ⟨(some 9), (.load none (.tmp 8)), (some (7, false))⟩, ⟨(some 10), (.len (.tmp 9)), (some (7, false))⟩, ⟨(some 11), (.bin .gtr (.tmp 10)
  (.const (.int .i64 30))), (some (7, false))⟩, ⟨(some 12), (.pick (.tmp 7) (.const (.bool true)) (.tmp 11)), none⟩, ⟨(some 2), (.mv (.tmp 12)), none⟩]) .ret))⟩
def af15 : AFn := ⟨188, [(.tmp 0)], (.seq (.region [⟨(some 0), (.mv (.const (.bool false))), none⟩]) (.seq (.region [⟨(some 30), (.call (.func 41) []), none⟩, ⟨(some 1), (.alloc [(.int .i64 0),
  (.int .i64 0), (.int .i64 0), (.int .i64 0), (.int .i64 0), (.slc none 0 0 true 0), (.slc none 0 0 true 0)]), none⟩, ⟨none, (.store 7 (.tmp 1) (.tmp 30)), none⟩]) (.seq (.region
  [⟨(some 32), (.load (some 7) (.tmp 1)), none⟩, ⟨(some 33), (.call (.func 16) [(.tmp 32)]), none⟩, ⟨(some 31), (.mv (.tmp 33)), none⟩, ⟨(some 34), (.ext (.tmp 31) 0), none⟩,
  ⟨(some 35), (.ext (.tmp 31) 1), none⟩, ⟨(some 2), (.mv (.tmp 34)), none⟩, ⟨(some 3), (.mv (.tmp 35)), none⟩]) (.seq (.region [⟨(some 37), (.load (some 7) (.tmp 1)), none⟩,
  ⟨(some 38), (.call (.func 26) [(.tmp 37)]), none⟩, ⟨(some 36), (.mv (.tmp 38)), none⟩, ⟨(some 39), (.ext (.tmp 36) 0), none⟩, ⟨(some 40), (.ext (.tmp 36) 1), none⟩, ⟨(some 41),
  (.ext (.tmp 36) 2), none⟩, ⟨(some 4), (.mv (.tmp 39)), none⟩, ⟨(some 5), (.mv (.tmp 40)), none⟩, ⟨(some 6), (.mv (.tmp 41)), none⟩]) (.seq (.region [⟨(some 43), (.load (some 7)
  (.tmp 1)), none⟩, ⟨(some 44), (.bslice [(.int .i64 0), (.int .i64 0), (.int .i64 0)] 3 1 [(0, (1, (.const (.int .i64 0)))), (1, (1, (.const (.int .i64 1)))), (2, (1, (.const
  (.int .i64 2))))]), none⟩, ⟨(some 45), (.call (.func 18) [(.tmp 43), (.tmp 44)]), none⟩, ⟨(some 42), (.mv (.tmp 45)), none⟩, ⟨(some 46), (.ext (.tmp 42) 0), none⟩, ⟨(some 47),
  (.ext (.tmp 42) 1), none⟩, ⟨(some 7), (.mv (.tmp 46)), none⟩, ⟨(some 8), (.mv (.tmp 47)), none⟩]) (.seq (.region [⟨(some 49), (.load (some 7) (.tmp 1)), none⟩, ⟨(some 50),
  (.bslice [(.int .i64 0), (.int .i64 0), (.int .i64 0)] 3 1 [(0, (1, (.const (.int .i64 2)))), (1, (1, (.const (.int .i64 0)))), (2, (1, (.const (.int .i64 1))))]), none⟩, ⟨(some
  51), (.call (.func 18) [(.tmp 49), (.tmp 50)]), none⟩, ⟨(some 48), (.mv (.tmp 51)), none⟩, ⟨(some 52), (.ext (.tmp 48) 0), none⟩, ⟨(some 53), (.ext (.tmp 48) 1), none⟩, ⟨(some
  9), (.mv (.tmp 52)), none⟩, ⟨(some 10), (.mv (.tmp 53)), none⟩]) (.seq (.region [⟨(some 55), (.load (some 7) (.tmp 1)), none⟩, ⟨(some 56), (.bslice [(.int .i64 0), (.int .i64 0),
   (.int .i64 0)] 3 1 [(0, (1, (.const (.int .i64 0)))), (1, (1, (.const (.int .i64 0)))), (2, (1, (.const (.int .i64 2))))]), none⟩, ⟨(some 57), (.call (.func 18) [(.tmp 55),
  (.tmp 56)]), none⟩, ⟨(some 54), (.mv (.tmp 57)), none⟩, ⟨(some 58), (.ext (.tmp 54) 0), none⟩, ⟨(some 59), (.ext (.tmp 54) 1), none⟩, ⟨(some 11), (.mv (.tmp 58)), none⟩, ⟨(some
  12), (.mv (.tmp 59)), none⟩]) (.seq (.region [⟨(some 61), (.load (some 7) (.tmp 1)), none⟩, ⟨(some 62), (.bslice [(.int .i64 0), (.int .i64 0), (.int .i64 0)] 3 1 [(0, (1,
  (.const (.int .i64 1)))), (1, (1, (.const (.int .i64 0)))), (2, (1, (.const (.int .i64 2))))]), none⟩, ⟨(some 63), (.bslice [(.int .i64 0), (.int .i64 0), (.int .i64 0)] 3 1 [(0,
   (1, (.const (.int .i64 20)))), (1, (1, (.const (.int .i64 30)))), (2, (1, (.const (.int .i64 20))))]), none⟩, ⟨(some 64), (.call (.func 23) [(.tmp 61), (.tmp 62), (.const (.int
  .i64 50)), (.tmp 63)]), none⟩, ⟨(some 60), (.mv (.tmp 64)), none⟩, ⟨(some 65), (.ext (.tmp 60) 0), none⟩, ⟨(some 66), (.ext (.tmp 60) 1), none⟩, ⟨(some 13), (.mv (.tmp 65)),
  none⟩, ⟨(some 14), (.mv (.tmp 66)), none⟩]) (.seq (.region [⟨(some 68), (.load (some 7) (.tmp 1)), none⟩, ⟨(some 69), (.bslice [(.int .i64 0), (.int .i64 0), (.int .i64 0)] 3 1
  [(0, (1, (.const (.int .i64 5)))), (1, (1, (.const (.int .i64 9)))), (2, (1, (.const (.int .i64 4))))]), none⟩, ⟨(some 70), (.call (.func 31) [(.tmp 68), (.tmp 69)]), none⟩,
  ⟨(some 67), (.mv (.tmp 70)), none⟩, ⟨(some 71), (.ext (.tmp 67) 0), none⟩, ⟨(some 72), (.ext (.tmp 67) 1), none⟩, ⟨(some 15), (.mv (.tmp 71)), none⟩, ⟨(some 16), (.mv (.tmp 72)),
   none⟩]) (.seq (.region [⟨(some 74), (.load (some 7) (.tmp 1)), none⟩, ⟨(some 75), (.call (.func 33) [(.tmp 74)]), none⟩, ⟨(some 73), (.mv (.tmp 75)), none⟩, ⟨(some 76), (.ext
  (.tmp 73) 0), none⟩, ⟨(some 77), (.ext (.tmp 73) 1), none⟩, ⟨(some 17), (.mv (.tmp 76)), none⟩, ⟨(some 18), (.mv (.tmp 77)), none⟩]) (.seq (.region [⟨(some 79), (.load (some 7)
  (.tmp 1)), none⟩, ⟨(some 80), (.call (.func 28) [(.tmp 79)]), none⟩, ⟨(some 78), (.mv (.tmp 80)), none⟩, ⟨(some 81), (.ext (.tmp 78) 0), none⟩, ⟨(some 82), (.ext (.tmp 78) 1),
  none⟩, ⟨(some 83), (.ext (.tmp 78) 2), none⟩, ⟨(some 19), (.mv (.tmp 81)), none⟩, ⟨(some 20), (.mv (.tmp 82)), none⟩, ⟨(some 21), (.mv (.tmp 83)), none⟩]) (.seq (.region [⟨(some
  85), (.call (.func 42) []), none⟩, ⟨(some 86), (.call (.func 28) [(.tmp 85)]), none⟩, ⟨(some 84), (.mv (.tmp 86)), none⟩, ⟨(some 87), (.ext (.tmp 84) 0), none⟩, ⟨(some 88),
  (.ext (.tmp 84) 1), none⟩, ⟨(some 89), (.ext (.tmp 84) 2), none⟩, ⟨(some 22), (.mv (.tmp 87)), none⟩, ⟨(some 23), (.mv (.tmp 88)), none⟩, ⟨(some 24), (.mv (.tmp 89)), none⟩])
  (.seq (.region [⟨(some 91), (.call (.func 42) []), none⟩, ⟨(some 92), (.call (.func 26) [(.tmp 91)]), none⟩, ⟨(some 90), (.mv (.tmp 92)), none⟩, ⟨(some 93), (.ext (.tmp 90) 0),
  none⟩, ⟨(some 94), (.ext (.tmp 90) 1), none⟩, ⟨(some 95), (.ext (.tmp 90) 2), none⟩, ⟨(some 25), (.mv (.tmp 93)), none⟩, ⟨(some 26), (.mv (.tmp 94)), none⟩, ⟨(some 27), (.mv
  (.tmp 95)), none⟩]) (.seq (.seq (.region [⟨(some 96), (.mv (.tmp 3)), none⟩, ⟨(some 97), (.bin .neq (.tmp 96) (.const (.int .i64 0))), none⟩, ⟨(some 98), (.mv (.tmp 97)), none⟩,
  ⟨(some 99), (.mv (.tmp 6)), (some (98, false))⟩, ⟨(some 100), (.bin .neq (.tmp 99) (.const (.int .i64 0))), (some (98, false))⟩, ⟨(some 101), (.pick (.tmp 98) (.const (.bool
  true)) (.tmp 100)), none⟩, ⟨(some 102), (.mv (.tmp 101)), none⟩, ⟨(some 103), (.mv (.tmp 8)), (some (102, false))⟩, ⟨(some 104), (.bin .neq (.tmp 103) (.const (.int .i64 0))),
  (some (102, false))⟩, ⟨(some 105), (.pick (.tmp 102) (.const (.bool true)) (.tmp 104)), none⟩, ⟨(some 106), (.mv (.tmp 105)), none⟩, ⟨(some 107), (.mv (.tmp 10)), (some (106,
  false))⟩, ⟨(some 108), (.bin .neq (.tmp 107) (.const (.int .i64 10))), (some (106, false))⟩, ⟨(some 109), (.pick (.tmp 106) (.const (.bool true)) (.tmp 108)), none⟩, ⟨(some 110),
   (.mv (.tmp 109)), none⟩, ⟨(some 111), (.mv (.tmp 12)), (some (110, false))⟩, ⟨(some 112), (.bin .neq (.tmp 111) (.const (.int .i64 20))), (some (110, false))⟩, ⟨(some 113),
  (.pick (.tmp 110) (.const (.bool true)) (.tmp 112)), none⟩, ⟨(some 114), (.mv (.tmp 113)), none⟩, ⟨(some 115), (.mv (.tmp 14)), (some (114, false))⟩, ⟨(some 116), (.bin .neq
  (.tmp 115) (.const (.int .i64 0))), (some (114, false))⟩, ⟨(some 117), (.pick (.tmp 114) (.const (.bool true)) (.tmp 116)), none⟩, ⟨(some 118), (.mv (.tmp 117)), none⟩, ⟨(some
  119), (.mv (.tmp 16)), (some (118, false))⟩, ⟨(some 120), (.bin .neq (.tmp 119) (.const (.int .i64 0))), (some (118, false))⟩, ⟨(some 121), (.pick (.tmp 118) (.const (.bool
  true)) (.tmp 120)), none⟩, ⟨(some 122), (.mv (.tmp 121)), none⟩, ⟨(some 123), (.mv (.tmp 18)), (some (122, false))⟩, ⟨(some 124), (.bin .neq (.tmp 123) (.const (.int .i64 0))),
  (some (122, false))⟩, ⟨(some 125), (.pick (.tmp 122) (.const (.bool true)) (.tmp 124)), none⟩, ⟨(some 126), (.mv (.tmp 125)), none⟩, ⟨(some 127), (.mv (.tmp 21)), (some (126,
  false))⟩, ⟨(some 128), (.bin .neq (.tmp 127) (.const (.int .i64 5))), (some (126, false))⟩, ⟨(some 129), (.pick (.tmp 126) (.const (.bool true)) (.tmp 128)), none⟩, ⟨(some 130),
  (.mv (.tmp 129)), none⟩, ⟨(some 131), (.mv (.tmp 24)), (some (130, false))⟩, ⟨(some 132), (.bin .neq (.tmp 131) (.const (.int .i64 0))), (some (130, false))⟩, ⟨(some 133),
  (.pick (.tmp 130) (.const (.bool true)) (.tmp 132)), none⟩, ⟨(some 134), (.mv (.tmp 133)), none⟩, ⟨(some 135), (.mv (.tmp 27)), (some (134, false))⟩, ⟨(some 136), (.bin .neq
  (.tmp 135) (.const (.int .i64 13))), (some (134, false))⟩, ⟨(some 137), (.pick (.tmp 134) (.const (.bool true)) (.tmp 136)), none⟩]) (.cond (.tmp 137) (.seq (.region [⟨(some 0),
  (.mv (.const (.bool false))), none⟩]) .ret) .skip)) (.seq (.region [⟨(some 139), (.load (some 7) (.tmp 1)), none⟩, ⟨(some 140), (.mv (.tmp 17)), none⟩, ⟨(some 141), (.call
  (.func 32) [(.tmp 139), (.tmp 140)]), none⟩, ⟨(some 138), (.mv (.tmp 141)), none⟩, ⟨(some 142), (.ext (.tmp 138) 0), none⟩, ⟨(some 143), (.ext (.tmp 138) 1), none⟩, ⟨(some 28),
  (.mv (.tmp 142)), none⟩, ⟨(some 29), (.mv (.tmp 143)), none⟩]) (.seq (.region [⟨(some 144), (.mv (.tmp 29)), none⟩, ⟨(some 145), (.bin .eql (.tmp 144) (.const (.int .i64 0))),
  none⟩, ⟨(some 146), (.mv (.tmp 145)), none⟩, ⟨(some 147), (.mv (.tmp 28)), (some (146, true))⟩, ⟨(some 148), (.bin .eql (.tmp 147) (.const (.int .i64 13))), (some (146, true))⟩,
  ⟨(some 149), (.pick (.tmp 146) (.tmp 148) (.const (.bool false))), none⟩, ⟨(some 150), (.mv (.tmp 149)), none⟩, ⟨(some 151), (.mv (.tmp 2)), (some (150, true))⟩, ⟨(some 152),
  (.call (.func 40) [(.const (.int .i64 0)), (.const (.int .i64 1))]), (some (150, true))⟩, ⟨(some 153), (.call (.func 40) [(.const (.int .i64 1)), (.const (.int .i64 2))]), (some
  (150, true))⟩, ⟨(some 154), (.call (.func 40) [(.const (.int .i64 3)), (.const (.int .i64 3))]), (some (150, true))⟩, ⟨(some 155), (.bslice [(.int .i64 0), (.int .i64 0), (.int
  .i64 0), (.int .i64 0), (.int .i64 0), (.int .i64 0)] 3 2 [(0, (2, (.tmp 152))), (2, (2, (.tmp 153))), (4, (2, (.tmp 154)))]), (some (150, true))⟩, ⟨(some 156), (.call (.func
  22) [(.tmp 151), (.tmp 155)]), (some (150, true))⟩, ⟨(some 157), (.pick (.tmp 150) (.tmp 156) (.const (.bool false))), none⟩, ⟨(some 158), (.mv (.tmp 157)), none⟩, ⟨(some 159),
  (.mv (.tmp 4)), (some (158, true))⟩, ⟨(some 160), (.bslice [(.int .i64 0), (.int .i64 0), (.int .i64 0)] 3 1 [(0, (1, (.const (.int .i64 1)))), (1, (1, (.const (.int .i64 0)))),
  (2, (1, (.const (.int .i64 2))))]), (some (158, true))⟩, ⟨(some 161), (.call (.func 30) [(.tmp 159), (.tmp 160)]), (some (158, true))⟩, ⟨(some 162), (.pick (.tmp 158) (.tmp 161)
  (.const (.bool false))), none⟩, ⟨(some 163), (.mv (.tmp 162)), none⟩, ⟨(some 164), (.mv (.tmp 5)), (some (163, true))⟩, ⟨(some 165), (.bin .eql (.tmp 164) (.const (.int .i64
  13))), (some (163, true))⟩, ⟨(some 166), (.pick (.tmp 163) (.tmp 165) (.const (.bool false))), none⟩, ⟨(some 167), (.mv (.tmp 166)), none⟩, ⟨(some 168), (.mv (.tmp 7)), (some
  (167, true))⟩, ⟨(some 169), (.bin .eql (.tmp 168) (.const (.int .i64 17))), (some (167, true))⟩, ⟨(some 170), (.pick (.tmp 167) (.tmp 169) (.const (.bool false))), none⟩, ⟨(some
  171), (.mv (.tmp 170)), none⟩, ⟨(some 172), (.mv (.tmp 13)), (some (171, true))⟩, ⟨(some 173), (.bslice [(.int .i64 0), (.int .i64 0), (.int .i64 0)] 3 1 [(0, (1, (.const (.int
  .i64 60)))), (1, (1, (.const (.int .i64 30)))), (2, (1, (.const (.int .i64 70))))]), (some (171, true))⟩, ⟨(some 174), (.call (.func 25) [(.tmp 172), (.tmp 173)]), (some (171,
  true))⟩, ⟨(some 175), (.pick (.tmp 171) (.tmp 174) (.const (.bool false))), none⟩, ⟨(some 176), (.mv (.tmp 175)), none⟩, ⟨(some 177), (.mv (.tmp 15)), (some (176, true))⟩,
  ⟨(some 178), (.bin .eql (.tmp 177) (.const (.int .i64 13))), (some (176, true))⟩, ⟨(some 179), (.pick (.tmp 176) (.tmp 178) (.const (.bool false))), none⟩, ⟨(some 180), (.mv
  (.tmp 179)), none⟩, ⟨(some 181), (.mv (.tmp 22)), (some (180, true))⟩, ⟨(some 182), (.bin .eql (.tmp 181) (.const (.int .i64 2))), (some (180, true))⟩, ⟨(some 183), (.pick (.tmp
  180) (.tmp 182) (.const (.bool false))), none⟩, ⟨(some 184), (.mv (.tmp 183)), none⟩, ⟨(some 185), (.mv (.tmp 23)), (some (184, true))⟩, ⟨(some 186), (.bin .eql (.tmp 185)
  (.const (.int .i64 2))), (some (184, true))⟩, ⟨(some 187), (.pick (.tmp 184) (.tmp 186) (.const (.bool false))), none⟩, ⟨(some 0), (.mv (.tmp 187)), none⟩]) .ret))))))))))))))))⟩
def af16 : AFn := ⟨15, [(.tmp 2), (.tmp 3)], (.seq (.region [⟨(some 1), (.box (.tmp 0)), none⟩, ⟨(some 2), (.mv (.const (.slc none 0 0 true 0))), none⟩, ⟨(some 3), (.mv (.const (.int .i64 0))),
  none⟩]) (.seq (.seq (.region [⟨(some 5), (.load (some 7) (.tmp 1)), none⟩, ⟨(some 6), (.call (.func 20) [(.tmp 5)]), none⟩, ⟨(some 4), (.mv (.tmp 6)), none⟩]) (.seq (.region
  [⟨(some 7), (.mv (.tmp 4)), none⟩, ⟨(some 8), (.bin .neq (.tmp 7) (.const (.int .i64 0))), none⟩]) (.cond (.tmp 8) (.seq (.region [⟨(some 9), (.mv (.tmp 4)), none⟩, ⟨(some 2),
  (.mv (.const (.slc none 0 0 true 0))), none⟩, ⟨(some 3), (.mv (.tmp 9)), none⟩]) .ret) .skip))) (.seq (.region [⟨(some 10), (.load (some 7) (.tmp 1)), none⟩, ⟨(some 11), (.call
  (.func 43) [(.tmp 10)]), none⟩, ⟨(some 12), (.nilchk (.tmp 11)), none⟩, ⟨(some 13), (.faddr 7 (.tmp 12)), none⟩, ⟨(some 14), (.load none (.tmp 13)), none⟩, ⟨(some 2), (.mv (.tmp
  14)), none⟩, ⟨(some 3), (.mv (.const (.int .i64 0))), none⟩]) .ret)))⟩
def af17 : AFn := ⟨11, [(.tmp 2), (.tmp 3)], (.seq (.region [⟨(some 1), (.box (.tmp 0)), none⟩, ⟨(some 2), (.mv (.const (.slc none 0 0 true 0))), none⟩, ⟨(some 3), (.mv (.const (.int .i64 0))),
  none⟩]) (.seq (.seq (.region [⟨(some 4), (.load (some 7) (.tmp 1)), none⟩, ⟨(some 5), (.call (.func 21) [(.tmp 4)]), none⟩, ⟨(some 6), (.bin .neq (.tmp 5) (.const (.int .i64
  0))), none⟩]) (.cond (.tmp 6) (.seq (.region [⟨(some 7), (.load (some 7) (.tmp 1)), none⟩, ⟨(some 8), (.call (.func 21) [(.tmp 7)]), none⟩, ⟨(some 2), (.mv (.const (.slc none 0
  0 true 0))), none⟩, ⟨(some 3), (.mv (.tmp 8)), none⟩]) .ret) .skip)) (.seq (.region [⟨(some 9), (.load (some 7) (.tmp 1)), none⟩, ⟨(some 10), (.call (.func 44) [(.tmp 9)]),
  none⟩, ⟨(some 2), (.mv (.tmp 10)), none⟩, ⟨(some 3), (.mv (.const (.int .i64 0))), none⟩]) .ret)))⟩
def af18 : AFn := ⟨68, [(.tmp 4), (.tmp 5)], (.seq (.region [⟨(some 2), (.box (.tmp 0)), none⟩, ⟨(some 4), (.mv (.const (.int .i64 0))), none⟩, ⟨(some 5), (.mv (.const (.int .i64 0))), none⟩])
  (.seq (.region [⟨(some 12), (.load (some 7) (.tmp 2)), none⟩, ⟨(some 13), (.call (.func 20) [(.tmp 12)]), none⟩, ⟨(some 6), (.mv (.tmp 13)), none⟩]) (.seq (.block 0 (.seq
  (.region [⟨(some 15), (.mv (.tmp 6)), none⟩, ⟨(some 16), (.bin .neq (.tmp 15) (.const (.int .i64 0))), none⟩, ⟨(some 14), (.mv (.tmp 16)), none⟩]) (.cond (.tmp 14) (.seq
  (.region [⟨(some 17), (.mv (.tmp 6)), none⟩, ⟨(some 4), (.mv (.const (.int .i64 0))), none⟩, ⟨(some 5), (.mv (.tmp 17)), none⟩]) .ret) (.seq (.region [⟨(some 19), (.mv (.tmp 1)),
   none⟩, ⟨(some 20), (.len (.tmp 19)), none⟩, ⟨(some 21), (.faddr 5 (.tmp 2)), none⟩, ⟨(some 22), (.load none (.tmp 21)), none⟩, ⟨(some 23), (.len (.tmp 22)), none⟩, ⟨(some 24),
  (.bin .neq (.tmp 20) (.tmp 23)), none⟩, ⟨(some 18), (.mv (.tmp 24)), none⟩]) (.cond (.tmp 18) (.seq (.region [⟨(some 4), (.mv (.const (.int .i64 0))), none⟩, ⟨(some 5), (.mv
  (.const (.int .i64 15))), none⟩]) .ret) (.seq (.region [⟨(some 26), (.mv (.tmp 1)), none⟩, ⟨(some 27), (.mkfn 46 [] [(.tmp 2)]), none⟩, ⟨(some 28), (.call (.func 45) [(.tmp 26),
  (.tmp 27)]), none⟩, ⟨(some 25), (.mv (.tmp 28)), none⟩]) (.cond (.tmp 25) (.seq (.region [⟨(some 4), (.mv (.const (.int .i64 0))), none⟩, ⟨(some 5), (.mv (.const (.int .i64 3))),
   none⟩]) .ret) .skip))))))) (.seq (.region [⟨(some 7), (.mv (.const (.int .i64 0))), none⟩, ⟨(some 8), (.mv (.const (.int .i64 0))), none⟩]) (.seq (.seq (.region [⟨(some 29),
  (.load (some 7) (.tmp 2)), none⟩, ⟨(some 30), (.call (.func 43) [(.tmp 29)]), none⟩, ⟨(some 31), (.nilchk (.tmp 30)), none⟩, ⟨(some 32), (.faddr 7 (.tmp 31)), none⟩, ⟨(some 33),
  (.load none (.tmp 32)), none⟩, ⟨(some 34), (.len (.tmp 33)), none⟩, ⟨(some 35), (.mv (.const (.int .i64 0))), none⟩]) (.block 1 (.loop (.seq (.region [⟨(some 36), (.bin .lss
  (.tmp 35) (.tmp 34)), none⟩]) (.seq (.cond (.tmp 36) .skip (.exit 1)) (.seq (.block 2 (.seq (.region [⟨(some 37), (.mv (.tmp 35)), none⟩, ⟨(some 38), (.iaddrS 2 (.tmp 33) (.tmp
  35)), none⟩, ⟨(some 39), (.load (some 2) (.tmp 38)), none⟩, ⟨(some 10), (.alloc [(.int .i64 0), (.int .i64 0)]), none⟩, ⟨(some 9), (.mv (.tmp 37)), none⟩, ⟨none, (.store 2 (.tmp
  10) (.tmp 39)), none⟩]) (.seq (.region [⟨(some 40), (.mv (.tmp 1)), none⟩, ⟨(some 41), (.mv (.tmp 9)), none⟩, ⟨(some 42), (.iaddrS 1 (.tmp 40) (.tmp 41)), none⟩, ⟨(some 43),
  (.load none (.tmp 42)), none⟩, ⟨(some 11), (.mv (.tmp 43)), none⟩]) (.seq (.region [⟨(some 44), (.mv (.tmp 7)), none⟩, ⟨(some 45), (.mv (.tmp 11)), none⟩, ⟨(some 46), (.bin .add
  (.tmp 44) (.tmp 45)), none⟩, ⟨(some 7), (.mv (.tmp 46)), none⟩]) (.seq (.region [⟨(some 47), (.mv (.tmp 8)), none⟩, ⟨(some 48), (.mv (.tmp 11)), none⟩, ⟨(some 49), (.faddr 6
  (.tmp 2)), none⟩, ⟨(some 50), (.load none (.tmp 49)), none⟩, ⟨(some 51), (.mv (.tmp 9)), none⟩, ⟨(some 52), (.iaddrS 1 (.tmp 50) (.tmp 51)), none⟩, ⟨(some 53), (.load none (.tmp
  52)), none⟩, ⟨(some 54), (.bin .mul (.tmp 48) (.tmp 53)), none⟩, ⟨(some 55), (.bin .add (.tmp 47) (.tmp 54)), none⟩, ⟨(some 8), (.mv (.tmp 55)), none⟩]) (.block 3 (.seq (.region
  [⟨(some 57), (.mv (.tmp 7)), none⟩, ⟨(some 58), (.faddr 1 (.tmp 10)), none⟩, ⟨(some 59), (.load none (.tmp 58)), none⟩, ⟨(some 60), (.bin .gtr (.tmp 57) (.tmp 59)), none⟩,
  ⟨(some 56), (.mv (.tmp 60)), none⟩]) (.cond (.tmp 56) (.seq (.region [⟨(some 4), (.mv (.const (.int .i64 0))), none⟩, ⟨(some 5), (.mv (.const (.int .i64 10))), none⟩]) .ret)
  (.seq (.region [⟨(some 62), (.mv (.tmp 7)), none⟩, ⟨(some 63), (.faddr 0 (.tmp 10)), none⟩, ⟨(some 64), (.load none (.tmp 63)), none⟩, ⟨(some 65), (.bin .lss (.tmp 62) (.tmp
  64)), none⟩, ⟨(some 61), (.mv (.tmp 65)), none⟩]) (.cond (.tmp 61) (.seq (.region [⟨(some 4), (.mv (.const (.int .i64 0))), none⟩, ⟨(some 5), (.mv (.const (.int .i64 20))),
  none⟩]) .ret) .skip)))))))))) (.region [⟨(some 66), (.bin .add (.tmp 35) (.const (.int .i64 1))), none⟩, ⟨(some 35), (.mv (.tmp 66)), none⟩]))))))) (.seq (.region [⟨(some 67),
  (.mv (.tmp 8)), none⟩, ⟨(some 4), (.mv (.tmp 67)), none⟩, ⟨(some 5), (.mv (.const (.int .i64 0))), none⟩]) .ret))))))⟩
def af19 : AFn := ⟨83, [(.tmp 4), (.tmp 5)], (.seq (.region [⟨(some 2), (.box (.tmp 0)), none⟩, ⟨(some 4), (.mv (.const (.int .i64 0))), none⟩, ⟨(some 5), (.mv (.const (.int .i64 0))), none⟩])
  (.seq (.seq (.region [⟨(some 11), (.load (some 7) (.tmp 2)), none⟩, ⟨(some 12), (.call (.func 21) [(.tmp 11)]), none⟩, ⟨(some 13), (.bin .neq (.tmp 12) (.const (.int .i64 0))),
  none⟩]) (.cond (.tmp 13) (.seq (.region [⟨(some 14), (.load (some 7) (.tmp 2)), none⟩, ⟨(some 15), (.call (.func 21) [(.tmp 14)]), none⟩, ⟨(some 4), (.mv (.const (.int .i64 0))),
   none⟩, ⟨(some 5), (.mv (.tmp 15)), none⟩]) .ret) .skip)) (.seq (.seq (.region [⟨(some 16), (.mv (.tmp 1)), none⟩, ⟨(some 17), (.len (.tmp 16)), none⟩, ⟨(some 18), (.faddr 5
  (.tmp 2)), none⟩, ⟨(some 19), (.load none (.tmp 18)), none⟩, ⟨(some 20), (.len (.tmp 19)), none⟩, ⟨(some 21), (.bin .neq (.tmp 17) (.tmp 20)), none⟩]) (.cond (.tmp 21) (.seq
  (.region [⟨(some 4), (.mv (.const (.int .i64 0))), none⟩, ⟨(some 5), (.mv (.const (.int .i64 15))), none⟩]) .ret) .skip)) (.seq (.seq (.region [⟨(some 6), (.mv (.const (.int
  .i64 0))), none⟩]) (.block 0 (.loop (.seq (.seq (.region [⟨(some 22), (.mv (.tmp 6)), none⟩, ⟨(some 23), (.mv (.tmp 1)), none⟩, ⟨(some 24), (.len (.tmp 23)), none⟩, ⟨(some 25),
  (.bin .lss (.tmp 22) (.tmp 24)), none⟩]) (.cond (.tmp 25) .skip (.exit 0))) (.seq (.block 1 (.seq (.draw [⟨(some 28), (.mv (.tmp 1)), none⟩, ⟨(some 29), (.mv (.tmp 6)), none⟩,
  ⟨(some 30), (.iaddrS 1 (.tmp 28) (.tmp 29)), none⟩, ⟨(some 31), (.load none (.tmp 30)), none⟩, ⟨(some 32), (.bin .lss (.tmp 31) (.const (.int .i64 0))), none⟩, ⟨(some 33), (.mv
  (.tmp 32)), none⟩, ⟨(some 34), (.mv (.tmp 1)), (some (33, false))⟩, ⟨(some 35), (.mv (.tmp 6)), (some (33, false))⟩, ⟨(some 36), (.iaddrS 1 (.tmp 34) (.tmp 35)), (some (33,
  false))⟩, ⟨(some 37), (.load none (.tmp 36)), (some (33, false))⟩, ⟨(some 38), (.faddr 2 (.tmp 2)), (some (33, false))⟩, ⟨(some 39), (.load none (.tmp 38)), (some (33, false))⟩,
  ⟨(some 40), (.bin .gtr (.tmp 37) (.tmp 39)), (some (33, false))⟩, ⟨(some 41), (.pick (.tmp 33) (.const (.bool true)) (.tmp 40)), none⟩] []) (.cond (.tmp 41) (.seq (.region
  [⟨(some 4), (.mv (.const (.int .i64 0))), none⟩, ⟨(some 5), (.mv (.const (.int .i64 3))), none⟩]) .ret) .skip))) (.region [⟨(some 26), (.mv (.tmp 6)), none⟩, ⟨(some 27), (.bin
  .add (.tmp 26) (.const (.int .i64 1))), none⟩, ⟨(some 6), (.mv (.tmp 27)), none⟩])))))) (.seq (.region [⟨(some 42), (.load (some 7) (.tmp 2)), none⟩, ⟨(some 43), (.call (.func
  44) [(.tmp 42)]), none⟩, ⟨(some 7), (.mv (.tmp 43)), none⟩]) (.seq (.region [⟨(some 8), (.mv (.const (.int .i64 0))), none⟩, ⟨(some 9), (.mv (.const (.int .i64 0))), none⟩])
  (.seq (.seq (.region [⟨(some 10), (.mv (.const (.int .i64 0))), none⟩]) (.block 2 (.loop (.seq (.seq (.region [⟨(some 44), (.mv (.tmp 10)), none⟩, ⟨(some 45), (.mv (.tmp 1)),
  none⟩, ⟨(some 46), (.len (.tmp 45)), none⟩, ⟨(some 47), (.bin .lss (.tmp 44) (.tmp 46)), none⟩]) (.cond (.tmp 47) .skip (.exit 2))) (.seq (.block 3 (.seq (.region [⟨(some 50),
  (.mv (.tmp 8)), none⟩, ⟨(some 51), (.mv (.tmp 1)), none⟩, ⟨(some 52), (.mv (.tmp 10)), none⟩, ⟨(some 53), (.iaddrS 1 (.tmp 51) (.tmp 52)), none⟩, ⟨(some 54), (.load none (.tmp
  53)), none⟩, ⟨(some 55), (.bin .add (.tmp 50) (.tmp 54)), none⟩, ⟨(some 8), (.mv (.tmp 55)), none⟩]) (.seq (.draw [⟨(some 56), (.mv (.tmp 9)), none⟩, ⟨(some 57), (.mv (.tmp 1)),
  none⟩, ⟨(some 58), (.mv (.tmp 10)), none⟩, ⟨(some 59), (.iaddrS 1 (.tmp 57) (.tmp 58)), none⟩, ⟨(some 60), (.load none (.tmp 59)), none⟩, ⟨(some 61), (.faddr 6 (.tmp 2)), none⟩,
  ⟨(some 62), (.load none (.tmp 61)), none⟩, ⟨(some 63), (.mv (.tmp 10)), none⟩, ⟨(some 64), (.iaddrS 1 (.tmp 62) (.tmp 63)), none⟩, ⟨(some 65), (.load none (.tmp 64)), none⟩,
  ⟨(some 66), (.bin .mul (.tmp 60) (.tmp 65)), none⟩, ⟨(some 67), (.bin .add (.tmp 56) (.tmp 66)), none⟩, ⟨(some 9), (.mv (.tmp 67)), none⟩] []) (.seq (.seq (.region [⟨(some 68),
  (.mv (.tmp 8)), none⟩, ⟨(some 69), (.mv (.tmp 7)), none⟩, ⟨(some 70), (.mv (.tmp 10)), none⟩, ⟨(some 71), (.iaddrS 2 (.tmp 69) (.tmp 70)), none⟩, ⟨(some 72), (.faddr 1 (.tmp
  71)), none⟩, ⟨(some 73), (.load none (.tmp 72)), none⟩, ⟨(some 74), (.bin .gtr (.tmp 68) (.tmp 73)), none⟩]) (.cond (.tmp 74) (.seq (.region [⟨(some 4), (.mv (.const (.int .i64
  0))), none⟩, ⟨(some 5), (.mv (.const (.int .i64 10))), none⟩]) .ret) .skip)) (.seq (.region [⟨(some 75), (.mv (.tmp 8)), none⟩, ⟨(some 76), (.mv (.tmp 7)), none⟩, ⟨(some 77),
  (.mv (.tmp 10)), none⟩, ⟨(some 78), (.iaddrS 2 (.tmp 76) (.tmp 77)), none⟩, ⟨(some 79), (.faddr 0 (.tmp 78)), none⟩, ⟨(some 80), (.load none (.tmp 79)), none⟩, ⟨(some 81), (.bin
  .lss (.tmp 75) (.tmp 80)), none⟩]) (.cond (.tmp 81) (.seq (.region [⟨(some 4), (.mv (.const (.int .i64 0))), none⟩, ⟨(some 5), (.mv (.const (.int .i64 20))), none⟩]) .ret)
  .skip)))))) (.region [⟨(some 48), (.mv (.tmp 10)), none⟩, ⟨(some 49), (.bin .add (.tmp 48) (.const (.int .i64 1))), none⟩, ⟨(some 10), (.mv (.tmp 49)), none⟩])))))) (.seq
  (.region [⟨(some 82), (.mv (.tmp 9)), none⟩, ⟨(some 4), (.mv (.tmp 82)), none⟩, ⟨(some 5), (.mv (.const (.int .i64 0))), none⟩]) .ret))))))))⟩
def af20 : AFn := ⟨55, [(.tmp 2)], (.seq (.region [⟨(some 1), (.box (.tmp 0)), none⟩, ⟨(some 2), (.mv (.const (.int .i64 0))), none⟩]) (.seq (.block 0 (.seq (.region [⟨(some 4), (.faddr 5 (.tmp 1)),
   none⟩, ⟨(some 5), (.load none (.tmp 4)), none⟩, ⟨(some 6), (.len (.tmp 5)), none⟩, ⟨(some 7), (.bin .eql (.tmp 6) (.const (.int .i64 0))), none⟩, ⟨(some 8), (.mv (.tmp 7)),
  none⟩, ⟨(some 9), (.faddr 5 (.tmp 1)), (some (8, false))⟩, ⟨(some 10), (.load none (.tmp 9)), (some (8, false))⟩, ⟨(some 11), (.len (.tmp 10)), (some (8, false))⟩, ⟨(some 12),
  (.bin .gtr (.tmp 11) (.const (.int .i64 20))), (some (8, false))⟩, ⟨(some 13), (.pick (.tmp 8) (.const (.bool true)) (.tmp 12)), none⟩, ⟨(some 3), (.mv (.tmp 13)), none⟩])
  (.cond (.tmp 3) (.seq (.region [⟨(some 2), (.mv (.const (.int .i64 6))), none⟩]) .ret) (.seq (.region [⟨(some 15), (.faddr 6 (.tmp 1)), none⟩, ⟨(some 16), (.load none (.tmp 15)),
   none⟩, ⟨(some 17), (.len (.tmp 16)), none⟩, ⟨(some 18), (.faddr 5 (.tmp 1)), none⟩, ⟨(some 19), (.load none (.tmp 18)), none⟩, ⟨(some 20), (.len (.tmp 19)), none⟩, ⟨(some 21),
  (.bin .neq (.tmp 17) (.tmp 20)), none⟩, ⟨(some 14), (.mv (.tmp 21)), none⟩]) (.cond (.tmp 14) (.seq (.region [⟨(some 2), (.mv (.const (.int .i64 15))), none⟩]) .ret) (.seq
  (.region [⟨(some 23), (.faddr 0 (.tmp 1)), none⟩, ⟨(some 24), (.load none (.tmp 23)), none⟩, ⟨(some 25), (.faddr 1 (.tmp 1)), none⟩, ⟨(some 26), (.load none (.tmp 25)), none⟩,
  ⟨(some 27), (.bslice [(.int .i64 0), (.int .i64 0)] 2 1 [(0, (1, (.tmp 24))), (1, (1, (.tmp 26)))]), none⟩, ⟨(some 28), (.call (.func 47) [(.const (.int .i64 1)), (.const (.int
  .i64 100000)), (.tmp 27)]), none⟩, ⟨(some 29), (.un .not (.tmp 28)), none⟩, ⟨(some 30), (.mv (.tmp 29)), none⟩, ⟨(some 31), (.faddr 2 (.tmp 1)), (some (30, false))⟩, ⟨(some 32),
  (.load none (.tmp 31)), (some (30, false))⟩, ⟨(some 33), (.bslice [(.int .i64 0)] 1 1 [(0, (1, (.tmp 32)))]), (some (30, false))⟩, ⟨(some 34), (.call (.func 47) [(.const (.int
  .i64 0)), (.const (.int .i64 10)), (.tmp 33)]), (some (30, false))⟩, ⟨(some 35), (.un .not (.tmp 34)), (some (30, false))⟩, ⟨(some 36), (.pick (.tmp 30) (.const (.bool true))
  (.tmp 35)), none⟩, ⟨(some 37), (.mv (.tmp 36)), none⟩, ⟨(some 38), (.faddr 3 (.tmp 1)), (some (37, false))⟩, ⟨(some 39), (.load (some 2) (.tmp 38)), (some (37, false))⟩, ⟨(some
  40), (.faddr 0 (.tmp 1)), (some (37, false))⟩, ⟨(some 41), (.load none (.tmp 40)), (some (37, false))⟩, ⟨(some 42), (.call (.func 48) [(.tmp 39), (.const (.int .i64 0)), (.tmp
  41)]), (some (37, false))⟩, ⟨(some 43), (.un .not (.tmp 42)), (some (37, false))⟩, ⟨(some 44), (.pick (.tmp 37) (.const (.bool true)) (.tmp 43)), none⟩, ⟨(some 22), (.mv (.tmp
  44)), none⟩]) (.cond (.tmp 22) (.seq (.region [⟨(some 2), (.mv (.const (.int .i64 2))), none⟩]) .ret) (.seq (.region [⟨(some 46), (.faddr 5 (.tmp 1)), none⟩, ⟨(some 47), (.load
  none (.tmp 46)), none⟩, ⟨(some 48), (.call (.func 49) [(.tmp 47), (.func 50)]), none⟩, ⟨(some 49), (.mv (.tmp 48)), none⟩, ⟨(some 50), (.faddr 6 (.tmp 1)), (some (49, false))⟩,
  ⟨(some 51), (.load none (.tmp 50)), (some (49, false))⟩, ⟨(some 52), (.call (.func 47) [(.const (.int .i64 0)), (.const (.int .i64 100000)), (.tmp 51)]), (some (49, false))⟩,
  ⟨(some 53), (.un .not (.tmp 52)), (some (49, false))⟩, ⟨(some 54), (.pick (.tmp 49) (.const (.bool true)) (.tmp 53)), none⟩, ⟨(some 45), (.mv (.tmp 54)), none⟩]) (.cond (.tmp
  45) (.seq (.region [⟨(some 2), (.mv (.const (.int .i64 3))), none⟩]) .ret) .skip))))))))) (.seq (.region [⟨(some 2), (.mv (.const (.int .i64 0))), none⟩]) .ret)))⟩
def af21 : AFn := ⟨87, [(.tmp 2)], (.seq (.region [⟨(some 1), (.box (.tmp 0)), none⟩, ⟨(some 2), (.mv (.const (.int .i64 0))), none⟩]) (.seq (.seq (.region [⟨(some 4), (.faddr 5 (.tmp 1)), none⟩,
  ⟨(some 5), (.load none (.tmp 4)), none⟩, ⟨(some 6), (.len (.tmp 5)), none⟩, ⟨(some 7), (.bin .lss (.tmp 6) (.const (.int .i64 1))), none⟩, ⟨(some 8), (.mv (.tmp 7)), none⟩,
  ⟨(some 9), (.faddr 5 (.tmp 1)), (some (8, false))⟩, ⟨(some 10), (.load none (.tmp 9)), (some (8, false))⟩, ⟨(some 11), (.len (.tmp 10)), (some (8, false))⟩, ⟨(some 12), (.bin
  .gtr (.tmp 11) (.const (.int .i64 20))), (some (8, false))⟩, ⟨(some 13), (.pick (.tmp 8) (.const (.bool true)) (.tmp 12)), none⟩]) (.cond (.tmp 13) (.seq (.region [⟨(some 2),
  (.mv (.const (.int .i64 6))), none⟩]) .ret) .skip)) (.seq (.seq (.region [⟨(some 14), (.faddr 6 (.tmp 1)), none⟩, ⟨(some 15), (.load none (.tmp 14)), none⟩, ⟨(some 16), (.len
  (.tmp 15)), none⟩, ⟨(some 17), (.faddr 5 (.tmp 1)), none⟩, ⟨(some 18), (.load none (.tmp 17)), none⟩, ⟨(some 19), (.len (.tmp 18)), none⟩, ⟨(some 20), (.bin .neq (.tmp 16) (.tmp
  19)), none⟩]) (.cond (.tmp 20) (.seq (.region [⟨(some 2), (.mv (.const (.int .i64 15))), none⟩]) .ret) .skip)) (.seq (.seq (.region [⟨(some 21), (.faddr 0 (.tmp 1)), none⟩,
  ⟨(some 22), (.load none (.tmp 21)), none⟩, ⟨(some 23), (.bin .lss (.tmp 22) (.const (.int .i64 1))), none⟩, ⟨(some 24), (.mv (.tmp 23)), none⟩, ⟨(some 25), (.faddr 0 (.tmp 1)),
  (some (24, false))⟩, ⟨(some 26), (.load none (.tmp 25)), (some (24, false))⟩, ⟨(some 27), (.bin .gtr (.tmp 26) (.const (.int .i64 100000))), (some (24, false))⟩, ⟨(some 28),
  (.pick (.tmp 24) (.const (.bool true)) (.tmp 27)), none⟩, ⟨(some 29), (.mv (.tmp 28)), none⟩, ⟨(some 30), (.faddr 1 (.tmp 1)), (some (29, false))⟩, ⟨(some 31), (.load none (.tmp
  30)), (some (29, false))⟩, ⟨(some 32), (.bin .lss (.tmp 31) (.const (.int .i64 1))), (some (29, false))⟩, ⟨(some 33), (.pick (.tmp 29) (.const (.bool true)) (.tmp 32)), none⟩,
  ⟨(some 34), (.mv (.tmp 33)), none⟩, ⟨(some 35), (.faddr 1 (.tmp 1)), (some (34, false))⟩, ⟨(some 36), (.load none (.tmp 35)), (some (34, false))⟩, ⟨(some 37), (.bin .gtr (.tmp
  36) (.const (.int .i64 100000))), (some (34, false))⟩, ⟨(some 38), (.pick (.tmp 34) (.const (.bool true)) (.tmp 37)), none⟩, ⟨(some 39), (.mv (.tmp 38)), none⟩, ⟨(some 40),
  (.faddr 2 (.tmp 1)), (some (39, false))⟩, ⟨(some 41), (.load none (.tmp 40)), (some (39, false))⟩, ⟨(some 42), (.bin .lss (.tmp 41) (.const (.int .i64 0))), (some (39, false))⟩,
  ⟨(some 43), (.pick (.tmp 39) (.const (.bool true)) (.tmp 42)), none⟩, ⟨(some 44), (.mv (.tmp 43)), none⟩, ⟨(some 45), (.faddr 2 (.tmp 1)), (some (44, false))⟩, ⟨(some 46),
  (.load none (.tmp 45)), (some (44, false))⟩, ⟨(some 47), (.bin .gtr (.tmp 46) (.const (.int .i64 10))), (some (44, false))⟩, ⟨(some 48), (.pick (.tmp 44) (.const (.bool true))
  (.tmp 47)), none⟩, ⟨(some 49), (.mv (.tmp 48)), none⟩, ⟨(some 50), (.faddr 3 (.tmp 1)), (some (49, false))⟩, ⟨(some 51), (.load (some 2) (.tmp 50)), (some (49, false))⟩, ⟨(some
  52), (.faddr 0 (.tmp 1)), (some (49, false))⟩, ⟨(some 53), (.load none (.tmp 52)), (some (49, false))⟩, ⟨(some 54), (.call (.func 51) [(.tmp 51), (.const (.int .i64 0)), (.tmp
  53)]), (some (49, false))⟩, ⟨(some 55), (.un .not (.tmp 54)), (some (49, false))⟩, ⟨(some 56), (.pick (.tmp 49) (.const (.bool true)) (.tmp 55)), none⟩]) (.cond (.tmp 56) (.seq
  (.region [⟨(some 2), (.mv (.const (.int .i64 2))), none⟩]) .ret) .skip)) (.seq (.seq (.region [⟨(some 3), (.mv (.const (.int .i64 0))), none⟩]) (.block 0 (.loop (.seq (.seq
  (.region [⟨(some 57), (.mv (.tmp 3)), none⟩, ⟨(some 58), (.faddr 5 (.tmp 1)), none⟩, ⟨(some 59), (.load none (.tmp 58)), none⟩, ⟨(some 60), (.len (.tmp 59)), none⟩, ⟨(some 61),
  (.bin .lss (.tmp 57) (.tmp 60)), none⟩]) (.cond (.tmp 61) .skip (.exit 0))) (.seq (.block 1 (.seq (.region [⟨(some 64), (.faddr 5 (.tmp 1)), none⟩, ⟨(some 65), (.load none (.tmp
  64)), none⟩, ⟨(some 66), (.mv (.tmp 3)), none⟩, ⟨(some 67), (.iaddrS 2 (.tmp 65) (.tmp 66)), none⟩, ⟨(some 68), (.load (some 2) (.tmp 67)), none⟩, ⟨(some 69), (.call (.func 51)
  [(.tmp 68), (.const (.int .i64 0)), (.const (.int .i64 100000))]), none⟩, ⟨(some 70), (.un .not (.tmp 69)), none⟩, ⟨(some 71), (.mv (.tmp 70)), none⟩, ⟨(some 72), (.faddr 6
  (.tmp 1)), (some (71, false))⟩, ⟨(some 73), (.load none (.tmp 72)), (some (71, false))⟩, ⟨(some 74), (.mv (.tmp 3)), (some (71, false))⟩, ⟨(some 75), (.iaddrS 1 (.tmp 73) (.tmp
  74)), (some (71, false))⟩, ⟨(some 76), (.load none (.tmp 75)), (some (71, false))⟩, ⟨(some 77), (.bin .lss (.tmp 76) (.const (.int .i64 0))), (some (71, false))⟩, ⟨(some 78),
  (.pick (.tmp 71) (.const (.bool true)) (.tmp 77)), none⟩, ⟨(some 79), (.mv (.tmp 78)), none⟩, ⟨(some 80), (.faddr 6 (.tmp 1)), (some (79, false))⟩, ⟨(some 81), (.load none (.tmp
  80)), (some (79, false))⟩, ⟨(some 82), (.mv (.tmp 3)), (some (79, false))⟩, ⟨(some 83), (.iaddrS 1 (.tmp 81) (.tmp 82)), (some (79, false))⟩, ⟨(some 84), (.load none (.tmp 83)),
  (some (79, false))⟩, ⟨(some 85), (.bin .gtr (.tmp 84) (.const (.int .i64 100000))), (some (79, false))⟩, ⟨(some 86), (.pick (.tmp 79) (.const (.bool true)) (.tmp 85)), none⟩])
  (.cond (.tmp 86) (.seq (.region [⟨(some 2), (.mv (.const (.int .i64 3))), none⟩]) .ret) .skip))) (.region [⟨(some 62), (.mv (.tmp 3)), none⟩, ⟨(some 63), (.bin .add (.tmp 62)
  (.const (.int .i64 1))), none⟩, ⟨(some 3), (.mv (.tmp 63)), none⟩])))))) (.seq (.region [⟨(some 2), (.mv (.const (.int .i64 0))), none⟩]) .ret))))))⟩
def af22 : AFn := ⟨26, [(.tmp 4)], (.seq (.region [⟨(some 4), (.mv (.const (.bool false))), none⟩]) (.seq (.seq (.region [⟨(some 6), (.mv (.tmp 0)), none⟩, ⟨(some 7), (.len (.tmp 6)), none⟩, ⟨(some
  8), (.mv (.tmp 1)), none⟩, ⟨(some 9), (.len (.tmp 8)), none⟩, ⟨(some 10), (.bin .neq (.tmp 7) (.tmp 9)), none⟩]) (.cond (.tmp 10) (.seq (.region [⟨(some 4), (.mv (.const (.bool
  false))), none⟩]) .ret) .skip)) (.seq (.seq (.region [⟨(some 5), (.mv (.const (.int .i64 0))), none⟩]) (.block 0 (.loop (.seq (.seq (.region [⟨(some 11), (.mv (.tmp 5)), none⟩,
  ⟨(some 12), (.mv (.tmp 0)), none⟩, ⟨(some 13), (.len (.tmp 12)), none⟩, ⟨(some 14), (.bin .lss (.tmp 11) (.tmp 13)), none⟩]) (.cond (.tmp 14) .skip (.exit 0))) (.seq (.block 1
  (.seq (.draw [⟨(some 17), (.mv (.tmp 0)), none⟩, ⟨(some 18), (.mv (.tmp 5)), none⟩, ⟨(some 19), (.iaddrS 2 (.tmp 17) (.tmp 18)), none⟩, ⟨(some 20), (.load (some 2) (.tmp 19)),
  none⟩, ⟨(some 21), (.mv (.tmp 1)), none⟩, ⟨(some 22), (.mv (.tmp 5)), none⟩, ⟨(some 23), (.iaddrS 2 (.tmp 21) (.tmp 22)), none⟩, ⟨(some 24), (.load (some 2) (.tmp 23)), none⟩,
  ⟨(some 25), (.eqf true true [.int, .int] (.tmp 20) (.tmp 24)), none⟩] []) (.cond (.tmp 25) (.seq (.region [⟨(some 4), (.mv (.const (.bool false))), none⟩]) .ret) .skip)))
  (.region [⟨(some 15), (.mv (.tmp 5)), none⟩, ⟨(some 16), (.bin .add (.tmp 15) (.const (.int .i64 1))), none⟩, ⟨(some 5), (.mv (.tmp 16)), none⟩])))))) (.seq (.region [⟨(some 4),
  (.mv (.const (.bool true))), none⟩]) .ret))))⟩
def af23 : AFn := ⟨109, [(.tmp 8), (.tmp 9)], (.seq (.region [⟨(some 4), (.box (.tmp 0)), none⟩, ⟨(some 8), (.mv (.const (.slc none 0 0 true 0))), none⟩, ⟨(some 9), (.mv (.const (.int .i64 0))),
  none⟩]) (.seq (.region [⟨(some 16), (.load (some 7) (.tmp 4)), none⟩, ⟨(some 17), (.call (.func 20) [(.tmp 16)]), none⟩, ⟨(some 10), (.mv (.tmp 17)), none⟩]) (.seq (.block 0
  (.seq (.region [⟨(some 19), (.mv (.tmp 10)), none⟩, ⟨(some 20), (.bin .neq (.tmp 19) (.const (.int .i64 0))), none⟩, ⟨(some 18), (.mv (.tmp 20)), none⟩]) (.cond (.tmp 18) (.seq
  (.region [⟨(some 21), (.mv (.tmp 10)), none⟩, ⟨(some 8), (.mv (.const (.slc none 0 0 true 0))), none⟩, ⟨(some 9), (.mv (.tmp 21)), none⟩]) .ret) (.seq (.region [⟨(some 23), (.mv
  (.tmp 1)), none⟩, ⟨(some 24), (.len (.tmp 23)), none⟩, ⟨(some 25), (.faddr 5 (.tmp 4)), none⟩, ⟨(some 26), (.load none (.tmp 25)), none⟩, ⟨(some 27), (.len (.tmp 26)), none⟩,
  ⟨(some 28), (.bin .neq (.tmp 24) (.tmp 27)), none⟩, ⟨(some 29), (.mv (.tmp 28)), none⟩, ⟨(some 30), (.mv (.tmp 3)), (some (29, false))⟩, ⟨(some 31), (.len (.tmp 30)), (some (29,
  false))⟩, ⟨(some 32), (.faddr 5 (.tmp 4)), (some (29, false))⟩, ⟨(some 33), (.load none (.tmp 32)), (some (29, false))⟩, ⟨(some 34), (.len (.tmp 33)), (some (29, false))⟩,
  ⟨(some 35), (.bin .neq (.tmp 31) (.tmp 34)), (some (29, false))⟩, ⟨(some 36), (.pick (.tmp 29) (.const (.bool true)) (.tmp 35)), none⟩, ⟨(some 22), (.mv (.tmp 36)), none⟩])
  (.cond (.tmp 22) (.seq (.region [⟨(some 8), (.mv (.const (.slc none 0 0 true 0))), none⟩, ⟨(some 9), (.mv (.const (.int .i64 15))), none⟩]) .ret) (.seq (.region [⟨(some 38),
  (.faddr 3 (.tmp 4)), none⟩, ⟨(some 39), (.faddr 0 (.tmp 38)), none⟩, ⟨(some 40), (.load none (.tmp 39)), none⟩, ⟨(some 41), (.faddr 3 (.tmp 4)), none⟩, ⟨(some 42), (.faddr 1
  (.tmp 41)), none⟩, ⟨(some 43), (.load none (.tmp 42)), none⟩, ⟨(some 44), (.mv (.tmp 2)), none⟩, ⟨(some 45), (.bslice [(.int .i64 0)] 1 1 [(0, (1, (.tmp 44)))]), none⟩, ⟨(some
  46), (.call (.func 47) [(.tmp 40), (.tmp 43), (.tmp 45)]), none⟩, ⟨(some 47), (.un .not (.tmp 46)), none⟩, ⟨(some 48), (.mv (.tmp 47)), none⟩, ⟨(some 49), (.mv (.tmp 1)), (some
  (48, false))⟩, ⟨(some 50), (.mkfn 52 [] [(.tmp 4)]), (some (48, false))⟩, ⟨(some 51), (.call (.func 45) [(.tmp 49), (.tmp 50)]), (some (48, false))⟩, ⟨(some 52), (.pick (.tmp
  48) (.const (.bool true)) (.tmp 51)), none⟩, ⟨(some 37), (.mv (.tmp 52)), none⟩]) (.cond (.tmp 37) (.seq (.region [⟨(some 8), (.mv (.const (.slc none 0 0 true 0))), none⟩,
  ⟨(some 9), (.mv (.const (.int .i64 3))), none⟩]) .ret) .skip))))))) (.seq (.seq (.region [⟨(some 53), (.faddr 5 (.tmp 4)), none⟩, ⟨(some 54), (.load none (.tmp 53)), none⟩,
  ⟨(some 55), (.len (.tmp 54)), none⟩, ⟨(some 56), (.mv (.const (.int .i64 0))), none⟩]) (.block 1 (.loop (.seq (.region [⟨(some 57), (.bin .lss (.tmp 56) (.tmp 55)), none⟩])
  (.seq (.cond (.tmp 57) .skip (.exit 1)) (.seq (.block 2 (.seq (.region [⟨(some 58), (.mv (.tmp 56)), none⟩, ⟨(some 59), (.iaddrS 2 (.tmp 54) (.tmp 56)), none⟩, ⟨(some 60),
  (.load (some 2) (.tmp 59)), none⟩, ⟨(some 12), (.alloc [(.int .i64 0), (.int .i64 0)]), none⟩, ⟨(some 11), (.mv (.tmp 58)), none⟩, ⟨none, (.store 2 (.tmp 12) (.tmp 60)), none⟩])
  (.seq (.draw [⟨(some 61), (.faddr 0 (.tmp 12)), none⟩, ⟨(some 62), (.load none (.tmp 61)), none⟩, ⟨(some 63), (.faddr 1 (.tmp 12)), none⟩, ⟨(some 64), (.load none (.tmp 63)),
  none⟩, ⟨(some 65), (.mv (.tmp 3)), none⟩, ⟨(some 66), (.mv (.tmp 11)), none⟩, ⟨(some 67), (.iaddrS 1 (.tmp 65) (.tmp 66)), none⟩, ⟨(some 68), (.load none (.tmp 67)), none⟩,
  ⟨(some 69), (.bslice [(.int .i64 0)] 1 1 [(0, (1, (.tmp 68)))]), none⟩, ⟨(some 70), (.call (.func 47) [(.tmp 62), (.tmp 64), (.tmp 69)]), none⟩, ⟨(some 71), (.un .not (.tmp 70)),
   none⟩] [(1, 8), (3, 8)]) (.cond (.tmp 71) (.seq (.region [⟨(some 8), (.mv (.const (.slc none 0 0 true 0))), none⟩, ⟨(some 9), (.mv (.const (.int .i64 3))), none⟩]) .ret)
  .skip)))) (.region [⟨(some 72), (.bin .add (.tmp 56) (.const (.int .i64 1))), none⟩, ⟨(some 56), (.mv (.tmp 72)), none⟩]))))))) (.seq (.region [⟨(some 13), (.mv (.const (.slc
  none 0 0 true 0))), none⟩]) (.seq (.seq (.region [⟨(some 73), (.mv (.tmp 1)), none⟩, ⟨(some 74), (.len (.tmp 73)), none⟩, ⟨(some 75), (.mv (.const (.int .i64 0))), none⟩])
  (.block 3 (.loop (.seq (.region [⟨(some 76), (.bin .lss (.tmp 75) (.tmp 74)), none⟩]) (.seq (.cond (.tmp 76) .skip (.exit 3)) (.seq (.block 4 (.seq (.region [⟨(some 77), (.mv
  (.tmp 75)), none⟩, ⟨(some 78), (.iaddrS 1 (.tmp 73) (.tmp 75)), none⟩, ⟨(some 79), (.load none (.tmp 78)), none⟩, ⟨(some 14), (.mv (.tmp 77)), none⟩, ⟨(some 15), (.mv (.tmp 79)),
   none⟩]) (.seq (.region [⟨(some 80), (.mv (.tmp 2)), none⟩, ⟨(some 81), (.mv (.tmp 15)), none⟩, ⟨(some 82), (.faddr 1 (.tmp 4)), none⟩, ⟨(some 83), (.load none (.tmp 82)), none⟩,
   ⟨(some 84), (.bin .mul (.tmp 81) (.tmp 83)), none⟩, ⟨(some 85), (.bin .add (.tmp 80) (.tmp 84)), none⟩, ⟨(some 2), (.mv (.tmp 85)), none⟩]) (.seq (.seq (.region [⟨(some 86),
  (.mv (.tmp 2)), none⟩, ⟨(some 87), (.faddr 0 (.tmp 4)), none⟩, ⟨(some 88), (.load none (.tmp 87)), none⟩, ⟨(some 89), (.bin .gtr (.tmp 86) (.tmp 88)), none⟩]) (.cond (.tmp 89)
  (.seq (.region [⟨(some 8), (.mv (.const (.slc none 0 0 true 0))), none⟩, ⟨(some 9), (.mv (.const (.int .i64 10))), none⟩]) .ret) .skip)) (.seq (.region [⟨(some 90), (.mv (.tmp
  2)), none⟩, ⟨(some 91), (.mv (.tmp 3)), none⟩, ⟨(some 92), (.mv (.tmp 14)), none⟩, ⟨(some 93), (.iaddrS 1 (.tmp 91) (.tmp 92)), none⟩, ⟨(some 94), (.load none (.tmp 93)), none⟩,
  ⟨(some 95), (.bin .sub (.tmp 90) (.tmp 94)), none⟩, ⟨(some 2), (.mv (.tmp 95)), none⟩]) (.seq (.seq (.region [⟨(some 96), (.mv (.tmp 2)), none⟩, ⟨(some 97), (.bin .lss (.tmp 96)
  (.const (.int .i64 0))), none⟩]) (.cond (.tmp 97) (.seq (.region [⟨(some 8), (.mv (.const (.slc none 0 0 true 0))), none⟩, ⟨(some 9), (.mv (.const (.int .i64 20))), none⟩])
  .ret) .skip)) (.region [⟨(some 98), (.mv (.tmp 13)), none⟩, ⟨(some 99), (.mv (.tmp 13)), none⟩, ⟨(some 100), (.len (.tmp 99)), none⟩, ⟨(some 101), (.mv (.tmp 13)), none⟩, ⟨(some
  102), (.len (.tmp 101)), none⟩, ⟨(some 103), (.slc 1 (.tmp 98) none (some (.tmp 100)) (some (.tmp 102))), none⟩, ⟨(some 104), (.mv (.tmp 2)), none⟩, ⟨(some 105), (.bslice [(.int
  .i64 0)] 1 1 [(0, (1, (.tmp 104)))]), none⟩, ⟨(some 106), (.app 1 8 (.tmp 103) (.tmp 105)), none⟩, ⟨(some 13), (.mv (.tmp 106)), none⟩]))))))) (.region [⟨(some 107), (.bin .add
  (.tmp 75) (.const (.int .i64 1))), none⟩, ⟨(some 75), (.mv (.tmp 107)), none⟩]))))))) (.seq (.region [⟨(some 108), (.mv (.tmp 13)), none⟩, ⟨(some 8), (.mv (.tmp 108)), none⟩,
  ⟨(some 9), (.mv (.const (.int .i64 0))), none⟩]) .ret)))))))⟩
def af24 : AFn := ⟨124, [(.tmp 8), (.tmp 9)], (.seq (.region [⟨(some 4), (.box (.tmp 0)), none⟩, ⟨(some 8), (.mv (.const (.slc none 0 0 true 0))), none⟩, ⟨(some 9), (.mv (.const (.int .i64 0))),
  none⟩]) (.seq (.seq (.region [⟨(some 14), (.load (some 7) (.tmp 4)), none⟩, ⟨(some 15), (.call (.func 21) [(.tmp 14)]), none⟩, ⟨(some 16), (.bin .neq (.tmp 15) (.const (.int
  .i64 0))), none⟩]) (.cond (.tmp 16) (.seq (.region [⟨(some 17), (.load (some 7) (.tmp 4)), none⟩, ⟨(some 18), (.call (.func 21) [(.tmp 17)]), none⟩, ⟨(some 8), (.mv (.const
  (.slc none 0 0 true 0))), none⟩, ⟨(some 9), (.mv (.tmp 18)), none⟩]) .ret) .skip)) (.seq (.seq (.region [⟨(some 19), (.mv (.tmp 1)), none⟩, ⟨(some 20), (.len (.tmp 19)), none⟩,
  ⟨(some 21), (.faddr 5 (.tmp 4)), none⟩, ⟨(some 22), (.load none (.tmp 21)), none⟩, ⟨(some 23), (.len (.tmp 22)), none⟩, ⟨(some 24), (.bin .neq (.tmp 20) (.tmp 23)), none⟩,
  ⟨(some 25), (.mv (.tmp 24)), none⟩, ⟨(some 26), (.mv (.tmp 3)), (some (25, false))⟩, ⟨(some 27), (.len (.tmp 26)), (some (25, false))⟩, ⟨(some 28), (.faddr 5 (.tmp 4)), (some
  (25, false))⟩, ⟨(some 29), (.load none (.tmp 28)), (some (25, false))⟩, ⟨(some 30), (.len (.tmp 29)), (some (25, false))⟩, ⟨(some 31), (.bin .neq (.tmp 27) (.tmp 30)), (some (25,
   false))⟩, ⟨(some 32), (.pick (.tmp 25) (.const (.bool true)) (.tmp 31)), none⟩]) (.cond (.tmp 32) (.seq (.region [⟨(some 8), (.mv (.const (.slc none 0 0 true 0))), none⟩,
  ⟨(some 9), (.mv (.const (.int .i64 15))), none⟩]) .ret) .skip)) (.seq (.seq (.region [⟨(some 33), (.mv (.tmp 2)), none⟩, ⟨(some 34), (.faddr 3 (.tmp 4)), none⟩, ⟨(some 35),
  (.faddr 0 (.tmp 34)), none⟩, ⟨(some 36), (.load none (.tmp 35)), none⟩, ⟨(some 37), (.bin .lss (.tmp 33) (.tmp 36)), none⟩, ⟨(some 38), (.mv (.tmp 37)), none⟩, ⟨(some 39), (.mv
  (.tmp 2)), (some (38, false))⟩, ⟨(some 40), (.faddr 3 (.tmp 4)), (some (38, false))⟩, ⟨(some 41), (.faddr 1 (.tmp 40)), (some (38, false))⟩, ⟨(some 42), (.load none (.tmp 41)),
  (some (38, false))⟩, ⟨(some 43), (.bin .gtr (.tmp 39) (.tmp 42)), (some (38, false))⟩, ⟨(some 44), (.pick (.tmp 38) (.const (.bool true)) (.tmp 43)), none⟩]) (.cond (.tmp 44)
  (.seq (.region [⟨(some 8), (.mv (.const (.slc none 0 0 true 0))), none⟩, ⟨(some 9), (.mv (.const (.int .i64 3))), none⟩]) .ret) .skip)) (.seq (.seq (.region [⟨(some 10), (.mv
  (.const (.int .i64 0))), none⟩]) (.block 0 (.loop (.seq (.seq (.region [⟨(some 45), (.mv (.tmp 10)), none⟩, ⟨(some 46), (.mv (.tmp 1)), none⟩, ⟨(some 47), (.len (.tmp 46)),
  none⟩, ⟨(some 48), (.bin .lss (.tmp 45) (.tmp 47)), none⟩]) (.cond (.tmp 48) .skip (.exit 0))) (.seq (.block 1 (.seq (.draw [⟨(some 51), (.mv (.tmp 1)), none⟩, ⟨(some 52), (.mv
  (.tmp 10)), none⟩, ⟨(some 53), (.iaddrS 1 (.tmp 51) (.tmp 52)), none⟩, ⟨(some 54), (.load none (.tmp 53)), none⟩, ⟨(some 55), (.bin .lss (.tmp 54) (.const (.int .i64 0))), none⟩,
   ⟨(some 56), (.mv (.tmp 55)), none⟩, ⟨(some 57), (.mv (.tmp 1)), (some (56, false))⟩, ⟨(some 58), (.mv (.tmp 10)), (some (56, false))⟩, ⟨(some 59), (.iaddrS 1 (.tmp 57) (.tmp
  58)), (some (56, false))⟩, ⟨(some 60), (.load none (.tmp 59)), (some (56, false))⟩, ⟨(some 61), (.faddr 2 (.tmp 4)), (some (56, false))⟩, ⟨(some 62), (.load none (.tmp 61)),
  (some (56, false))⟩, ⟨(some 63), (.bin .gtr (.tmp 60) (.tmp 62)), (some (56, false))⟩, ⟨(some 64), (.pick (.tmp 56) (.const (.bool true)) (.tmp 63)), none⟩, ⟨(some 65), (.mv
  (.tmp 64)), none⟩, ⟨(some 66), (.mv (.tmp 3)), (some (65, false))⟩, ⟨(some 67), (.mv (.tmp 10)), (some (65, false))⟩, ⟨(some 68), (.iaddrS 1 (.tmp 66) (.tmp 67)), (some (65,
  false))⟩, ⟨(some 69), (.load none (.tmp 68)), (some (65, false))⟩, ⟨(some 70), (.faddr 5 (.tmp 4)), (some (65, false))⟩, ⟨(some 71), (.load none (.tmp 70)), (some (65, false))⟩,
  ⟨(some 72), (.mv (.tmp 10)), (some (65, false))⟩, ⟨(some 73), (.iaddrS 2 (.tmp 71) (.tmp 72)), (some (65, false))⟩, ⟨(some 74), (.faddr 0 (.tmp 73)), (some (65, false))⟩, ⟨(some
  75), (.load none (.tmp 74)), (some (65, false))⟩, ⟨(some 76), (.bin .lss (.tmp 69) (.tmp 75)), (some (65, false))⟩, ⟨(some 77), (.pick (.tmp 65) (.const (.bool true)) (.tmp 76)),
   none⟩, ⟨(some 78), (.mv (.tmp 77)), none⟩, ⟨(some 79), (.mv (.tmp 3)), (some (78, false))⟩, ⟨(some 80), (.mv (.tmp 10)), (some (78, false))⟩, ⟨(some 81), (.iaddrS 1 (.tmp 79)
  (.tmp 80)), (some (78, false))⟩, ⟨(some 82), (.load none (.tmp 81)), (some (78, false))⟩, ⟨(some 83), (.faddr 5 (.tmp 4)), (some (78, false))⟩, ⟨(some 84), (.load none (.tmp
  83)), (some (78, false))⟩, ⟨(some 85), (.mv (.tmp 10)), (some (78, false))⟩, ⟨(some 86), (.iaddrS 2 (.tmp 84) (.tmp 85)), (some (78, false))⟩, ⟨(some 87), (.faddr 1 (.tmp 86)),
  (some (78, false))⟩, ⟨(some 88), (.load none (.tmp 87)), (some (78, false))⟩, ⟨(some 89), (.bin .gtr (.tmp 82) (.tmp 88)), (some (78, false))⟩, ⟨(some 90), (.pick (.tmp 78)
  (.const (.bool true)) (.tmp 89)), none⟩] []) (.cond (.tmp 90) (.seq (.region [⟨(some 8), (.mv (.const (.slc none 0 0 true 0))), none⟩, ⟨(some 9), (.mv (.const (.int .i64 3))),
  none⟩]) .ret) .skip))) (.region [⟨(some 49), (.mv (.tmp 10)), none⟩, ⟨(some 50), (.bin .add (.tmp 49) (.const (.int .i64 1))), none⟩, ⟨(some 10), (.mv (.tmp 50)), none⟩]))))))
  (.seq (.region [⟨(some 11), (.mv (.const (.slc none 0 0 true 0))), none⟩]) (.seq (.region [⟨(some 91), (.mv (.tmp 2)), none⟩, ⟨(some 12), (.mv (.tmp 91)), none⟩]) (.seq (.seq
  (.region [⟨(some 13), (.mv (.const (.int .i64 0))), none⟩]) (.block 2 (.loop (.seq (.seq (.region [⟨(some 92), (.mv (.tmp 13)), none⟩, ⟨(some 93), (.mv (.tmp 1)), none⟩, ⟨(some
  94), (.len (.tmp 93)), none⟩, ⟨(some 95), (.bin .lss (.tmp 92) (.tmp 94)), none⟩]) (.cond (.tmp 95) .skip (.exit 2))) (.seq (.block 3 (.seq (.draw [⟨(some 98), (.mv (.tmp 12)),
  none⟩, ⟨(some 99), (.mv (.tmp 1)), none⟩, ⟨(some 100), (.mv (.tmp 13)), none⟩, ⟨(some 101), (.iaddrS 1 (.tmp 99) (.tmp 100)), none⟩, ⟨(some 102), (.load none (.tmp 101)), none⟩,
  ⟨(some 103), (.faddr 1 (.tmp 4)), none⟩, ⟨(some 104), (.load none (.tmp 103)), none⟩, ⟨(some 105), (.bin .mul (.tmp 102) (.tmp 104)), none⟩, ⟨(some 106), (.bin .add (.tmp 98)
  (.tmp 105)), none⟩, ⟨(some 12), (.mv (.tmp 106)), none⟩] []) (.seq (.seq (.region [⟨(some 107), (.mv (.tmp 12)), none⟩, ⟨(some 108), (.faddr 0 (.tmp 4)), none⟩, ⟨(some 109),
  (.load none (.tmp 108)), none⟩, ⟨(some 110), (.bin .gtr (.tmp 107) (.tmp 109)), none⟩]) (.cond (.tmp 110) (.seq (.region [⟨(some 8), (.mv (.const (.slc none 0 0 true 0))), none⟩,
   ⟨(some 9), (.mv (.const (.int .i64 10))), none⟩]) .ret) .skip)) (.seq (.region [⟨(some 111), (.mv (.tmp 12)), none⟩, ⟨(some 112), (.mv (.tmp 3)), none⟩, ⟨(some 113), (.mv (.tmp
  13)), none⟩, ⟨(some 114), (.iaddrS 1 (.tmp 112) (.tmp 113)), none⟩, ⟨(some 115), (.load none (.tmp 114)), none⟩, ⟨(some 116), (.bin .sub (.tmp 111) (.tmp 115)), none⟩, ⟨(some
  12), (.mv (.tmp 116)), none⟩]) (.seq (.seq (.region [⟨(some 117), (.mv (.tmp 12)), none⟩, ⟨(some 118), (.bin .lss (.tmp 117) (.const (.int .i64 0))), none⟩]) (.cond (.tmp 118)
  (.seq (.region [⟨(some 8), (.mv (.const (.slc none 0 0 true 0))), none⟩, ⟨(some 9), (.mv (.const (.int .i64 20))), none⟩]) .ret) .skip)) (.region [⟨(some 119), (.mv (.tmp 11)),
  none⟩, ⟨(some 120), (.mv (.tmp 12)), none⟩, ⟨(some 121), (.bslice [(.int .i64 0)] 1 1 [(0, (1, (.tmp 120)))]), none⟩, ⟨(some 122), (.app 1 8 (.tmp 119) (.tmp 121)), none⟩,
  ⟨(some 11), (.mv (.tmp 122)), none⟩])))))) (.region [⟨(some 96), (.mv (.tmp 13)), none⟩, ⟨(some 97), (.bin .add (.tmp 96) (.const (.int .i64 1))), none⟩, ⟨(some 13), (.mv (.tmp
  97)), none⟩])))))) (.seq (.region [⟨(some 123), (.mv (.tmp 11)), none⟩, ⟨(some 8), (.mv (.tmp 123)), none⟩, ⟨(some 9), (.mv (.const (.int .i64 0))), none⟩]) .ret)))))))))⟩
def af25 : AFn := ⟨26, [(.tmp 4)], (.seq (.region [⟨(some 4), (.mv (.const (.bool false))), none⟩]) (.seq (.seq (.region [⟨(some 6), (.mv (.tmp 0)), none⟩, ⟨(some 7), (.len (.tmp 6)), none⟩, ⟨(some
  8), (.mv (.tmp 1)), none⟩, ⟨(some 9), (.len (.tmp 8)), none⟩, ⟨(some 10), (.bin .neq (.tmp 7) (.tmp 9)), none⟩]) (.cond (.tmp 10) (.seq (.region [⟨(some 4), (.mv (.const (.bool
  false))), none⟩]) .ret) .skip)) (.seq (.seq (.region [⟨(some 5), (.mv (.const (.int .i64 0))), none⟩]) (.block 0 (.loop (.seq (.seq (.region [⟨(some 11), (.mv (.tmp 5)), none⟩,
  ⟨(some 12), (.mv (.tmp 0)), none⟩, ⟨(some 13), (.len (.tmp 12)), none⟩, ⟨(some 14), (.bin .lss (.tmp 11) (.tmp 13)), none⟩]) (.cond (.tmp 14) .skip (.exit 0))) (.seq (.block 1
  (.seq (.draw [⟨(some 17), (.mv (.tmp 0)), none⟩, ⟨(some 18), (.mv (.tmp 5)), none⟩, ⟨(some 19), (.iaddrS 1 (.tmp 17) (.tmp 18)), none⟩, ⟨(some 20), (.load none (.tmp 19)), none⟩,
   ⟨(some 21), (.mv (.tmp 1)), none⟩, ⟨(some 22), (.mv (.tmp 5)), none⟩, ⟨(some 23), (.iaddrS 1 (.tmp 21) (.tmp 22)), none⟩, ⟨(some 24), (.load none (.tmp 23)), none⟩, ⟨(some 25),
  (.bin .neq (.tmp 20) (.tmp 24)), none⟩] []) (.cond (.tmp 25) (.seq (.region [⟨(some 4), (.mv (.const (.bool false))), none⟩]) .ret) .skip))) (.region [⟨(some 15), (.mv (.tmp 5)),
   none⟩, ⟨(some 16), (.bin .add (.tmp 15) (.const (.int .i64 1))), none⟩, ⟨(some 5), (.mv (.tmp 16)), none⟩])))))) (.seq (.region [⟨(some 4), (.mv (.const (.bool true))), none⟩])
  .ret))))⟩
def af26 : AFn := ⟨31, [(.tmp 2), (.tmp 3), (.tmp 4)], (.seq (.region [⟨(some 1), (.box (.tmp 0)), none⟩, ⟨(some 2), (.mv (.const (.slc none 0 0 true 0))), none⟩, ⟨(some 3), (.mv (.const (.int .i64
  0))), none⟩, ⟨(some 4), (.mv (.const (.int .i64 0))), none⟩]) (.seq (.region [⟨(some 10), (.load (some 7) (.tmp 1)), none⟩, ⟨(some 11), (.call (.func 53) [(.tmp 10)]), none⟩,
  ⟨(some 9), (.mv (.tmp 11)), none⟩, ⟨(some 12), (.ext (.tmp 9) 0), none⟩, ⟨(some 13), (.ext (.tmp 9) 1), none⟩, ⟨(some 14), (.ext (.tmp 9) 2), none⟩, ⟨(some 5), (.mv (.tmp 12)),
  none⟩, ⟨(some 6), (.mv (.tmp 13)), none⟩, ⟨(some 7), (.mv (.tmp 14)), none⟩]) (.seq (.seq (.region [⟨(some 15), (.mv (.tmp 7)), none⟩, ⟨(some 16), (.bin .neq (.tmp 15) (.const
  (.int .i64 0))), none⟩]) (.cond (.tmp 16) (.seq (.region [⟨(some 17), (.mv (.tmp 7)), none⟩, ⟨(some 2), (.mv (.const (.slc none 0 0 true 0))), none⟩, ⟨(some 3), (.mv (.const
  (.int .i64 0))), none⟩, ⟨(some 4), (.mv (.tmp 17)), none⟩]) .ret) .skip)) (.seq (.region [⟨(some 18), (.mv (.tmp 6)), none⟩, ⟨(some 19), (.len (.tmp 18)), none⟩, ⟨(some 20),
  (.mkslc [(.int .i64 0)] 8 (.tmp 19) (.tmp 19)), none⟩, ⟨(some 8), (.mv (.tmp 20)), none⟩]) (.seq (.region [⟨(some 21), (.mv (.tmp 8)), none⟩, ⟨(some 22), (.mv (.tmp 6)), none⟩,
  ⟨(some 23), (.copy 1 (.tmp 21) (.tmp 22)), none⟩]) (.seq (.draw [⟨(some 24), (.mv (.tmp 8)), none⟩, ⟨(some 25), (.mv (.tmp 5)), none⟩, ⟨(some 26), (.nilchk (.tmp 25)), none⟩,
  ⟨(some 27), (.faddr 8 (.tmp 26)), none⟩, ⟨(some 28), (.iaddrA 21 201 (.tmp 27) (.const (.int .i64 0))), none⟩, ⟨(some 29), (.iaddrA 201 1 (.tmp 28) (.const (.int .i64 0))),
  none⟩, ⟨(some 30), (.load none (.tmp 29)), none⟩, ⟨(some 2), (.mv (.tmp 24)), none⟩, ⟨(some 3), (.mv (.tmp 30)), none⟩, ⟨(some 4), (.mv (.const (.int .i64 0))), none⟩] [])
  .ret))))))⟩
def af27 : AFn := ⟨96, [(.tmp 2), (.tmp 3), (.tmp 4)], (.seq (.region [⟨(some 1), (.box (.tmp 0)), none⟩, ⟨(some 2), (.mv (.const (.slc none 0 0 true 0))), none⟩, ⟨(some 3), (.mv (.const (.int .i64
  0))), none⟩, ⟨(some 4), (.mv (.const (.int .i64 0))), none⟩]) (.seq (.seq (.region [⟨(some 11), (.load (some 7) (.tmp 1)), none⟩, ⟨(some 12), (.call (.func 21) [(.tmp 11)]),
  none⟩, ⟨(some 13), (.bin .neq (.tmp 12) (.const (.int .i64 0))), none⟩]) (.cond (.tmp 13) (.seq (.region [⟨(some 14), (.load (some 7) (.tmp 1)), none⟩, ⟨(some 15), (.call (.func
  21) [(.tmp 14)]), none⟩, ⟨(some 2), (.mv (.const (.slc none 0 0 true 0))), none⟩, ⟨(some 3), (.mv (.const (.int .i64 0))), none⟩, ⟨(some 4), (.mv (.tmp 15)), none⟩]) .ret)
  .skip)) (.seq (.region [⟨(some 16), (.load (some 7) (.tmp 1)), none⟩, ⟨(some 17), (.call (.func 54) [(.tmp 16)]), none⟩, ⟨(some 5), (.mv (.tmp 17)), none⟩]) (.seq (.seq (.region
  [⟨(some 18), (.mv (.tmp 5)), none⟩, ⟨(some 19), (.iaddrS 1 (.tmp 18) (.const (.int .i64 0))), none⟩, ⟨(some 20), (.load none (.tmp 19)), none⟩, ⟨(some 21), (.iaddrS 1 (.tmp 20)
  (.const (.int .i64 0))), none⟩, ⟨(some 22), (.load none (.tmp 21)), none⟩, ⟨(some 23), (.bin .geq (.tmp 22) (.const (.int .i64 1125899906842624))), none⟩]) (.cond (.tmp 23)
  (.seq (.region [⟨(some 2), (.mv (.const (.slc none 0 0 true 0))), none⟩, ⟨(some 3), (.mv (.const (.int .i64 0))), none⟩, ⟨(some 4), (.mv (.const (.int .i64 13))), none⟩]) .ret)
  .skip)) (.seq (.region [⟨(some 24), (.load (some 7) (.tmp 1)), none⟩, ⟨(some 25), (.call (.func 44) [(.tmp 24)]), none⟩, ⟨(some 6), (.mv (.tmp 25)), none⟩]) (.seq (.region
  [⟨(some 7), (.mv (.const (.slc none 0 0 true 0))), none⟩]) (.seq (.region [⟨(some 8), (.mv (.const (.int .i64 0))), none⟩]) (.seq (.seq (.region [⟨(some 9), (.mv (.const (.int
  .i64 0))), none⟩]) (.block 0 (.loop (.seq (.seq (.region [⟨(some 26), (.mv (.tmp 9)), none⟩, ⟨(some 27), (.faddr 5 (.tmp 1)), none⟩, ⟨(some 28), (.load none (.tmp 27)), none⟩,
  ⟨(some 29), (.len (.tmp 28)), none⟩, ⟨(some 30), (.bin .lss (.tmp 26) (.tmp 29)), none⟩]) (.cond (.tmp 30) .skip (.exit 0))) (.seq (.block 1 (.seq (.region [⟨(some 10), (.mv
  (.const (.int .i64 0))), none⟩]) (.seq (.block 2 (.loop (.seq (.seq (.draw [⟨(some 33), (.mv (.tmp 8)), none⟩, ⟨(some 34), (.mv (.tmp 10)), none⟩, ⟨(some 35), (.bin .add (.tmp
  33) (.tmp 34)), none⟩, ⟨(some 36), (.mv (.tmp 6)), none⟩, ⟨(some 37), (.mv (.tmp 9)), none⟩, ⟨(some 38), (.iaddrS 2 (.tmp 36) (.tmp 37)), none⟩, ⟨(some 39), (.faddr 0 (.tmp 38)),
   none⟩, ⟨(some 40), (.load none (.tmp 39)), none⟩, ⟨(some 41), (.bin .lss (.tmp 35) (.tmp 40)), none⟩, ⟨(some 42), (.mv (.tmp 41)), none⟩, ⟨(some 43), (.mv (.tmp 8)), (some (42,
  false))⟩, ⟨(some 44), (.mv (.tmp 10)), (some (42, false))⟩, ⟨(some 45), (.bin .add (.tmp 43) (.tmp 44)), (some (42, false))⟩, ⟨(some 46), (.mv (.tmp 6)), (some (42, false))⟩,
  ⟨(some 47), (.mv (.tmp 9)), (some (42, false))⟩, ⟨(some 48), (.iaddrS 2 (.tmp 46) (.tmp 47)), (some (42, false))⟩, ⟨(some 49), (.faddr 1 (.tmp 48)), (some (42, false))⟩, ⟨(some
  50), (.load none (.tmp 49)), (some (42, false))⟩, ⟨(some 51), (.bin .gtr (.tmp 45) (.tmp 50)), (some (42, false))⟩, ⟨(some 52), (.pick (.tmp 42) (.const (.bool true)) (.tmp 51)),
   none⟩, ⟨(some 53), (.mv (.tmp 52)), none⟩, ⟨(some 54), (.mv (.tmp 10)), (some (53, false))⟩, ⟨(some 55), (.faddr 6 (.tmp 1)), (some (53, false))⟩, ⟨(some 56), (.load none (.tmp
  55)), (some (53, false))⟩, ⟨(some 57), (.mv (.tmp 9)), (some (53, false))⟩, ⟨(some 58), (.iaddrS 1 (.tmp 56) (.tmp 57)), (some (53, false))⟩, ⟨(some 59), (.load none (.tmp 58)),
  (some (53, false))⟩, ⟨(some 60), (.bin .mul (.tmp 54) (.tmp 59)), (some (53, false))⟩, ⟨(some 61), (.mv (.tmp 5)), (some (53, false))⟩, ⟨(some 62), (.mv (.tmp 9)), (some (53,
  false))⟩, ⟨(some 63), (.bin .add (.tmp 62) (.const (.int .i64 1))), (some (53, false))⟩, ⟨(some 64), (.iaddrS 1 (.tmp 61) (.tmp 63)), (some (53, false))⟩, ⟨(some 65), (.load
  none (.tmp 64)), (some (53, false))⟩, ⟨(some 66), (.mv (.tmp 8)), (some (53, false))⟩, ⟨(some 67), (.mv (.tmp 10)), (some (53, false))⟩, ⟨(some 68), (.bin .add (.tmp 66) (.tmp
  67)), (some (53, false))⟩, ⟨(some 69), (.iaddrS 1 (.tmp 65) (.tmp 68)), (some (53, false))⟩, ⟨(some 70), (.load none (.tmp 69)), (some (53, false))⟩, ⟨(some 71), (.bin .add
  (.tmp 60) (.tmp 70)), (some (53, false))⟩, ⟨(some 72), (.mv (.tmp 5)), (some (53, false))⟩, ⟨(some 73), (.mv (.tmp 9)), (some (53, false))⟩, ⟨(some 74), (.iaddrS 1 (.tmp 72)
  (.tmp 73)), (some (53, false))⟩, ⟨(some 75), (.load none (.tmp 74)), (some (53, false))⟩, ⟨(some 76), (.mv (.tmp 8)), (some (53, false))⟩, ⟨(some 77), (.iaddrS 1 (.tmp 75) (.tmp
  76)), (some (53, false))⟩, ⟨(some 78), (.load none (.tmp 77)), (some (53, false))⟩, ⟨(some 79), (.bin .neq (.tmp 71) (.tmp 78)), (some (53, false))⟩, ⟨(some 80), (.pick (.tmp
  53) (.const (.bool true)) (.tmp 79)), none⟩] []) (.cond (.tmp 80) .skip (.exit 2))) (.block 3 (.region [⟨(some 81), (.mv (.tmp 10)), none⟩, ⟨(some 82), (.bin .add (.tmp 81)
  (.const (.int .i64 1))), none⟩, ⟨(some 10), (.mv (.tmp 82)), none⟩]))))) (.seq (.region [⟨(some 83), (.mv (.tmp 7)), none⟩, ⟨(some 84), (.mv (.tmp 10)), none⟩, ⟨(some 85),
  (.bslice [(.int .i64 0)] 1 1 [(0, (1, (.tmp 84)))]), none⟩, ⟨(some 86), (.app 1 8 (.tmp 83) (.tmp 85)), none⟩, ⟨(some 7), (.mv (.tmp 86)), none⟩]) (.region [⟨(some 87), (.mv
  (.tmp 8)), none⟩, ⟨(some 88), (.mv (.tmp 10)), none⟩, ⟨(some 89), (.bin .add (.tmp 87) (.tmp 88)), none⟩, ⟨(some 8), (.mv (.tmp 89)), none⟩]))))) (.region [⟨(some 31), (.mv
  (.tmp 9)), none⟩, ⟨(some 32), (.bin .add (.tmp 31) (.const (.int .i64 1))), none⟩, ⟨(some 9), (.mv (.tmp 32)), none⟩])))))) (.seq (.draw [⟨(some 90), (.mv (.tmp 7)), none⟩,
  ⟨(some 91), (.mv (.tmp 5)), none⟩, ⟨(some 92), (.iaddrS 1 (.tmp 91) (.const (.int .i64 0))), none⟩, ⟨(some 93), (.load none (.tmp 92)), none⟩, ⟨(some 94), (.iaddrS 1 (.tmp 93)
  (.const (.int .i64 0))), none⟩, ⟨(some 95), (.load none (.tmp 94)), none⟩, ⟨(some 2), (.mv (.tmp 90)), none⟩, ⟨(some 3), (.mv (.tmp 95)), none⟩, ⟨(some 4), (.mv (.const (.int
  .i64 0))), none⟩] []) .ret)))))))))⟩
def af28 : AFn := ⟨72, [(.tmp 2), (.tmp 3), (.tmp 4)], (.seq (.region [⟨(some 1), (.box (.tmp 0)), none⟩, ⟨(some 2), (.mv (.const (.int .i64 0))), none⟩, ⟨(some 3), (.mv (.const (.int .i64 0))),
  none⟩, ⟨(some 4), (.mv (.const (.int .i64 0))), none⟩]) (.scope (.seq (.seq (.region [⟨(some 12), (.load (some 7) (.tmp 1)), none⟩, ⟨(some 13), (.call (.func 20) [(.tmp 12)]),
  none⟩, ⟨(some 5), (.mv (.tmp 13)), none⟩]) (.seq (.region [⟨(some 14), (.mv (.tmp 5)), none⟩, ⟨(some 15), (.bin .neq (.tmp 14) (.const (.int .i64 0))), none⟩]) (.cond (.tmp 15)
  (.seq (.region [⟨(some 16), (.mv (.tmp 5)), none⟩, ⟨(some 2), (.mv (.const (.int .i64 0))), none⟩, ⟨(some 3), (.mv (.const (.int .i64 0))), none⟩, ⟨(some 4), (.mv (.tmp 16)),
  none⟩]) .ret) .skip))) (.seq (.region [⟨(some 17), (.load (some 7) (.tmp 1)), none⟩, ⟨(some 18), (.call (.func 43) [(.tmp 17)]), none⟩, ⟨(some 6), (.mv (.tmp 18)), none⟩]) (.seq
  (.region [⟨(some 7), (.mv (.const (.int .i64 0))), none⟩, ⟨(some 8), (.mv (.const (.int .i64 (-1)))), none⟩]) (.seq .skip (.seq (.seq (.region [⟨(some 9), (.mv (.const (.int
  .i64 (-1)))), none⟩]) (.block 0 (.loop (.seq (.seq (.region [⟨(some 19), (.mv (.tmp 9)), none⟩, ⟨(some 20), (.mv (.tmp 6)), none⟩, ⟨(some 21), (.nilchk (.tmp 20)), none⟩, ⟨(some
  22), (.faddr 7 (.tmp 21)), none⟩, ⟨(some 23), (.load none (.tmp 22)), none⟩, ⟨(some 24), (.len (.tmp 23)), none⟩, ⟨(some 25), (.bin .lss (.tmp 19) (.tmp 24)), none⟩]) (.cond
  (.tmp 25) .skip (.exit 0))) (.seq (.block 1 (.seq (.region [⟨(some 10), (.mv (.const (.int .i64 0))), none⟩]) (.seq (.seq (.region [⟨(some 28), (.mv (.tmp 9)), none⟩, ⟨(some 29),
   (.bin .geq (.tmp 28) (.const (.int .i64 0))), none⟩]) (.cond (.tmp 29) (.region [⟨(some 30), (.mv (.tmp 6)), none⟩, ⟨(some 31), (.nilchk (.tmp 30)), none⟩, ⟨(some 32), (.faddr
  7 (.tmp 31)), none⟩, ⟨(some 33), (.load none (.tmp 32)), none⟩, ⟨(some 34), (.mv (.tmp 9)), none⟩, ⟨(some 35), (.iaddrS 2 (.tmp 33) (.tmp 34)), none⟩, ⟨(some 36), (.faddr 1
  (.tmp 35)), none⟩, ⟨(some 37), (.load none (.tmp 36)), none⟩, ⟨(some 10), (.mv (.tmp 37)), none⟩]) .skip)) (.seq (.region [⟨(some 38), (.mv (.tmp 9)), none⟩, ⟨(some 39), (.mnx
  true [(.const (.int .i64 0)), (.tmp 38)]), none⟩, ⟨(some 11), (.mv (.tmp 39)), none⟩]) (.block 2 (.loop (.seq (.seq (.region [⟨(some 40), (.mv (.tmp 11)), none⟩, ⟨(some 41),
  (.mv (.tmp 6)), none⟩, ⟨(some 42), (.nilchk (.tmp 41)), none⟩, ⟨(some 43), (.faddr 7 (.tmp 42)), none⟩, ⟨(some 44), (.load none (.tmp 43)), none⟩, ⟨(some 45), (.len (.tmp 44)),
  none⟩, ⟨(some 46), (.bin .lss (.tmp 40) (.tmp 45)), none⟩]) (.cond (.tmp 46) .skip (.exit 2))) (.seq (.block 3 (.seq (.draw [⟨(some 49), (.mv (.tmp 6)), none⟩, ⟨(some 50),
  (.nilchk (.tmp 49)), none⟩, ⟨(some 51), (.faddr 7 (.tmp 50)), none⟩, ⟨(some 52), (.load none (.tmp 51)), none⟩, ⟨(some 53), (.mv (.tmp 11)), none⟩, ⟨(some 54), (.iaddrS 2 (.tmp
  52) (.tmp 53)), none⟩, ⟨(some 55), (.faddr 0 (.tmp 54)), none⟩, ⟨(some 56), (.load none (.tmp 55)), none⟩, ⟨(some 57), (.mv (.tmp 10)), none⟩, ⟨(some 58), (.mv (.tmp 11)), none⟩,
   ⟨(some 59), (.mv (.tmp 9)), none⟩, ⟨(some 60), (.bin .sub (.tmp 58) (.tmp 59)), none⟩, ⟨(some 61), (.faddr 2 (.tmp 1)), none⟩, ⟨(some 62), (.load none (.tmp 61)), none⟩, ⟨(some
  63), (.bin .mul (.tmp 60) (.tmp 62)), none⟩, ⟨(some 64), (.bin .add (.tmp 57) (.tmp 63)), none⟩, ⟨(some 65), (.bin .gtr (.tmp 56) (.tmp 64)), none⟩] []) (.cond (.tmp 65) (.seq
  (.region [⟨(some 66), (.mv (.tmp 9)), none⟩, ⟨(some 67), (.mv (.tmp 11)), none⟩, ⟨(some 7), (.mv (.tmp 66)), none⟩, ⟨(some 8), (.mv (.tmp 67)), none⟩]) (.exit 0)) .skip)))
  (.region [⟨(some 47), (.mv (.tmp 11)), none⟩, ⟨(some 48), (.bin .add (.tmp 47) (.const (.int .i64 1))), none⟩, ⟨(some 11), (.mv (.tmp 48)), none⟩]))))))))) (.region [⟨(some 26),
  (.mv (.tmp 9)), none⟩, ⟨(some 27), (.bin .add (.tmp 26) (.const (.int .i64 1))), none⟩, ⟨(some 9), (.mv (.tmp 27)), none⟩])))))) (.seq (.seq (.region [⟨(some 68), (.mv (.tmp 8)),
   none⟩, ⟨(some 69), (.bin .lss (.tmp 68) (.const (.int .i64 0))), none⟩]) (.cond (.tmp 69) (.seq (.region [⟨(some 2), (.mv (.const (.int .i64 0))), none⟩, ⟨(some 3), (.mv
  (.const (.int .i64 0))), none⟩, ⟨(some 4), (.mv (.const (.int .i64 5))), none⟩]) .ret) .skip)) (.seq (.region [⟨(some 70), (.mv (.tmp 7)), none⟩, ⟨(some 71), (.mv (.tmp 8)),
  none⟩, ⟨(some 2), (.mv (.tmp 70)), none⟩, ⟨(some 3), (.mv (.tmp 71)), none⟩, ⟨(some 4), (.mv (.const (.int .i64 0))), none⟩]) .ret)))))))))⟩
def af29 : AFn := ⟨53, [(.tmp 2), (.tmp 3), (.tmp 4)], (.seq (.region [⟨(some 1), (.box (.tmp 0)), none⟩, ⟨(some 2), (.mv (.const (.int .i64 0))), none⟩, ⟨(some 3), (.mv (.const (.int .i64 0))),
  none⟩, ⟨(some 4), (.mv (.const (.int .i64 0))), none⟩]) (.seq (.seq (.region [⟨(some 9), (.load (some 7) (.tmp 1)), none⟩, ⟨(some 10), (.call (.func 21) [(.tmp 9)]), none⟩,
  ⟨(some 11), (.bin .neq (.tmp 10) (.const (.int .i64 0))), none⟩]) (.cond (.tmp 11) (.seq (.region [⟨(some 12), (.load (some 7) (.tmp 1)), none⟩, ⟨(some 13), (.call (.func 21)
  [(.tmp 12)]), none⟩, ⟨(some 2), (.mv (.const (.int .i64 0))), none⟩, ⟨(some 3), (.mv (.const (.int .i64 0))), none⟩, ⟨(some 4), (.mv (.tmp 13)), none⟩]) .ret) .skip)) (.seq
  (.region [⟨(some 14), (.load (some 7) (.tmp 1)), none⟩, ⟨(some 15), (.call (.func 44) [(.tmp 14)]), none⟩, ⟨(some 5), (.mv (.tmp 15)), none⟩]) (.seq (.seq (.region [⟨(some 6),
  (.mv (.const (.int .i64 (-1)))), none⟩]) (.block 0 (.loop (.seq (.seq (.region [⟨(some 16), (.mv (.tmp 6)), none⟩, ⟨(some 17), (.mv (.tmp 5)), none⟩, ⟨(some 18), (.len (.tmp
  17)), none⟩, ⟨(some 19), (.bin .lss (.tmp 16) (.tmp 18)), none⟩]) (.cond (.tmp 19) .skip (.exit 0))) (.seq (.block 1 (.seq (.region [⟨(some 7), (.mv (.const (.int .i64 0))),
  none⟩]) (.seq (.seq (.region [⟨(some 22), (.mv (.tmp 6)), none⟩, ⟨(some 23), (.bin .geq (.tmp 22) (.const (.int .i64 0))), none⟩]) (.cond (.tmp 23) (.region [⟨(some 24), (.mv
  (.tmp 5)), none⟩, ⟨(some 25), (.mv (.tmp 6)), none⟩, ⟨(some 26), (.iaddrS 2 (.tmp 24) (.tmp 25)), none⟩, ⟨(some 27), (.faddr 1 (.tmp 26)), none⟩, ⟨(some 28), (.load none (.tmp
  27)), none⟩, ⟨(some 7), (.mv (.tmp 28)), none⟩]) .skip)) (.seq (.region [⟨(some 29), (.mv (.tmp 6)), none⟩, ⟨(some 30), (.mnx true [(.const (.int .i64 0)), (.tmp 29)]), none⟩,
  ⟨(some 8), (.mv (.tmp 30)), none⟩]) (.block 2 (.loop (.seq (.seq (.region [⟨(some 31), (.mv (.tmp 8)), none⟩, ⟨(some 32), (.mv (.tmp 5)), none⟩, ⟨(some 33), (.len (.tmp 32)),
  none⟩, ⟨(some 34), (.bin .lss (.tmp 31) (.tmp 33)), none⟩]) (.cond (.tmp 34) .skip (.exit 2))) (.seq (.block 3 (.seq (.draw [⟨(some 37), (.mv (.tmp 5)), none⟩, ⟨(some 38), (.mv
  (.tmp 8)), none⟩, ⟨(some 39), (.iaddrS 2 (.tmp 37) (.tmp 38)), none⟩, ⟨(some 40), (.faddr 0 (.tmp 39)), none⟩, ⟨(some 41), (.load none (.tmp 40)), none⟩, ⟨(some 42), (.mv (.tmp
  7)), none⟩, ⟨(some 43), (.faddr 2 (.tmp 1)), none⟩, ⟨(some 44), (.load none (.tmp 43)), none⟩, ⟨(some 45), (.mv (.tmp 8)), none⟩, ⟨(some 46), (.mv (.tmp 6)), none⟩, ⟨(some 47),
  (.bin .sub (.tmp 45) (.tmp 46)), none⟩, ⟨(some 48), (.bin .mul (.tmp 44) (.tmp 47)), none⟩, ⟨(some 49), (.bin .add (.tmp 42) (.tmp 48)), none⟩, ⟨(some 50), (.bin .gtr (.tmp 41)
  (.tmp 49)), none⟩] []) (.cond (.tmp 50) (.seq (.region [⟨(some 51), (.mv (.tmp 6)), none⟩, ⟨(some 52), (.mv (.tmp 8)), none⟩, ⟨(some 2), (.mv (.tmp 51)), none⟩, ⟨(some 3), (.mv
  (.tmp 52)), none⟩, ⟨(some 4), (.mv (.const (.int .i64 0))), none⟩]) .ret) .skip))) (.region [⟨(some 35), (.mv (.tmp 8)), none⟩, ⟨(some 36), (.bin .add (.tmp 35) (.const (.int
  .i64 1))), none⟩, ⟨(some 8), (.mv (.tmp 36)), none⟩]))))))))) (.region [⟨(some 20), (.mv (.tmp 6)), none⟩, ⟨(some 21), (.bin .add (.tmp 20) (.const (.int .i64 1))), none⟩,
  ⟨(some 6), (.mv (.tmp 21)), none⟩])))))) (.seq (.region [⟨(some 2), (.mv (.const (.int .i64 0))), none⟩, ⟨(some 3), (.mv (.const (.int .i64 0))), none⟩, ⟨(some 4), (.mv (.const
  (.int .i64 5))), none⟩]) .ret)))))⟩
def af30 : AFn := ⟨26, [(.tmp 4)], (.seq (.region [⟨(some 4), (.mv (.const (.bool false))), none⟩]) (.seq (.seq (.region [⟨(some 6), (.mv (.tmp 0)), none⟩, ⟨(some 7), (.len (.tmp 6)), none⟩, ⟨(some
  8), (.mv (.tmp 1)), none⟩, ⟨(some 9), (.len (.tmp 8)), none⟩, ⟨(some 10), (.bin .neq (.tmp 7) (.tmp 9)), none⟩]) (.cond (.tmp 10) (.seq (.region [⟨(some 4), (.mv (.const (.bool
  false))), none⟩]) .ret) .skip)) (.seq (.seq (.region [⟨(some 5), (.mv (.const (.int .i64 0))), none⟩]) (.block 0 (.loop (.seq (.seq (.region [⟨(some 11), (.mv (.tmp 5)), none⟩,
  ⟨(some 12), (.mv (.tmp 0)), none⟩, ⟨(some 13), (.len (.tmp 12)), none⟩, ⟨(some 14), (.bin .lss (.tmp 11) (.tmp 13)), none⟩]) (.cond (.tmp 14) .skip (.exit 0))) (.seq (.block 1
  (.seq (.draw [⟨(some 17), (.mv (.tmp 0)), none⟩, ⟨(some 18), (.mv (.tmp 5)), none⟩, ⟨(some 19), (.iaddrS 1 (.tmp 17) (.tmp 18)), none⟩, ⟨(some 20), (.load none (.tmp 19)), none⟩,
   ⟨(some 21), (.mv (.tmp 1)), none⟩, ⟨(some 22), (.mv (.tmp 5)), none⟩, ⟨(some 23), (.iaddrS 1 (.tmp 21) (.tmp 22)), none⟩, ⟨(some 24), (.load none (.tmp 23)), none⟩, ⟨(some 25),
  (.bin .neq (.tmp 20) (.tmp 24)), none⟩] []) (.cond (.tmp 25) (.seq (.region [⟨(some 4), (.mv (.const (.bool false))), none⟩]) .ret) .skip))) (.region [⟨(some 15), (.mv (.tmp 5)),
   none⟩, ⟨(some 16), (.bin .add (.tmp 15) (.const (.int .i64 1))), none⟩, ⟨(some 5), (.mv (.tmp 16)), none⟩])))))) (.seq (.region [⟨(some 4), (.mv (.const (.bool true))), none⟩])
  .ret))))⟩
def af31 : AFn := ⟨80, [(.tmp 4), (.tmp 5)], (.seq (.region [⟨(some 2), (.box (.tmp 0)), none⟩, ⟨(some 4), (.mv (.const (.int .i64 0))), none⟩, ⟨(some 5), (.mv (.const (.int .i64 0))), none⟩])
  (.seq (.region [⟨(some 14), (.load (some 7) (.tmp 2)), none⟩, ⟨(some 15), (.call (.func 20) [(.tmp 14)]), none⟩, ⟨(some 6), (.mv (.tmp 15)), none⟩]) (.seq (.block 0 (.seq
  (.region [⟨(some 17), (.mv (.tmp 6)), none⟩, ⟨(some 18), (.bin .neq (.tmp 17) (.const (.int .i64 0))), none⟩, ⟨(some 16), (.mv (.tmp 18)), none⟩]) (.cond (.tmp 16) (.seq
  (.region [⟨(some 19), (.mv (.tmp 6)), none⟩, ⟨(some 4), (.mv (.const (.int .i64 0))), none⟩, ⟨(some 5), (.mv (.tmp 19)), none⟩]) .ret) (.seq (.region [⟨(some 21), (.mv (.tmp 1)),
   none⟩, ⟨(some 22), (.len (.tmp 21)), none⟩, ⟨(some 23), (.faddr 5 (.tmp 2)), none⟩, ⟨(some 24), (.load none (.tmp 23)), none⟩, ⟨(some 25), (.len (.tmp 24)), none⟩, ⟨(some 26),
  (.bin .neq (.tmp 22) (.tmp 25)), none⟩, ⟨(some 20), (.mv (.tmp 26)), none⟩]) (.cond (.tmp 20) (.seq (.region [⟨(some 4), (.mv (.const (.int .i64 0))), none⟩, ⟨(some 5), (.mv
  (.const (.int .i64 15))), none⟩]) .ret) (.seq (.region [⟨(some 28), (.mv (.tmp 1)), none⟩, ⟨(some 29), (.call (.func 47) [(.const (.int .i64 0)), (.const (.int .i64 100000)),
  (.tmp 28)]), none⟩, ⟨(some 30), (.un .not (.tmp 29)), none⟩, ⟨(some 27), (.mv (.tmp 30)), none⟩]) (.cond (.tmp 27) (.seq (.region [⟨(some 4), (.mv (.const (.int .i64 0))), none⟩,
   ⟨(some 5), (.mv (.const (.int .i64 3))), none⟩]) .ret) .skip))))))) (.seq (.region [⟨(some 7), (.alloc [(.int .i64 0)]), none⟩, ⟨(some 8), (.alloc [(.int .i64 0)]), none⟩,
  ⟨none, (.store 1 (.tmp 7) (.const (.int .i64 0))), none⟩, ⟨none, (.store 1 (.tmp 8) (.const (.int .i64 0))), none⟩]) (.seq (.region [⟨(some 31), (.load (some 7) (.tmp 2)), none⟩,
   ⟨(some 32), (.call (.func 43) [(.tmp 31)]), none⟩, ⟨(some 9), (.alloc [(.ptr none)]), none⟩, ⟨none, (.store 1 (.tmp 9) (.tmp 32)), none⟩]) (.seq (.seq (.region [⟨(some 33),
  (.mv (.tmp 1)), none⟩, ⟨(some 34), (.call (.func 55) [(.tmp 33)]), none⟩]) (.block 1 (.rangeF (.tmp 34) [35, 36] (.seq (.region [⟨(some 10), (.mv (.tmp 35)), none⟩]) (.region
  [⟨(some 11), (.mv (.tmp 36)), none⟩])) (.block 2 (.seq (.region [⟨(some 37), (.load none (.tmp 9)), none⟩, ⟨(some 38), (.nilchk (.tmp 37)), none⟩, ⟨(some 39), (.faddr 7 (.tmp
  38)), none⟩, ⟨(some 40), (.load none (.tmp 39)), none⟩, ⟨(some 41), (.mv (.tmp 10)), none⟩, ⟨(some 42), (.iaddrS 2 (.tmp 40) (.tmp 41)), none⟩, ⟨(some 43), (.load (some 2) (.tmp
  42)), none⟩, ⟨(some 12), (.alloc [(.int .i64 0), (.int .i64 0)]), none⟩, ⟨none, (.store 2 (.tmp 12) (.tmp 43)), none⟩]) (.seq (.seq (.region [⟨(some 44), (.mv (.tmp 11)), none⟩,
  ⟨(some 45), (.load none (.tmp 8)), none⟩, ⟨(some 46), (.bin .gtr (.tmp 44) (.tmp 45)), none⟩]) (.cond (.tmp 46) (.region [⟨(some 47), (.load none (.tmp 7)), none⟩, ⟨(some 48),
  (.faddr 0 (.tmp 12)), none⟩, ⟨(some 49), (.load none (.tmp 48)), none⟩, ⟨(some 50), (.mv (.tmp 11)), none⟩, ⟨(some 51), (.load none (.tmp 8)), none⟩, ⟨(some 52), (.bin .sub
  (.tmp 50) (.tmp 51)), none⟩, ⟨(some 53), (.bin .mul (.tmp 49) (.tmp 52)), none⟩, ⟨(some 54), (.bin .add (.tmp 47) (.tmp 53)), none⟩, ⟨none, (.store 1 (.tmp 7) (.tmp 54)),
  none⟩]) (.region [⟨(some 55), (.load none (.tmp 7)), none⟩, ⟨(some 56), (.faddr 1 (.tmp 12)), none⟩, ⟨(some 57), (.load none (.tmp 56)), none⟩, ⟨(some 58), (.load none (.tmp 8)),
   none⟩, ⟨(some 59), (.mv (.tmp 11)), none⟩, ⟨(some 60), (.bin .sub (.tmp 58) (.tmp 59)), none⟩, ⟨(some 61), (.bin .mul (.tmp 57) (.tmp 60)), none⟩, ⟨(some 62), (.bin .sub (.tmp
  55) (.tmp 61)), none⟩, ⟨none, (.store 1 (.tmp 7) (.tmp 62)), none⟩]))) (.seq (.seq (.region [⟨(some 63), (.mv (.tmp 11)), none⟩, ⟨(some 64), (.faddr 6 (.tmp 2)), none⟩, ⟨(some
  65), (.load none (.tmp 64)), none⟩, ⟨(some 66), (.mv (.tmp 10)), none⟩, ⟨(some 67), (.iaddrS 1 (.tmp 65) (.tmp 66)), none⟩, ⟨(some 68), (.load none (.tmp 67)), none⟩, ⟨(some 69),
   (.bin .sub (.tmp 63) (.tmp 68)), none⟩, ⟨(some 13), (.mv (.tmp 69)), none⟩]) (.seq (.region [⟨(some 70), (.mv (.tmp 13)), none⟩, ⟨(some 71), (.bin .gtr (.tmp 70) (.const (.int
  .i64 0))), none⟩]) (.cond (.tmp 71) (.region [⟨(some 72), (.load none (.tmp 7)), none⟩, ⟨(some 73), (.faddr 2 (.tmp 2)), none⟩, ⟨(some 74), (.load none (.tmp 73)), none⟩, ⟨(some
  75), (.mv (.tmp 13)), none⟩, ⟨(some 76), (.bin .mul (.tmp 74) (.tmp 75)), none⟩, ⟨(some 77), (.bin .sub (.tmp 72) (.tmp 76)), none⟩, ⟨none, (.store 1 (.tmp 7) (.tmp 77)),
  none⟩]) .skip))) (.region [⟨(some 78), (.mv (.tmp 11)), none⟩, ⟨none, (.store 1 (.tmp 8) (.tmp 78)), none⟩])))))))) (.seq (.region [⟨(some 79), (.load none (.tmp 7)), none⟩,
  ⟨(some 4), (.mv (.tmp 79)), none⟩, ⟨(some 5), (.mv (.const (.int .i64 0))), none⟩]) .ret)))))))⟩
def af32 : AFn := ⟨105, [(.tmp 4), (.tmp 5)], (.seq (.region [⟨(some 2), (.box (.tmp 0)), none⟩, ⟨(some 4), (.mv (.const (.int .i64 0))), none⟩, ⟨(some 5), (.mv (.const (.int .i64 0))), none⟩])
  (.seq (.seq (.region [⟨(some 11), (.load (some 7) (.tmp 2)), none⟩, ⟨(some 12), (.call (.func 21) [(.tmp 11)]), none⟩, ⟨(some 13), (.bin .neq (.tmp 12) (.const (.int .i64 0))),
  none⟩]) (.cond (.tmp 13) (.seq (.region [⟨(some 14), (.load (some 7) (.tmp 2)), none⟩, ⟨(some 15), (.call (.func 21) [(.tmp 14)]), none⟩, ⟨(some 4), (.mv (.const (.int .i64 0))),
   none⟩, ⟨(some 5), (.mv (.tmp 15)), none⟩]) .ret) .skip)) (.seq (.seq (.region [⟨(some 16), (.mv (.tmp 1)), none⟩, ⟨(some 17), (.len (.tmp 16)), none⟩, ⟨(some 18), (.faddr 5
  (.tmp 2)), none⟩, ⟨(some 19), (.load none (.tmp 18)), none⟩, ⟨(some 20), (.len (.tmp 19)), none⟩, ⟨(some 21), (.bin .neq (.tmp 17) (.tmp 20)), none⟩]) (.cond (.tmp 21) (.seq
  (.region [⟨(some 4), (.mv (.const (.int .i64 0))), none⟩, ⟨(some 5), (.mv (.const (.int .i64 15))), none⟩]) .ret) .skip)) (.seq (.seq (.region [⟨(some 6), (.mv (.const (.int
  .i64 0))), none⟩]) (.block 0 (.loop (.seq (.seq (.region [⟨(some 22), (.mv (.tmp 6)), none⟩, ⟨(some 23), (.mv (.tmp 1)), none⟩, ⟨(some 24), (.len (.tmp 23)), none⟩, ⟨(some 25),
  (.bin .lss (.tmp 22) (.tmp 24)), none⟩]) (.cond (.tmp 25) .skip (.exit 0))) (.seq (.block 1 (.seq (.region [⟨(some 28), (.mv (.tmp 1)), none⟩, ⟨(some 29), (.mv (.tmp 6)), none⟩,
  ⟨(some 30), (.iaddrS 1 (.tmp 28) (.tmp 29)), none⟩, ⟨(some 31), (.load none (.tmp 30)), none⟩, ⟨(some 32), (.bin .lss (.tmp 31) (.const (.int .i64 0))), none⟩, ⟨(some 33), (.mv
  (.tmp 32)), none⟩, ⟨(some 34), (.mv (.tmp 1)), (some (33, false))⟩, ⟨(some 35), (.mv (.tmp 6)), (some (33, false))⟩, ⟨(some 36), (.iaddrS 1 (.tmp 34) (.tmp 35)), (some (33,
  false))⟩, ⟨(some 37), (.load none (.tmp 36)), (some (33, false))⟩, ⟨(some 38), (.bin .gtr (.tmp 37) (.const (.int .i64 100000))), (some (33, false))⟩, ⟨(some 39), (.pick (.tmp
  33) (.const (.bool true)) (.tmp 38)), none⟩]) (.cond (.tmp 39) (.seq (.region [⟨(some 4), (.mv (.const (.int .i64 0))), none⟩, ⟨(some 5), (.mv (.const (.int .i64 3))), none⟩])
  .ret) .skip))) (.region [⟨(some 26), (.mv (.tmp 6)), none⟩, ⟨(some 27), (.bin .add (.tmp 26) (.const (.int .i64 1))), none⟩, ⟨(some 6), (.mv (.tmp 27)), none⟩])))))) (.seq
  (.region [⟨(some 40), (.load (some 7) (.tmp 2)), none⟩, ⟨(some 41), (.call (.func 44) [(.tmp 40)]), none⟩, ⟨(some 7), (.mv (.tmp 41)), none⟩]) (.seq (.region [⟨(some 8), (.mv
  (.const (.int .i64 0))), none⟩]) (.seq (.seq (.region [⟨(some 9), (.mv (.const (.int .i64 0))), none⟩]) (.block 2 (.loop (.seq (.seq (.region [⟨(some 42), (.mv (.tmp 9)), none⟩,
  ⟨(some 43), (.mv (.tmp 1)), none⟩, ⟨(some 44), (.len (.tmp 43)), none⟩, ⟨(some 45), (.bin .lss (.tmp 42) (.tmp 44)), none⟩]) (.cond (.tmp 45) .skip (.exit 2))) (.seq (.block 3
  (.seq (.region [⟨(some 10), (.mv (.const (.int .i64 0))), none⟩]) (.seq (.seq (.region [⟨(some 48), (.mv (.tmp 9)), none⟩, ⟨(some 49), (.bin .add (.tmp 48) (.const (.int .i64
  1))), none⟩, ⟨(some 50), (.mv (.tmp 1)), none⟩, ⟨(some 51), (.len (.tmp 50)), none⟩, ⟨(some 52), (.bin .lss (.tmp 49) (.tmp 51)), none⟩]) (.cond (.tmp 52) (.region [⟨(some 53),
  (.mv (.tmp 1)), none⟩, ⟨(some 54), (.mv (.tmp 9)), none⟩, ⟨(some 55), (.bin .add (.tmp 54) (.const (.int .i64 1))), none⟩, ⟨(some 56), (.iaddrS 1 (.tmp 53) (.tmp 55)), none⟩,
  ⟨(some 57), (.load none (.tmp 56)), none⟩, ⟨(some 10), (.mv (.tmp 57)), none⟩]) .skip)) (.seq (.draw [⟨(some 58), (.mv (.tmp 8)), none⟩, ⟨(some 59), (.mv (.tmp 7)), none⟩,
  ⟨(some 60), (.mv (.tmp 9)), none⟩, ⟨(some 61), (.iaddrS 2 (.tmp 59) (.tmp 60)), none⟩, ⟨(some 62), (.faddr 0 (.tmp 61)), none⟩, ⟨(some 63), (.load none (.tmp 62)), none⟩, ⟨(some
  64), (.mv (.tmp 1)), none⟩, ⟨(some 65), (.mv (.tmp 9)), none⟩, ⟨(some 66), (.iaddrS 1 (.tmp 64) (.tmp 65)), none⟩, ⟨(some 67), (.load none (.tmp 66)), none⟩, ⟨(some 68), (.mv
  (.tmp 10)), none⟩, ⟨(some 69), (.bin .sub (.tmp 67) (.tmp 68)), none⟩, ⟨(some 70), (.mnx true [(.const (.int .i64 0)), (.tmp 69)]), none⟩, ⟨(some 71), (.bin .mul (.tmp 63) (.tmp
  70)), none⟩, ⟨(some 72), (.bin .add (.tmp 58) (.tmp 71)), none⟩, ⟨(some 8), (.mv (.tmp 72)), none⟩] []) (.seq (.draw [⟨(some 73), (.mv (.tmp 8)), none⟩, ⟨(some 74), (.mv (.tmp
  7)), none⟩, ⟨(some 75), (.mv (.tmp 9)), none⟩, ⟨(some 76), (.iaddrS 2 (.tmp 74) (.tmp 75)), none⟩, ⟨(some 77), (.faddr 1 (.tmp 76)), none⟩, ⟨(some 78), (.load none (.tmp 77)),
  none⟩, ⟨(some 79), (.mv (.tmp 10)), none⟩, ⟨(some 80), (.mv (.tmp 1)), none⟩, ⟨(some 81), (.mv (.tmp 9)), none⟩, ⟨(some 82), (.iaddrS 1 (.tmp 80) (.tmp 81)), none⟩, ⟨(some 83),
  (.load none (.tmp 82)), none⟩, ⟨(some 84), (.bin .sub (.tmp 79) (.tmp 83)), none⟩, ⟨(some 85), (.mnx true [(.const (.int .i64 0)), (.tmp 84)]), none⟩, ⟨(some 86), (.bin .mul
  (.tmp 78) (.tmp 85)), none⟩, ⟨(some 87), (.bin .sub (.tmp 73) (.tmp 86)), none⟩, ⟨(some 8), (.mv (.tmp 87)), none⟩] []) (.draw [⟨(some 88), (.mv (.tmp 8)), none⟩, ⟨(some 89),
  (.faddr 2 (.tmp 2)), none⟩, ⟨(some 90), (.load none (.tmp 89)), none⟩, ⟨(some 91), (.mv (.tmp 1)), none⟩, ⟨(some 92), (.mv (.tmp 9)), none⟩, ⟨(some 93), (.iaddrS 1 (.tmp 91)
  (.tmp 92)), none⟩, ⟨(some 94), (.load none (.tmp 93)), none⟩, ⟨(some 95), (.faddr 6 (.tmp 2)), none⟩, ⟨(some 96), (.load none (.tmp 95)), none⟩, ⟨(some 97), (.mv (.tmp 9)),
  none⟩, ⟨(some 98), (.iaddrS 1 (.tmp 96) (.tmp 97)), none⟩, ⟨(some 99), (.load none (.tmp 98)), none⟩, ⟨(some 100), (.bin .sub (.tmp 94) (.tmp 99)), none⟩, ⟨(some 101), (.mnx
  true [(.const (.int .i64 0)), (.tmp 100)]), none⟩, ⟨(some 102), (.bin .mul (.tmp 90) (.tmp 101)), none⟩, ⟨(some 103), (.bin .sub (.tmp 88) (.tmp 102)), none⟩, ⟨(some 8), (.mv
  (.tmp 103)), none⟩] [])))))) (.region [⟨(some 46), (.mv (.tmp 9)), none⟩, ⟨(some 47), (.bin .add (.tmp 46) (.const (.int .i64 1))), none⟩, ⟨(some 9), (.mv (.tmp 47)),
  none⟩])))))) (.seq (.region [⟨(some 104), (.mv (.tmp 8)), none⟩, ⟨(some 4), (.mv (.tmp 104)), none⟩, ⟨(some 5), (.mv (.const (.int .i64 0))), none⟩]) .ret))))))))⟩
def af33 : AFn := ⟨19, [(.tmp 2), (.tmp 3)], (.seq (.region [⟨(some 1), (.box (.tmp 0)), none⟩, ⟨(some 2), (.mv (.const (.slc none 0 0 true 0))), none⟩, ⟨(some 3), (.mv (.const (.int .i64 0))),
  none⟩]) (.seq (.region [⟨(some 8), (.load (some 7) (.tmp 1)), none⟩, ⟨(some 9), (.call (.func 53) [(.tmp 8)]), none⟩, ⟨(some 7), (.mv (.tmp 9)), none⟩, ⟨(some 10), (.ext (.tmp
  7) 0), none⟩, ⟨(some 11), (.ext (.tmp 7) 1), none⟩, ⟨(some 12), (.ext (.tmp 7) 2), none⟩, ⟨(some 4), (.mv (.tmp 10)), none⟩, ⟨(some 5), (.mv (.tmp 11)), none⟩, ⟨(some 6), (.mv
  (.tmp 12)), none⟩]) (.seq (.seq (.region [⟨(some 13), (.mv (.tmp 6)), none⟩, ⟨(some 14), (.bin .neq (.tmp 13) (.const (.int .i64 0))), none⟩]) (.cond (.tmp 14) (.seq (.region
  [⟨(some 15), (.mv (.tmp 6)), none⟩, ⟨(some 2), (.mv (.const (.slc none 0 0 true 0))), none⟩, ⟨(some 3), (.mv (.tmp 15)), none⟩]) .ret) .skip)) (.seq (.region [⟨(some 16), (.mv
  (.tmp 4)), none⟩, ⟨(some 17), (.mv (.tmp 5)), none⟩, ⟨(some 18), (.call (.func 56) [(.tmp 16), (.tmp 17)]), none⟩, ⟨(some 2), (.mv (.tmp 18)), none⟩, ⟨(some 3), (.mv (.const
  (.int .i64 0))), none⟩]) .ret))))⟩
def af34 : AFn := ⟨11, [(.tmp 2)], (.seq (.region [⟨(some 1), (.box (.tmp 0)), none⟩, ⟨(some 2), (.mv (.const (.bool false))), none⟩]) (.seq (.region [⟨(some 3), (.load (some 7) (.tmp 1)), none⟩,
  ⟨(some 4), (.call (.func 14) [(.tmp 3)]), none⟩, ⟨(some 5), (.un .not (.tmp 4)), none⟩, ⟨(some 6), (.mv (.tmp 5)), none⟩, ⟨(some 7), (.load (some 7) (.tmp 1)), (some (6, true))⟩,
   ⟨(some 8), (.call (.func 21) [(.tmp 7)]), (some (6, true))⟩, ⟨(some 9), (.bin .eql (.tmp 8) (.const (.int .i64 0))), (some (6, true))⟩, ⟨(some 10), (.pick (.tmp 6) (.tmp 9)
  (.const (.bool false))), none⟩, ⟨(some 2), (.mv (.tmp 10)), none⟩]) .ret))⟩
def af35 : AFn := ⟨64, [(.tmp 4)], (.seq (.region [⟨(some 2), (.box (.tmp 0)), none⟩, ⟨(some 4), (.mv (.const (.slc none 0 0 true 0))), none⟩]) (.seq (.region [⟨(some 12), (.load (some 7) (.tmp 2)),
   none⟩, ⟨(some 13), (.call (.func 17) [(.tmp 12)]), none⟩, ⟨(some 11), (.mv (.tmp 13)), none⟩, ⟨(some 14), (.ext (.tmp 11) 0), none⟩, ⟨(some 15), (.ext (.tmp 11) 1), none⟩,
  ⟨(some 5), (.mv (.tmp 14)), none⟩, ⟨(some 6), (.mv (.tmp 15)), none⟩]) (.seq (.region [⟨(some 7), (.mv (.const (.slc none 0 0 true 0))), none⟩]) (.seq (.region [⟨(some 8), (.mv
  (.const (.int .i64 0))), none⟩]) (.seq (.seq (.region [⟨(some 9), (.mv (.const (.int .i64 0))), none⟩]) (.block 0 (.loop (.seq (.seq (.region [⟨(some 16), (.mv (.tmp 9)), none⟩,
  ⟨(some 17), (.mv (.tmp 5)), none⟩, ⟨(some 18), (.len (.tmp 17)), none⟩, ⟨(some 19), (.bin .lss (.tmp 16) (.tmp 18)), none⟩]) (.cond (.tmp 19) .skip (.exit 0))) (.seq (.block 1
  (.seq (.region [⟨(some 22), (.mv (.tmp 5)), none⟩, ⟨(some 23), (.mv (.tmp 9)), none⟩, ⟨(some 24), (.iaddrS 2 (.tmp 22) (.tmp 23)), none⟩, ⟨(some 25), (.faddr 0 (.tmp 24)), none⟩,
   ⟨(some 26), (.load none (.tmp 25)), none⟩, ⟨(some 27), (.mv (.tmp 8)), none⟩, ⟨(some 28), (.bin .sub (.tmp 26) (.tmp 27)), none⟩, ⟨(some 29), (.mnx true [(.const (.int .i64 0)),
   (.tmp 28)]), none⟩, ⟨(some 10), (.mv (.tmp 29)), none⟩]) (.seq (.seq (.region [⟨(some 30), (.mv (.tmp 1)), none⟩, ⟨(some 31), (.len (.tmp 30)), none⟩, ⟨(some 32), (.bin .gtr
  (.tmp 31) (.const (.int .i64 0))), none⟩]) (.cond (.tmp 32) (.region [⟨(some 33), (.mv (.tmp 10)), none⟩, ⟨(some 34), (.mv (.tmp 1)), none⟩, ⟨(some 35), (.mv (.tmp 9)), none⟩,
  ⟨(some 36), (.mv (.tmp 1)), none⟩, ⟨(some 37), (.len (.tmp 36)), none⟩, ⟨(some 38), (.bin .rem (.tmp 35) (.tmp 37)), none⟩, ⟨(some 39), (.iaddrS 1 (.tmp 34) (.tmp 38)), none⟩,
  ⟨(some 40), (.load none (.tmp 39)), none⟩, ⟨(some 41), (.conv .i64 (.tmp 40)), none⟩, ⟨(some 42), (.bin .rem (.tmp 41) (.const (.int .i64 4))), none⟩, ⟨(some 43), (.bin .add
  (.tmp 33) (.tmp 42)), none⟩, ⟨(some 10), (.mv (.tmp 43)), none⟩]) .skip)) (.seq (.draw [⟨(some 44), (.mv (.tmp 10)), none⟩, ⟨(some 45), (.faddr 2 (.tmp 2)), none⟩, ⟨(some 46),
  (.load none (.tmp 45)), none⟩, ⟨(some 47), (.mv (.tmp 5)), none⟩, ⟨(some 48), (.mv (.tmp 9)), none⟩, ⟨(some 49), (.iaddrS 2 (.tmp 47) (.tmp 48)), none⟩, ⟨(some 50), (.faddr 1
  (.tmp 49)), none⟩, ⟨(some 51), (.load none (.tmp 50)), none⟩, ⟨(some 52), (.mv (.tmp 8)), none⟩, ⟨(some 53), (.bin .sub (.tmp 51) (.tmp 52)), none⟩, ⟨(some 54), (.mnx false
  [(.tmp 44), (.tmp 46), (.tmp 53)]), none⟩, ⟨(some 55), (.mnx true [(.const (.int .i64 0)), (.tmp 54)]), none⟩, ⟨(some 10), (.mv (.tmp 55)), none⟩] []) (.seq (.region [⟨(some 56),
   (.mv (.tmp 7)), none⟩, ⟨(some 57), (.mv (.tmp 10)), none⟩, ⟨(some 58), (.bslice [(.int .i64 0)] 1 1 [(0, (1, (.tmp 57)))]), none⟩, ⟨(some 59), (.app 1 8 (.tmp 56) (.tmp 58)),
  none⟩, ⟨(some 7), (.mv (.tmp 59)), none⟩]) (.region [⟨(some 60), (.mv (.tmp 8)), none⟩, ⟨(some 61), (.mv (.tmp 10)), none⟩, ⟨(some 62), (.bin .add (.tmp 60) (.tmp 61)), none⟩,
  ⟨(some 8), (.mv (.tmp 62)), none⟩])))))) (.region [⟨(some 20), (.mv (.tmp 9)), none⟩, ⟨(some 21), (.bin .add (.tmp 20) (.const (.int .i64 1))), none⟩, ⟨(some 9), (.mv (.tmp 21)),
   none⟩])))))) (.seq (.region [⟨(some 63), (.mv (.tmp 7)), none⟩, ⟨(some 4), (.mv (.tmp 63)), none⟩]) .ret))))))⟩
def af36 : AFn := ⟨62, [(.tmp 4), (.tmp 5)], (.seq (.region [⟨(some 2), (.box (.tmp 0)), none⟩, ⟨(some 4), (.mv (.const (.int .i64 0))), none⟩, ⟨(some 5), (.mv (.const (.slc none 0 0 true 0))),
  none⟩]) (.seq (.region [⟨(some 10), (.faddr 3 (.tmp 2)), none⟩, ⟨(some 11), (.load (some 2) (.tmp 10)), none⟩, ⟨(some 12), (.bslice [(.int .i64 0), (.int .i64 0)] 1 2 [(0, (2,
  (.tmp 11)))]), none⟩, ⟨(some 13), (.faddr 5 (.tmp 2)), none⟩, ⟨(some 14), (.load none (.tmp 13)), none⟩, ⟨(some 15), (.app 2 16 (.tmp 12) (.tmp 14)), none⟩, ⟨(some 6), (.mv
  (.tmp 15)), none⟩]) (.seq (.region [⟨(some 7), (.mv (.const (.slc none 0 0 true 0))), none⟩]) (.seq (.seq (.region [⟨(some 8), (.mv (.const (.int .i64 0))), none⟩]) (.block 0
  (.loop (.seq (.seq (.region [⟨(some 16), (.mv (.tmp 8)), none⟩, ⟨(some 17), (.mv (.tmp 6)), none⟩, ⟨(some 18), (.len (.tmp 17)), none⟩, ⟨(some 19), (.bin .lss (.tmp 16) (.tmp
  18)), none⟩]) (.cond (.tmp 19) .skip (.exit 0))) (.seq (.block 1 (.seq (.region [⟨(some 22), (.mv (.tmp 6)), none⟩, ⟨(some 23), (.mv (.tmp 8)), none⟩, ⟨(some 24), (.iaddrS 2
  (.tmp 22) (.tmp 23)), none⟩, ⟨(some 25), (.faddr 0 (.tmp 24)), none⟩, ⟨(some 26), (.load none (.tmp 25)), none⟩, ⟨(some 9), (.mv (.tmp 26)), none⟩]) (.seq (.seq (.region [⟨(some
  27), (.mv (.tmp 1)), none⟩, ⟨(some 28), (.len (.tmp 27)), none⟩, ⟨(some 29), (.bin .gtr (.tmp 28) (.const (.int .i64 0))), none⟩]) (.cond (.tmp 29) (.draw [⟨(some 30), (.mv
  (.tmp 9)), none⟩, ⟨(some 31), (.mv (.tmp 1)), none⟩, ⟨(some 32), (.mv (.tmp 8)), none⟩, ⟨(some 33), (.mv (.tmp 1)), none⟩, ⟨(some 34), (.len (.tmp 33)), none⟩, ⟨(some 35), (.bin
  .rem (.tmp 32) (.tmp 34)), none⟩, ⟨(some 36), (.iaddrS 1 (.tmp 31) (.tmp 35)), none⟩, ⟨(some 37), (.load none (.tmp 36)), none⟩, ⟨(some 38), (.conv .i64 (.tmp 37)), none⟩,
  ⟨(some 39), (.mv (.tmp 6)), none⟩, ⟨(some 40), (.mv (.tmp 8)), none⟩, ⟨(some 41), (.iaddrS 2 (.tmp 39) (.tmp 40)), none⟩, ⟨(some 42), (.faddr 1 (.tmp 41)), none⟩, ⟨(some 43),
  (.load none (.tmp 42)), none⟩, ⟨(some 44), (.mv (.tmp 6)), none⟩, ⟨(some 45), (.mv (.tmp 8)), none⟩, ⟨(some 46), (.iaddrS 2 (.tmp 44) (.tmp 45)), none⟩, ⟨(some 47), (.faddr 0
  (.tmp 46)), none⟩, ⟨(some 48), (.load none (.tmp 47)), none⟩, ⟨(some 49), (.bin .sub (.tmp 43) (.tmp 48)), none⟩, ⟨(some 50), (.bin .add (.tmp 49) (.const (.int .i64 1))), none⟩,
   ⟨(some 51), (.bin .rem (.tmp 38) (.tmp 50)), none⟩, ⟨(some 52), (.bin .add (.tmp 30) (.tmp 51)), none⟩, ⟨(some 9), (.mv (.tmp 52)), none⟩] []) .skip)) (.region [⟨(some 53),
  (.mv (.tmp 7)), none⟩, ⟨(some 54), (.mv (.tmp 9)), none⟩, ⟨(some 55), (.bslice [(.int .i64 0)] 1 1 [(0, (1, (.tmp 54)))]), none⟩, ⟨(some 56), (.app 1 8 (.tmp 53) (.tmp 55)),
  none⟩, ⟨(some 7), (.mv (.tmp 56)), none⟩])))) (.region [⟨(some 20), (.mv (.tmp 8)), none⟩, ⟨(some 21), (.bin .add (.tmp 20) (.const (.int .i64 1))), none⟩, ⟨(some 8), (.mv (.tmp
  21)), none⟩])))))) (.seq (.draw [⟨(some 57), (.mv (.tmp 7)), none⟩, ⟨(some 58), (.iaddrS 1 (.tmp 57) (.const (.int .i64 0))), none⟩, ⟨(some 59), (.load none (.tmp 58)), none⟩,
  ⟨(some 60), (.mv (.tmp 7)), none⟩, ⟨(some 61), (.slc 1 (.tmp 60) (some (.const (.int .i64 1))) none none), none⟩, ⟨(some 4), (.mv (.tmp 59)), none⟩, ⟨(some 5), (.mv (.tmp 61)),
  none⟩] []) .ret)))))⟩
def af37 : AFn := ⟨41, [(.tmp 4)], (.seq (.region [⟨(some 4), (.mv (.const (.bool false))), none⟩]) (.seq (.seq (.region [⟨(some 5), (.mv (.const (.int .i64 0))), none⟩]) (.block 0 (.loop (.seq
  (.seq (.region [⟨(some 6), (.mv (.tmp 5)), none⟩, ⟨(some 7), (.mv (.tmp 0)), none⟩, ⟨(some 8), (.len (.tmp 7)), none⟩, ⟨(some 9), (.bin .lss (.tmp 6) (.tmp 8)), none⟩, ⟨(some
  10), (.mv (.tmp 9)), none⟩, ⟨(some 11), (.mv (.tmp 5)), (some (10, true))⟩, ⟨(some 12), (.mv (.tmp 1)), (some (10, true))⟩, ⟨(some 13), (.len (.tmp 12)), (some (10, true))⟩,
  ⟨(some 14), (.bin .lss (.tmp 11) (.tmp 13)), (some (10, true))⟩, ⟨(some 15), (.pick (.tmp 10) (.tmp 14) (.const (.bool false))), none⟩]) (.cond (.tmp 15) .skip (.exit 0))) (.seq
  (.block 1 (.seq (.draw [⟨(some 18), (.mv (.tmp 0)), none⟩, ⟨(some 19), (.mv (.tmp 5)), none⟩, ⟨(some 20), (.iaddrS 1 (.tmp 18) (.tmp 19)), none⟩, ⟨(some 21), (.load none (.tmp
  20)), none⟩, ⟨(some 22), (.mv (.tmp 1)), none⟩, ⟨(some 23), (.mv (.tmp 5)), none⟩, ⟨(some 24), (.iaddrS 1 (.tmp 22) (.tmp 23)), none⟩, ⟨(some 25), (.load none (.tmp 24)), none⟩,
  ⟨(some 26), (.bin .neq (.tmp 21) (.tmp 25)), none⟩] []) (.cond (.tmp 26) (.seq (.draw [⟨(some 27), (.mv (.tmp 0)), none⟩, ⟨(some 28), (.mv (.tmp 5)), none⟩, ⟨(some 29), (.iaddrS
  1 (.tmp 27) (.tmp 28)), none⟩, ⟨(some 30), (.load none (.tmp 29)), none⟩, ⟨(some 31), (.mv (.tmp 1)), none⟩, ⟨(some 32), (.mv (.tmp 5)), none⟩, ⟨(some 33), (.iaddrS 1 (.tmp 31)
  (.tmp 32)), none⟩, ⟨(some 34), (.load none (.tmp 33)), none⟩, ⟨(some 35), (.bin .lss (.tmp 30) (.tmp 34)), none⟩, ⟨(some 4), (.mv (.tmp 35)), none⟩] []) .ret) .skip))) (.region
  [⟨(some 16), (.mv (.tmp 5)), none⟩, ⟨(some 17), (.bin .add (.tmp 16) (.const (.int .i64 1))), none⟩, ⟨(some 5), (.mv (.tmp 17)), none⟩])))))) (.seq (.region [⟨(some 36), (.mv
  (.tmp 0)), none⟩, ⟨(some 37), (.len (.tmp 36)), none⟩, ⟨(some 38), (.mv (.tmp 1)), none⟩, ⟨(some 39), (.len (.tmp 38)), none⟩, ⟨(some 40), (.bin .lss (.tmp 37) (.tmp 39)), none⟩,
   ⟨(some 4), (.mv (.tmp 40)), none⟩]) .ret)))⟩
def af38 : AFn := ⟨26, [(.cell 6 (some 2))], (.seq (.region [⟨(some 3), (.box (.tmp 0)), none⟩, ⟨(some 6), (.alloc [(.int .i64 0), (.int .i64 0)]), none⟩]) (.seq (.region [⟨(some 7), (.faddr 1
  (.tmp 3)), none⟩, ⟨(some 8), (.load none (.tmp 7)), none⟩, ⟨(some 9), (.faddr 0 (.tmp 3)), none⟩, ⟨(some 10), (.load none (.tmp 9)), none⟩, ⟨(some 11), (.mv (.tmp 1)), none⟩,
  ⟨(some 12), (.conv .i64 (.tmp 11)), none⟩, ⟨(some 13), (.bin .add (.tmp 10) (.tmp 12)), none⟩, ⟨(some 14), (.mnx false [(.tmp 8), (.tmp 13)]), none⟩, ⟨(some 15), (.faddr 0 (.tmp
  3)), none⟩, ⟨none, (.store 1 (.tmp 15) (.tmp 14)), none⟩]) (.seq (.region [⟨(some 16), (.faddr 0 (.tmp 3)), none⟩, ⟨(some 17), (.load none (.tmp 16)), none⟩, ⟨(some 18), (.faddr
  1 (.tmp 3)), none⟩, ⟨(some 19), (.load none (.tmp 18)), none⟩, ⟨(some 20), (.mv (.tmp 2)), none⟩, ⟨(some 21), (.conv .i64 (.tmp 20)), none⟩, ⟨(some 22), (.bin .sub (.tmp 19)
  (.tmp 21)), none⟩, ⟨(some 23), (.mnx true [(.tmp 17), (.tmp 22)]), none⟩, ⟨(some 24), (.faddr 1 (.tmp 3)), none⟩, ⟨none, (.store 1 (.tmp 24) (.tmp 23)), none⟩]) (.seq (.region
  [⟨(some 25), (.load (some 2) (.tmp 3)), none⟩, ⟨none, (.store 2 (.tmp 6) (.tmp 25)), none⟩]) .ret))))⟩
def af39 : AFn := ⟨18, [(.tmp 2)], (.seq (.region [⟨(some 2), (.mv (.const (.int .i64 0))), none⟩]) (.seq (.region [⟨(some 3), (.mv (.const (.int .i64 0))), none⟩]) (.seq (.seq (.region [⟨(some 4),
  (.mv (.const (.int .i64 0))), none⟩]) (.block 0 (.loop (.seq (.seq (.region [⟨(some 5), (.mv (.tmp 4)), none⟩, ⟨(some 6), (.mv (.tmp 0)), none⟩, ⟨(some 7), (.len (.tmp 6)),
  none⟩, ⟨(some 8), (.bin .lss (.tmp 5) (.tmp 7)), none⟩]) (.cond (.tmp 8) .skip (.exit 0))) (.seq (.block 1 (.region [⟨(some 11), (.mv (.tmp 3)), none⟩, ⟨(some 12), (.mv (.tmp
  0)), none⟩, ⟨(some 13), (.mv (.tmp 4)), none⟩, ⟨(some 14), (.iaddrS 1 (.tmp 12) (.tmp 13)), none⟩, ⟨(some 15), (.load none (.tmp 14)), none⟩, ⟨(some 16), (.bin .add (.tmp 11)
  (.tmp 15)), none⟩, ⟨(some 3), (.mv (.tmp 16)), none⟩])) (.region [⟨(some 9), (.mv (.tmp 4)), none⟩, ⟨(some 10), (.bin .add (.tmp 9) (.const (.int .i64 1))), none⟩, ⟨(some 4),
  (.mv (.tmp 10)), none⟩])))))) (.seq (.region [⟨(some 17), (.mv (.tmp 3)), none⟩, ⟨(some 2), (.mv (.tmp 17)), none⟩]) .ret))))⟩
def af40 : AFn := ⟨8, [(.cell 4 (some 2))], (.seq (.region [⟨(some 4), (.alloc [(.int .i64 0), (.int .i64 0)]), none⟩]) (.seq (.region [⟨(some 5), (.mv (.tmp 0)), none⟩, ⟨(some 6), (.mv (.tmp 1)),
  none⟩, ⟨(some 7), (.build [(.int .i64 0), (.int .i64 0)] [(0, (1, (.tmp 5))), (1, (1, (.tmp 6)))]), none⟩, ⟨none, (.store 2 (.tmp 4) (.tmp 7)), none⟩]) .ret))⟩
def af41 : AFn := ⟨8, [(.cell 0 (some 7))], (.seq (.region [⟨(some 0), (.alloc [(.int .i64 0), (.int .i64 0), (.int .i64 0), (.int .i64 0), (.int .i64 0), (.slc none 0 0 true 0), (.slc none 0 0
  true 0)]), none⟩]) (.seq (.region [⟨(some 1), (.call (.func 40) [(.const (.int .i64 40)), (.const (.int .i64 50))]), none⟩, ⟨(some 2), (.call (.func 40) [(.const (.int .i64 20)),
   (.const (.int .i64 30))]), none⟩, ⟨(some 3), (.call (.func 40) [(.const (.int .i64 30)), (.const (.int .i64 40))]), none⟩, ⟨(some 4), (.call (.func 40) [(.const (.int .i64 20)),
   (.const (.int .i64 50))]), none⟩, ⟨(some 5), (.bslice [(.int .i64 0), (.int .i64 0), (.int .i64 0), (.int .i64 0), (.int .i64 0), (.int .i64 0)] 3 2 [(0, (2, (.tmp 2))), (2, (2,
   (.tmp 3))), (4, (2, (.tmp 4)))]), none⟩, ⟨(some 6), (.bslice [(.int .i64 0), (.int .i64 0), (.int .i64 0)] 3 1 [(0, (1, (.const (.int .i64 5)))), (1, (1, (.const (.int .i64
  9)))), (2, (1, (.const (.int .i64 4))))]), none⟩, ⟨(some 7), (.build [(.int .i64 0), (.int .i64 0), (.int .i64 0), (.int .i64 0), (.int .i64 0), (.slc none 0 0 true 0), (.slc
  none 0 0 true 0)] [(0, (1, (.const (.int .i64 100)))), (1, (1, (.const (.int .i64 30)))), (2, (1, (.const (.int .i64 2)))), (3, (2, (.tmp 1))), (5, (1, (.tmp 5))), (6, (1, (.tmp
  6)))]), none⟩, ⟨none, (.store 7 (.tmp 0) (.tmp 7)), none⟩]) .ret))⟩
def af42 : AFn := ⟨5, [(.cell 0 (some 7))], (.seq (.region [⟨(some 0), (.alloc [(.int .i64 0), (.int .i64 0), (.int .i64 0), (.int .i64 0), (.int .i64 0), (.slc none 0 0 true 0), (.slc none 0 0
  true 0)]), none⟩]) (.seq (.region [⟨(some 2), (.call (.func 41) []), none⟩, ⟨(some 1), (.alloc [(.int .i64 0), (.int .i64 0), (.int .i64 0), (.int .i64 0), (.int .i64 0), (.slc
  none 0 0 true 0), (.slc none 0 0 true 0)]), none⟩, ⟨none, (.store 7 (.tmp 1) (.tmp 2)), none⟩]) (.seq (.region [⟨(some 3), (.faddr 0 (.tmp 1)), none⟩, ⟨none, (.store 1 (.tmp 3)
  (.const (.int .i64 60))), none⟩]) (.seq (.region [⟨(some 4), (.load (some 7) (.tmp 1)), none⟩, ⟨none, (.store 7 (.tmp 0) (.tmp 4)), none⟩]) .ret))))⟩
noncomputable def af43 : AFn := ⟨72, [(.tmp 2)], (.seq (.region [⟨(some 1), (.box (.tmp 0)), none⟩, ⟨(some 2), (.mv (.const (.ptr none))), none⟩]) (.seq (.region [⟨(some 9), (.load (some 7) (.tmp 1)), none⟩,
  ⟨(some 10), (.build ((zeroL Try.prog 75).getD []) [(0, (7, (.tmp 9)))]), none⟩, ⟨(some 11), (.box (.tmp 10)), none⟩, ⟨(some 3), (.mv (.tmp 11)), none⟩]) (.seq (.region [⟨(some
  12), (.build [(.int .i64 0), (.int .i64 0)] []), none⟩, ⟨(some 4), (.alloc [(.int .i64 0), (.int .i64 0)]), none⟩, ⟨none, (.store 2 (.tmp 4) (.tmp 12)), none⟩]) (.seq (.seq
  (.region [⟨(some 13), (.faddr 5 (.tmp 1)), none⟩, ⟨(some 14), (.load none (.tmp 13)), none⟩, ⟨(some 15), (.len (.tmp 14)), none⟩, ⟨(some 16), (.mv (.const (.int .i64 0))),
  none⟩]) (.block 0 (.loop (.seq (.region [⟨(some 17), (.bin .lss (.tmp 16) (.tmp 15)), none⟩]) (.seq (.cond (.tmp 17) .skip (.exit 0)) (.seq (.block 1 (.seq (.region [⟨(some 18),
  (.iaddrS 2 (.tmp 14) (.tmp 16)), none⟩, ⟨(some 19), (.load (some 2) (.tmp 18)), none⟩, ⟨(some 6), (.alloc [(.int .i64 0), (.int .i64 0)]), none⟩, ⟨none, (.store 2 (.tmp 6) (.tmp
  19)), none⟩]) (.seq (.region [⟨(some 20), (.faddr 0 (.tmp 1)), none⟩, ⟨(some 21), (.load none (.tmp 20)), none⟩, ⟨(some 22), (.faddr 3 (.tmp 1)), none⟩, ⟨(some 23), (.faddr 1
  (.tmp 22)), none⟩, ⟨(some 24), (.load none (.tmp 23)), none⟩, ⟨(some 25), (.bin .sub (.tmp 21) (.tmp 24)), none⟩, ⟨(some 26), (.faddr 0 (.tmp 4)), none⟩, ⟨(some 27), (.load none
  (.tmp 26)), none⟩, ⟨(some 28), (.bin .add (.tmp 25) (.tmp 27)), none⟩, ⟨(some 29), (.faddr 1 (.tmp 1)), none⟩, ⟨(some 30), (.load none (.tmp 29)), none⟩, ⟨(some 31), (.bin .quo
  (.tmp 28) (.tmp 30)), none⟩, ⟨(some 7), (.mv (.tmp 31)), none⟩]) (.seq (.region [⟨(some 32), (.faddr 0 (.tmp 4)), none⟩, ⟨(some 33), (.load none (.tmp 32)), none⟩, ⟨(some 34),
  (.faddr 0 (.tmp 6)), none⟩, ⟨(some 35), (.load none (.tmp 34)), none⟩, ⟨(some 36), (.bin .add (.tmp 33) (.tmp 35)), none⟩, ⟨(some 37), (.faddr 0 (.tmp 4)), none⟩, ⟨none, (.store
  1 (.tmp 37) (.tmp 36)), none⟩]) (.seq (.region [⟨(some 38), (.faddr 1 (.tmp 4)), none⟩, ⟨(some 39), (.load none (.tmp 38)), none⟩, ⟨(some 40), (.faddr 1 (.tmp 6)), none⟩, ⟨(some
  41), (.load none (.tmp 40)), none⟩, ⟨(some 42), (.bin .add (.tmp 39) (.tmp 41)), none⟩, ⟨(some 43), (.faddr 1 (.tmp 4)), none⟩, ⟨none, (.store 1 (.tmp 43) (.tmp 42)), none⟩])
  (.seq (.region [⟨(some 44), (.faddr 1 (.tmp 4)), none⟩, ⟨(some 45), (.load none (.tmp 44)), none⟩, ⟨(some 46), (.faddr 3 (.tmp 1)), none⟩, ⟨(some 47), (.faddr 0 (.tmp 46)),
  none⟩, ⟨(some 48), (.load none (.tmp 47)), none⟩, ⟨(some 49), (.bin .sub (.tmp 45) (.tmp 48)), none⟩, ⟨(some 50), (.faddr 1 (.tmp 1)), none⟩, ⟨(some 51), (.load none (.tmp 50)),
  none⟩, ⟨(some 52), (.bin .add (.tmp 49) (.tmp 51)), none⟩, ⟨(some 53), (.bin .sub (.tmp 52) (.const (.int .i64 1))), none⟩, ⟨(some 54), (.mnx true [(.const (.int .i64 0)), (.tmp
  53)]), none⟩, ⟨(some 55), (.faddr 1 (.tmp 1)), none⟩, ⟨(some 56), (.load none (.tmp 55)), none⟩, ⟨(some 57), (.bin .quo (.tmp 54) (.tmp 56)), none⟩, ⟨(some 8), (.mv (.tmp 57)),
  none⟩]) (.region [⟨(some 58), (.mv (.tmp 3)), none⟩, ⟨(some 59), (.mv (.tmp 3)), none⟩, ⟨(some 60), (.nilchk (.tmp 59)), none⟩, ⟨(some 61), (.faddr 7 (.tmp 60)), none⟩, ⟨(some
  62), (.load none (.tmp 61)), none⟩, ⟨(some 63), (.mv (.tmp 8)), none⟩, ⟨(some 64), (.mv (.tmp 7)), none⟩, ⟨(some 65), (.build [(.int .i64 0), (.int .i64 0)] [(0, (1, (.tmp 63))),
   (1, (1, (.tmp 64)))]), none⟩, ⟨(some 66), (.bslice [(.int .i64 0), (.int .i64 0)] 1 2 [(0, (2, (.tmp 65)))]), none⟩, ⟨(some 67), (.app 2 16 (.tmp 62) (.tmp 66)), none⟩, ⟨(some
  68), (.nilchk (.tmp 58)), none⟩, ⟨(some 69), (.faddr 7 (.tmp 68)), none⟩, ⟨none, (.store 1 (.tmp 69) (.tmp 67)), none⟩]))))))) (.region [⟨(some 70), (.bin .add (.tmp 16) (.const
  (.int .i64 1))), none⟩, ⟨(some 16), (.mv (.tmp 70)), none⟩]))))))) (.seq (.region [⟨(some 71), (.mv (.tmp 3)), none⟩, ⟨(some 2), (.mv (.tmp 71)), none⟩]) .ret)))))⟩
def af44 : AFn := ⟨59, [(.tmp 2)], (.seq (.region [⟨(some 1), (.box (.tmp 0)), none⟩, ⟨(some 2), (.mv (.const (.slc none 0 0 true 0))), none⟩]) (.seq (.region [⟨(some 3), (.mv (.const (.slc none 0
  0 true 0))), none⟩]) (.seq (.draw [⟨(some 8), (.faddr 3 (.tmp 1)), none⟩, ⟨(some 9), (.faddr 0 (.tmp 8)), none⟩, ⟨(some 10), (.load none (.tmp 9)), none⟩, ⟨(some 11), (.un .neg
  (.tmp 10)), none⟩, ⟨(some 12), (.faddr 0 (.tmp 1)), none⟩, ⟨(some 13), (.load none (.tmp 12)), none⟩, ⟨(some 14), (.faddr 3 (.tmp 1)), none⟩, ⟨(some 15), (.faddr 1 (.tmp 14)),
  none⟩, ⟨(some 16), (.load none (.tmp 15)), none⟩, ⟨(some 17), (.bin .sub (.tmp 13) (.tmp 16)), none⟩, ⟨(some 4), (.mv (.tmp 11)), none⟩, ⟨(some 5), (.mv (.tmp 17)), none⟩] [])
  (.seq (.seq (.region [⟨(some 6), (.mv (.const (.int .i64 0))), none⟩]) (.block 0 (.loop (.seq (.seq (.region [⟨(some 18), (.mv (.tmp 6)), none⟩, ⟨(some 19), (.faddr 5 (.tmp 1)),
  none⟩, ⟨(some 20), (.load none (.tmp 19)), none⟩, ⟨(some 21), (.len (.tmp 20)), none⟩, ⟨(some 22), (.bin .lss (.tmp 18) (.tmp 21)), none⟩]) (.cond (.tmp 22) .skip (.exit 0)))
  (.seq (.block 1 (.seq (.region [⟨(some 25), (.mv (.tmp 4)), none⟩, ⟨(some 26), (.faddr 5 (.tmp 1)), none⟩, ⟨(some 27), (.load none (.tmp 26)), none⟩, ⟨(some 28), (.mv (.tmp 6)),
  none⟩, ⟨(some 29), (.iaddrS 2 (.tmp 27) (.tmp 28)), none⟩, ⟨(some 30), (.faddr 1 (.tmp 29)), none⟩, ⟨(some 31), (.load none (.tmp 30)), none⟩, ⟨(some 32), (.bin .add (.tmp 25)
  (.tmp 31)), none⟩, ⟨(some 4), (.mv (.tmp 32)), none⟩]) (.seq (.region [⟨(some 7), (.mv (.const (.int .i64 0))), none⟩]) (.seq (.seq (.region [⟨(some 33), (.mv (.tmp 4)), none⟩,
  ⟨(some 34), (.bin .gtr (.tmp 33) (.const (.int .i64 0))), none⟩]) (.cond (.tmp 34) (.region [⟨(some 35), (.mv (.tmp 4)), none⟩, ⟨(some 36), (.bin .sub (.tmp 35) (.const (.int
  .i64 1))), none⟩, ⟨(some 37), (.faddr 1 (.tmp 1)), none⟩, ⟨(some 38), (.load none (.tmp 37)), none⟩, ⟨(some 39), (.bin .quo (.tmp 36) (.tmp 38)), none⟩, ⟨(some 40), (.bin .add
  (.tmp 39) (.const (.int .i64 1))), none⟩, ⟨(some 7), (.mv (.tmp 40)), none⟩]) .skip)) (.seq (.region [⟨(some 41), (.mv (.tmp 3)), none⟩, ⟨(some 42), (.mv (.tmp 7)), none⟩,
  ⟨(some 43), (.mv (.tmp 5)), none⟩, ⟨(some 44), (.faddr 1 (.tmp 1)), none⟩, ⟨(some 45), (.load none (.tmp 44)), none⟩, ⟨(some 46), (.bin .quo (.tmp 43) (.tmp 45)), none⟩, ⟨(some
  47), (.build [(.int .i64 0), (.int .i64 0)] [(0, (1, (.tmp 42))), (1, (1, (.tmp 46)))]), none⟩, ⟨(some 48), (.bslice [(.int .i64 0), (.int .i64 0)] 1 2 [(0, (2, (.tmp 47)))]),
  none⟩, ⟨(some 49), (.app 2 16 (.tmp 41) (.tmp 48)), none⟩, ⟨(some 3), (.mv (.tmp 49)), none⟩]) (.region [⟨(some 50), (.mv (.tmp 5)), none⟩, ⟨(some 51), (.faddr 5 (.tmp 1)),
  none⟩, ⟨(some 52), (.load none (.tmp 51)), none⟩, ⟨(some 53), (.mv (.tmp 6)), none⟩, ⟨(some 54), (.iaddrS 2 (.tmp 52) (.tmp 53)), none⟩, ⟨(some 55), (.faddr 0 (.tmp 54)), none⟩,
  ⟨(some 56), (.load none (.tmp 55)), none⟩, ⟨(some 57), (.bin .add (.tmp 50) (.tmp 56)), none⟩, ⟨(some 5), (.mv (.tmp 57)), none⟩])))))) (.region [⟨(some 23), (.mv (.tmp 6)),
  none⟩, ⟨(some 24), (.bin .add (.tmp 23) (.const (.int .i64 1))), none⟩, ⟨(some 6), (.mv (.tmp 24)), none⟩])))))) (.seq (.region [⟨(some 58), (.mv (.tmp 3)), none⟩, ⟨(some 2),
  (.mv (.tmp 58)), none⟩]) .ret)))))⟩
def af45 : AFn := ⟨9, [(.tmp 4)], (.seq (.region [⟨(some 4), (.mv (.const (.bool false))), none⟩]) (.seq (.region [⟨(some 5), (.mv (.tmp 0)), none⟩, ⟨(some 6), (.mv (.tmp 1)), none⟩, ⟨(some 7),
  (.call (.func 57) [(.tmp 5), (.tmp 6)]), none⟩, ⟨(some 8), (.bin .geq (.tmp 7) (.const (.int .i64 0))), none⟩, ⟨(some 4), (.mv (.tmp 8)), none⟩]) .ret))⟩
def af46 : AFn := ⟨12, [(.tmp 3)], (.seq (.region [⟨(some 3), (.mv (.const (.bool false))), none⟩]) (.seq (.region [⟨(some 4), (.mv (.tmp 0)), none⟩, ⟨(some 5), (.bin .lss (.tmp 4) (.const (.int
  .i64 0))), none⟩, ⟨(some 6), (.mv (.tmp 5)), none⟩, ⟨(some 7), (.mv (.tmp 0)), (some (6, false))⟩, ⟨(some 8), (.faddr 2 (.tmp 1)), (some (6, false))⟩, ⟨(some 9), (.load none
  (.tmp 8)), (some (6, false))⟩, ⟨(some 10), (.bin .gtr (.tmp 7) (.tmp 9)), (some (6, false))⟩, ⟨(some 11), (.pick (.tmp 6) (.const (.bool true)) (.tmp 10)), none⟩, ⟨(some 3),
  (.mv (.tmp 11)), none⟩]) .ret))⟩
def af47 : AFn := ⟨11, [(.tmp 6)], (.seq (.region [⟨(some 3), (.box (.tmp 0)), none⟩, ⟨(some 4), (.box (.tmp 1)), none⟩, ⟨(some 6), (.mv (.const (.bool false))), none⟩]) (.seq (.region [⟨(some 7),
  (.mv (.tmp 2)), none⟩, ⟨(some 8), (.mkfn 59 [] [(.tmp 3), (.tmp 4)]), none⟩, ⟨(some 9), (.call (.func 58) [(.tmp 7), (.tmp 8)]), none⟩, ⟨(some 10), (.un .not (.tmp 9)), none⟩,
  ⟨(some 6), (.mv (.tmp 10)), none⟩]) .ret))⟩
def af48 : AFn := ⟨22, [(.tmp 6)], (.seq (.region [⟨(some 3), (.box (.tmp 0)), none⟩, ⟨(some 6), (.mv (.const (.bool false))), none⟩]) (.seq (.region [⟨(some 7), (.mv (.tmp 1)), none⟩, ⟨(some 8),
  (.mv (.tmp 2)), none⟩, ⟨(some 9), (.faddr 0 (.tmp 3)), none⟩, ⟨(some 10), (.load none (.tmp 9)), none⟩, ⟨(some 11), (.faddr 1 (.tmp 3)), none⟩, ⟨(some 12), (.load none (.tmp
  11)), none⟩, ⟨(some 13), (.bslice [(.int .i64 0), (.int .i64 0)] 2 1 [(0, (1, (.tmp 10))), (1, (1, (.tmp 12)))]), none⟩, ⟨(some 14), (.call (.func 47) [(.tmp 7), (.tmp 8), (.tmp
  13)]), none⟩, ⟨(some 15), (.mv (.tmp 14)), none⟩, ⟨(some 16), (.faddr 0 (.tmp 3)), (some (15, true))⟩, ⟨(some 17), (.load none (.tmp 16)), (some (15, true))⟩, ⟨(some 18),
  (.faddr 1 (.tmp 3)), (some (15, true))⟩, ⟨(some 19), (.load none (.tmp 18)), (some (15, true))⟩, ⟨(some 20), (.bin .leq (.tmp 17) (.tmp 19)), (some (15, true))⟩, ⟨(some 21),
  (.pick (.tmp 15) (.tmp 20) (.const (.bool false))), none⟩, ⟨(some 6), (.mv (.tmp 21)), none⟩]) .ret))⟩
def af49 : AFn := ⟨9, [(.tmp 4)], (.seq (.region [⟨(some 4), (.mv (.const (.bool false))), none⟩]) (.seq (.region [⟨(some 5), (.mv (.tmp 0)), none⟩, ⟨(some 6), (.mv (.tmp 1)), none⟩, ⟨(some 7),
  (.call (.func 60) [(.tmp 5), (.tmp 6)]), none⟩, ⟨(some 8), (.bin .geq (.tmp 7) (.const (.int .i64 0))), none⟩, ⟨(some 4), (.mv (.tmp 8)), none⟩]) .ret))⟩
def af50 : AFn := ⟨6, [(.tmp 2)], (.seq (.region [⟨(some 1), (.box (.tmp 0)), none⟩, ⟨(some 2), (.mv (.const (.bool false))), none⟩]) (.seq (.region [⟨(some 3), (.load (some 2) (.tmp 1)), none⟩,
  ⟨(some 4), (.call (.func 48) [(.tmp 3), (.const (.int .i64 0)), (.const (.int .i64 100000))]), none⟩, ⟨(some 5), (.un .not (.tmp 4)), none⟩, ⟨(some 2), (.mv (.tmp 5)), none⟩])
  .ret))⟩
def af51 : AFn := ⟨24, [(.tmp 6)], (.seq (.region [⟨(some 3), (.box (.tmp 0)), none⟩, ⟨(some 6), (.mv (.const (.bool false))), none⟩]) (.seq (.region [⟨(some 7), (.faddr 0 (.tmp 3)), none⟩, ⟨(some
  8), (.load none (.tmp 7)), none⟩, ⟨(some 9), (.mv (.tmp 1)), none⟩, ⟨(some 10), (.bin .geq (.tmp 8) (.tmp 9)), none⟩, ⟨(some 11), (.mv (.tmp 10)), none⟩, ⟨(some 12), (.faddr 0
  (.tmp 3)), (some (11, true))⟩, ⟨(some 13), (.load none (.tmp 12)), (some (11, true))⟩, ⟨(some 14), (.faddr 1 (.tmp 3)), (some (11, true))⟩, ⟨(some 15), (.load none (.tmp 14)),
  (some (11, true))⟩, ⟨(some 16), (.bin .leq (.tmp 13) (.tmp 15)), (some (11, true))⟩, ⟨(some 17), (.pick (.tmp 11) (.tmp 16) (.const (.bool false))), none⟩, ⟨(some 18), (.mv
  (.tmp 17)), none⟩, ⟨(some 19), (.faddr 1 (.tmp 3)), (some (18, true))⟩, ⟨(some 20), (.load none (.tmp 19)), (some (18, true))⟩, ⟨(some 21), (.mv (.tmp 2)), (some (18, true))⟩,
  ⟨(some 22), (.bin .leq (.tmp 20) (.tmp 21)), (some (18, true))⟩, ⟨(some 23), (.pick (.tmp 18) (.tmp 22) (.const (.bool false))), none⟩, ⟨(some 6), (.mv (.tmp 23)), none⟩])
  .ret))⟩
def af52 : AFn := ⟨12, [(.tmp 3)], (.seq (.region [⟨(some 3), (.mv (.const (.bool false))), none⟩]) (.seq (.region [⟨(some 4), (.mv (.tmp 0)), none⟩, ⟨(some 5), (.bin .lss (.tmp 4) (.const (.int
  .i64 0))), none⟩, ⟨(some 6), (.mv (.tmp 5)), none⟩, ⟨(some 7), (.mv (.tmp 0)), (some (6, false))⟩, ⟨(some 8), (.faddr 2 (.tmp 1)), (some (6, false))⟩, ⟨(some 9), (.load none
  (.tmp 8)), (some (6, false))⟩, ⟨(some 10), (.bin .gtr (.tmp 7) (.tmp 9)), (some (6, false))⟩, ⟨(some 11), (.pick (.tmp 6) (.const (.bool true)) (.tmp 10)), none⟩, ⟨(some 3),
  (.mv (.tmp 11)), none⟩]) .ret))⟩
def af53 : AFn := ⟨27, [(.tmp 2), (.tmp 3), (.tmp 4)], (.seq (.region [⟨(some 1), (.box (.tmp 0)), none⟩, ⟨(some 2), (.mv (.const (.ptr none))), none⟩, ⟨(some 3), (.mv (.const (.slc none 0 0 true
  0))), none⟩, ⟨(some 4), (.mv (.const (.int .i64 0))), none⟩]) (.seq (.seq (.region [⟨(some 9), (.load (some 7) (.tmp 1)), none⟩, ⟨(some 10), (.call (.func 20) [(.tmp 9)]), none⟩,
   ⟨(some 5), (.mv (.tmp 10)), none⟩]) (.seq (.region [⟨(some 11), (.mv (.tmp 5)), none⟩, ⟨(some 12), (.bin .neq (.tmp 11) (.const (.int .i64 0))), none⟩]) (.cond (.tmp 12) (.seq
  (.region [⟨(some 13), (.mv (.tmp 5)), none⟩, ⟨(some 2), (.mv (.const (.ptr none))), none⟩, ⟨(some 3), (.mv (.const (.slc none 0 0 true 0))), none⟩, ⟨(some 4), (.mv (.tmp 13)),
  none⟩]) .ret) .skip))) (.seq (.region [⟨(some 14), (.load (some 7) (.tmp 1)), none⟩, ⟨(some 15), (.call (.func 43) [(.tmp 14)]), none⟩, ⟨(some 6), (.mv (.tmp 15)), none⟩]) (.seq
  (.region [⟨(some 16), (.mv (.tmp 6)), none⟩, ⟨(some 17), (.call (.func 61) [(.tmp 16)]), none⟩]) (.seq (.region [⟨(some 19), (.mv (.tmp 6)), none⟩, ⟨(some 20), (.call (.func 62)
  [(.tmp 19)]), none⟩, ⟨(some 18), (.mv (.tmp 20)), none⟩, ⟨(some 21), (.ext (.tmp 18) 0), none⟩, ⟨(some 22), (.ext (.tmp 18) 1), none⟩, ⟨(some 7), (.mv (.tmp 21)), none⟩, ⟨(some
  8), (.mv (.tmp 22)), none⟩]) (.seq (.seq (.region [⟨(some 23), (.mv (.tmp 8)), none⟩, ⟨(some 24), (.un .not (.tmp 23)), none⟩]) (.cond (.tmp 24) (.seq (.region [⟨(some 2), (.mv
  (.const (.ptr none))), none⟩, ⟨(some 3), (.mv (.const (.slc none 0 0 true 0))), none⟩, ⟨(some 4), (.mv (.const (.int .i64 13))), none⟩]) .ret) .skip)) (.seq (.region [⟨(some 25),
   (.mv (.tmp 6)), none⟩, ⟨(some 26), (.mv (.tmp 7)), none⟩, ⟨(some 2), (.mv (.tmp 25)), none⟩, ⟨(some 3), (.mv (.tmp 26)), none⟩, ⟨(some 4), (.mv (.const (.int .i64 0))), none⟩])
  .ret)))))))⟩
def af54 : AFn := ⟨121, [(.tmp 2)], (.seq (.region [⟨(some 1), (.box (.tmp 0)), none⟩, ⟨(some 2), (.mv (.const (.slc none 0 0 true 0))), none⟩]) (.seq (.region [⟨(some 9), (.load (some 7) (.tmp 1)),
   none⟩, ⟨(some 10), (.call (.func 44) [(.tmp 9)]), none⟩, ⟨(some 3), (.mv (.tmp 10)), none⟩]) (.seq (.region [⟨(some 11), (.faddr 5 (.tmp 1)), none⟩, ⟨(some 12), (.load none
  (.tmp 11)), none⟩, ⟨(some 13), (.len (.tmp 12)), none⟩, ⟨(some 4), (.mv (.tmp 13)), none⟩]) (.seq (.region [⟨(some 14), (.mv (.tmp 4)), none⟩, ⟨(some 15), (.bin .add (.tmp 14)
  (.const (.int .i64 1))), none⟩, ⟨(some 16), (.mkslc [(.slc none 0 0 true 0)] 24 (.tmp 15) (.tmp 15)), none⟩, ⟨(some 5), (.mv (.tmp 16)), none⟩]) (.seq (.seq (.region [⟨(some 17),
   (.mv (.tmp 4)), none⟩, ⟨(some 6), (.mv (.tmp 17)), none⟩]) (.block 0 (.loop (.seq (.seq (.region [⟨(some 18), (.mv (.tmp 6)), none⟩, ⟨(some 19), (.bin .geq (.tmp 18) (.const
  (.int .i64 0))), none⟩]) (.cond (.tmp 19) .skip (.exit 0))) (.seq (.block 1 (.seq (.region [⟨(some 22), (.mv (.tmp 5)), none⟩, ⟨(some 23), (.mv (.tmp 6)), none⟩, ⟨(some 24),
  (.mv (.tmp 4)), none⟩, ⟨(some 25), (.faddr 2 (.tmp 1)), none⟩, ⟨(some 26), (.load none (.tmp 25)), none⟩, ⟨(some 27), (.bin .mul (.tmp 24) (.tmp 26)), none⟩, ⟨(some 28), (.bin
  .add (.tmp 27) (.const (.int .i64 1))), none⟩, ⟨(some 29), (.mkslc [(.int .i64 0)] 8 (.tmp 28) (.tmp 28)), none⟩, ⟨(some 30), (.iaddrS 1 (.tmp 22) (.tmp 23)), none⟩, ⟨none,
  (.store 1 (.tmp 30) (.tmp 29)), none⟩]) (.seq (.region [⟨(some 7), (.mv (.const (.int .i64 0))), none⟩]) (.block 2 (.loop (.seq (.seq (.region [⟨(some 31), (.mv (.tmp 7)), none⟩,
   ⟨(some 32), (.mv (.tmp 5)), none⟩, ⟨(some 33), (.mv (.tmp 6)), none⟩, ⟨(some 34), (.iaddrS 1 (.tmp 32) (.tmp 33)), none⟩, ⟨(some 35), (.load none (.tmp 34)), none⟩, ⟨(some 36),
  (.len (.tmp 35)), none⟩, ⟨(some 37), (.bin .lss (.tmp 31) (.tmp 36)), none⟩, ⟨(some 38), (.mv (.tmp 37)), none⟩, ⟨(some 39), (.mv (.tmp 6)), (some (38, true))⟩, ⟨(some 40), (.mv
  (.tmp 4)), (some (38, true))⟩, ⟨(some 41), (.bin .lss (.tmp 39) (.tmp 40)), (some (38, true))⟩, ⟨(some 42), (.pick (.tmp 38) (.tmp 41) (.const (.bool false))), none⟩]) (.cond
  (.tmp 42) .skip (.exit 2))) (.seq (.block 3 (.seq (.region [⟨(some 45), (.mv (.tmp 5)), none⟩, ⟨(some 46), (.mv (.tmp 6)), none⟩, ⟨(some 47), (.iaddrS 1 (.tmp 45) (.tmp 46)),
  none⟩, ⟨(some 48), (.load none (.tmp 47)), none⟩, ⟨(some 49), (.mv (.tmp 7)), none⟩, ⟨(some 50), (.iaddrS 1 (.tmp 48) (.tmp 49)), none⟩, ⟨none, (.store 1 (.tmp 50) (.const (.int
  .i64 1125899906842624))), none⟩]) (.seq (.region [⟨(some 8), (.mv (.const (.int .i64 0))), none⟩]) (.block 4 (.loop (.seq (.seq (.region [⟨(some 51), (.mv (.tmp 8)), none⟩,
  ⟨(some 52), (.faddr 2 (.tmp 1)), none⟩, ⟨(some 53), (.load none (.tmp 52)), none⟩, ⟨(some 54), (.bin .leq (.tmp 51) (.tmp 53)), none⟩, ⟨(some 55), (.mv (.tmp 54)), none⟩, ⟨(some
  56), (.mv (.tmp 7)), (some (55, true))⟩, ⟨(some 57), (.mv (.tmp 8)), (some (55, true))⟩, ⟨(some 58), (.bin .add (.tmp 56) (.tmp 57)), (some (55, true))⟩, ⟨(some 59), (.mv (.tmp
  5)), (some (55, true))⟩, ⟨(some 60), (.mv (.tmp 6)), (some (55, true))⟩, ⟨(some 61), (.iaddrS 1 (.tmp 59) (.tmp 60)), (some (55, true))⟩, ⟨(some 62), (.load none (.tmp 61)),
  (some (55, true))⟩, ⟨(some 63), (.len (.tmp 62)), (some (55, true))⟩, ⟨(some 64), (.bin .lss (.tmp 58) (.tmp 63)), (some (55, true))⟩, ⟨(some 65), (.pick (.tmp 55) (.tmp 64)
  (.const (.bool false))), none⟩]) (.cond (.tmp 65) .skip (.exit 4))) (.seq (.block 5 (.seq (.region [⟨(some 68), (.mv (.tmp 7)), none⟩, ⟨(some 69), (.mv (.tmp 8)), none⟩, ⟨(some
  70), (.bin .add (.tmp 68) (.tmp 69)), none⟩, ⟨(some 71), (.mv (.tmp 3)), none⟩, ⟨(some 72), (.mv (.tmp 6)), none⟩, ⟨(some 73), (.iaddrS 2 (.tmp 71) (.tmp 72)), none⟩, ⟨(some 74),
   (.faddr 0 (.tmp 73)), none⟩, ⟨(some 75), (.load none (.tmp 74)), none⟩, ⟨(some 76), (.bin .geq (.tmp 70) (.tmp 75)), none⟩, ⟨(some 77), (.mv (.tmp 76)), none⟩, ⟨(some 78), (.mv
  (.tmp 7)), (some (77, true))⟩, ⟨(some 79), (.mv (.tmp 8)), (some (77, true))⟩, ⟨(some 80), (.bin .add (.tmp 78) (.tmp 79)), (some (77, true))⟩, ⟨(some 81), (.mv (.tmp 3)), (some
  (77, true))⟩, ⟨(some 82), (.mv (.tmp 6)), (some (77, true))⟩, ⟨(some 83), (.iaddrS 2 (.tmp 81) (.tmp 82)), (some (77, true))⟩, ⟨(some 84), (.faddr 1 (.tmp 83)), (some (77,
  true))⟩, ⟨(some 85), (.load none (.tmp 84)), (some (77, true))⟩, ⟨(some 86), (.bin .leq (.tmp 80) (.tmp 85)), (some (77, true))⟩, ⟨(some 87), (.pick (.tmp 77) (.tmp 86) (.const
  (.bool false))), none⟩]) (.cond (.tmp 87) (.draw [⟨(some 88), (.mv (.tmp 5)), none⟩, ⟨(some 89), (.mv (.tmp 6)), none⟩, ⟨(some 90), (.iaddrS 1 (.tmp 88) (.tmp 89)), none⟩,
  ⟨(some 91), (.load none (.tmp 90)), none⟩, ⟨(some 92), (.mv (.tmp 7)), none⟩, ⟨(some 93), (.mv (.tmp 5)), none⟩, ⟨(some 94), (.mv (.tmp 6)), none⟩, ⟨(some 95), (.iaddrS 1 (.tmp
  93) (.tmp 94)), none⟩, ⟨(some 96), (.load none (.tmp 95)), none⟩, ⟨(some 97), (.mv (.tmp 7)), none⟩, ⟨(some 98), (.iaddrS 1 (.tmp 96) (.tmp 97)), none⟩, ⟨(some 99), (.load none
  (.tmp 98)), none⟩, ⟨(some 100), (.mv (.tmp 8)), none⟩, ⟨(some 101), (.faddr 6 (.tmp 1)), none⟩, ⟨(some 102), (.load none (.tmp 101)), none⟩, ⟨(some 103), (.mv (.tmp 6)), none⟩,
  ⟨(some 104), (.iaddrS 1 (.tmp 102) (.tmp 103)), none⟩, ⟨(some 105), (.load none (.tmp 104)), none⟩, ⟨(some 106), (.bin .mul (.tmp 100) (.tmp 105)), none⟩, ⟨(some 107), (.mv
  (.tmp 5)), none⟩, ⟨(some 108), (.mv (.tmp 6)), none⟩, ⟨(some 109), (.bin .add (.tmp 108) (.const (.int .i64 1))), none⟩, ⟨(some 110), (.iaddrS 1 (.tmp 107) (.tmp 109)), none⟩,
  ⟨(some 111), (.load none (.tmp 110)), none⟩, ⟨(some 112), (.mv (.tmp 7)), none⟩, ⟨(some 113), (.mv (.tmp 8)), none⟩, ⟨(some 114), (.bin .add (.tmp 112) (.tmp 113)), none⟩,
  ⟨(some 115), (.iaddrS 1 (.tmp 111) (.tmp 114)), none⟩, ⟨(some 116), (.load none (.tmp 115)), none⟩, ⟨(some 117), (.bin .add (.tmp 106) (.tmp 116)), none⟩, ⟨(some 118), (.mnx
  false [(.tmp 99), (.tmp 117)]), none⟩, ⟨(some 119), (.iaddrS 1 (.tmp 91) (.tmp 92)), none⟩, ⟨none, (.store 1 (.tmp 119) (.tmp 118)), none⟩] []) .skip))) (.region [⟨(some 66),
  (.mv (.tmp 8)), none⟩, ⟨(some 67), (.bin .add (.tmp 66) (.const (.int .i64 1))), none⟩, ⟨(some 8), (.mv (.tmp 67)), none⟩])))))))) (.region [⟨(some 43), (.mv (.tmp 7)), none⟩,
  ⟨(some 44), (.bin .add (.tmp 43) (.const (.int .i64 1))), none⟩, ⟨(some 7), (.mv (.tmp 44)), none⟩])))))))) (.region [⟨(some 20), (.mv (.tmp 6)), none⟩, ⟨(some 21), (.bin .sub
  (.tmp 20) (.const (.int .i64 1))), none⟩, ⟨(some 6), (.mv (.tmp 21)), none⟩])))))) (.seq (.region [⟨(some 120), (.mv (.tmp 5)), none⟩, ⟨(some 2), (.mv (.tmp 120)), none⟩])
  .ret))))))⟩
def af55 : AFn := ⟨4, [(.tmp 2)], (.seq (.region [⟨(some 1), (.box (.tmp 0)), none⟩, ⟨(some 2), (.mv (.const .nilfn)), none⟩]) (.seq (.region [⟨(some 3), (.mkfn 63 [] [(.tmp 1)]), none⟩, ⟨(some 2),
  (.mv (.tmp 3)), none⟩]) .ret))⟩
def af56 : AFn := ⟨125, [(.tmp 4)], (.seq (.region [⟨(some 4), (.mv (.const (.slc none 0 0 true 0))), none⟩]) (.seq (.region [⟨(some 15), (.mv (.tmp 1)), none⟩, ⟨(some 16), (.len (.tmp 15)), none⟩,
  ⟨(some 5), (.mv (.tmp 16)), none⟩]) (.seq (.region [⟨(some 17), (.mv (.tmp 5)), none⟩, ⟨(some 18), (.mkslc [(.int .i64 0)] 8 (.tmp 17) (.tmp 17)), none⟩, ⟨(some 6), (.mv (.tmp
  18)), none⟩]) (.seq (.region [⟨(some 19), (.mv (.tmp 0)), none⟩, ⟨(some 20), (.nilchk (.tmp 19)), none⟩, ⟨(some 21), (.faddr 0 (.tmp 20)), none⟩, ⟨(some 22), (.faddr 6 (.tmp
  21)), none⟩, ⟨(some 23), (.load none (.tmp 22)), none⟩, ⟨(some 24), (.call (.func 64) [(.tmp 23)]), none⟩, ⟨(some 7), (.mv (.tmp 24)), none⟩]) (.seq (.seq (.region [⟨(some 25),
  (.mv (.tmp 6)), none⟩, ⟨(some 26), (.len (.tmp 25)), none⟩, ⟨(some 27), (.mv (.const (.int .i64 0))), none⟩]) (.block 0 (.loop (.seq (.region [⟨(some 28), (.bin .lss (.tmp 27)
  (.tmp 26)), none⟩]) (.seq (.cond (.tmp 28) .skip (.exit 0)) (.seq (.block 1 (.seq (.region [⟨(some 29), (.mv (.tmp 27)), none⟩, ⟨(some 8), (.mv (.tmp 29)), none⟩]) (.region
  [⟨(some 30), (.mv (.tmp 6)), none⟩, ⟨(some 31), (.mv (.tmp 8)), none⟩, ⟨(some 32), (.mv (.tmp 7)), none⟩, ⟨(some 33), (.iaddrS 1 (.tmp 30) (.tmp 31)), none⟩, ⟨none, (.store 1
  (.tmp 33) (.tmp 32)), none⟩]))) (.region [⟨(some 34), (.bin .add (.tmp 27) (.const (.int .i64 1))), none⟩, ⟨(some 27), (.mv (.tmp 34)), none⟩]))))))) (.seq (.region [⟨(some 35),
  (.mv (.tmp 0)), none⟩, ⟨(some 36), (.mkfn 65 [(.tmp 35)] []), none⟩, ⟨(some 9), (.mv (.tmp 36)), none⟩]) (.block 2 (.loop (.block 3 (.seq (.region [⟨(some 37), (.mv (.tmp 6)),
  none⟩, ⟨(some 38), (.call (.func 66) [(.tmp 37)]), none⟩, ⟨(some 10), (.mv (.tmp 38)), none⟩]) (.seq (.region [⟨(some 11), (.mv (.const (.int .i64 0))), none⟩]) (.seq (.seq
  (.region [⟨(some 39), (.mv (.tmp 1)), none⟩, ⟨(some 40), (.len (.tmp 39)), none⟩, ⟨(some 41), (.mv (.const (.int .i64 0))), none⟩]) (.block 4 (.loop (.seq (.region [⟨(some 42),
  (.bin .lss (.tmp 41) (.tmp 40)), none⟩]) (.seq (.cond (.tmp 42) .skip (.exit 4)) (.seq (.block 5 (.seq (.region [⟨(some 43), (.mv (.tmp 41)), none⟩, ⟨(some 44), (.iaddrS 1 (.tmp
  39) (.tmp 41)), none⟩, ⟨(some 45), (.load none (.tmp 44)), none⟩, ⟨(some 12), (.mv (.tmp 43)), none⟩, ⟨(some 13), (.mv (.tmp 45)), none⟩]) (.seq (.region [⟨(some 46), (.mv (.tmp
  11)), none⟩, ⟨(some 47), (.mv (.tmp 13)), none⟩, ⟨(some 48), (.bin .add (.tmp 46) (.tmp 47)), none⟩, ⟨(some 11), (.mv (.tmp 48)), none⟩]) (.seq (.region [⟨(some 14), (.mv
  (.const (.int .i64 0))), none⟩]) (.seq (.seq (.region [⟨(some 49), (.mv (.tmp 12)), none⟩, ⟨(some 50), (.bin .add (.tmp 49) (.const (.int .i64 1))), none⟩, ⟨(some 51), (.mv
  (.tmp 5)), none⟩, ⟨(some 52), (.bin .lss (.tmp 50) (.tmp 51)), none⟩]) (.cond (.tmp 52) (.region [⟨(some 53), (.mv (.tmp 6)), none⟩, ⟨(some 54), (.mv (.tmp 12)), none⟩, ⟨(some
  55), (.bin .add (.tmp 54) (.const (.int .i64 1))), none⟩, ⟨(some 56), (.iaddrS 1 (.tmp 53) (.tmp 55)), none⟩, ⟨(some 57), (.load none (.tmp 56)), none⟩, ⟨(some 14), (.mv (.tmp
  57)), none⟩]) .skip)) (.seq (.seq (.region [⟨(some 58), (.mv (.tmp 13)), none⟩, ⟨(some 59), (.mv (.tmp 0)), none⟩, ⟨(some 60), (.nilchk (.tmp 59)), none⟩, ⟨(some 61), (.faddr 0
  (.tmp 60)), none⟩, ⟨(some 62), (.faddr 2 (.tmp 61)), none⟩, ⟨(some 63), (.load none (.tmp 62)), none⟩, ⟨(some 64), (.bin .lss (.tmp 58) (.tmp 63)), none⟩]) (.cond (.tmp 64)
  (.draw [⟨(some 65), (.mv (.tmp 6)), none⟩, ⟨(some 66), (.mv (.tmp 12)), none⟩, ⟨(some 67), (.mv (.tmp 6)), none⟩, ⟨(some 68), (.mv (.tmp 12)), none⟩, ⟨(some 69), (.iaddrS 1
  (.tmp 67) (.tmp 68)), none⟩, ⟨(some 70), (.load none (.tmp 69)), none⟩, ⟨(some 71), (.mv (.tmp 0)), none⟩, ⟨(some 72), (.nilchk (.tmp 71)), none⟩, ⟨(some 73), (.faddr 0 (.tmp
  72)), none⟩, ⟨(some 74), (.faddr 6 (.tmp 73)), none⟩, ⟨(some 75), (.load none (.tmp 74)), none⟩, ⟨(some 76), (.mv (.tmp 12)), none⟩, ⟨(some 77), (.iaddrS 1 (.tmp 75) (.tmp 76)),
  none⟩, ⟨(some 78), (.load none (.tmp 77)), none⟩, ⟨(some 79), (.mnx false [(.tmp 70), (.tmp 78)]), none⟩, ⟨(some 80), (.iaddrS 1 (.tmp 65) (.tmp 66)), none⟩, ⟨none, (.store 1
  (.tmp 80) (.tmp 79)), none⟩] []) .skip)) (.seq (.seq (.region [⟨(some 81), (.mv (.tmp 11)), none⟩, ⟨(some 82), (.mv (.tmp 0)), none⟩, ⟨(some 83), (.nilchk (.tmp 82)), none⟩,
  ⟨(some 84), (.faddr 7 (.tmp 83)), none⟩, ⟨(some 85), (.load none (.tmp 84)), none⟩, ⟨(some 86), (.mv (.tmp 12)), none⟩, ⟨(some 87), (.iaddrS 2 (.tmp 85) (.tmp 86)), none⟩,
  ⟨(some 88), (.faddr 0 (.tmp 87)), none⟩, ⟨(some 89), (.load none (.tmp 88)), none⟩, ⟨(some 90), (.bin .gtr (.tmp 81) (.tmp 89)), none⟩]) (.cond (.tmp 90) (.region [⟨(some 91),
  (.mv (.tmp 6)), none⟩, ⟨(some 92), (.mv (.tmp 12)), none⟩, ⟨(some 93), (.mv (.tmp 6)), none⟩, ⟨(some 94), (.mv (.tmp 12)), none⟩, ⟨(some 95), (.iaddrS 1 (.tmp 93) (.tmp 94)),
  none⟩, ⟨(some 96), (.load none (.tmp 95)), none⟩, ⟨(some 97), (.mv (.tmp 14)), none⟩, ⟨(some 98), (.mnx false [(.tmp 96), (.tmp 97)]), none⟩, ⟨(some 99), (.iaddrS 1 (.tmp 91)
  (.tmp 92)), none⟩, ⟨none, (.store 1 (.tmp 99) (.tmp 98)), none⟩]) .skip)) (.seq (.region [⟨(some 100), (.mv (.tmp 9)), none⟩, ⟨(some 101), (.mv (.tmp 12)), none⟩, ⟨(some 102),
  (.mv (.tmp 11)), none⟩, ⟨(some 103), (.call (.tmp 100) [(.tmp 101), (.tmp 102)]), none⟩, ⟨(some 104), (.mv (.tmp 103)), none⟩, ⟨(some 105), (.mv (.tmp 12)), (some (104, true))⟩,
  ⟨(some 106), (.bin .add (.tmp 105) (.const (.int .i64 1))), (some (104, true))⟩, ⟨(some 107), (.mv (.tmp 5)), (some (104, true))⟩, ⟨(some 108), (.bin .lss (.tmp 106) (.tmp 107)),
   (some (104, true))⟩, ⟨(some 109), (.pick (.tmp 104) (.tmp 108) (.const (.bool false))), none⟩]) (.cond (.tmp 109) (.region [⟨(some 110), (.mv (.tmp 6)), none⟩, ⟨(some 111),
  (.mv (.tmp 12)), none⟩, ⟨(some 112), (.bin .add (.tmp 111) (.const (.int .i64 1))), none⟩, ⟨(some 113), (.mv (.tmp 14)), none⟩, ⟨(some 114), (.mv (.tmp 6)), none⟩, ⟨(some 115),
  (.mv (.tmp 12)), none⟩, ⟨(some 116), (.iaddrS 1 (.tmp 114) (.tmp 115)), none⟩, ⟨(some 117), (.load none (.tmp 116)), none⟩, ⟨(some 118), (.mnx false [(.tmp 113), (.tmp 117)]),
  none⟩, ⟨(some 119), (.iaddrS 1 (.tmp 110) (.tmp 112)), none⟩, ⟨none, (.store 1 (.tmp 119) (.tmp 118)), none⟩]) .skip))))))))) (.region [⟨(some 120), (.bin .add (.tmp 41) (.const
  (.int .i64 1))), none⟩, ⟨(some 41), (.mv (.tmp 120)), none⟩]))))))) (.seq (.region [⟨(some 121), (.mv (.tmp 6)), none⟩, ⟨(some 122), (.mv (.tmp 10)), none⟩, ⟨(some 123), (.call
  (.func 67) [(.tmp 121), (.tmp 122)]), none⟩]) (.cond (.tmp 123) (.seq (.region [⟨(some 124), (.mv (.tmp 6)), none⟩, ⟨(some 4), (.mv (.tmp 124)), none⟩]) .ret)
  .skip))))))))))))))⟩
def af57 : AFn := ⟨19, [(.tmp 4)], (.seq (.region [⟨(some 4), (.mv (.const (.int .i64 0))), none⟩]) (.seq (.seq (.region [⟨(some 6), (.mv (.tmp 0)), none⟩, ⟨(some 7), (.len (.tmp 6)), none⟩, ⟨(some
  8), (.mv (.const (.int .i64 0))), none⟩]) (.block 0 (.loop (.seq (.region [⟨(some 9), (.bin .lss (.tmp 8) (.tmp 7)), none⟩]) (.seq (.cond (.tmp 9) .skip (.exit 0)) (.seq (.block
  1 (.seq (.region [⟨(some 10), (.mv (.tmp 8)), none⟩, ⟨(some 5), (.mv (.tmp 10)), none⟩]) (.seq (.region [⟨(some 11), (.mv (.tmp 1)), none⟩, ⟨(some 12), (.mv (.tmp 0)), none⟩,
  ⟨(some 13), (.mv (.tmp 5)), none⟩, ⟨(some 14), (.iaddrS 1 (.tmp 12) (.tmp 13)), none⟩, ⟨(some 15), (.load none (.tmp 14)), none⟩, ⟨(some 16), (.call (.tmp 11) [(.tmp 15)]),
  none⟩]) (.cond (.tmp 16) (.seq (.region [⟨(some 17), (.mv (.tmp 5)), none⟩, ⟨(some 4), (.mv (.tmp 17)), none⟩]) .ret) .skip)))) (.region [⟨(some 18), (.bin .add (.tmp 8) (.const
  (.int .i64 1))), none⟩, ⟨(some 8), (.mv (.tmp 18)), none⟩]))))))) (.seq (.region [⟨(some 4), (.mv (.const (.int .i64 (-1)))), none⟩]) .ret)))⟩
def af58 : AFn := ⟨9, [(.tmp 4)], (.seq (.region [⟨(some 4), (.mv (.const (.bool false))), none⟩]) (.seq (.region [⟨(some 5), (.mv (.tmp 0)), none⟩, ⟨(some 6), (.mv (.tmp 1)), none⟩, ⟨(some 7),
  (.call (.func 68) [(.tmp 5), (.tmp 6)]), none⟩, ⟨(some 8), (.bin .geq (.tmp 7) (.const (.int .i64 0))), none⟩, ⟨(some 4), (.mv (.tmp 8)), none⟩]) .ret))⟩
def af59 : AFn := ⟨13, [(.tmp 4)], (.seq (.region [⟨(some 4), (.mv (.const (.bool false))), none⟩]) (.seq (.region [⟨(some 5), (.mv (.tmp 0)), none⟩, ⟨(some 6), (.load none (.tmp 1)), none⟩, ⟨(some
  7), (.bin .lss (.tmp 5) (.tmp 6)), none⟩, ⟨(some 8), (.mv (.tmp 7)), none⟩, ⟨(some 9), (.mv (.tmp 0)), (some (8, false))⟩, ⟨(some 10), (.load none (.tmp 2)), (some (8, false))⟩,
  ⟨(some 11), (.bin .gtr (.tmp 9) (.tmp 10)), (some (8, false))⟩, ⟨(some 12), (.pick (.tmp 8) (.const (.bool true)) (.tmp 11)), none⟩, ⟨(some 4), (.mv (.tmp 12)), none⟩]) .ret))⟩
def af60 : AFn := ⟨19, [(.tmp 4)], (.seq (.region [⟨(some 4), (.mv (.const (.int .i64 0))), none⟩]) (.seq (.seq (.region [⟨(some 6), (.mv (.tmp 0)), none⟩, ⟨(some 7), (.len (.tmp 6)), none⟩, ⟨(some
  8), (.mv (.const (.int .i64 0))), none⟩]) (.block 0 (.loop (.seq (.region [⟨(some 9), (.bin .lss (.tmp 8) (.tmp 7)), none⟩]) (.seq (.cond (.tmp 9) .skip (.exit 0)) (.seq (.block
  1 (.seq (.region [⟨(some 10), (.mv (.tmp 8)), none⟩, ⟨(some 5), (.mv (.tmp 10)), none⟩]) (.seq (.region [⟨(some 11), (.mv (.tmp 1)), none⟩, ⟨(some 12), (.mv (.tmp 0)), none⟩,
  ⟨(some 13), (.mv (.tmp 5)), none⟩, ⟨(some 14), (.iaddrS 2 (.tmp 12) (.tmp 13)), none⟩, ⟨(some 15), (.load (some 2) (.tmp 14)), none⟩, ⟨(some 16), (.call (.tmp 11) [(.tmp 15)]),
  none⟩]) (.cond (.tmp 16) (.seq (.region [⟨(some 17), (.mv (.tmp 5)), none⟩, ⟨(some 4), (.mv (.tmp 17)), none⟩]) .ret) .skip)))) (.region [⟨(some 18), (.bin .add (.tmp 8) (.const
  (.int .i64 1))), none⟩, ⟨(some 8), (.mv (.tmp 18)), none⟩]))))))) (.seq (.region [⟨(some 4), (.mv (.const (.int .i64 (-1)))), none⟩]) .ret)))⟩
def af61 : AFn := ⟨118, [], (.seq (.region [⟨(some 1), (.box (.tmp 0)), none⟩]) (.seq (.region [⟨(some 10), (.load none (.tmp 1)), none⟩, ⟨(some 11), .mkmap, none⟩, ⟨(some 12), (.nilchk (.tmp 10)),
  none⟩, ⟨(some 13), (.faddr 4229 (.tmp 12)), none⟩, ⟨none, (.store 1 (.tmp 13) (.tmp 11)), none⟩]) (.seq (.draw [⟨(some 14), (.load none (.tmp 1)), none⟩, ⟨(some 15), (.load none
  (.tmp 1)), none⟩, ⟨(some 16), (.nilchk (.tmp 15)), none⟩, ⟨(some 17), (.faddr 0 (.tmp 16)), none⟩, ⟨(some 18), (.faddr 5 (.tmp 17)), none⟩, ⟨(some 19), (.load none (.tmp 18)),
  none⟩, ⟨(some 20), (.len (.tmp 19)), none⟩, ⟨(some 21), (.nilchk (.tmp 14)), none⟩, ⟨(some 22), (.faddr 8 (.tmp 21)), none⟩, ⟨(some 23), (.iaddrA 21 201 (.tmp 22) (.tmp 20)),
  none⟩, ⟨(some 24), (.slcA 201 1 (.tmp 23) none none none), none⟩, ⟨none, (.clrS [(.int .i64 0)] (.tmp 24)), none⟩] []) (.seq (.region [⟨(some 2), (.mv (.func 69)), none⟩]) (.seq
  (.region [⟨(some 25), (.load none (.tmp 1)), none⟩, ⟨(some 26), (.nilchk (.tmp 25)), none⟩, ⟨(some 27), (.faddr 0 (.tmp 26)), none⟩, ⟨(some 28), (.faddr 5 (.tmp 27)), none⟩,
  ⟨(some 29), (.load none (.tmp 28)), none⟩, ⟨(some 30), (.len (.tmp 29)), none⟩, ⟨(some 31), (.bin .sub (.tmp 30) (.const (.int .i64 1))), none⟩, ⟨(some 3), (.alloc [(.int .i64
  0)]), none⟩, ⟨none, (.store 1 (.tmp 3) (.tmp 31)), none⟩]) (.block 0 (.loop (.seq (.seq (.region [⟨(some 32), (.load none (.tmp 3)), none⟩, ⟨(some 33), (.bin .geq (.tmp 32)
  (.const (.int .i64 0))), none⟩]) (.cond (.tmp 33) .skip (.exit 0))) (.seq (.block 1 (.seq (.seq (.region [⟨(some 36), (.mv (.const (.int .i64 0))), none⟩]) (.block 2 (.loop
  (.seq (.region [⟨(some 37), (.bin .lss (.tmp 36) (.const (.int .i64 201))), none⟩]) (.seq (.cond (.tmp 37) .skip (.exit 2)) (.seq (.block 3 (.seq (.region [⟨(some 38), (.mv
  (.tmp 36)), none⟩, ⟨(some 4), (.mv (.tmp 38)), none⟩]) (.draw [⟨(some 39), (.load none (.tmp 1)), none⟩, ⟨(some 40), (.load none (.tmp 3)), none⟩, ⟨(some 41), (.mv (.tmp 4)),
  none⟩, ⟨(some 42), (.nilchk (.tmp 39)), none⟩, ⟨(some 43), (.faddr 8 (.tmp 42)), none⟩, ⟨(some 44), (.iaddrA 21 201 (.tmp 43) (.tmp 40)), none⟩, ⟨(some 45), (.iaddrA 201 1 (.tmp
  44) (.tmp 41)), none⟩, ⟨none, (.store 1 (.tmp 45) (.const (.int .i64 1125899906842624))), none⟩] []))) (.region [⟨(some 46), (.bin .add (.tmp 36) (.const (.int .i64 1))), none⟩,
  ⟨(some 36), (.mv (.tmp 46)), none⟩]))))))) (.seq (.region [⟨(some 5), (.alloc [(.int .i64 0)]), none⟩, ⟨none, (.store 1 (.tmp 5) (.const (.int .i64 0))), none⟩]) (.block 4
  (.loop (.seq (.seq (.draw [⟨(some 47), (.load none (.tmp 5)), none⟩, ⟨(some 48), (.load none (.tmp 3)), none⟩, ⟨(some 49), (.load none (.tmp 1)), none⟩, ⟨(some 50), (.nilchk
  (.tmp 49)), none⟩, ⟨(some 51), (.faddr 0 (.tmp 50)), none⟩, ⟨(some 52), (.faddr 2 (.tmp 51)), none⟩, ⟨(some 53), (.load none (.tmp 52)), none⟩, ⟨(some 54), (.bin .mul (.tmp 48)
  (.tmp 53)), none⟩, ⟨(some 55), (.bin .leq (.tmp 47) (.tmp 54)), none⟩] []) (.cond (.tmp 55) .skip (.exit 4))) (.seq (.block 5 (.seq (.region [⟨(some 58), (.load none (.tmp 3)),
  none⟩, ⟨(some 59), (.load none (.tmp 5)), none⟩, ⟨(some 60), (.build [(.int .i64 0), (.int .i64 0)] [(0, (1, (.tmp 58))), (1, (1, (.tmp 59)))]), none⟩, ⟨(some 6), (.alloc [(.int
  .i64 0), (.int .i64 0)]), none⟩, ⟨none, (.store 2 (.tmp 6) (.tmp 60)), none⟩]) (.seq (.region [⟨(some 61), (.build [(.int .i64 0), (.int .i64 0)] [(0, (1, (.const (.int .i64
  0)))), (1, (1, (.const (.int .i64 1125899906842624))))]), none⟩, ⟨(some 62), (.bslice [(.int .i64 0), (.int .i64 0)] 1 2 [(0, (2, (.tmp 61)))]), none⟩, ⟨(some 7), (.alloc [(.slc
  none 0 0 true 0)]), none⟩, ⟨none, (.store 1 (.tmp 7) (.tmp 62)), none⟩]) (.seq (.seq (.region [⟨(some 63), (.load none (.tmp 1)), none⟩, ⟨(some 64), (.load (some 2) (.tmp 6)),
  none⟩, ⟨(some 65), (.call (.func 70) [(.tmp 63), (.tmp 64)]), none⟩]) (.block 6 (.rangeF (.tmp 65) [66] (.region [⟨(some 8), (.mv (.tmp 66)), none⟩]) (.block 7 (.draw [⟨(some
  67), (.load none (.tmp 7)), none⟩, ⟨(some 68), (.mv (.tmp 8)), none⟩, ⟨(some 69), (.mv (.tmp 8)), none⟩, ⟨(some 70), (.load none (.tmp 1)), none⟩, ⟨(some 71), (.nilchk (.tmp
  70)), none⟩, ⟨(some 72), (.faddr 0 (.tmp 71)), none⟩, ⟨(some 73), (.faddr 6 (.tmp 72)), none⟩, ⟨(some 74), (.load none (.tmp 73)), none⟩, ⟨(some 75), (.load none (.tmp 3)),
  none⟩, ⟨(some 76), (.iaddrS 1 (.tmp 74) (.tmp 75)), none⟩, ⟨(some 77), (.load none (.tmp 76)), none⟩, ⟨(some 78), (.bin .mul (.tmp 69) (.tmp 77)), none⟩, ⟨(some 79), (.load none
  (.tmp 1)), none⟩, ⟨(some 80), (.load none (.tmp 3)), none⟩, ⟨(some 81), (.bin .add (.tmp 80) (.const (.int .i64 1))), none⟩, ⟨(some 82), (.load none (.tmp 5)), none⟩, ⟨(some 83),
   (.mv (.tmp 8)), none⟩, ⟨(some 84), (.bin .add (.tmp 82) (.tmp 83)), none⟩, ⟨(some 85), (.nilchk (.tmp 79)), none⟩, ⟨(some 86), (.faddr 8 (.tmp 85)), none⟩, ⟨(some 87), (.iaddrA
  21 201 (.tmp 86) (.tmp 81)), none⟩, ⟨(some 88), (.iaddrA 201 1 (.tmp 87) (.tmp 84)), none⟩, ⟨(some 89), (.load none (.tmp 88)), none⟩, ⟨(some 90), (.bin .add (.tmp 78) (.tmp
  89)), none⟩, ⟨(some 91), (.build [(.int .i64 0), (.int .i64 0)] [(0, (1, (.tmp 68))), (1, (1, (.tmp 90)))]), none⟩, ⟨(some 92), (.bslice [(.int .i64 0), (.int .i64 0)] 1 2 [(0,
  (2, (.tmp 91)))]), none⟩, ⟨(some 93), (.app 2 16 (.tmp 67) (.tmp 92)), none⟩, ⟨none, (.store 1 (.tmp 7) (.tmp 93)), none⟩] [(0, 25)]))))) (.seq (.region [⟨(some 94), (.load none
  (.tmp 7)), none⟩, ⟨(some 95), (.mv (.tmp 2)), none⟩, ⟨(some 96), (.call (.func 71) [(.tmp 94), (.tmp 95)]), none⟩, ⟨(some 9), (.alloc [(.int .i64 0), (.int .i64 0)]), none⟩,
  ⟨none, (.store 2 (.tmp 9) (.tmp 96)), none⟩]) (.seq (.region [⟨(some 97), (.faddr 1 (.tmp 9)), none⟩, ⟨(some 98), (.load none (.tmp 97)), none⟩, ⟨(some 99), (.bin .lss (.tmp 98)
  (.const (.int .i64 1125899906842624))), none⟩]) (.cond (.tmp 99) (.seq (.draw [⟨(some 100), (.load none (.tmp 1)), none⟩, ⟨(some 101), (.load none (.tmp 3)), none⟩, ⟨(some 102),
  (.load none (.tmp 5)), none⟩, ⟨(some 103), (.faddr 1 (.tmp 9)), none⟩, ⟨(some 104), (.load none (.tmp 103)), none⟩, ⟨(some 105), (.nilchk (.tmp 100)), none⟩, ⟨(some 106),
  (.faddr 8 (.tmp 105)), none⟩, ⟨(some 107), (.iaddrA 21 201 (.tmp 106) (.tmp 101)), none⟩, ⟨(some 108), (.iaddrA 201 1 (.tmp 107) (.tmp 102)), none⟩, ⟨none, (.store 1 (.tmp 108)
  (.tmp 104)), none⟩] []) (.draw [⟨(some 109), (.load none (.tmp 1)), none⟩, ⟨(some 110), (.nilchk (.tmp 109)), none⟩, ⟨(some 111), (.faddr 4229 (.tmp 110)), none⟩, ⟨(some 112),
  (.load none (.tmp 111)), none⟩, ⟨(some 113), (.load (some 2) (.tmp 6)), none⟩, ⟨(some 114), (.faddr 0 (.tmp 9)), none⟩, ⟨(some 115), (.load none (.tmp 114)), none⟩, ⟨none,
  (.mapup true [.int, .int] (.tmp 112) (.tmp 113) (.tmp 115)), none⟩] [])) .skip))))))) (.seq (.seq (.region [⟨(some 116), (.load none (.tmp 5)), none⟩]) (.region [⟨(some 5),
  (.alloc [(.int .i64 0)]), none⟩, ⟨none, (.store 1 (.tmp 5) (.tmp 116)), none⟩])) (.region [⟨(some 56), (.load none (.tmp 5)), none⟩, ⟨(some 57), (.bin .add (.tmp 56) (.const
  (.int .i64 1))), none⟩, ⟨none, (.store 1 (.tmp 5) (.tmp 57)), none⟩]))))))))) (.seq (.seq (.region [⟨(some 117), (.load none (.tmp 3)), none⟩]) (.region [⟨(some 3), (.alloc
  [(.int .i64 0)]), none⟩, ⟨none, (.store 1 (.tmp 3) (.tmp 117)), none⟩])) (.region [⟨(some 34), (.load none (.tmp 3)), none⟩, ⟨(some 35), (.bin .sub (.tmp 34) (.const (.int .i64
  1))), none⟩, ⟨none, (.store 1 (.tmp 3) (.tmp 35)), none⟩])))))))))))⟩
def af62 : AFn := ⟨64, [(.tmp 2), (.tmp 3)], (.seq (.region [⟨(some 2), (.mv (.const (.slc none 0 0 true 0))), none⟩, ⟨(some 3), (.mv (.const (.bool false))), none⟩]) (.seq (.region [⟨(some 9),
  (.mv (.tmp 0)), none⟩, ⟨(some 10), (.nilchk (.tmp 9)), none⟩, ⟨(some 11), (.faddr 8 (.tmp 10)), none⟩, ⟨(some 12), (.iaddrA 21 201 (.tmp 11) (.const (.int .i64 0))), none⟩,
  ⟨(some 13), (.load (some 201) (.tmp 12)), none⟩, ⟨(some 4), (.alloc [(.int .i64 0), (.int .i64 0), (.int .i64 0), (.int .i64 0), (.int .i64 0), (.int .i64 0), (.int .i64 0),
  (.int .i64 0), (.int .i64 0), (.int .i64 0), (.int .i64 0), (.int .i64 0), (.int .i64 0), (.int .i64 0), (.int .i64 0), (.int .i64 0), (.int .i64 0), (.int .i64 0), (.int .i64
  0), (.int .i64 0), (.int .i64 0), (.int .i64 0), (.int .i64 0), (.int .i64 0), (.int .i64 0), (.int .i64 0), (.int .i64 0), (.int .i64 0), (.int .i64 0), (.int .i64 0), (.int
  .i64 0), (.int .i64 0), (.int .i64 0), (.int .i64 0), (.int .i64 0), (.int .i64 0), (.int .i64 0), (.int .i64 0), (.int .i64 0), (.int .i64 0), (.int .i64 0), (.int .i64 0),
  (.int .i64 0), (.int .i64 0), (.int .i64 0), (.int .i64 0), (.int .i64 0), (.int .i64 0), (.int .i64 0), (.int .i64 0), (.int .i64 0), (.int .i64 0), (.int .i64 0), (.int .i64
  0), (.int .i64 0), (.int .i64 0), (.int .i64 0), (.int .i64 0), (.int .i64 0), (.int .i64 0), (.int .i64 0), (.int .i64 0), (.int .i64 0), (.int .i64 0), (.int .i64 0), (.int
  .i64 0), (.int .i64 0), (.int .i64 0), (.int .i64 0), (.int .i64 0), (.int .i64 0), (.int .i64 0), (.int .i64 0), (.int .i64 0), (.int .i64 0), (.int .i64 0), (.int .i64 0),
  (.int .i64 0), (.int .i64 0), (.int .i64 0), (.int .i64 0), (.int .i64 0), (.int .i64 0), (.int .i64 0), (.int .i64 0), (.int .i64 0), (.int .i64 0), (.int .i64 0), (.int .i64
  0), (.int .i64 0), (.int .i64 0), (.int .i64 0), (.int .i64 0), (.int .i64 0), (.int .i64 0), (.int .i64 0), (.int .i64 0), (.int .i64 0), (.int .i64 0), (.int .i64 0), (.int
  .i64 0), (.int .i64 0), (.int .i64 0), (.int .i64 0), (.int .i64 0), (.int .i64 0), (.int .i64 0), (.int .i64 0), (.int .i64 0), (.int .i64 0), (.int .i64 0), (.int .i64 0),
  (.int .i64 0), (.int .i64 0), (.int .i64 0), (.int .i64 0), (.int .i64 0), (.int .i64 0), (.int .i64 0), (.int .i64 0), (.int .i64 0), (.int .i64 0), (.int .i64 0), (.int .i64
  0), (.int .i64 0), (.int .i64 0), (.int .i64 0), (.int .i64 0), (.int .i64 0), (.int .i64 0), (.int .i64 0), (.int .i64 0), (.int .i64 0), (.int .i64 0), (.int .i64 0), (.int
  .i64 0), (.int .i64 0), (.int .i64 0), (.int .i64 0), (.int .i64 0), (.int .i64 0), (.int .i64 0), (.int .i64 0), (.int .i64 0), (.int .i64 0), (.int .i64 0), (.int .i64 0),
  (.int .i64 0), (.int .i64 0), (.int .i64 0), (.int .i64 0), (.int .i64 0), (.int .i64 0), (.int .i64 0), (.int .i64 0), (.int .i64 0), (.int .i64 0), (.int .i64 0), (.int .i64
  0), (.int .i64 0), (.int .i64 0), (.int .i64 0), (.int .i64 0), (.int .i64 0), (.int .i64 0), (.int .i64 0), (.int .i64 0), (.int .i64 0), (.int .i64 0), (.int .i64 0), (.int
  .i64 0), (.int .i64 0), (.int .i64 0), (.int .i64 0), (.int .i64 0), (.int .i64 0), (.int .i64 0), (.int .i64 0), (.int .i64 0), (.int .i64 0), (.int .i64 0), (.int .i64 0),
  (.int .i64 0), (.int .i64 0), (.int .i64 0), (.int .i64 0), (.int .i64 0), (.int .i64 0), (.int .i64 0), (.int .i64 0), (.int .i64 0), (.int .i64 0), (.int .i64 0), (.int .i64
  0), (.int .i64 0), (.int .i64 0), (.int .i64 0), (.int .i64 0), (.int .i64 0), (.int .i64 0), (.int .i64 0)]), none⟩, ⟨none, (.store 201 (.tmp 4) (.tmp 13)), none⟩]) (.seq (.seq
  (.region [⟨(some 14), (.mv (.const (.int .i64 0))), none⟩]) (.block 0 (.loop (.seq (.region [⟨(some 15), (.bin .lss (.tmp 14) (.const (.int .i64 201))), none⟩]) (.seq (.cond
  (.tmp 15) .skip (.exit 0)) (.seq (.block 1 (.seq (.region [⟨(some 16), (.mv (.tmp 14)), none⟩, ⟨(some 5), (.mv (.tmp 16)), none⟩]) (.region [⟨(some 17), (.mv (.tmp 5)), none⟩,
  ⟨(some 18), (.iaddrA 201 1 (.tmp 4) (.tmp 17)), none⟩, ⟨none, (.store 1 (.tmp 18) (.const (.int .i64 1125899906842624))), none⟩]))) (.region [⟨(some 19), (.bin .add (.tmp 14)
  (.const (.int .i64 1))), none⟩, ⟨(some 14), (.mv (.tmp 19)), none⟩]))))))) (.seq (.seq (.draw [⟨(some 20), (.mv (.tmp 0)), none⟩, ⟨(some 21), (.nilchk (.tmp 20)), none⟩, ⟨(some
  22), (.faddr 8 (.tmp 21)), none⟩, ⟨(some 23), (.iaddrA 21 201 (.tmp 22) (.const (.int .i64 0))), none⟩, ⟨(some 24), (.load (some 201) (.tmp 23)), none⟩, ⟨(some 25), (.load (some
  201) (.tmp 4)), none⟩, ⟨(some 26), (.eqf false true [.int, .int, .int, .int, .int, .int, .int, .int, .int, .int, .int, .int, .int, .int, .int, .int, .int, .int, .int, .int, .int,
   .int, .int, .int, .int, .int, .int, .int, .int, .int, .int, .int, .int, .int, .int, .int, .int, .int, .int, .int, .int, .int, .int, .int, .int, .int, .int, .int, .int, .int,
  .int, .int, .int, .int, .int, .int, .int, .int, .int, .int, .int, .int, .int, .int, .int, .int, .int, .int, .int, .int, .int, .int, .int, .int, .int, .int, .int, .int, .int,
  .int, .int, .int, .int, .int, .int, .int, .int, .int, .int, .int, .int, .int, .int, .int, .int, .int, .int, .int, .int, .int, .int, .int, .int, .int, .int, .int, .int, .int,
  .int, .int, .int, .int, .int, .int, .int, .int, .int, .int, .int, .int, .int, .int, .int, .int, .int, .int, .int, .int, .int, .int, .int, .int, .int, .int, .int, .int, .int,
  .int, .int, .int, .int, .int, .int, .int, .int, .int, .int, .int, .int, .int, .int, .int, .int, .int, .int, .int, .int, .int, .int, .int, .int, .int, .int, .int, .int, .int,
  .int, .int, .int, .int, .int, .int, .int, .int, .int, .int, .int, .int, .int, .int, .int, .int, .int, .int, .int, .int, .int, .int, .int, .int, .int, .int, .int, .int, .int,
  .int, .int, .int, .int, .int, .int] (.tmp 24) (.tmp 25)), none⟩] []) (.cond (.tmp 26) (.seq (.region [⟨(some 2), (.mv (.const (.slc none 0 0 true 0))), none⟩, ⟨(some 3), (.mv
  (.const (.bool false))), none⟩]) .ret) .skip)) (.seq (.region [⟨(some 6), (.mv (.const (.slc none 0 0 true 0))), none⟩]) (.seq (.seq (.region [⟨(some 27), (.build [(.int .i64 0),
   (.int .i64 0)] []), none⟩, ⟨(some 7), (.alloc [(.int .i64 0), (.int .i64 0)]), none⟩, ⟨none, (.store 2 (.tmp 7) (.tmp 27)), none⟩]) (.block 2 (.loop (.seq (.seq (.draw [⟨(some
  28), (.load (some 2) (.tmp 7)), none⟩, ⟨(some 29), (.mv (.tmp 0)), none⟩, ⟨(some 30), (.nilchk (.tmp 29)), none⟩, ⟨(some 31), (.faddr 0 (.tmp 30)), none⟩, ⟨(some 32), (.faddr 5
  (.tmp 31)), none⟩, ⟨(some 33), (.load none (.tmp 32)), none⟩, ⟨(some 34), (.len (.tmp 33)), none⟩, ⟨(some 35), (.faddr 1 (.tmp 7)), none⟩, ⟨(some 36), (.load none (.tmp 35)),
  none⟩, ⟨(some 37), (.build [(.int .i64 0), (.int .i64 0)] [(0, (1, (.tmp 34))), (1, (1, (.tmp 36)))]), none⟩, ⟨(some 38), (.eqf true true [.int, .int] (.tmp 28) (.tmp 37)),
  none⟩] []) (.cond (.tmp 38) .skip (.exit 2))) (.seq (.block 3 (.seq (.draw [⟨(some 39), (.mv (.tmp 0)), none⟩, ⟨(some 40), (.nilchk (.tmp 39)), none⟩, ⟨(some 41), (.faddr 4229
  (.tmp 40)), none⟩, ⟨(some 42), (.load none (.tmp 41)), none⟩, ⟨(some 43), (.load (some 2) (.tmp 7)), none⟩, ⟨(some 44), (.look true [.int, .int] (.int .i64 0) (.tmp 42) (.tmp
  43) false), none⟩, ⟨(some 8), (.mv (.tmp 44)), none⟩] []) (.seq (.draw [⟨(some 45), (.mv (.tmp 0)), none⟩, ⟨(some 46), (.nilchk (.tmp 45)), none⟩, ⟨(some 47), (.faddr 4229 (.tmp
  46)), none⟩, ⟨(some 48), (.load none (.tmp 47)), none⟩, ⟨(some 49), (.load (some 2) (.tmp 7)), none⟩, ⟨none, (.del true [.int, .int] (.tmp 48) (.tmp 49)), none⟩] []) (.seq
  (.region [⟨(some 50), (.mv (.tmp 6)), none⟩, ⟨(some 51), (.mv (.tmp 8)), none⟩, ⟨(some 52), (.bslice [(.int .i64 0)] 1 1 [(0, (1, (.tmp 51)))]), none⟩, ⟨(some 53), (.app 1 8
  (.tmp 50) (.tmp 52)), none⟩, ⟨(some 6), (.mv (.tmp 53)), none⟩]) (.region [⟨(some 54), (.faddr 0 (.tmp 7)), none⟩, ⟨(some 55), (.load none (.tmp 54)), none⟩, ⟨(some 56), (.bin
  .add (.tmp 55) (.const (.int .i64 1))), none⟩, ⟨(some 57), (.faddr 1 (.tmp 7)), none⟩, ⟨(some 58), (.load none (.tmp 57)), none⟩, ⟨(some 59), (.mv (.tmp 8)), none⟩, ⟨(some 60),
  (.bin .add (.tmp 58) (.tmp 59)), none⟩, ⟨(some 61), (.build [(.int .i64 0), (.int .i64 0)] [(0, (1, (.tmp 56))), (1, (1, (.tmp 60)))]), none⟩, ⟨none, (.store 2 (.tmp 7) (.tmp
  61)), none⟩]))))) (.seq (.region [⟨(some 62), (.load (some 2) (.tmp 7)), none⟩]) (.region [⟨(some 7), (.alloc [(.int .i64 0), (.int .i64 0)]), none⟩, ⟨none, (.store 2 (.tmp 7)
  (.tmp 62)), none⟩]))))))) (.seq (.region [⟨(some 63), (.mv (.tmp 6)), none⟩, ⟨(some 2), (.mv (.tmp 63)), none⟩, ⟨(some 3), (.mv (.const (.bool true))), none⟩]) .ret)))))))⟩
def af63 : AFn := ⟨19, [], (.seq (.region [⟨(some 4), (.load none (.tmp 1)), none⟩, ⟨(some 5), (.len (.tmp 4)), none⟩, ⟨(some 6), (.bin .sub (.tmp 5) (.const (.int .i64 1))), none⟩, ⟨(some 3), (.mv
  (.tmp 6)), none⟩]) (.block 0 (.loop (.seq (.seq (.region [⟨(some 7), (.mv (.tmp 3)), none⟩, ⟨(some 8), (.bin .geq (.tmp 7) (.const (.int .i64 0))), none⟩]) (.cond (.tmp 8) .skip
  (.exit 0))) (.seq (.block 1 (.seq (.region [⟨(some 11), (.mv (.tmp 0)), none⟩, ⟨(some 12), (.mv (.tmp 3)), none⟩, ⟨(some 13), (.load none (.tmp 1)), none⟩, ⟨(some 14), (.mv
  (.tmp 3)), none⟩, ⟨(some 15), (.iaddrS 1 (.tmp 13) (.tmp 14)), none⟩, ⟨(some 16), (.load none (.tmp 15)), none⟩, ⟨(some 17), (.call (.tmp 11) [(.tmp 12), (.tmp 16)]), none⟩,
  ⟨(some 18), (.un .not (.tmp 17)), none⟩]) (.cond (.tmp 18) .ret .skip))) (.region [⟨(some 9), (.mv (.tmp 3)), none⟩, ⟨(some 10), (.bin .sub (.tmp 9) (.const (.int .i64 1))),
  none⟩, ⟨(some 3), (.mv (.tmp 10)), none⟩]))))))⟩
def af64 : AFn := ⟨25, [(.tmp 2)], (.seq (.region [⟨(some 2), (.mv (.const (.int .i64 0))), none⟩]) (.seq (.seq (.region [⟨(some 5), (.mv (.tmp 0)), none⟩, ⟨(some 6), (.len (.tmp 5)), none⟩, ⟨(some
  7), (.bin .lss (.tmp 6) (.const (.int .i64 1))), none⟩]) (.cond (.tmp 7) (.region [⟨(some 8), (.mkif 9 (.const (.str ⟨#[115, 108, 105, 99, 101, 115, 46, 77, 97, 120, 58, 32, 101,
   109, 112, 116, 121, 32, 108, 105, 115, 116]⟩))), none⟩, ⟨none, .bad, none⟩]) .skip)) (.seq (.region [⟨(some 9), (.mv (.tmp 0)), none⟩, ⟨(some 10), (.iaddrS 1 (.tmp 9) (.const
  (.int .i64 0))), none⟩, ⟨(some 11), (.load none (.tmp 10)), none⟩, ⟨(some 3), (.mv (.tmp 11)), none⟩]) (.seq (.seq (.region [⟨(some 4), (.mv (.const (.int .i64 1))), none⟩])
  (.block 0 (.loop (.seq (.seq (.region [⟨(some 12), (.mv (.tmp 4)), none⟩, ⟨(some 13), (.mv (.tmp 0)), none⟩, ⟨(some 14), (.len (.tmp 13)), none⟩, ⟨(some 15), (.bin .lss (.tmp
  12) (.tmp 14)), none⟩]) (.cond (.tmp 15) .skip (.exit 0))) (.seq (.block 1 (.region [⟨(some 18), (.mv (.tmp 3)), none⟩, ⟨(some 19), (.mv (.tmp 0)), none⟩, ⟨(some 20), (.mv (.tmp
  4)), none⟩, ⟨(some 21), (.iaddrS 1 (.tmp 19) (.tmp 20)), none⟩, ⟨(some 22), (.load none (.tmp 21)), none⟩, ⟨(some 23), (.mnx true [(.tmp 18), (.tmp 22)]), none⟩, ⟨(some 3), (.mv
  (.tmp 23)), none⟩])) (.region [⟨(some 16), (.mv (.tmp 4)), none⟩, ⟨(some 17), (.bin .add (.tmp 16) (.const (.int .i64 1))), none⟩, ⟨(some 4), (.mv (.tmp 17)), none⟩])))))) (.seq
  (.region [⟨(some 24), (.mv (.tmp 3)), none⟩, ⟨(some 2), (.mv (.tmp 24)), none⟩]) .ret)))))⟩
def af65 : AFn := ⟨17, [(.tmp 6)], (.seq (.region [⟨(some 6), (.mv (.const (.bool false))), none⟩]) (.seq (.region [⟨(some 7), (.mv (.tmp 2)), none⟩, ⟨(some 8), (.mv (.tmp 0)), none⟩, ⟨(some 9),
  (.nilchk (.tmp 8)), none⟩, ⟨(some 10), (.faddr 7 (.tmp 9)), none⟩, ⟨(some 11), (.load none (.tmp 10)), none⟩, ⟨(some 12), (.mv (.tmp 1)), none⟩, ⟨(some 13), (.iaddrS 2 (.tmp 11)
  (.tmp 12)), none⟩, ⟨(some 14), (.faddr 1 (.tmp 13)), none⟩, ⟨(some 15), (.load none (.tmp 14)), none⟩, ⟨(some 16), (.bin .lss (.tmp 7) (.tmp 15)), none⟩, ⟨(some 6), (.mv (.tmp
  16)), none⟩]) .ret))⟩
def af66 : AFn := ⟨8, [(.tmp 2)], (.seq (.region [⟨(some 2), (.mv (.const (.slc none 0 0 true 0))), none⟩]) (.seq (.seq (.region [⟨(some 3), (.mv (.tmp 0)), none⟩, ⟨(some 4), (.eqn false 0 (.tmp 3)
  (.const (.slc none 0 0 true 0))), none⟩]) (.cond (.tmp 4) (.seq (.region [⟨(some 2), (.mv (.const (.slc none 0 0 true 0))), none⟩]) .ret) .skip)) (.seq (.region [⟨(some 5),
  (.bslice [] 0 1 []), none⟩, ⟨(some 6), (.mv (.tmp 0)), none⟩, ⟨(some 7), (.app 1 8 (.tmp 5) (.tmp 6)), none⟩, ⟨(some 2), (.mv (.tmp 7)), none⟩]) .ret)))⟩
def af67 : AFn := ⟨26, [(.tmp 4)], (.seq (.region [⟨(some 4), (.mv (.const (.bool false))), none⟩]) (.seq (.seq (.region [⟨(some 6), (.mv (.tmp 0)), none⟩, ⟨(some 7), (.len (.tmp 6)), none⟩, ⟨(some
  8), (.mv (.tmp 1)), none⟩, ⟨(some 9), (.len (.tmp 8)), none⟩, ⟨(some 10), (.bin .neq (.tmp 7) (.tmp 9)), none⟩]) (.cond (.tmp 10) (.seq (.region [⟨(some 4), (.mv (.const (.bool
  false))), none⟩]) .ret) .skip)) (.seq (.seq (.region [⟨(some 11), (.mv (.tmp 0)), none⟩, ⟨(some 12), (.len (.tmp 11)), none⟩, ⟨(some 13), (.mv (.const (.int .i64 0))), none⟩])
  (.block 0 (.loop (.seq (.region [⟨(some 14), (.bin .lss (.tmp 13) (.tmp 12)), none⟩]) (.seq (.cond (.tmp 14) .skip (.exit 0)) (.seq (.block 1 (.seq (.region [⟨(some 15), (.mv
  (.tmp 13)), none⟩, ⟨(some 5), (.mv (.tmp 15)), none⟩]) (.seq (.draw [⟨(some 16), (.mv (.tmp 0)), none⟩, ⟨(some 17), (.mv (.tmp 5)), none⟩, ⟨(some 18), (.iaddrS 1 (.tmp 16) (.tmp
  17)), none⟩, ⟨(some 19), (.load none (.tmp 18)), none⟩, ⟨(some 20), (.mv (.tmp 1)), none⟩, ⟨(some 21), (.mv (.tmp 5)), none⟩, ⟨(some 22), (.iaddrS 1 (.tmp 20) (.tmp 21)), none⟩,
  ⟨(some 23), (.load none (.tmp 22)), none⟩, ⟨(some 24), (.bin .neq (.tmp 19) (.tmp 23)), none⟩] []) (.cond (.tmp 24) (.seq (.region [⟨(some 4), (.mv (.const (.bool false))),
  none⟩]) .ret) .skip)))) (.region [⟨(some 25), (.bin .add (.tmp 13) (.const (.int .i64 1))), none⟩, ⟨(some 13), (.mv (.tmp 25)), none⟩]))))))) (.seq (.region [⟨(some 4), (.mv
  (.const (.bool true))), none⟩]) .ret))))⟩
def af68 : AFn := ⟨19, [(.tmp 4)], (.seq (.region [⟨(some 4), (.mv (.const (.int .i64 0))), none⟩]) (.seq (.seq (.region [⟨(some 6), (.mv (.tmp 0)), none⟩, ⟨(some 7), (.len (.tmp 6)), none⟩, ⟨(some
  8), (.mv (.const (.int .i64 0))), none⟩]) (.block 0 (.loop (.seq (.region [⟨(some 9), (.bin .lss (.tmp 8) (.tmp 7)), none⟩]) (.seq (.cond (.tmp 9) .skip (.exit 0)) (.seq (.block
  1 (.seq (.region [⟨(some 10), (.mv (.tmp 8)), none⟩, ⟨(some 5), (.mv (.tmp 10)), none⟩]) (.seq (.region [⟨(some 11), (.mv (.tmp 1)), none⟩, ⟨(some 12), (.mv (.tmp 0)), none⟩,
  ⟨(some 13), (.mv (.tmp 5)), none⟩, ⟨(some 14), (.iaddrS 1 (.tmp 12) (.tmp 13)), none⟩, ⟨(some 15), (.load none (.tmp 14)), none⟩, ⟨(some 16), (.call (.tmp 11) [(.tmp 15)]),
  none⟩]) (.cond (.tmp 16) (.seq (.region [⟨(some 17), (.mv (.tmp 5)), none⟩, ⟨(some 4), (.mv (.tmp 17)), none⟩]) .ret) .skip)))) (.region [⟨(some 18), (.bin .add (.tmp 8) (.const
  (.int .i64 1))), none⟩, ⟨(some 8), (.mv (.tmp 18)), none⟩]))))))) (.seq (.region [⟨(some 4), (.mv (.const (.int .i64 (-1)))), none⟩]) .ret)))⟩
def af69 : AFn := ⟨5, [(.tmp 2)], (.seq (.region [⟨(some 1), (.box (.tmp 0)), none⟩, ⟨(some 2), (.mv (.const (.int .i64 0))), none⟩]) (.seq (.region [⟨(some 3), (.faddr 1 (.tmp 1)), none⟩, ⟨(some
  4), (.load none (.tmp 3)), none⟩, ⟨(some 2), (.mv (.tmp 4)), none⟩]) .ret))⟩
def af70 : AFn := ⟨15, [(.tmp 4)], (.seq (.region [⟨(some 2), (.box (.tmp 0)), none⟩, ⟨(some 3), (.box (.tmp 1)), none⟩, ⟨(some 4), (.mv (.const .nilfn)), none⟩]) (.seq (.draw [⟨(some 6), (.load
  none (.tmp 2)), none⟩, ⟨(some 7), (.nilchk (.tmp 6)), none⟩, ⟨(some 8), (.faddr 7 (.tmp 7)), none⟩, ⟨(some 9), (.load none (.tmp 8)), none⟩, ⟨(some 10), (.faddr 0 (.tmp 3)),
  none⟩, ⟨(some 11), (.load none (.tmp 10)), none⟩, ⟨(some 12), (.iaddrS 2 (.tmp 9) (.tmp 11)), none⟩, ⟨(some 13), (.load (some 2) (.tmp 12)), none⟩, ⟨(some 5), (.alloc [(.int
  .i64 0), (.int .i64 0)]), none⟩, ⟨none, (.store 2 (.tmp 5) (.tmp 13)), none⟩] [(0, 8), (3, 8), (5, 8), (7, 8)]) (.seq (.region [⟨(some 14), (.mkfn 72 [] [(.tmp 2), (.tmp 3),
  (.tmp 5)]), none⟩, ⟨(some 4), (.mv (.tmp 14)), none⟩]) .ret)))⟩
def af71 : AFn := ⟨28, [(.cell 4 (some 2))], (.seq (.region [⟨(some 4), (.alloc [(.int .i64 0), (.int .i64 0)]), none⟩]) (.seq (.region [⟨(some 8), (.mv (.tmp 0)), none⟩, ⟨(some 9), (.iaddrS 2
  (.tmp 8) (.const (.int .i64 0))), none⟩, ⟨(some 10), (.load (some 2) (.tmp 9)), none⟩, ⟨(some 5), (.alloc [(.int .i64 0), (.int .i64 0)]), none⟩, ⟨none, (.store 2 (.tmp 5) (.tmp
  10)), none⟩]) (.seq (.seq (.region [⟨(some 11), (.mv (.tmp 0)), none⟩, ⟨(some 12), (.slc 2 (.tmp 11) (some (.const (.int .i64 1))) none none), none⟩, ⟨(some 13), (.len (.tmp
  12)), none⟩, ⟨(some 14), (.mv (.const (.int .i64 0))), none⟩]) (.block 0 (.loop (.seq (.region [⟨(some 15), (.bin .lss (.tmp 14) (.tmp 13)), none⟩]) (.seq (.cond (.tmp 15) .skip
  (.exit 0)) (.seq (.block 1 (.seq (.region [⟨(some 16), (.iaddrS 2 (.tmp 12) (.tmp 14)), none⟩, ⟨(some 17), (.load (some 2) (.tmp 16)), none⟩, ⟨(some 7), (.alloc [(.int .i64 0),
  (.int .i64 0)]), none⟩, ⟨none, (.store 2 (.tmp 7) (.tmp 17)), none⟩]) (.seq (.draw [⟨(some 18), (.mv (.tmp 1)), none⟩, ⟨(some 19), (.load (some 2) (.tmp 7)), none⟩, ⟨(some 20),
  (.call (.tmp 18) [(.tmp 19)]), none⟩, ⟨(some 21), (.mv (.tmp 1)), none⟩, ⟨(some 22), (.load (some 2) (.tmp 5)), none⟩, ⟨(some 23), (.call (.tmp 21) [(.tmp 22)]), none⟩, ⟨(some
  24), (.bin .lss (.tmp 20) (.tmp 23)), none⟩] [(2, 4)]) (.cond (.tmp 24) (.region [⟨(some 25), (.load (some 2) (.tmp 7)), none⟩, ⟨none, (.store 2 (.tmp 5) (.tmp 25)), none⟩])
  .skip)))) (.region [⟨(some 26), (.bin .add (.tmp 14) (.const (.int .i64 1))), none⟩, ⟨(some 14), (.mv (.tmp 26)), none⟩]))))))) (.seq (.region [⟨(some 27), (.load (some 2) (.tmp
  5)), none⟩, ⟨none, (.store 2 (.tmp 4) (.tmp 27)), none⟩]) .ret))))⟩
def af72 : AFn := ⟨37, [], (.seq (.region [⟨(some 7), (.load none (.tmp 1)), none⟩, ⟨(some 8), (.nilchk (.tmp 7)), none⟩, ⟨(some 9), (.faddr 0 (.tmp 8)), none⟩, ⟨(some 10), (.faddr 2 (.tmp 9)),
  none⟩, ⟨(some 11), (.load none (.tmp 10)), none⟩, ⟨(some 12), (.bin .add (.tmp 11) (.const (.int .i64 1))), none⟩, ⟨(some 13), (.mv (.const (.int .i64 0))), none⟩]) (.block 0
  (.loop (.seq (.region [⟨(some 14), (.bin .lss (.tmp 13) (.tmp 12)), none⟩]) (.seq (.cond (.tmp 14) .skip (.exit 0)) (.seq (.block 1 (.seq (.region [⟨(some 15), (.mv (.tmp 13)),
  none⟩, ⟨(some 5), (.mv (.tmp 15)), none⟩]) (.seq (.region [⟨(some 16), (.faddr 1 (.tmp 2)), none⟩, ⟨(some 17), (.load none (.tmp 16)), none⟩, ⟨(some 18), (.mv (.tmp 5)), none⟩,
  ⟨(some 19), (.bin .add (.tmp 17) (.tmp 18)), none⟩, ⟨(some 6), (.mv (.tmp 19)), none⟩]) (.seq (.region [⟨(some 20), (.mv (.tmp 6)), none⟩, ⟨(some 21), (.faddr 0 (.tmp 3)), none⟩,
   ⟨(some 22), (.load none (.tmp 21)), none⟩, ⟨(some 23), (.bin .geq (.tmp 20) (.tmp 22)), none⟩, ⟨(some 24), (.mv (.tmp 23)), none⟩, ⟨(some 25), (.mv (.tmp 6)), (some (24,
  true))⟩, ⟨(some 26), (.faddr 1 (.tmp 3)), (some (24, true))⟩, ⟨(some 27), (.load none (.tmp 26)), (some (24, true))⟩, ⟨(some 28), (.bin .leq (.tmp 25) (.tmp 27)), (some (24,
  true))⟩, ⟨(some 29), (.pick (.tmp 24) (.tmp 28) (.const (.bool false))), none⟩, ⟨(some 30), (.mv (.tmp 29)), none⟩, ⟨(some 31), (.mv (.tmp 0)), (some (30, true))⟩, ⟨(some 32),
  (.mv (.tmp 5)), (some (30, true))⟩, ⟨(some 33), (.call (.tmp 31) [(.tmp 32)]), (some (30, true))⟩, ⟨(some 34), (.un .not (.tmp 33)), (some (30, true))⟩, ⟨(some 35), (.pick (.tmp
  30) (.tmp 34) (.const (.bool false))), none⟩]) (.cond (.tmp 35) .ret .skip))))) (.region [⟨(some 36), (.bin .add (.tmp 13) (.const (.int .i64 1))), none⟩, ⟨(some 13), (.mv (.tmp
  36)), none⟩])))))))⟩
noncomputable def tblL : List (Nat × AFn) := [(3, af3), (4, af4), (5, af5), (6, af6), (7, af7), (8, af8), (9, af9), (10, af10), (11, af11), (12, af12), (13, af13), (14, af14), (15, af15), (16, af16), (17, af17), (18, af18), (19, af19), (20, af20), (21, af21), (22, af22), (23, af23), (24, af24), (25, af25), (26, af26), (27, af27), (28, af28), (29, af29), (30, af30), (31, af31), (32, af32), (33, af33), (34, af34), (35, af35), (36, af36), (37, af37), (38, af38), (39, af39), (40, af40), (41, af41), (42, af42), (43, af43), (44, af44), (45, af45), (46, af46), (47, af47), (48, af48), (49, af49), (50, af50), (51, af51), (52, af52), (53, af53), (54, af54), (55, af55), (56, af56), (57, af57), (58, af58), (59, af59), (60, af60), (61, af61), (62, af62), (63, af63), (64, af64), (65, af65), (66, af66), (67, af67), (68, af68), (69, af69), (70, af70), (71, af71), (72, af72)]
noncomputable def tbl : Nat → Option AFn := look1 tblL
end Go.Ax
