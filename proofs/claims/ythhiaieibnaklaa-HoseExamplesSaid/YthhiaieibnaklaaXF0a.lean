/-
  The functions of the program as the abstract machine reads them. Written by gen_fns.py out of Lean's own reckoning of 'compF'.
-/
import Derived.Test.YthhiaieibnaklaaXMA
namespace Go.Ax
def af3 : AFn := ⟨59, [(.tmp 2)], (.seq (.region [⟨(some 1), (.box (.tmp 0)), none⟩, ⟨(some 2), (.mv (.const (.bool false))), none⟩]) (.seq (.seq (.region [⟨(some 11), (.load (some 4) (.tmp 1)),
  none⟩, ⟨(some 12), (.call (.func 15) [(.tmp 11)]), none⟩, ⟨(some 13), (.mv (.tmp 12)), none⟩, ⟨(some 14), (.load (some 4) (.tmp 1)), (some (13, false))⟩, ⟨(some 15), (.call
  (.func 16) [(.tmp 14), (.const (.int .i64 9))]), (some (13, false))⟩, ⟨(some 16), (.pick (.tmp 13) (.const (.bool true)) (.tmp 15)), none⟩]) (.cond (.tmp 16) (.seq (.region
  [⟨(some 17), (.call (.func 17) []), none⟩, ⟨(some 2), (.mv (.tmp 17)), none⟩]) .ret) .skip)) (.seq (.region [⟨(some 19), (.load (some 4) (.tmp 1)), none⟩, ⟨(some 20), (.call
  (.func 18) [(.tmp 19)]), none⟩, ⟨(some 18), (.mv (.tmp 20)), none⟩, ⟨(some 21), (.ext (.tmp 18) 0), none⟩, ⟨(some 22), (.ext (.tmp 18) 1), none⟩, ⟨(some 3), (.mv (.tmp 21)),
  none⟩, ⟨(some 4), (.mv (.tmp 22)), none⟩]) (.seq (.region [⟨(some 24), (.load (some 4) (.tmp 1)), none⟩, ⟨(some 25), (.call (.func 19) [(.tmp 24)]), none⟩, ⟨(some 23), (.mv
  (.tmp 25)), none⟩, ⟨(some 26), (.ext (.tmp 23) 0), none⟩, ⟨(some 27), (.ext (.tmp 23) 1), none⟩, ⟨(some 5), (.mv (.tmp 26)), none⟩, ⟨(some 6), (.mv (.tmp 27)), none⟩]) (.seq
  (.region [⟨(some 29), (.load (some 4) (.tmp 1)), none⟩, ⟨(some 30), (.call (.func 20) [(.tmp 29)]), none⟩, ⟨(some 28), (.mv (.tmp 30)), none⟩, ⟨(some 31), (.ext (.tmp 28) 0),
  none⟩, ⟨(some 32), (.ext (.tmp 28) 1), none⟩, ⟨(some 7), (.mv (.tmp 31)), none⟩, ⟨(some 8), (.mv (.tmp 32)), none⟩]) (.seq (.region [⟨(some 34), (.load (some 4) (.tmp 1)), none⟩,
   ⟨(some 35), (.call (.func 21) [(.tmp 34)]), none⟩, ⟨(some 33), (.mv (.tmp 35)), none⟩, ⟨(some 36), (.ext (.tmp 33) 0), none⟩, ⟨(some 37), (.ext (.tmp 33) 1), none⟩, ⟨(some 9),
  (.mv (.tmp 36)), none⟩, ⟨(some 10), (.mv (.tmp 37)), none⟩]) (.seq (.region [⟨(some 38), (.mv (.tmp 3)), none⟩, ⟨(some 39), (.mv (.tmp 5)), none⟩, ⟨(some 40), (.bin .eql (.tmp
  38) (.tmp 39)), none⟩, ⟨(some 41), (.mv (.tmp 40)), none⟩, ⟨(some 42), (.mv (.tmp 4)), (some (41, true))⟩, ⟨(some 43), (.mv (.tmp 6)), (some (41, true))⟩, ⟨(some 44), (.bin .eql
  (.tmp 42) (.tmp 43)), (some (41, true))⟩, ⟨(some 45), (.pick (.tmp 41) (.tmp 44) (.const (.bool false))), none⟩, ⟨(some 46), (.mv (.tmp 45)), none⟩, ⟨(some 47), (.mv (.tmp 7)),
  (some (46, true))⟩, ⟨(some 48), (.mv (.tmp 9)), (some (46, true))⟩, ⟨(some 49), (.call (.func 22) [(.tmp 47), (.tmp 48)]), (some (46, true))⟩, ⟨(some 50), (.pick (.tmp 46) (.tmp
  49) (.const (.bool false))), none⟩, ⟨(some 51), (.mv (.tmp 50)), none⟩, ⟨(some 52), (.mv (.tmp 8)), (some (51, true))⟩, ⟨(some 53), (.mv (.tmp 10)), (some (51, true))⟩, ⟨(some
  54), (.bin .eql (.tmp 52) (.tmp 53)), (some (51, true))⟩, ⟨(some 55), (.pick (.tmp 51) (.tmp 54) (.const (.bool false))), none⟩, ⟨(some 56), (.mv (.tmp 55)), none⟩, ⟨(some 57),
  (.call (.func 17) []), (some (56, true))⟩, ⟨(some 58), (.pick (.tmp 56) (.tmp 57) (.const (.bool false))), none⟩, ⟨(some 2), (.mv (.tmp 58)), none⟩]) .ret)))))))⟩
def af4 : AFn := ⟨108, [(.tmp 4)], (.seq (.region [⟨(some 2), (.box (.tmp 0)), none⟩, ⟨(some 4), (.mv (.const (.bool false))), none⟩]) (.seq (.seq (.region [⟨(some 12), (.load (some 4) (.tmp 2)),
  none⟩, ⟨(some 13), (.call (.func 15) [(.tmp 12)]), none⟩, ⟨(some 14), (.mv (.tmp 13)), none⟩, ⟨(some 15), (.load (some 4) (.tmp 2)), (some (14, false))⟩, ⟨(some 16), (.call
  (.func 16) [(.tmp 15), (.const (.int .i64 9))]), (some (14, false))⟩, ⟨(some 17), (.pick (.tmp 14) (.const (.bool true)) (.tmp 16)), none⟩]) (.cond (.tmp 17) (.seq (.region
  [⟨(some 18), (.call (.func 17) []), none⟩, ⟨(some 4), (.mv (.tmp 18)), none⟩]) .ret) .skip)) (.seq (.region [⟨(some 20), (.load (some 4) (.tmp 2)), none⟩, ⟨(some 21), (.mv (.tmp
  1)), none⟩, ⟨(some 22), (.call (.func 23) [(.tmp 20), (.tmp 21)]), none⟩, ⟨(some 19), (.mv (.tmp 22)), none⟩, ⟨(some 23), (.ext (.tmp 19) 0), none⟩, ⟨(some 24), (.ext (.tmp 19)
  1), none⟩, ⟨(some 25), (.ext (.tmp 19) 2), none⟩, ⟨(some 5), (.mv (.tmp 23)), none⟩, ⟨(some 6), (.mv (.tmp 24)), none⟩, ⟨(some 7), (.mv (.tmp 25)), none⟩]) (.seq (.region
  [⟨(some 27), (.load (some 4) (.tmp 2)), none⟩, ⟨(some 28), (.mv (.tmp 1)), none⟩, ⟨(some 29), (.call (.func 24) [(.tmp 27), (.tmp 28)]), none⟩, ⟨(some 26), (.mv (.tmp 29)),
  none⟩, ⟨(some 30), (.ext (.tmp 26) 0), none⟩, ⟨(some 31), (.ext (.tmp 26) 1), none⟩, ⟨(some 32), (.ext (.tmp 26) 2), none⟩, ⟨(some 8), (.mv (.tmp 30)), none⟩, ⟨(some 9), (.mv
  (.tmp 31)), none⟩, ⟨(some 10), (.mv (.tmp 32)), none⟩]) (.seq (.region [⟨(some 33), (.load (some 4) (.tmp 2)), none⟩, ⟨(some 34), (.mv (.tmp 1)), none⟩, ⟨(some 35), (.call
  (.func 25) [(.tmp 33), (.tmp 34)]), none⟩, ⟨(some 11), (.mv (.tmp 35)), none⟩]) (.seq (.seq (.region [⟨(some 36), (.mv (.tmp 7)), none⟩, ⟨(some 37), (.mv (.tmp 11)), none⟩,
  ⟨(some 38), (.bin .neq (.tmp 36) (.tmp 37)), none⟩, ⟨(some 39), (.mv (.tmp 38)), none⟩, ⟨(some 40), (.mv (.tmp 10)), (some (39, false))⟩, ⟨(some 41), (.mv (.tmp 11)), (some (39,
  false))⟩, ⟨(some 42), (.bin .neq (.tmp 40) (.tmp 41)), (some (39, false))⟩, ⟨(some 43), (.pick (.tmp 39) (.const (.bool true)) (.tmp 42)), none⟩]) (.cond (.tmp 43) (.seq
  (.region [⟨(some 4), (.mv (.const (.bool false))), none⟩]) .ret) .skip)) (.seq (.seq (.region [⟨(some 44), (.mv (.tmp 11)), none⟩, ⟨(some 45), (.bin .neq (.tmp 44) (.const (.int
  .i64 0))), none⟩]) (.cond (.tmp 45) (.seq (.region [⟨(some 46), (.mv (.tmp 5)), none⟩, ⟨(some 47), (.bin .eql (.tmp 46) (.const (.int .i64 0))), none⟩, ⟨(some 48), (.mv (.tmp
  47)), none⟩, ⟨(some 49), (.mv (.tmp 8)), (some (48, true))⟩, ⟨(some 50), (.bin .eql (.tmp 49) (.const (.int .i64 0))), (some (48, true))⟩, ⟨(some 51), (.pick (.tmp 48) (.tmp 50)
  (.const (.bool false))), none⟩, ⟨(some 52), (.mv (.tmp 51)), none⟩, ⟨(some 53), (.mv (.tmp 6)), (some (52, true))⟩, ⟨(some 54), (.len (.tmp 53)), (some (52, true))⟩, ⟨(some 55),
  (.bin .eql (.tmp 54) (.const (.int .i64 0))), (some (52, true))⟩, ⟨(some 56), (.pick (.tmp 52) (.tmp 55) (.const (.bool false))), none⟩, ⟨(some 57), (.mv (.tmp 56)), none⟩,
  ⟨(some 58), (.mv (.tmp 9)), (some (57, true))⟩, ⟨(some 59), (.len (.tmp 58)), (some (57, true))⟩, ⟨(some 60), (.bin .eql (.tmp 59) (.const (.int .i64 0))), (some (57, true))⟩,
  ⟨(some 61), (.pick (.tmp 57) (.tmp 60) (.const (.bool false))), none⟩, ⟨(some 62), (.mv (.tmp 61)), none⟩, ⟨(some 63), (.call (.func 17) []), (some (62, true))⟩, ⟨(some 64),
  (.pick (.tmp 62) (.tmp 63) (.const (.bool false))), none⟩, ⟨(some 4), (.mv (.tmp 64)), none⟩]) .ret) .skip)) (.seq (.region [⟨(some 65), (.mv (.tmp 5)), none⟩, ⟨(some 66),
  (.load (some 4) (.tmp 2)), none⟩, ⟨(some 67), (.mv (.tmp 1)), none⟩, ⟨(some 68), (.call (.func 26) [(.tmp 66), (.tmp 67), (.const (.bool true))]), none⟩, ⟨(some 69), (.bin .eql
  (.tmp 65) (.tmp 68)), none⟩, ⟨(some 70), (.mv (.tmp 69)), none⟩, ⟨(some 71), (.mv (.tmp 8)), (some (70, true))⟩, ⟨(some 72), (.load (some 4) (.tmp 2)), (some (70, true))⟩,
  ⟨(some 73), (.mv (.tmp 1)), (some (70, true))⟩, ⟨(some 74), (.call (.func 26) [(.tmp 72), (.tmp 73), (.const (.bool false))]), (some (70, true))⟩, ⟨(some 75), (.bin .eql (.tmp
  71) (.tmp 74)), (some (70, true))⟩, ⟨(some 76), (.pick (.tmp 70) (.tmp 75) (.const (.bool false))), none⟩, ⟨(some 77), (.mv (.tmp 76)), none⟩, ⟨(some 78), (.load (some 4) (.tmp
  2)), (some (77, true))⟩, ⟨(some 79), (.mv (.tmp 6)), (some (77, true))⟩, ⟨(some 80), (.call (.func 27) [(.tmp 78), (.tmp 79)]), (some (77, true))⟩, ⟨(some 81), (.bin .eql (.tmp
  80) (.const (.int .i64 0))), (some (77, true))⟩, ⟨(some 82), (.pick (.tmp 77) (.tmp 81) (.const (.bool false))), none⟩, ⟨(some 83), (.mv (.tmp 82)), none⟩, ⟨(some 84), (.load
  (some 4) (.tmp 2)), (some (83, true))⟩, ⟨(some 85), (.mv (.tmp 9)), (some (83, true))⟩, ⟨(some 86), (.call (.func 27) [(.tmp 84), (.tmp 85)]), (some (83, true))⟩, ⟨(some 87),
  (.bin .eql (.tmp 86) (.const (.int .i64 0))), (some (83, true))⟩, ⟨(some 88), (.pick (.tmp 83) (.tmp 87) (.const (.bool false))), none⟩, ⟨(some 89), (.mv (.tmp 88)), none⟩,
  ⟨(some 90), (.load (some 4) (.tmp 2)), (some (89, true))⟩, ⟨(some 91), (.mv (.tmp 6)), (some (89, true))⟩, ⟨(some 92), (.mv (.tmp 1)), (some (89, true))⟩, ⟨(some 93), (.call
  (.func 28) [(.tmp 90), (.tmp 91), (.tmp 92)]), (some (89, true))⟩, ⟨(some 94), (.mv (.tmp 5)), (some (89, true))⟩, ⟨(some 95), (.bin .eql (.tmp 93) (.tmp 94)), (some (89,
  true))⟩, ⟨(some 96), (.pick (.tmp 89) (.tmp 95) (.const (.bool false))), none⟩, ⟨(some 97), (.mv (.tmp 96)), none⟩, ⟨(some 98), (.load (some 4) (.tmp 2)), (some (97, true))⟩,
  ⟨(some 99), (.mv (.tmp 9)), (some (97, true))⟩, ⟨(some 100), (.mv (.tmp 1)), (some (97, true))⟩, ⟨(some 101), (.call (.func 28) [(.tmp 98), (.tmp 99), (.tmp 100)]), (some (97,
  true))⟩, ⟨(some 102), (.mv (.tmp 8)), (some (97, true))⟩, ⟨(some 103), (.bin .eql (.tmp 101) (.tmp 102)), (some (97, true))⟩, ⟨(some 104), (.pick (.tmp 97) (.tmp 103) (.const
  (.bool false))), none⟩, ⟨(some 105), (.mv (.tmp 104)), none⟩, ⟨(some 106), (.call (.func 17) []), (some (105, true))⟩, ⟨(some 107), (.pick (.tmp 105) (.tmp 106) (.const (.bool
  false))), none⟩, ⟨(some 4), (.mv (.tmp 107)), none⟩]) .ret))))))))⟩
def af5 : AFn := ⟨93, [(.tmp 6)], (.seq (.region [⟨(some 3), (.box (.tmp 0)), none⟩, ⟨(some 6), (.mv (.const (.bool false))), none⟩]) (.seq (.seq (.region [⟨(some 14), (.load (some 4) (.tmp 3)),
  none⟩, ⟨(some 15), (.call (.func 29) [(.tmp 14)]), none⟩, ⟨(some 16), (.un .not (.tmp 15)), none⟩]) (.cond (.tmp 16) (.seq (.region [⟨(some 17), (.call (.func 17) []), none⟩,
  ⟨(some 6), (.mv (.tmp 17)), none⟩]) .ret) .skip)) (.seq (.region [⟨(some 18), (.mv (.tmp 1)), none⟩, ⟨(some 19), (.conv .i64 (.tmp 18)), none⟩, ⟨(some 20), (.faddr 1 (.tmp 3)),
  none⟩, ⟨(some 21), (.load none (.tmp 20)), none⟩, ⟨(some 22), (.len (.tmp 21)), none⟩, ⟨(some 23), (.bin .rem (.tmp 19) (.tmp 22)), none⟩, ⟨(some 7), (.mv (.tmp 23)), none⟩])
  (.seq (.region [⟨(some 25), (.load (some 4) (.tmp 3)), none⟩, ⟨(some 26), (.mv (.tmp 7)), none⟩, ⟨(some 27), (.call (.func 23) [(.tmp 25), (.tmp 26)]), none⟩, ⟨(some 24), (.mv
  (.tmp 27)), none⟩, ⟨(some 28), (.ext (.tmp 24) 0), none⟩, ⟨(some 29), (.ext (.tmp 24) 1), none⟩, ⟨(some 30), (.ext (.tmp 24) 2), none⟩, ⟨(some 8), (.mv (.tmp 28)), none⟩, ⟨(some
  9), (.mv (.tmp 29)), none⟩, ⟨(some 10), (.mv (.tmp 30)), none⟩]) (.seq (.seq (.region [⟨(some 31), (.mv (.tmp 2)), none⟩, ⟨(some 32), (.un .not (.tmp 31)), none⟩]) (.cond (.tmp
  32) (.region [⟨(some 34), (.load (some 4) (.tmp 3)), none⟩, ⟨(some 35), (.mv (.tmp 7)), none⟩, ⟨(some 36), (.call (.func 24) [(.tmp 34), (.tmp 35)]), none⟩, ⟨(some 33), (.mv
  (.tmp 36)), none⟩, ⟨(some 37), (.ext (.tmp 33) 0), none⟩, ⟨(some 38), (.ext (.tmp 33) 1), none⟩, ⟨(some 39), (.ext (.tmp 33) 2), none⟩, ⟨(some 8), (.mv (.tmp 37)), none⟩, ⟨(some
  9), (.mv (.tmp 38)), none⟩, ⟨(some 10), (.mv (.tmp 39)), none⟩]) .skip)) (.seq (.region [⟨(some 41), (.load (some 4) (.tmp 3)), none⟩, ⟨(some 42), (.mv (.tmp 9)), none⟩, ⟨(some
  43), (.call (.func 30) [(.tmp 41), (.tmp 42)]), none⟩, ⟨(some 40), (.mv (.tmp 43)), none⟩, ⟨(some 44), (.ext (.tmp 40) 0), none⟩, ⟨(some 45), (.ext (.tmp 40) 1), none⟩, ⟨(some
  11), (.mv (.tmp 44)), none⟩, ⟨(some 12), (.mv (.tmp 45)), none⟩]) (.seq (.seq (.region [⟨(some 46), (.mv (.tmp 10)), none⟩, ⟨(some 47), (.bin .neq (.tmp 46) (.const (.int .i64
  0))), none⟩, ⟨(some 48), (.mv (.tmp 47)), none⟩, ⟨(some 49), (.mv (.tmp 12)), (some (48, false))⟩, ⟨(some 50), (.bin .neq (.tmp 49) (.const (.int .i64 0))), (some (48, false))⟩,
  ⟨(some 51), (.pick (.tmp 48) (.const (.bool true)) (.tmp 50)), none⟩, ⟨(some 52), (.mv (.tmp 51)), none⟩, ⟨(some 53), (.mv (.tmp 9)), (some (52, false))⟩, ⟨(some 54), (.len
  (.tmp 53)), (some (52, false))⟩, ⟨(some 55), (.mv (.tmp 11)), (some (52, false))⟩, ⟨(some 56), (.len (.tmp 55)), (some (52, false))⟩, ⟨(some 57), (.bin .gtr (.tmp 54) (.tmp 56)),
   (some (52, false))⟩, ⟨(some 58), (.pick (.tmp 52) (.const (.bool true)) (.tmp 57)), none⟩, ⟨(some 59), (.mv (.tmp 58)), none⟩, ⟨(some 60), (.load (some 4) (.tmp 3)), (some (59,
  false))⟩, ⟨(some 61), (.mv (.tmp 11)), (some (59, false))⟩, ⟨(some 62), (.call (.func 31) [(.tmp 60), (.tmp 61)]), (some (59, false))⟩, ⟨(some 63), (.bin .neq (.tmp 62) (.const
  (.int .i64 0))), (some (59, false))⟩, ⟨(some 64), (.pick (.tmp 59) (.const (.bool true)) (.tmp 63)), none⟩]) (.cond (.tmp 64) (.seq (.region [⟨(some 6), (.mv (.const (.bool
  false))), none⟩]) .ret) .skip)) (.seq (.seq (.region [⟨(some 13), (.mv (.const (.int .i64 0))), none⟩]) (.block 0 (.loop (.seq (.seq (.region [⟨(some 65), (.mv (.tmp 13)), none⟩,
   ⟨(some 66), (.mv (.tmp 9)), none⟩, ⟨(some 67), (.len (.tmp 66)), none⟩, ⟨(some 68), (.bin .lss (.tmp 65) (.tmp 67)), none⟩]) (.cond (.tmp 68) .skip (.exit 0))) (.seq (.block 1
  (.seq (.draw [⟨(some 71), (.mv (.tmp 11)), none⟩, ⟨(some 72), (.mv (.tmp 9)), none⟩, ⟨(some 73), (.len (.tmp 72)), none⟩, ⟨(some 74), (.slc 1 (.tmp 71) none (some (.tmp 73))
  none), none⟩, ⟨(some 75), (.mv (.tmp 9)), none⟩, ⟨(some 76), (.mv (.tmp 13)), none⟩, ⟨(some 77), (.iaddrS 1 (.tmp 75) (.tmp 76)), none⟩, ⟨(some 78), (.load none (.tmp 77)),
  none⟩, ⟨(some 79), (.call (.func 32) [(.tmp 74), (.tmp 78)]), none⟩, ⟨(some 80), (.un .not (.tmp 79)), none⟩] []) (.cond (.tmp 80) (.seq (.region [⟨(some 6), (.mv (.const (.bool
  false))), none⟩]) .ret) .skip))) (.region [⟨(some 69), (.mv (.tmp 13)), none⟩, ⟨(some 70), (.bin .add (.tmp 69) (.const (.int .i64 1))), none⟩, ⟨(some 13), (.mv (.tmp 70)),
  none⟩])))))) (.seq (.draw [⟨(some 81), (.load (some 4) (.tmp 3)), none⟩, ⟨(some 82), (.mv (.tmp 11)), none⟩, ⟨(some 83), (.mv (.tmp 9)), none⟩, ⟨(some 84), (.len (.tmp 83)),
  none⟩, ⟨(some 85), (.slc 1 (.tmp 82) none (some (.tmp 84)) none), none⟩, ⟨(some 86), (.mv (.tmp 7)), none⟩, ⟨(some 87), (.call (.func 28) [(.tmp 81), (.tmp 85), (.tmp 86)]),
  none⟩, ⟨(some 88), (.mv (.tmp 8)), none⟩, ⟨(some 89), (.bin .eql (.tmp 87) (.tmp 88)), none⟩, ⟨(some 90), (.mv (.tmp 89)), none⟩, ⟨(some 91), (.call (.func 17) []), (some (90,
  true))⟩, ⟨(some 92), (.pick (.tmp 90) (.tmp 91) (.const (.bool false))), none⟩, ⟨(some 6), (.mv (.tmp 92)), none⟩] []) .ret)))))))))⟩
def af6 : AFn := ⟨117, [(.tmp 4)], (.seq (.region [⟨(some 2), (.box (.tmp 0)), none⟩, ⟨(some 4), (.mv (.const (.bool false))), none⟩]) (.seq (.seq (.region [⟨(some 16), (.load (some 4) (.tmp 2)),
  none⟩, ⟨(some 17), (.call (.func 29) [(.tmp 16)]), none⟩, ⟨(some 18), (.un .not (.tmp 17)), none⟩, ⟨(some 19), (.mv (.tmp 18)), none⟩, ⟨(some 20), (.mv (.tmp 1)), (some (19,
  false))⟩, ⟨(some 21), (.len (.tmp 20)), (some (19, false))⟩, ⟨(some 22), (.bin .gtr (.tmp 21) (.const (.int .i64 20))), (some (19, false))⟩, ⟨(some 23), (.pick (.tmp 19) (.const
  (.bool true)) (.tmp 22)), none⟩]) (.cond (.tmp 23) (.seq (.region [⟨(some 24), (.call (.func 17) []), none⟩, ⟨(some 4), (.mv (.tmp 24)), none⟩]) .ret) .skip)) (.seq (.region
  [⟨(some 26), (.load (some 4) (.tmp 2)), none⟩, ⟨(some 27), (.call (.func 20) [(.tmp 26)]), none⟩, ⟨(some 25), (.mv (.tmp 27)), none⟩, ⟨(some 28), (.ext (.tmp 25) 0), none⟩,
  ⟨(some 29), (.ext (.tmp 25) 1), none⟩, ⟨(some 5), (.mv (.tmp 28)), none⟩, ⟨(some 6), (.mv (.tmp 29)), none⟩]) (.seq (.seq (.region [⟨(some 30), (.mv (.tmp 6)), none⟩, ⟨(some 31),
   (.bin .neq (.tmp 30) (.const (.int .i64 0))), none⟩, ⟨(some 32), (.mv (.tmp 31)), none⟩, ⟨(some 33), (.mv (.tmp 6)), (some (32, true))⟩, ⟨(some 34), (.bin .neq (.tmp 33)
  (.const (.int .i64 13))), (some (32, true))⟩, ⟨(some 35), (.pick (.tmp 32) (.tmp 34) (.const (.bool false))), none⟩]) (.cond (.tmp 35) (.seq (.region [⟨(some 4), (.mv (.const
  (.bool false))), none⟩]) .ret) .skip)) (.seq (.region [⟨(some 7), (.mv (.const (.bool true))), none⟩]) (.seq (.seq (.region [⟨(some 8), (.mv (.const (.int .i64 0))), none⟩])
  (.block 0 (.loop (.seq (.seq (.region [⟨(some 36), (.mv (.tmp 8)), none⟩, ⟨(some 37), (.faddr 1 (.tmp 2)), none⟩, ⟨(some 38), (.load none (.tmp 37)), none⟩, ⟨(some 39), (.len
  (.tmp 38)), none⟩, ⟨(some 40), (.bin .lss (.tmp 36) (.tmp 39)), none⟩]) (.cond (.tmp 40) .skip (.exit 0))) (.seq (.block 1 (.seq (.region [⟨(some 44), (.load (some 4) (.tmp 2)),
  none⟩, ⟨(some 45), (.mv (.tmp 8)), none⟩, ⟨(some 46), (.call (.func 23) [(.tmp 44), (.tmp 45)]), none⟩, ⟨(some 43), (.mv (.tmp 46)), none⟩, ⟨(some 47), (.ext (.tmp 43) 0), none⟩,
   ⟨(some 48), (.ext (.tmp 43) 1), none⟩, ⟨(some 49), (.ext (.tmp 43) 2), none⟩, ⟨(some 9), (.mv (.tmp 47)), none⟩, ⟨(some 10), (.mv (.tmp 48)), none⟩, ⟨(some 11), (.mv (.tmp 49)),
   none⟩]) (.seq (.region [⟨(some 51), (.load (some 4) (.tmp 2)), none⟩, ⟨(some 52), (.mv (.tmp 8)), none⟩, ⟨(some 53), (.call (.func 24) [(.tmp 51), (.tmp 52)]), none⟩, ⟨(some
  50), (.mv (.tmp 53)), none⟩, ⟨(some 54), (.ext (.tmp 50) 0), none⟩, ⟨(some 55), (.ext (.tmp 50) 1), none⟩, ⟨(some 56), (.ext (.tmp 50) 2), none⟩, ⟨(some 12), (.mv (.tmp 54)),
  none⟩, ⟨(some 13), (.mv (.tmp 55)), none⟩, ⟨(some 14), (.mv (.tmp 56)), none⟩]) (.seq (.seq (.region [⟨(some 57), (.mv (.tmp 11)), none⟩, ⟨(some 58), (.bin .neq (.tmp 57)
  (.const (.int .i64 0))), none⟩, ⟨(some 59), (.mv (.tmp 58)), none⟩, ⟨(some 60), (.mv (.tmp 14)), (some (59, false))⟩, ⟨(some 61), (.bin .neq (.tmp 60) (.const (.int .i64 0))),
  (some (59, false))⟩, ⟨(some 62), (.pick (.tmp 59) (.const (.bool true)) (.tmp 61)), none⟩]) (.cond (.tmp 62) (.seq (.region [⟨(some 4), (.mv (.const (.bool false))), none⟩])
  .ret) .skip)) (.region [⟨(some 63), (.mv (.tmp 7)), none⟩, ⟨(some 64), (.mv (.tmp 63)), none⟩, ⟨(some 65), (.mv (.tmp 9)), (some (64, true))⟩, ⟨(some 66), (.faddr 1 (.tmp 2)),
  (some (64, true))⟩, ⟨(some 67), (.load none (.tmp 66)), (some (64, true))⟩, ⟨(some 68), (.mv (.tmp 8)), (some (64, true))⟩, ⟨(some 69), (.iaddrS 1 (.tmp 67) (.tmp 68)), (some
  (64, true))⟩, ⟨(some 70), (.load none (.tmp 69)), (some (64, true))⟩, ⟨(some 71), (.bin .leq (.tmp 65) (.tmp 70)), (some (64, true))⟩, ⟨(some 72), (.pick (.tmp 64) (.tmp 71)
  (.const (.bool false))), none⟩, ⟨(some 73), (.mv (.tmp 72)), none⟩, ⟨(some 74), (.mv (.tmp 12)), (some (73, true))⟩, ⟨(some 75), (.bin .geq (.tmp 74) (.const (.int .i64 0))),
  (some (73, true))⟩, ⟨(some 76), (.pick (.tmp 73) (.tmp 75) (.const (.bool false))), none⟩, ⟨(some 7), (.mv (.tmp 76)), none⟩]))))) (.region [⟨(some 41), (.mv (.tmp 8)), none⟩,
  ⟨(some 42), (.bin .add (.tmp 41) (.const (.int .i64 1))), none⟩, ⟨(some 8), (.mv (.tmp 42)), none⟩])))))) (.seq (.draw [⟨(some 77), (.load (some 4) (.tmp 2)), none⟩, ⟨(some 78),
  (.load (some 4) (.tmp 2)), none⟩, ⟨(some 79), (.mv (.tmp 1)), none⟩, ⟨(some 80), (.call (.func 34) [(.tmp 78), (.tmp 79)]), none⟩, ⟨(some 81), (.call (.func 33) [(.tmp 77),
  (.tmp 80)]), none⟩, ⟨(some 15), (.mv (.tmp 81)), none⟩] [(0, 3)]) (.seq (.seq (.region [⟨(some 82), (.mv (.tmp 7)), none⟩, ⟨(some 83), (.mv (.tmp 82)), none⟩, ⟨(some 84), (.mv
  (.tmp 15)), (some (83, true))⟩, ⟨(some 85), (.un .not (.tmp 84)), (some (83, true))⟩, ⟨(some 86), (.pick (.tmp 83) (.tmp 85) (.const (.bool false))), none⟩, ⟨(some 87), (.mv
  (.tmp 86)), none⟩, ⟨(some 88), (.mv (.tmp 7)), (some (87, false))⟩, ⟨(some 89), (.mv (.tmp 88)), (some (87, false))⟩, ⟨(some 90), (.mv (.tmp 15)), (some (89, false))⟩, ⟨(some
  91), (.pick (.tmp 89) (.const (.bool true)) (.tmp 90)), (some (87, false))⟩, ⟨(some 92), (.mv (.tmp 91)), (some (87, false))⟩, ⟨(some 93), (.mv (.tmp 6)), (some (92, true))⟩,
  ⟨(some 94), (.bin .neq (.tmp 93) (.const (.int .i64 0))), (some (92, true))⟩, ⟨(some 95), (.pick (.tmp 92) (.tmp 94) (.const (.bool false))), (some (87, false))⟩, ⟨(some 96),
  (.pick (.tmp 87) (.const (.bool true)) (.tmp 95)), none⟩]) (.cond (.tmp 96) (.seq (.region [⟨(some 4), (.mv (.const (.bool false))), none⟩]) .ret) .skip)) (.seq (.seq (.region
  [⟨(some 97), (.mv (.tmp 6)), none⟩, ⟨(some 98), (.bin .neq (.tmp 97) (.const (.int .i64 0))), none⟩]) (.cond (.tmp 98) (.seq (.region [⟨(some 99), (.mv (.tmp 5)), none⟩, ⟨(some
  100), (.len (.tmp 99)), none⟩, ⟨(some 101), (.bin .eql (.tmp 100) (.const (.int .i64 0))), none⟩, ⟨(some 102), (.mv (.tmp 101)), none⟩, ⟨(some 103), (.call (.func 17) []), (some
  (102, true))⟩, ⟨(some 104), (.pick (.tmp 102) (.tmp 103) (.const (.bool false))), none⟩, ⟨(some 4), (.mv (.tmp 104)), none⟩]) .ret) .skip)) (.seq (.region [⟨(some 105), (.load
  (some 4) (.tmp 2)), none⟩, ⟨(some 106), (.mv (.tmp 5)), none⟩, ⟨(some 107), (.call (.func 31) [(.tmp 105), (.tmp 106)]), none⟩, ⟨(some 108), (.bin .eql (.tmp 107) (.const (.int
  .i64 0))), none⟩, ⟨(some 109), (.mv (.tmp 108)), none⟩, ⟨(some 110), (.load (some 4) (.tmp 2)), (some (109, true))⟩, ⟨(some 111), (.mv (.tmp 5)), (some (109, true))⟩, ⟨(some
  112), (.call (.func 33) [(.tmp 110), (.tmp 111)]), (some (109, true))⟩, ⟨(some 113), (.pick (.tmp 109) (.tmp 112) (.const (.bool false))), none⟩, ⟨(some 114), (.mv (.tmp 113)),
  none⟩, ⟨(some 115), (.call (.func 17) []), (some (114, true))⟩, ⟨(some 116), (.pick (.tmp 114) (.tmp 115) (.const (.bool false))), none⟩, ⟨(some 4), (.mv (.tmp 116)), none⟩])
  .ret))))))))))⟩
def af7 : AFn := ⟨267, [(.tmp 4)], (.seq (.region [⟨(some 2), (.box (.tmp 0)), none⟩, ⟨(some 4), (.mv (.const (.bool false))), none⟩]) (.seq (.seq (.region [⟨(some 31), (.load (some 4) (.tmp 2)),
  none⟩, ⟨(some 32), (.call (.func 29) [(.tmp 31)]), none⟩, ⟨(some 33), (.un .not (.tmp 32)), none⟩]) (.cond (.tmp 33) (.seq (.region [⟨(some 34), (.call (.func 17) []), none⟩,
  ⟨(some 4), (.mv (.tmp 34)), none⟩]) .ret) .skip)) (.seq (.region [⟨(some 35), (.mv (.tmp 1)), none⟩, ⟨(some 36), (.conv .i64 (.tmp 35)), none⟩, ⟨(some 37), (.faddr 1 (.tmp 2)),
  none⟩, ⟨(some 38), (.load none (.tmp 37)), none⟩, ⟨(some 39), (.len (.tmp 38)), none⟩, ⟨(some 40), (.bin .rem (.tmp 36) (.tmp 39)), none⟩, ⟨(some 5), (.mv (.tmp 40)), none⟩])
  (.seq (.draw [⟨(some 41), (.bslice [] 0 1 []), none⟩, ⟨(some 42), (.faddr 0 (.tmp 2)), none⟩, ⟨(some 43), (.load none (.tmp 42)), none⟩, ⟨(some 44), (.app 1 8 (.tmp 41) (.tmp
  43)), none⟩, ⟨(some 45), (.faddr 1 (.tmp 2)), none⟩, ⟨(some 46), (.load none (.tmp 45)), none⟩, ⟨(some 47), (.len (.tmp 46)), none⟩, ⟨(some 48), (.mkslc [(.int .i64 0)] 8 (.tmp
  47) (.tmp 47)), none⟩, ⟨(some 49), (.build [(.slc none 0 0 true 0), (.slc none 0 0 true 0), (.slc none 0 0 true 0), (.slc none 0 0 true 0)] [(0, (1, (.tmp 44))), (1, (1, (.tmp
  48)))]), none⟩, ⟨(some 6), (.alloc [(.slc none 0 0 true 0), (.slc none 0 0 true 0), (.slc none 0 0 true 0), (.slc none 0 0 true 0)]), none⟩, ⟨none, (.store 4 (.tmp 6) (.tmp 49)),
   none⟩] [(0, 2), (0, 5), (3, 5), (0, 7), (2, 7), (3, 7), (0, 9), (2, 9), (3, 9), (5, 9), (7, 9)]) (.seq (.region [⟨(some 50), (.faddr 0 (.tmp 2)), none⟩, ⟨(some 51), (.load none
  (.tmp 50)), none⟩, ⟨(some 52), (.faddr 1 (.tmp 2)), none⟩, ⟨(some 53), (.load none (.tmp 52)), none⟩, ⟨(some 54), (.faddr 3 (.tmp 2)), none⟩, ⟨(some 55), (.load none (.tmp 54)),
  none⟩, ⟨(some 56), (.build [(.slc none 0 0 true 0), (.slc none 0 0 true 0), (.slc none 0 0 true 0), (.slc none 0 0 true 0)] [(0, (1, (.tmp 51))), (1, (1, (.tmp 53))), (3, (1,
  (.tmp 55)))]), none⟩, ⟨(some 7), (.alloc [(.slc none 0 0 true 0), (.slc none 0 0 true 0), (.slc none 0 0 true 0), (.slc none 0 0 true 0)]), none⟩, ⟨none, (.store 4 (.tmp 7)
  (.tmp 56)), none⟩]) (.seq (.seq (.region [⟨(some 8), (.mv (.const (.int .i64 0))), none⟩]) (.block 0 (.loop (.seq (.seq (.region [⟨(some 57), (.mv (.tmp 8)), none⟩, ⟨(some 58),
  (.faddr 1 (.tmp 6)), none⟩, ⟨(some 59), (.load none (.tmp 58)), none⟩, ⟨(some 60), (.len (.tmp 59)), none⟩, ⟨(some 61), (.bin .lss (.tmp 57) (.tmp 60)), none⟩]) (.cond (.tmp 61)
  .skip (.exit 0))) (.seq (.block 1 (.region [⟨(some 64), (.faddr 1 (.tmp 6)), none⟩, ⟨(some 65), (.load none (.tmp 64)), none⟩, ⟨(some 66), (.mv (.tmp 8)), none⟩, ⟨(some 67),
  (.iaddrS 1 (.tmp 65) (.tmp 66)), none⟩, ⟨none, (.store 1 (.tmp 67) (.const (.int .i64 100000))), none⟩])) (.region [⟨(some 62), (.mv (.tmp 8)), none⟩, ⟨(some 63), (.bin .add
  (.tmp 62) (.const (.int .i64 1))), none⟩, ⟨(some 8), (.mv (.tmp 63)), none⟩])))))) (.seq (.seq (.region [⟨(some 9), (.mv (.const (.int .i64 0))), none⟩]) (.block 2 (.loop (.seq
  (.seq (.region [⟨(some 68), (.mv (.tmp 9)), none⟩, ⟨(some 69), (.faddr 2 (.tmp 2)), none⟩, ⟨(some 70), (.load none (.tmp 69)), none⟩, ⟨(some 71), (.len (.tmp 70)), none⟩, ⟨(some
  72), (.bin .lss (.tmp 68) (.tmp 71)), none⟩]) (.cond (.tmp 72) .skip (.exit 2))) (.seq (.block 3 (.seq (.region [⟨(some 75), (.faddr 2 (.tmp 2)), none⟩, ⟨(some 76), (.load none
  (.tmp 75)), none⟩, ⟨(some 77), (.mv (.tmp 9)), none⟩, ⟨(some 78), (.iaddrS 4 (.tmp 76) (.tmp 77)), none⟩, ⟨(some 79), (.load (some 4) (.tmp 78)), none⟩, ⟨(some 10), (.alloc
  [(.int .i64 0), (.int .i64 0), (.int .i64 0), (.int .i64 0)]), none⟩, ⟨none, (.store 4 (.tmp 10) (.tmp 79)), none⟩]) (.seq (.draw [⟨(some 80), (.faddr 0 (.tmp 6)), none⟩, ⟨(some
  81), (.load none (.tmp 80)), none⟩, ⟨(some 82), (.faddr 0 (.tmp 10)), none⟩, ⟨(some 83), (.load none (.tmp 82)), none⟩, ⟨(some 84), (.iaddrS 1 (.tmp 81) (.tmp 83)), none⟩,
  ⟨(some 85), (.load none (.tmp 84)), none⟩, ⟨(some 86), (.faddr 1 (.tmp 10)), none⟩, ⟨(some 87), (.load none (.tmp 86)), none⟩, ⟨(some 88), (.bin .add (.tmp 85) (.tmp 87)), none⟩,
   ⟨(some 89), (.iaddrS 1 (.tmp 81) (.tmp 83)), none⟩, ⟨none, (.store 1 (.tmp 89) (.tmp 88)), none⟩] []) (.seq (.region [⟨(some 90), (.faddr 1 (.tmp 10)), none⟩, ⟨(some 91),
  (.load none (.tmp 90)), none⟩, ⟨(some 92), (.un .neg (.tmp 91)), none⟩, ⟨(some 93), (.faddr 1 (.tmp 10)), none⟩, ⟨none, (.store 1 (.tmp 93) (.tmp 92)), none⟩]) (.draw [⟨(some
  94), (.faddr 2 (.tmp 6)), none⟩, ⟨(some 95), (.load none (.tmp 94)), none⟩, ⟨(some 96), (.load (some 4) (.tmp 10)), none⟩, ⟨(some 97), (.bslice [(.int .i64 0), (.int .i64 0),
  (.int .i64 0), (.int .i64 0)] 1 4 [(0, (4, (.tmp 96)))]), none⟩, ⟨(some 98), (.app 4 32 (.tmp 95) (.tmp 97)), none⟩, ⟨(some 99), (.faddr 2 (.tmp 7)), none⟩, ⟨(some 100), (.load
  none (.tmp 99)), none⟩, ⟨(some 101), (.load (some 4) (.tmp 10)), none⟩, ⟨(some 102), (.bslice [(.int .i64 0), (.int .i64 0), (.int .i64 0), (.int .i64 0)] 1 4 [(0, (4, (.tmp
  101)))]), none⟩, ⟨(some 103), (.app 4 32 (.tmp 100) (.tmp 102)), none⟩, ⟨(some 104), (.faddr 2 (.tmp 6)), none⟩, ⟨none, (.store 1 (.tmp 104) (.tmp 98)), none⟩, ⟨(some 105),
  (.faddr 2 (.tmp 7)), none⟩, ⟨none, (.store 1 (.tmp 105) (.tmp 103)), none⟩] [(1, 3), (3, 6), (4, 6), (3, 7), (4, 7), (1, 8), (2, 8), (3, 8), (4, 8), (6, 8)]))))) (.region
  [⟨(some 73), (.mv (.tmp 9)), none⟩, ⟨(some 74), (.bin .add (.tmp 73) (.const (.int .i64 1))), none⟩, ⟨(some 9), (.mv (.tmp 74)), none⟩])))))) (.seq (.seq (.region [⟨(some 11),
  (.mv (.const (.int .i64 0))), none⟩]) (.block 4 (.loop (.seq (.seq (.region [⟨(some 106), (.mv (.tmp 11)), none⟩, ⟨(some 107), (.faddr 3 (.tmp 2)), none⟩, ⟨(some 108), (.load
  none (.tmp 107)), none⟩, ⟨(some 109), (.len (.tmp 108)), none⟩, ⟨(some 110), (.bin .lss (.tmp 106) (.tmp 109)), none⟩]) (.cond (.tmp 110) .skip (.exit 4))) (.seq (.block 5
  (.draw [⟨(some 113), (.faddr 3 (.tmp 6)), none⟩, ⟨(some 114), (.load none (.tmp 113)), none⟩, ⟨(some 115), (.faddr 3 (.tmp 2)), none⟩, ⟨(some 116), (.load none (.tmp 115)),
  none⟩, ⟨(some 117), (.mv (.tmp 11)), none⟩, ⟨(some 118), (.iaddrS 2 (.tmp 116) (.tmp 117)), none⟩, ⟨(some 119), (.iaddrA 2 1 (.tmp 118) (.const (.int .i64 1))), none⟩, ⟨(some
  120), (.load none (.tmp 119)), none⟩, ⟨(some 121), (.faddr 3 (.tmp 2)), none⟩, ⟨(some 122), (.load none (.tmp 121)), none⟩, ⟨(some 123), (.mv (.tmp 11)), none⟩, ⟨(some 124),
  (.iaddrS 2 (.tmp 122) (.tmp 123)), none⟩, ⟨(some 125), (.iaddrA 2 1 (.tmp 124) (.const (.int .i64 0))), none⟩, ⟨(some 126), (.load none (.tmp 125)), none⟩, ⟨(some 127), (.build
  [(.int .i64 0), (.int .i64 0)] [(0, (1, (.tmp 120))), (1, (1, (.tmp 126)))]), none⟩, ⟨(some 128), (.bslice [(.int .i64 0), (.int .i64 0)] 1 2 [(0, (2, (.tmp 127)))]), none⟩,
  ⟨(some 129), (.app 2 16 (.tmp 114) (.tmp 128)), none⟩, ⟨(some 130), (.faddr 3 (.tmp 6)), none⟩, ⟨none, (.store 1 (.tmp 130) (.tmp 129)), none⟩] [(1, 15)])) (.region [⟨(some 111),
   (.mv (.tmp 11)), none⟩, ⟨(some 112), (.bin .add (.tmp 111) (.const (.int .i64 1))), none⟩, ⟨(some 11), (.mv (.tmp 112)), none⟩])))))) (.seq (.region [⟨(some 132), (.load (some
  4) (.tmp 2)), none⟩, ⟨(some 133), (.mv (.tmp 5)), none⟩, ⟨(some 134), (.call (.func 23) [(.tmp 132), (.tmp 133)]), none⟩, ⟨(some 131), (.mv (.tmp 134)), none⟩, ⟨(some 135),
  (.ext (.tmp 131) 0), none⟩, ⟨(some 136), (.ext (.tmp 131) 1), none⟩, ⟨(some 137), (.ext (.tmp 131) 2), none⟩, ⟨(some 12), (.mv (.tmp 135)), none⟩, ⟨(some 13), (.mv (.tmp 136)),
  none⟩, ⟨(some 14), (.mv (.tmp 137)), none⟩]) (.seq (.region [⟨(some 139), (.load (some 4) (.tmp 2)), none⟩, ⟨(some 140), (.mv (.tmp 5)), none⟩, ⟨(some 141), (.call (.func 24)
  [(.tmp 139), (.tmp 140)]), none⟩, ⟨(some 138), (.mv (.tmp 141)), none⟩, ⟨(some 142), (.ext (.tmp 138) 0), none⟩, ⟨(some 143), (.ext (.tmp 138) 1), none⟩, ⟨(some 144), (.ext
  (.tmp 138) 2), none⟩, ⟨(some 15), (.mv (.tmp 142)), none⟩, ⟨(some 16), (.mv (.tmp 143)), none⟩, ⟨(some 17), (.mv (.tmp 144)), none⟩]) (.seq (.region [⟨(some 146), (.load (some
  4) (.tmp 7)), none⟩, ⟨(some 147), (.mv (.tmp 5)), none⟩, ⟨(some 148), (.call (.func 23) [(.tmp 146), (.tmp 147)]), none⟩, ⟨(some 145), (.mv (.tmp 148)), none⟩, ⟨(some 149),
  (.ext (.tmp 145) 0), none⟩, ⟨(some 150), (.ext (.tmp 145) 1), none⟩, ⟨(some 151), (.ext (.tmp 145) 2), none⟩, ⟨(some 18), (.mv (.tmp 149)), none⟩, ⟨(some 19), (.mv (.tmp 150)),
  none⟩, ⟨(some 20), (.mv (.tmp 151)), none⟩]) (.seq (.region [⟨(some 153), (.load (some 4) (.tmp 7)), none⟩, ⟨(some 154), (.mv (.tmp 5)), none⟩, ⟨(some 155), (.call (.func 24)
  [(.tmp 153), (.tmp 154)]), none⟩, ⟨(some 152), (.mv (.tmp 155)), none⟩, ⟨(some 156), (.ext (.tmp 152) 0), none⟩, ⟨(some 157), (.ext (.tmp 152) 1), none⟩, ⟨(some 158), (.ext
  (.tmp 152) 2), none⟩, ⟨(some 21), (.mv (.tmp 156)), none⟩, ⟨(some 22), (.mv (.tmp 157)), none⟩, ⟨(some 23), (.mv (.tmp 158)), none⟩]) (.seq (.region [⟨(some 160), (.load (some
  4) (.tmp 2)), none⟩, ⟨(some 161), (.call (.func 18) [(.tmp 160)]), none⟩, ⟨(some 159), (.mv (.tmp 161)), none⟩, ⟨(some 162), (.ext (.tmp 159) 0), none⟩, ⟨(some 163), (.ext (.tmp
  159) 1), none⟩, ⟨(some 24), (.mv (.tmp 162)), none⟩, ⟨(some 25), (.mv (.tmp 163)), none⟩]) (.seq (.seq (.draw [⟨(some 164), (.mv (.tmp 14)), none⟩, ⟨(some 165), (.bin .neq (.tmp
  164) (.const (.int .i64 0))), none⟩, ⟨(some 166), (.mv (.tmp 165)), none⟩, ⟨(some 167), (.mv (.tmp 17)), (some (166, false))⟩, ⟨(some 168), (.bin .neq (.tmp 167) (.const (.int
  .i64 0))), (some (166, false))⟩, ⟨(some 169), (.pick (.tmp 166) (.const (.bool true)) (.tmp 168)), none⟩, ⟨(some 170), (.mv (.tmp 169)), none⟩, ⟨(some 171), (.mv (.tmp 20)),
  (some (170, false))⟩, ⟨(some 172), (.bin .neq (.tmp 171) (.const (.int .i64 0))), (some (170, false))⟩, ⟨(some 173), (.pick (.tmp 170) (.const (.bool true)) (.tmp 172)), none⟩,
  ⟨(some 174), (.mv (.tmp 173)), none⟩, ⟨(some 175), (.mv (.tmp 23)), (some (174, false))⟩, ⟨(some 176), (.bin .neq (.tmp 175) (.const (.int .i64 0))), (some (174, false))⟩,
  ⟨(some 177), (.pick (.tmp 174) (.const (.bool true)) (.tmp 176)), none⟩, ⟨(some 178), (.mv (.tmp 177)), none⟩, ⟨(some 179), (.mv (.tmp 25)), (some (178, false))⟩, ⟨(some 180),
  (.bin .neq (.tmp 179) (.const (.int .i64 0))), (some (178, false))⟩, ⟨(some 181), (.pick (.tmp 178) (.const (.bool true)) (.tmp 180)), none⟩, ⟨(some 182), (.mv (.tmp 181)),
  none⟩, ⟨(some 183), (.mv (.tmp 18)), (some (182, false))⟩, ⟨(some 184), (.faddr 0 (.tmp 2)), (some (182, false))⟩, ⟨(some 185), (.load none (.tmp 184)), (some (182, false))⟩,
  ⟨(some 186), (.mv (.tmp 5)), (some (182, false))⟩, ⟨(some 187), (.iaddrS 1 (.tmp 185) (.tmp 186)), (some (182, false))⟩, ⟨(some 188), (.load none (.tmp 187)), (some (182,
  false))⟩, ⟨(some 189), (.bin .sub (.tmp 183) (.tmp 188)), (some (182, false))⟩, ⟨(some 190), (.faddr 0 (.tmp 2)), (some (182, false))⟩, ⟨(some 191), (.load none (.tmp 190)),
  (some (182, false))⟩, ⟨(some 192), (.mv (.tmp 5)), (some (182, false))⟩, ⟨(some 193), (.iaddrS 1 (.tmp 191) (.tmp 192)), (some (182, false))⟩, ⟨(some 194), (.load none (.tmp
  193)), (some (182, false))⟩, ⟨(some 195), (.mv (.tmp 15)), (some (182, false))⟩, ⟨(some 196), (.bin .sub (.tmp 194) (.tmp 195)), (some (182, false))⟩, ⟨(some 197), (.bin .neq
  (.tmp 189) (.tmp 196)), (some (182, false))⟩, ⟨(some 198), (.pick (.tmp 182) (.const (.bool true)) (.tmp 197)), none⟩, ⟨(some 199), (.mv (.tmp 198)), none⟩, ⟨(some 200), (.faddr
  0 (.tmp 2)), (some (199, false))⟩, ⟨(some 201), (.load none (.tmp 200)), (some (199, false))⟩, ⟨(some 202), (.mv (.tmp 5)), (some (199, false))⟩, ⟨(some 203), (.iaddrS 1 (.tmp
  201) (.tmp 202)), (some (199, false))⟩, ⟨(some 204), (.load none (.tmp 203)), (some (199, false))⟩, ⟨(some 205), (.mv (.tmp 21)), (some (199, false))⟩, ⟨(some 206), (.bin .sub
  (.tmp 204) (.tmp 205)), (some (199, false))⟩, ⟨(some 207), (.mv (.tmp 12)), (some (199, false))⟩, ⟨(some 208), (.faddr 0 (.tmp 2)), (some (199, false))⟩, ⟨(some 209), (.load
  none (.tmp 208)), (some (199, false))⟩, ⟨(some 210), (.mv (.tmp 5)), (some (199, false))⟩, ⟨(some 211), (.iaddrS 1 (.tmp 209) (.tmp 210)), (some (199, false))⟩, ⟨(some 212),
  (.load none (.tmp 211)), (some (199, false))⟩, ⟨(some 213), (.bin .sub (.tmp 207) (.tmp 212)), (some (199, false))⟩, ⟨(some 214), (.bin .neq (.tmp 206) (.tmp 213)), (some (199,
  false))⟩, ⟨(some 215), (.pick (.tmp 199) (.const (.bool true)) (.tmp 214)), none⟩] []) (.cond (.tmp 215) (.seq (.region [⟨(some 4), (.mv (.const (.bool false))), none⟩]) .ret)
  .skip)) (.seq (.seq (.region [⟨(some 216), (.load (some 4) (.tmp 6)), none⟩, ⟨(some 217), (.call (.func 29) [(.tmp 216)]), none⟩, ⟨(some 218), (.un .not (.tmp 217)), none⟩])
  (.cond (.tmp 218) (.seq (.region [⟨(some 219), (.call (.func 17) []), none⟩, ⟨(some 4), (.mv (.tmp 219)), none⟩]) .ret) .skip)) (.seq (.region [⟨(some 221), (.load (some 4)
  (.tmp 6)), none⟩, ⟨(some 222), (.mv (.tmp 5)), none⟩, ⟨(some 223), (.call (.func 23) [(.tmp 221), (.tmp 222)]), none⟩, ⟨(some 220), (.mv (.tmp 223)), none⟩, ⟨(some 224), (.ext
  (.tmp 220) 0), none⟩, ⟨(some 225), (.ext (.tmp 220) 1), none⟩, ⟨(some 226), (.ext (.tmp 220) 2), none⟩, ⟨(some 26), (.mv (.tmp 224)), none⟩, ⟨(some 27), (.mv (.tmp 225)), none⟩,
  ⟨(some 14), (.mv (.tmp 226)), none⟩]) (.seq (.region [⟨(some 228), (.load (some 4) (.tmp 6)), none⟩, ⟨(some 229), (.mv (.tmp 5)), none⟩, ⟨(some 230), (.call (.func 24) [(.tmp
  228), (.tmp 229)]), none⟩, ⟨(some 227), (.mv (.tmp 230)), none⟩, ⟨(some 231), (.ext (.tmp 227) 0), none⟩, ⟨(some 232), (.ext (.tmp 227) 1), none⟩, ⟨(some 233), (.ext (.tmp 227)
  2), none⟩, ⟨(some 28), (.mv (.tmp 231)), none⟩, ⟨(some 29), (.mv (.tmp 232)), none⟩, ⟨(some 17), (.mv (.tmp 233)), none⟩]) (.seq (.region [⟨(some 235), (.load (some 4) (.tmp 6)),
   none⟩, ⟨(some 236), (.call (.func 18) [(.tmp 235)]), none⟩, ⟨(some 234), (.mv (.tmp 236)), none⟩, ⟨(some 237), (.ext (.tmp 234) 0), none⟩, ⟨(some 238), (.ext (.tmp 234) 1),
  none⟩, ⟨(some 30), (.mv (.tmp 237)), none⟩, ⟨(some 20), (.mv (.tmp 238)), none⟩]) (.seq (.region [⟨(some 239), (.mv (.tmp 14)), none⟩, ⟨(some 240), (.bin .eql (.tmp 239) (.const
  (.int .i64 0))), none⟩, ⟨(some 241), (.mv (.tmp 240)), none⟩, ⟨(some 242), (.mv (.tmp 17)), (some (241, true))⟩, ⟨(some 243), (.bin .eql (.tmp 242) (.const (.int .i64 0))),
  (some (241, true))⟩, ⟨(some 244), (.pick (.tmp 241) (.tmp 243) (.const (.bool false))), none⟩, ⟨(some 245), (.mv (.tmp 244)), none⟩, ⟨(some 246), (.mv (.tmp 20)), (some (245,
  true))⟩, ⟨(some 247), (.bin .eql (.tmp 246) (.const (.int .i64 0))), (some (245, true))⟩, ⟨(some 248), (.pick (.tmp 245) (.tmp 247) (.const (.bool false))), none⟩, ⟨(some 249),
  (.mv (.tmp 248)), none⟩, ⟨(some 250), (.mv (.tmp 26)), (some (249, true))⟩, ⟨(some 251), (.mv (.tmp 12)), (some (249, true))⟩, ⟨(some 252), (.bin .eql (.tmp 250) (.tmp 251)),
  (some (249, true))⟩, ⟨(some 253), (.pick (.tmp 249) (.tmp 252) (.const (.bool false))), none⟩, ⟨(some 254), (.mv (.tmp 253)), none⟩, ⟨(some 255), (.mv (.tmp 28)), (some (254,
  true))⟩, ⟨(some 256), (.mv (.tmp 15)), (some (254, true))⟩, ⟨(some 257), (.bin .eql (.tmp 255) (.tmp 256)), (some (254, true))⟩, ⟨(some 258), (.pick (.tmp 254) (.tmp 257)
  (.const (.bool false))), none⟩, ⟨(some 259), (.mv (.tmp 258)), none⟩, ⟨(some 260), (.mv (.tmp 30)), (some (259, true))⟩, ⟨(some 261), (.mv (.tmp 24)), (some (259, true))⟩,
  ⟨(some 262), (.bin .eql (.tmp 260) (.tmp 261)), (some (259, true))⟩, ⟨(some 263), (.pick (.tmp 259) (.tmp 262) (.const (.bool false))), none⟩, ⟨(some 264), (.mv (.tmp 263)),
  none⟩, ⟨(some 265), (.call (.func 17) []), (some (264, true))⟩, ⟨(some 266), (.pick (.tmp 264) (.tmp 265) (.const (.bool false))), none⟩, ⟨(some 4), (.mv (.tmp 266)), none⟩])
  .ret)))))))))))))))))))⟩
def af8 : AFn := ⟨114, [(.tmp 6)], (.seq (.region [⟨(some 3), (.box (.tmp 0)), none⟩, ⟨(some 6), (.mv (.const (.bool false))), none⟩]) (.seq (.seq (.region [⟨(some 19), (.load (some 4) (.tmp 3)),
  none⟩, ⟨(some 20), (.call (.func 15) [(.tmp 19)]), none⟩, ⟨(some 21), (.mv (.tmp 20)), none⟩, ⟨(some 22), (.mv (.tmp 2)), (some (21, false))⟩, ⟨(some 23), (.len (.tmp 22)),
  (some (21, false))⟩, ⟨(some 24), (.bin .gtr (.tmp 23) (.const (.int .i64 110))), (some (21, false))⟩, ⟨(some 25), (.pick (.tmp 21) (.const (.bool true)) (.tmp 24)), none⟩])
  (.cond (.tmp 25) (.seq (.region [⟨(some 26), (.call (.func 17) []), none⟩, ⟨(some 6), (.mv (.tmp 26)), none⟩]) .ret) .skip)) (.seq (.region [⟨(some 28), (.load (some 4) (.tmp
  3)), none⟩, ⟨(some 29), (.mv (.tmp 1)), none⟩, ⟨(some 30), (.mv (.tmp 2)), none⟩, ⟨(some 31), (.call (.func 35) [(.tmp 28), (.tmp 29), (.tmp 30)]), none⟩, ⟨(some 27), (.mv (.tmp
  31)), none⟩, ⟨(some 32), (.ext (.tmp 27) 0), none⟩, ⟨(some 33), (.ext (.tmp 27) 1), none⟩, ⟨(some 7), (.mv (.tmp 32)), none⟩, ⟨(some 8), (.mv (.tmp 33)), none⟩]) (.seq (.region
  [⟨(some 35), (.load (some 4) (.tmp 3)), none⟩, ⟨(some 36), (.mv (.tmp 1)), none⟩, ⟨(some 37), (.mv (.tmp 2)), none⟩, ⟨(some 38), (.call (.func 36) [(.tmp 35), (.tmp 36), (.tmp
  37)]), none⟩, ⟨(some 34), (.mv (.tmp 38)), none⟩, ⟨(some 39), (.ext (.tmp 34) 0), none⟩, ⟨(some 40), (.ext (.tmp 34) 1), none⟩, ⟨(some 9), (.mv (.tmp 39)), none⟩, ⟨(some 10),
  (.mv (.tmp 40)), none⟩]) (.seq (.region [⟨(some 42), (.load (some 4) (.tmp 3)), none⟩, ⟨(some 43), (.mv (.tmp 1)), none⟩, ⟨(some 44), (.call (.func 37) [(.tmp 42), (.tmp 43)]),
  none⟩, ⟨(some 41), (.mv (.tmp 44)), none⟩, ⟨(some 45), (.ext (.tmp 41) 0), none⟩, ⟨(some 46), (.ext (.tmp 41) 1), none⟩, ⟨(some 11), (.mv (.tmp 45)), none⟩, ⟨(some 12), (.mv
  (.tmp 46)), none⟩]) (.seq (.region [⟨(some 48), (.load (some 4) (.tmp 3)), none⟩, ⟨(some 49), (.mv (.tmp 1)), none⟩, ⟨(some 50), (.call (.func 23) [(.tmp 48), (.tmp 49)]), none⟩,
   ⟨(some 47), (.mv (.tmp 50)), none⟩, ⟨(some 51), (.ext (.tmp 47) 0), none⟩, ⟨(some 52), (.ext (.tmp 47) 1), none⟩, ⟨(some 53), (.ext (.tmp 47) 2), none⟩, ⟨(some 13), (.mv (.tmp
  51)), none⟩, ⟨(some 14), (.mv (.tmp 52)), none⟩, ⟨(some 15), (.mv (.tmp 53)), none⟩]) (.seq (.region [⟨(some 54), (.load (some 4) (.tmp 3)), none⟩, ⟨(some 55), (.mv (.tmp 1)),
  none⟩, ⟨(some 56), (.call (.func 25) [(.tmp 54), (.tmp 55)]), none⟩, ⟨(some 16), (.mv (.tmp 56)), none⟩]) (.seq (.seq (.region [⟨(some 57), (.mv (.tmp 7)), none⟩, ⟨(some 58),
  (.mv (.tmp 9)), none⟩, ⟨(some 59), (.bin .neq (.tmp 57) (.tmp 58)), none⟩, ⟨(some 60), (.mv (.tmp 59)), none⟩, ⟨(some 61), (.mv (.tmp 8)), (some (60, false))⟩, ⟨(some 62), (.mv
  (.tmp 10)), (some (60, false))⟩, ⟨(some 63), (.bin .neq (.tmp 61) (.tmp 62)), (some (60, false))⟩, ⟨(some 64), (.pick (.tmp 60) (.const (.bool true)) (.tmp 63)), none⟩, ⟨(some
  65), (.mv (.tmp 64)), none⟩, ⟨(some 66), (.mv (.tmp 12)), (some (65, false))⟩, ⟨(some 67), (.mv (.tmp 16)), (some (65, false))⟩, ⟨(some 68), (.bin .neq (.tmp 66) (.tmp 67)),
  (some (65, false))⟩, ⟨(some 69), (.pick (.tmp 65) (.const (.bool true)) (.tmp 68)), none⟩, ⟨(some 70), (.mv (.tmp 69)), none⟩, ⟨(some 71), (.mv (.tmp 15)), (some (70, false))⟩,
  ⟨(some 72), (.mv (.tmp 16)), (some (70, false))⟩, ⟨(some 73), (.bin .neq (.tmp 71) (.tmp 72)), (some (70, false))⟩, ⟨(some 74), (.pick (.tmp 70) (.const (.bool true)) (.tmp 73)),
   none⟩]) (.cond (.tmp 74) (.seq (.region [⟨(some 6), (.mv (.const (.bool false))), none⟩]) .ret) .skip)) (.seq (.seq (.region [⟨(some 75), (.mv (.tmp 16)), none⟩, ⟨(some 76),
  (.bin .neq (.tmp 75) (.const (.int .i64 0))), none⟩]) (.cond (.tmp 76) (.seq (.region [⟨(some 77), (.mv (.tmp 11)), none⟩, ⟨(some 78), (.len (.tmp 77)), none⟩, ⟨(some 79), (.bin
  .eql (.tmp 78) (.const (.int .i64 0))), none⟩, ⟨(some 80), (.mv (.tmp 79)), none⟩, ⟨(some 81), (.call (.func 17) []), (some (80, true))⟩, ⟨(some 82), (.pick (.tmp 80) (.tmp 81)
  (.const (.bool false))), none⟩, ⟨(some 6), (.mv (.tmp 82)), none⟩]) .ret) .skip)) (.seq (.region [⟨(some 84), (.load (some 4) (.tmp 3)), none⟩, ⟨(some 85), (.mv (.tmp 1)), none⟩,
   ⟨(some 86), (.mv (.tmp 11)), none⟩, ⟨(some 87), (.call (.func 36) [(.tmp 84), (.tmp 85), (.tmp 86)]), none⟩, ⟨(some 83), (.mv (.tmp 87)), none⟩, ⟨(some 88), (.ext (.tmp 83) 0),
  none⟩, ⟨(some 89), (.ext (.tmp 83) 1), none⟩, ⟨(some 17), (.mv (.tmp 88)), none⟩, ⟨(some 18), (.mv (.tmp 89)), none⟩]) (.seq (.region [⟨(some 90), (.mv (.tmp 18)), none⟩, ⟨(some
  91), (.bin .eql (.tmp 90) (.const (.int .i64 0))), none⟩, ⟨(some 92), (.mv (.tmp 91)), none⟩, ⟨(some 93), (.mv (.tmp 17)), (some (92, true))⟩, ⟨(some 94), (.mv (.tmp 13)), (some
  (92, true))⟩, ⟨(some 95), (.bin .eql (.tmp 93) (.tmp 94)), (some (92, true))⟩, ⟨(some 96), (.pick (.tmp 92) (.tmp 95) (.const (.bool false))), none⟩, ⟨(some 97), (.mv (.tmp 96)),
   none⟩, ⟨(some 98), (.load (some 4) (.tmp 3)), (some (97, true))⟩, ⟨(some 99), (.mv (.tmp 14)), (some (97, true))⟩, ⟨(some 100), (.call (.func 27) [(.tmp 98), (.tmp 99)]), (some
  (97, true))⟩, ⟨(some 101), (.bin .eql (.tmp 100) (.const (.int .i64 0))), (some (97, true))⟩, ⟨(some 102), (.pick (.tmp 97) (.tmp 101) (.const (.bool false))), none⟩, ⟨(some
  103), (.mv (.tmp 102)), none⟩, ⟨(some 104), (.load (some 4) (.tmp 3)), (some (103, true))⟩, ⟨(some 105), (.mv (.tmp 14)), (some (103, true))⟩, ⟨(some 106), (.mv (.tmp 1)), (some
  (103, true))⟩, ⟨(some 107), (.call (.func 28) [(.tmp 104), (.tmp 105), (.tmp 106)]), (some (103, true))⟩, ⟨(some 108), (.mv (.tmp 13)), (some (103, true))⟩, ⟨(some 109), (.bin
  .eql (.tmp 107) (.tmp 108)), (some (103, true))⟩, ⟨(some 110), (.pick (.tmp 103) (.tmp 109) (.const (.bool false))), none⟩, ⟨(some 111), (.mv (.tmp 110)), none⟩, ⟨(some 112),
  (.call (.func 17) []), (some (111, true))⟩, ⟨(some 113), (.pick (.tmp 111) (.tmp 112) (.const (.bool false))), none⟩, ⟨(some 6), (.mv (.tmp 113)), none⟩]) .ret)))))))))))⟩
def af9 : AFn := ⟨69, [(.tmp 4)], (.seq (.region [⟨(some 2), (.box (.tmp 0)), none⟩, ⟨(some 3), (.box (.tmp 1)), none⟩, ⟨(some 4), (.mv (.const (.bool false))), none⟩]) (.seq (.seq (.region
  [⟨(some 11), (.load (some 4) (.tmp 2)), none⟩, ⟨(some 12), (.call (.func 15) [(.tmp 11)]), none⟩]) (.cond (.tmp 12) (.seq (.region [⟨(some 13), (.call (.func 17) []), none⟩,
  ⟨(some 4), (.mv (.tmp 13)), none⟩]) .ret) .skip)) (.seq (.region [⟨(some 15), (.load (some 4) (.tmp 2)), none⟩, ⟨(some 16), (.call (.func 38) [(.tmp 15)]), none⟩, ⟨(some 14),
  (.mv (.tmp 16)), none⟩, ⟨(some 17), (.ext (.tmp 14) 0), none⟩, ⟨(some 18), (.ext (.tmp 14) 1), none⟩, ⟨(some 5), (.alloc [(.int .i64 0), (.int .i64 0)]), none⟩, ⟨none, (.store 2
  (.tmp 5) (.tmp 17)), none⟩, ⟨(some 6), (.mv (.tmp 18)), none⟩]) (.seq (.region [⟨(some 20), (.load (some 4) (.tmp 2)), none⟩, ⟨(some 21), (.call (.func 39) [(.tmp 20)]), none⟩,
  ⟨(some 19), (.mv (.tmp 21)), none⟩, ⟨(some 22), (.ext (.tmp 19) 0), none⟩, ⟨(some 23), (.ext (.tmp 19) 1), none⟩, ⟨(some 7), (.alloc [(.int .i64 0), (.int .i64 0)]), none⟩,
  ⟨none, (.store 2 (.tmp 7) (.tmp 22)), none⟩, ⟨(some 8), (.mv (.tmp 23)), none⟩]) (.seq (.region [⟨(some 25), (.load (some 4) (.tmp 2)), none⟩, ⟨(some 26), (.load (some 2) (.tmp
  3)), none⟩, ⟨(some 27), (.call (.func 40) [(.tmp 25), (.tmp 26)]), none⟩, ⟨(some 24), (.mv (.tmp 27)), none⟩, ⟨(some 28), (.ext (.tmp 24) 0), none⟩, ⟨(some 29), (.ext (.tmp 24)
  1), none⟩, ⟨(some 9), (.mv (.tmp 28)), none⟩, ⟨(some 10), (.mv (.tmp 29)), none⟩]) (.seq (.seq (.region [⟨(some 30), (.load (some 2) (.tmp 5)), none⟩, ⟨(some 31), (.load (some
  2) (.tmp 7)), none⟩, ⟨(some 32), (.eqf true true [.int, .int] (.tmp 30) (.tmp 31)), none⟩, ⟨(some 33), (.mv (.tmp 32)), none⟩, ⟨(some 34), (.mv (.tmp 6)), (some (33, false))⟩,
  ⟨(some 35), (.mv (.tmp 8)), (some (33, false))⟩, ⟨(some 36), (.bin .neq (.tmp 34) (.tmp 35)), (some (33, false))⟩, ⟨(some 37), (.pick (.tmp 33) (.const (.bool true)) (.tmp 36)),
  none⟩, ⟨(some 38), (.mv (.tmp 37)), none⟩, ⟨(some 39), (.mv (.tmp 10)), (some (38, false))⟩, ⟨(some 40), (.load (some 4) (.tmp 2)), (some (38, false))⟩, ⟨(some 41), (.load (some
  2) (.tmp 3)), (some (38, false))⟩, ⟨(some 42), (.call (.func 41) [(.tmp 40), (.tmp 41)]), (some (38, false))⟩, ⟨(some 43), (.bin .neq (.tmp 39) (.tmp 42)), (some (38, false))⟩,
  ⟨(some 44), (.pick (.tmp 38) (.const (.bool true)) (.tmp 43)), none⟩]) (.cond (.tmp 44) (.seq (.region [⟨(some 4), (.mv (.const (.bool false))), none⟩]) .ret) .skip)) (.seq
  (.seq (.region [⟨(some 45), (.mv (.tmp 10)), none⟩, ⟨(some 46), (.bin .neq (.tmp 45) (.const (.int .i64 0))), none⟩]) (.cond (.tmp 46) (.seq (.region [⟨(some 47), (.mv (.tmp 9)),
   none⟩, ⟨(some 48), (.len (.tmp 47)), none⟩, ⟨(some 49), (.bin .eql (.tmp 48) (.const (.int .i64 0))), none⟩, ⟨(some 50), (.mv (.tmp 49)), none⟩, ⟨(some 51), (.call (.func 17)
  []), (some (50, true))⟩, ⟨(some 52), (.pick (.tmp 50) (.tmp 51) (.const (.bool false))), none⟩, ⟨(some 4), (.mv (.tmp 52)), none⟩]) .ret) .skip)) (.seq (.region [⟨(some 53),
  (.load (some 4) (.tmp 2)), none⟩, ⟨(some 54), (.mv (.tmp 9)), none⟩, ⟨(some 55), (.call (.func 31) [(.tmp 53), (.tmp 54)]), none⟩, ⟨(some 56), (.bin .eql (.tmp 55) (.const (.int
  .i64 0))), none⟩, ⟨(some 57), (.mv (.tmp 56)), none⟩, ⟨(some 58), (.load (some 4) (.tmp 2)), (some (57, true))⟩, ⟨(some 59), (.mv (.tmp 9)), (some (57, true))⟩, ⟨(some 60),
  (.iaddrA 2 1 (.tmp 3) (.const (.int .i64 0))), (some (57, true))⟩, ⟨(some 61), (.load none (.tmp 60)), (some (57, true))⟩, ⟨(some 62), (.iaddrA 2 1 (.tmp 3) (.const (.int .i64
  1))), (some (57, true))⟩, ⟨(some 63), (.load none (.tmp 62)), (some (57, true))⟩, ⟨(some 64), (.call (.func 42) [(.tmp 58), (.tmp 59), (.tmp 61), (.tmp 63)]), (some (57, true))⟩,
   ⟨(some 65), (.pick (.tmp 57) (.tmp 64) (.const (.bool false))), none⟩, ⟨(some 66), (.mv (.tmp 65)), none⟩, ⟨(some 67), (.call (.func 17) []), (some (66, true))⟩, ⟨(some 68),
  (.pick (.tmp 66) (.tmp 67) (.const (.bool false))), none⟩, ⟨(some 4), (.mv (.tmp 68)), none⟩]) .ret))))))))⟩
def af10 : AFn := ⟨241, [(.tmp 8)], (.seq (.region [⟨(some 4), (.box (.tmp 0)), none⟩, ⟨(some 5), (.box (.tmp 1)), none⟩, ⟨(some 7), (.box (.tmp 3)), none⟩, ⟨(some 8), (.mv (.const (.bool false))),
  none⟩]) (.seq (.seq (.region [⟨(some 34), (.load (some 4) (.tmp 4)), none⟩, ⟨(some 35), (.call (.func 29) [(.tmp 34)]), none⟩, ⟨(some 36), (.un .not (.tmp 35)), none⟩]) (.cond
  (.tmp 36) (.seq (.region [⟨(some 37), (.call (.func 17) []), none⟩, ⟨(some 8), (.mv (.tmp 37)), none⟩]) .ret) .skip)) (.seq (.region [⟨(some 38), (.load (some 4) (.tmp 4)),
  none⟩, ⟨(some 9), (.alloc [(.slc none 0 0 true 0), (.slc none 0 0 true 0), (.slc none 0 0 true 0), (.slc none 0 0 true 0)]), none⟩, ⟨none, (.store 4 (.tmp 9) (.tmp 38)), none⟩])
  (.seq (.draw [⟨(some 39), (.bslice [] 0 2 []), none⟩, ⟨(some 40), (.faddr 3 (.tmp 4)), none⟩, ⟨(some 41), (.load none (.tmp 40)), none⟩, ⟨(some 42), (.app 2 16 (.tmp 39) (.tmp
  41)), none⟩, ⟨(some 43), (.load (some 2) (.tmp 5)), none⟩, ⟨(some 44), (.bslice [(.int .i64 0), (.int .i64 0)] 1 2 [(0, (2, (.tmp 43)))]), none⟩, ⟨(some 45), (.app 2 16 (.tmp
  42) (.tmp 44)), none⟩, ⟨(some 46), (.faddr 3 (.tmp 9)), none⟩, ⟨none, (.store 1 (.tmp 46) (.tmp 45)), none⟩] [(0, 2), (0, 4), (3, 4), (0, 5), (2, 5), (3, 5)]) (.seq (.seq
  (.region [⟨(some 47), (.load (some 4) (.tmp 9)), none⟩, ⟨(some 48), (.call (.func 29) [(.tmp 47)]), none⟩, ⟨(some 49), (.un .not (.tmp 48)), none⟩, ⟨(some 50), (.mv (.tmp 49)),
  none⟩, ⟨(some 51), (.faddr 2 (.tmp 4)), (some (50, false))⟩, ⟨(some 52), (.load none (.tmp 51)), (some (50, false))⟩, ⟨(some 53), (.len (.tmp 52)), (some (50, false))⟩, ⟨(some
  54), (.bin .eql (.tmp 53) (.const (.int .i64 0))), (some (50, false))⟩, ⟨(some 55), (.pick (.tmp 50) (.const (.bool true)) (.tmp 54)), none⟩]) (.cond (.tmp 55) (.seq (.region
  [⟨(some 56), (.call (.func 17) []), none⟩, ⟨(some 8), (.mv (.tmp 56)), none⟩]) .ret) .skip)) (.seq (.region [⟨(some 57), (.mv (.tmp 2)), none⟩, ⟨(some 58), (.conv .i64 (.tmp
  57)), none⟩, ⟨(some 59), (.faddr 1 (.tmp 4)), none⟩, ⟨(some 60), (.load none (.tmp 59)), none⟩, ⟨(some 61), (.len (.tmp 60)), none⟩, ⟨(some 62), (.bin .rem (.tmp 58) (.tmp 61)),
  none⟩, ⟨(some 10), (.mv (.tmp 62)), none⟩]) (.seq (.draw [⟨(some 63), (.iaddrA 2 1 (.tmp 7) (.const (.int .i64 0))), none⟩, ⟨(some 64), (.load none (.tmp 63)), none⟩, ⟨(some 65),
   (.conv .i64 (.tmp 64)), none⟩, ⟨(some 66), (.faddr 2 (.tmp 4)), none⟩, ⟨(some 67), (.load none (.tmp 66)), none⟩, ⟨(some 68), (.len (.tmp 67)), none⟩, ⟨(some 69), (.bin .rem
  (.tmp 65) (.tmp 68)), none⟩, ⟨(some 70), (.iaddrA 2 1 (.tmp 7) (.const (.int .i64 1))), none⟩, ⟨(some 71), (.load none (.tmp 70)), none⟩, ⟨(some 72), (.conv .i64 (.tmp 71)),
  none⟩, ⟨(some 73), (.faddr 2 (.tmp 4)), none⟩, ⟨(some 74), (.load none (.tmp 73)), none⟩, ⟨(some 75), (.len (.tmp 74)), none⟩, ⟨(some 76), (.bin .rem (.tmp 72) (.tmp 75)), none⟩,
   ⟨(some 77), (.build [(.int .i64 0), (.int .i64 0)] [(0, (1, (.tmp 69))), (1, (1, (.tmp 76)))]), none⟩, ⟨(some 11), (.alloc [(.int .i64 0), (.int .i64 0)]), none⟩, ⟨none,
  (.store 2 (.tmp 11) (.tmp 77)), none⟩] [(1, 15), (4, 15), (8, 15), (11, 15)]) (.seq (.region [⟨(some 79), (.load (some 4) (.tmp 4)), none⟩, ⟨(some 80), (.call (.func 18) [(.tmp
  79)]), none⟩, ⟨(some 78), (.mv (.tmp 80)), none⟩, ⟨(some 81), (.ext (.tmp 78) 0), none⟩, ⟨(some 82), (.ext (.tmp 78) 1), none⟩, ⟨(some 12), (.mv (.tmp 81)), none⟩, ⟨(some 13),
  (.mv (.tmp 82)), none⟩]) (.seq (.region [⟨(some 84), (.load (some 4) (.tmp 9)), none⟩, ⟨(some 85), (.call (.func 18) [(.tmp 84)]), none⟩, ⟨(some 83), (.mv (.tmp 85)), none⟩,
  ⟨(some 86), (.ext (.tmp 83) 0), none⟩, ⟨(some 87), (.ext (.tmp 83) 1), none⟩, ⟨(some 14), (.mv (.tmp 86)), none⟩, ⟨(some 15), (.mv (.tmp 87)), none⟩]) (.seq (.region [⟨(some 89),
   (.load (some 4) (.tmp 4)), none⟩, ⟨(some 90), (.mv (.tmp 10)), none⟩, ⟨(some 91), (.call (.func 23) [(.tmp 89), (.tmp 90)]), none⟩, ⟨(some 88), (.mv (.tmp 91)), none⟩, ⟨(some
  92), (.ext (.tmp 88) 0), none⟩, ⟨(some 93), (.ext (.tmp 88) 1), none⟩, ⟨(some 94), (.ext (.tmp 88) 2), none⟩, ⟨(some 16), (.mv (.tmp 92)), none⟩, ⟨(some 17), (.mv (.tmp 93)),
  none⟩, ⟨(some 18), (.mv (.tmp 94)), none⟩]) (.seq (.region [⟨(some 96), (.load (some 4) (.tmp 9)), none⟩, ⟨(some 97), (.mv (.tmp 10)), none⟩, ⟨(some 98), (.call (.func 23)
  [(.tmp 96), (.tmp 97)]), none⟩, ⟨(some 95), (.mv (.tmp 98)), none⟩, ⟨(some 99), (.ext (.tmp 95) 0), none⟩, ⟨(some 100), (.ext (.tmp 95) 1), none⟩, ⟨(some 101), (.ext (.tmp 95)
  2), none⟩, ⟨(some 19), (.mv (.tmp 99)), none⟩, ⟨(some 20), (.mv (.tmp 100)), none⟩, ⟨(some 21), (.mv (.tmp 101)), none⟩]) (.seq (.region [⟨(some 103), (.load (some 4) (.tmp 4)),
  none⟩, ⟨(some 104), (.mv (.tmp 10)), none⟩, ⟨(some 105), (.call (.func 24) [(.tmp 103), (.tmp 104)]), none⟩, ⟨(some 102), (.mv (.tmp 105)), none⟩, ⟨(some 106), (.ext (.tmp 102)
  0), none⟩, ⟨(some 107), (.ext (.tmp 102) 1), none⟩, ⟨(some 108), (.ext (.tmp 102) 2), none⟩, ⟨(some 22), (.mv (.tmp 106)), none⟩, ⟨(some 23), (.mv (.tmp 107)), none⟩, ⟨(some 24),
   (.mv (.tmp 108)), none⟩]) (.seq (.region [⟨(some 110), (.load (some 4) (.tmp 9)), none⟩, ⟨(some 111), (.mv (.tmp 10)), none⟩, ⟨(some 112), (.call (.func 24) [(.tmp 110), (.tmp
  111)]), none⟩, ⟨(some 109), (.mv (.tmp 112)), none⟩, ⟨(some 113), (.ext (.tmp 109) 0), none⟩, ⟨(some 114), (.ext (.tmp 109) 1), none⟩, ⟨(some 115), (.ext (.tmp 109) 2), none⟩,
  ⟨(some 25), (.mv (.tmp 113)), none⟩, ⟨(some 26), (.mv (.tmp 114)), none⟩, ⟨(some 27), (.mv (.tmp 115)), none⟩]) (.seq (.region [⟨(some 117), (.load (some 4) (.tmp 4)), none⟩,
  ⟨(some 118), (.load (some 2) (.tmp 11)), none⟩, ⟨(some 119), (.call (.func 40) [(.tmp 117), (.tmp 118)]), none⟩, ⟨(some 116), (.mv (.tmp 119)), none⟩, ⟨(some 120), (.ext (.tmp
  116) 0), none⟩, ⟨(some 121), (.ext (.tmp 116) 1), none⟩, ⟨(some 28), (.mv (.tmp 120)), none⟩, ⟨(some 29), (.mv (.tmp 121)), none⟩]) (.seq (.region [⟨(some 123), (.load (some 4)
  (.tmp 9)), none⟩, ⟨(some 124), (.load (some 2) (.tmp 11)), none⟩, ⟨(some 125), (.call (.func 40) [(.tmp 123), (.tmp 124)]), none⟩, ⟨(some 122), (.mv (.tmp 125)), none⟩, ⟨(some
  126), (.ext (.tmp 122) 0), none⟩, ⟨(some 127), (.ext (.tmp 122) 1), none⟩, ⟨(some 30), (.mv (.tmp 126)), none⟩, ⟨(some 31), (.mv (.tmp 127)), none⟩]) (.seq (.region [⟨(some 129),
   (.load (some 4) (.tmp 4)), none⟩, ⟨(some 130), (.iaddrA 2 1 (.tmp 5) (.const (.int .i64 0))), none⟩, ⟨(some 131), (.load none (.tmp 130)), none⟩, ⟨(some 132), (.iaddrA 2 1
  (.tmp 5) (.const (.int .i64 1))), none⟩, ⟨(some 133), (.load none (.tmp 132)), none⟩, ⟨(some 134), (.call (.func 43) [(.tmp 129), (.tmp 131), (.tmp 133)]), none⟩, ⟨(some 128),
  (.mv (.tmp 134)), none⟩, ⟨(some 135), (.ext (.tmp 128) 0), none⟩, ⟨(some 136), (.ext (.tmp 128) 1), none⟩, ⟨(some 32), (.mv (.tmp 135)), none⟩, ⟨(some 33), (.mv (.tmp 136)),
  none⟩]) (.seq (.seq (.region [⟨(some 137), (.mv (.tmp 13)), none⟩, ⟨(some 138), (.bin .neq (.tmp 137) (.const (.int .i64 0))), none⟩, ⟨(some 139), (.mv (.tmp 138)), none⟩,
  ⟨(some 140), (.mv (.tmp 15)), (some (139, false))⟩, ⟨(some 141), (.bin .neq (.tmp 140) (.const (.int .i64 0))), (some (139, false))⟩, ⟨(some 142), (.pick (.tmp 139) (.const
  (.bool true)) (.tmp 141)), none⟩, ⟨(some 143), (.mv (.tmp 142)), none⟩, ⟨(some 144), (.mv (.tmp 18)), (some (143, false))⟩, ⟨(some 145), (.bin .neq (.tmp 144) (.const (.int .i64
  0))), (some (143, false))⟩, ⟨(some 146), (.pick (.tmp 143) (.const (.bool true)) (.tmp 145)), none⟩, ⟨(some 147), (.mv (.tmp 146)), none⟩, ⟨(some 148), (.mv (.tmp 21)), (some
  (147, false))⟩, ⟨(some 149), (.bin .neq (.tmp 148) (.const (.int .i64 0))), (some (147, false))⟩, ⟨(some 150), (.pick (.tmp 147) (.const (.bool true)) (.tmp 149)), none⟩, ⟨(some
  151), (.mv (.tmp 150)), none⟩, ⟨(some 152), (.mv (.tmp 24)), (some (151, false))⟩, ⟨(some 153), (.bin .neq (.tmp 152) (.const (.int .i64 0))), (some (151, false))⟩, ⟨(some 154),
  (.pick (.tmp 151) (.const (.bool true)) (.tmp 153)), none⟩, ⟨(some 155), (.mv (.tmp 154)), none⟩, ⟨(some 156), (.mv (.tmp 27)), (some (155, false))⟩, ⟨(some 157), (.bin .neq
  (.tmp 156) (.const (.int .i64 0))), (some (155, false))⟩, ⟨(some 158), (.pick (.tmp 155) (.const (.bool true)) (.tmp 157)), none⟩, ⟨(some 159), (.mv (.tmp 158)), none⟩, ⟨(some
  160), (.mv (.tmp 33)), (some (159, false))⟩, ⟨(some 161), (.bin .neq (.tmp 160) (.const (.int .i64 0))), (some (159, false))⟩, ⟨(some 162), (.pick (.tmp 159) (.const (.bool
  true)) (.tmp 161)), none⟩, ⟨(some 163), (.mv (.tmp 162)), none⟩, ⟨(some 164), (.mv (.tmp 29)), (some (163, false))⟩, ⟨(some 165), (.bin .neq (.tmp 164) (.const (.int .i64 0))),
  (some (163, false))⟩, ⟨(some 166), (.mv (.tmp 165)), (some (163, false))⟩, ⟨(some 167), (.mv (.tmp 29)), (some (166, true))⟩, ⟨(some 168), (.bin .neq (.tmp 167) (.const (.int
  .i64 5))), (some (166, true))⟩, ⟨(some 169), (.pick (.tmp 166) (.tmp 168) (.const (.bool false))), (some (163, false))⟩, ⟨(some 170), (.pick (.tmp 163) (.const (.bool true))
  (.tmp 169)), none⟩, ⟨(some 171), (.mv (.tmp 170)), none⟩, ⟨(some 172), (.mv (.tmp 31)), (some (171, false))⟩, ⟨(some 173), (.bin .neq (.tmp 172) (.const (.int .i64 0))), (some
  (171, false))⟩, ⟨(some 174), (.mv (.tmp 173)), (some (171, false))⟩, ⟨(some 175), (.mv (.tmp 31)), (some (174, true))⟩, ⟨(some 176), (.bin .neq (.tmp 175) (.const (.int .i64
  5))), (some (174, true))⟩, ⟨(some 177), (.pick (.tmp 174) (.tmp 176) (.const (.bool false))), (some (171, false))⟩, ⟨(some 178), (.pick (.tmp 171) (.const (.bool true)) (.tmp
  177)), none⟩]) (.cond (.tmp 178) (.seq (.region [⟨(some 8), (.mv (.const (.bool false))), none⟩]) .ret) .skip)) (.seq (.seq (.region [⟨(some 179), (.mv (.tmp 12)), none⟩, ⟨(some
  180), (.bin .lss (.tmp 179) (.const (.int .i64 1))), none⟩, ⟨(some 181), (.mv (.tmp 180)), none⟩, ⟨(some 182), (.mv (.tmp 14)), (some (181, false))⟩, ⟨(some 183), (.bin .lss
  (.tmp 182) (.const (.int .i64 1))), (some (181, false))⟩, ⟨(some 184), (.pick (.tmp 181) (.const (.bool true)) (.tmp 183)), none⟩, ⟨(some 185), (.mv (.tmp 184)), none⟩, ⟨(some
  186), (.mv (.tmp 14)), (some (185, false))⟩, ⟨(some 187), (.mv (.tmp 12)), (some (185, false))⟩, ⟨(some 188), (.bin .gtr (.tmp 186) (.tmp 187)), (some (185, false))⟩, ⟨(some
  189), (.pick (.tmp 185) (.const (.bool true)) (.tmp 188)), none⟩, ⟨(some 190), (.mv (.tmp 189)), none⟩, ⟨(some 191), (.mv (.tmp 19)), (some (190, false))⟩, ⟨(some 192), (.mv
  (.tmp 16)), (some (190, false))⟩, ⟨(some 193), (.bin .gtr (.tmp 191) (.tmp 192)), (some (190, false))⟩, ⟨(some 194), (.pick (.tmp 190) (.const (.bool true)) (.tmp 193)), none⟩,
  ⟨(some 195), (.mv (.tmp 194)), none⟩, ⟨(some 196), (.mv (.tmp 25)), (some (195, false))⟩, ⟨(some 197), (.mv (.tmp 22)), (some (195, false))⟩, ⟨(some 198), (.bin .lss (.tmp 196)
  (.tmp 197)), (some (195, false))⟩, ⟨(some 199), (.pick (.tmp 195) (.const (.bool true)) (.tmp 198)), none⟩, ⟨(some 200), (.mv (.tmp 199)), none⟩, ⟨(some 201), (.mv (.tmp 31)),
  (some (200, false))⟩, ⟨(some 202), (.bin .eql (.tmp 201) (.const (.int .i64 0))), (some (200, false))⟩, ⟨(some 203), (.mv (.tmp 202)), (some (200, false))⟩, ⟨(some 204), (.mv
  (.tmp 29)), (some (203, true))⟩, ⟨(some 205), (.bin .neq (.tmp 204) (.const (.int .i64 0))), (some (203, true))⟩, ⟨(some 206), (.pick (.tmp 203) (.tmp 205) (.const (.bool
  false))), (some (200, false))⟩, ⟨(some 207), (.pick (.tmp 200) (.const (.bool true)) (.tmp 206)), none⟩]) (.cond (.tmp 207) (.seq (.region [⟨(some 8), (.mv (.const (.bool
  false))), none⟩]) .ret) .skip)) (.seq (.region [⟨(some 208), (.mv (.tmp 32)), none⟩, ⟨(some 209), (.un .not (.tmp 208)), none⟩, ⟨(some 210), (.mv (.tmp 209)), none⟩, ⟨(some 211),
   (.mv (.tmp 14)), (some (210, false))⟩, ⟨(some 212), (.mv (.tmp 12)), (some (210, false))⟩, ⟨(some 213), (.bin .eql (.tmp 211) (.tmp 212)), (some (210, false))⟩, ⟨(some 214),
  (.mv (.tmp 213)), (some (210, false))⟩, ⟨(some 215), (.mv (.tmp 19)), (some (214, true))⟩, ⟨(some 216), (.mv (.tmp 16)), (some (214, true))⟩, ⟨(some 217), (.bin .eql (.tmp 215)
  (.tmp 216)), (some (214, true))⟩, ⟨(some 218), (.pick (.tmp 214) (.tmp 217) (.const (.bool false))), (some (210, false))⟩, ⟨(some 219), (.mv (.tmp 218)), (some (210, false))⟩,
  ⟨(some 220), (.mv (.tmp 25)), (some (219, true))⟩, ⟨(some 221), (.mv (.tmp 22)), (some (219, true))⟩, ⟨(some 222), (.bin .eql (.tmp 220) (.tmp 221)), (some (219, true))⟩, ⟨(some
  223), (.pick (.tmp 219) (.tmp 222) (.const (.bool false))), (some (210, false))⟩, ⟨(some 224), (.mv (.tmp 223)), (some (210, false))⟩, ⟨(some 225), (.mv (.tmp 29)), (some (224,
  true))⟩, ⟨(some 226), (.mv (.tmp 31)), (some (224, true))⟩, ⟨(some 227), (.bin .eql (.tmp 225) (.tmp 226)), (some (224, true))⟩, ⟨(some 228), (.pick (.tmp 224) (.tmp 227)
  (.const (.bool false))), (some (210, false))⟩, ⟨(some 229), (.pick (.tmp 210) (.const (.bool true)) (.tmp 228)), none⟩, ⟨(some 230), (.mv (.tmp 229)), none⟩, ⟨(some 231), (.mv
  (.tmp 32)), (some (230, true))⟩, ⟨(some 232), (.mv (.tmp 231)), (some (230, true))⟩, ⟨(some 233), (.mv (.tmp 14)), (some (232, false))⟩, ⟨(some 234), (.mv (.tmp 12)), (some (232,
   false))⟩, ⟨(some 235), (.bin .lss (.tmp 233) (.tmp 234)), (some (232, false))⟩, ⟨(some 236), (.pick (.tmp 232) (.const (.bool true)) (.tmp 235)), (some (230, true))⟩, ⟨(some
  237), (.pick (.tmp 230) (.tmp 236) (.const (.bool false))), none⟩, ⟨(some 238), (.mv (.tmp 237)), none⟩, ⟨(some 239), (.call (.func 17) []), (some (238, true))⟩, ⟨(some 240),
  (.pick (.tmp 238) (.tmp 239) (.const (.bool false))), none⟩, ⟨(some 8), (.mv (.tmp 240)), none⟩]) .ret)))))))))))))))))))⟩
def af11 : AFn := ⟨320, [(.tmp 6)], (.seq (.region [⟨(some 3), (.box (.tmp 0)), none⟩, ⟨(some 5), (.box (.tmp 2)), none⟩, ⟨(some 6), (.mv (.const (.bool false))), none⟩]) (.seq (.seq (.region
  [⟨(some 28), (.load (some 4) (.tmp 3)), none⟩, ⟨(some 29), (.call (.func 29) [(.tmp 28)]), none⟩, ⟨(some 30), (.un .not (.tmp 29)), none⟩, ⟨(some 31), (.mv (.tmp 30)), none⟩,
  ⟨(some 32), (.mv (.tmp 1)), (some (31, false))⟩, ⟨(some 33), (.len (.tmp 32)), (some (31, false))⟩, ⟨(some 34), (.bin .gtr (.tmp 33) (.const (.int .i64 20))), (some (31,
  false))⟩, ⟨(some 35), (.pick (.tmp 31) (.const (.bool true)) (.tmp 34)), none⟩, ⟨(some 36), (.mv (.tmp 35)), none⟩, ⟨(some 37), (.faddr 2 (.tmp 3)), (some (36, false))⟩, ⟨(some
  38), (.load none (.tmp 37)), (some (36, false))⟩, ⟨(some 39), (.len (.tmp 38)), (some (36, false))⟩, ⟨(some 40), (.bin .eql (.tmp 39) (.const (.int .i64 0))), (some (36,
  false))⟩, ⟨(some 41), (.pick (.tmp 36) (.const (.bool true)) (.tmp 40)), none⟩]) (.cond (.tmp 41) (.seq (.region [⟨(some 42), (.call (.func 17) []), none⟩, ⟨(some 6), (.mv (.tmp
  42)), none⟩]) .ret) .skip)) (.seq (.region [⟨(some 43), (.load (some 4) (.tmp 3)), none⟩, ⟨(some 44), (.mv (.tmp 1)), none⟩, ⟨(some 45), (.call (.func 34) [(.tmp 43), (.tmp
  44)]), none⟩, ⟨(some 7), (.mv (.tmp 45)), none⟩]) (.seq (.region [⟨(some 47), (.load (some 4) (.tmp 3)), none⟩, ⟨(some 48), (.call (.func 38) [(.tmp 47)]), none⟩, ⟨(some 46),
  (.mv (.tmp 48)), none⟩, ⟨(some 49), (.ext (.tmp 46) 0), none⟩, ⟨(some 50), (.ext (.tmp 46) 1), none⟩, ⟨(some 8), (.alloc [(.int .i64 0), (.int .i64 0)]), none⟩, ⟨none, (.store 2
  (.tmp 8) (.tmp 49)), none⟩, ⟨(some 9), (.mv (.tmp 50)), none⟩]) (.seq (.seq (.region [⟨(some 51), (.mv (.tmp 9)), none⟩, ⟨(some 52), (.bin .neq (.tmp 51) (.const (.int .i64 0))),
   none⟩, ⟨(some 53), (.mv (.tmp 52)), none⟩, ⟨(some 54), (.mv (.tmp 9)), (some (53, true))⟩, ⟨(some 55), (.bin .neq (.tmp 54) (.const (.int .i64 5))), (some (53, true))⟩, ⟨(some
  56), (.pick (.tmp 53) (.tmp 55) (.const (.bool false))), none⟩]) (.cond (.tmp 56) (.seq (.region [⟨(some 6), (.mv (.const (.bool false))), none⟩]) .ret) .skip)) (.seq (.seq
  (.region [⟨(some 10), (.mv (.const (.int .i64 0))), none⟩]) (.block 0 (.loop (.seq (.seq (.region [⟨(some 57), (.mv (.tmp 10)), none⟩, ⟨(some 58), (.mv (.tmp 7)), none⟩, ⟨(some
  59), (.len (.tmp 58)), none⟩, ⟨(some 60), (.bin .lss (.tmp 57) (.tmp 59)), none⟩]) (.cond (.tmp 60) .skip (.exit 0))) (.seq (.block 1 (.seq (.region [⟨(some 11), (.mv (.const
  (.int .i64 0))), none⟩]) (.block 2 (.loop (.seq (.seq (.region [⟨(some 63), (.mv (.tmp 11)), none⟩, ⟨(some 64), (.mv (.tmp 7)), none⟩, ⟨(some 65), (.len (.tmp 64)), none⟩,
  ⟨(some 66), (.bin .lss (.tmp 63) (.tmp 65)), none⟩]) (.cond (.tmp 66) .skip (.exit 2))) (.seq (.block 3 (.seq (.draw [⟨(some 69), (.faddr 2 (.tmp 3)), none⟩, ⟨(some 70), (.load
  none (.tmp 69)), none⟩, ⟨(some 71), (.mv (.tmp 7)), none⟩, ⟨(some 72), (.mv (.tmp 10)), none⟩, ⟨(some 73), (.iaddrS 1 (.tmp 71) (.tmp 72)), none⟩, ⟨(some 74), (.load none (.tmp
  73)), none⟩, ⟨(some 75), (.iaddrS 4 (.tmp 70) (.tmp 74)), none⟩, ⟨(some 76), (.load (some 4) (.tmp 75)), none⟩, ⟨(some 77), (.faddr 2 (.tmp 3)), none⟩, ⟨(some 78), (.load none
  (.tmp 77)), none⟩, ⟨(some 79), (.mv (.tmp 7)), none⟩, ⟨(some 80), (.mv (.tmp 11)), none⟩, ⟨(some 81), (.iaddrS 1 (.tmp 79) (.tmp 80)), none⟩, ⟨(some 82), (.load none (.tmp 81)),
  none⟩, ⟨(some 83), (.iaddrS 4 (.tmp 78) (.tmp 82)), none⟩, ⟨(some 84), (.load (some 4) (.tmp 83)), none⟩, ⟨(some 12), (.alloc [(.int .i64 0), (.int .i64 0), (.int .i64 0), (.int
  .i64 0)]), none⟩, ⟨(some 13), (.alloc [(.int .i64 0), (.int .i64 0), (.int .i64 0), (.int .i64 0)]), none⟩, ⟨none, (.store 4 (.tmp 12) (.tmp 76)), none⟩, ⟨none, (.store 4 (.tmp
  13) (.tmp 84)), none⟩] [(1, 16), (5, 16), (7, 16), (9, 16), (13, 16), (15, 16), (1, 17), (5, 17), (7, 17), (9, 17), (13, 17), (15, 17), (16, 17), (9, 18), (13, 18), (15, 18)])
  (.seq (.seq (.draw [⟨(some 85), (.faddr 2 (.tmp 12)), none⟩, ⟨(some 86), (.load none (.tmp 85)), none⟩, ⟨(some 87), (.bin .eql (.tmp 86) (.const (.int .i64 0))), none⟩, ⟨(some
  88), (.mv (.tmp 87)), none⟩, ⟨(some 89), (.faddr 3 (.tmp 12)), (some (88, false))⟩, ⟨(some 90), (.load none (.tmp 89)), (some (88, false))⟩, ⟨(some 91), (.bin .eql (.tmp 90)
  (.const (.int .i64 0))), (some (88, false))⟩, ⟨(some 92), (.pick (.tmp 88) (.const (.bool true)) (.tmp 91)), none⟩, ⟨(some 93), (.mv (.tmp 92)), none⟩, ⟨(some 94), (.faddr 3
  (.tmp 13)), (some (93, false))⟩, ⟨(some 95), (.load none (.tmp 94)), (some (93, false))⟩, ⟨(some 96), (.bin .eql (.tmp 95) (.const (.int .i64 0))), (some (93, false))⟩, ⟨(some
  97), (.pick (.tmp 93) (.const (.bool true)) (.tmp 96)), none⟩, ⟨(some 98), (.mv (.tmp 97)), none⟩, ⟨(some 99), (.faddr 3 (.tmp 12)), (some (98, false))⟩, ⟨(some 100), (.load
  none (.tmp 99)), (some (98, false))⟩, ⟨(some 101), (.faddr 3 (.tmp 13)), (some (98, false))⟩, ⟨(some 102), (.load none (.tmp 101)), (some (98, false))⟩, ⟨(some 103), (.bin .eql
  (.tmp 100) (.tmp 102)), (some (98, false))⟩, ⟨(some 104), (.pick (.tmp 98) (.const (.bool true)) (.tmp 103)), none⟩, ⟨(some 105), (.mv (.tmp 104)), none⟩, ⟨(some 106), (.load
  (some 4) (.tmp 3)), (some (105, false))⟩, ⟨(some 107), (.mv (.tmp 7)), (some (105, false))⟩, ⟨(some 108), (.mv (.tmp 7)), (some (105, false))⟩, ⟨(some 109), (.mv (.tmp 10)),
  (some (105, false))⟩, ⟨(some 110), (.iaddrS 1 (.tmp 108) (.tmp 109)), (some (105, false))⟩, ⟨(some 111), (.load none (.tmp 110)), (some (105, false))⟩, ⟨(some 112), (.mv (.tmp
  7)), (some (105, false))⟩, ⟨(some 113), (.mv (.tmp 11)), (some (105, false))⟩, ⟨(some 114), (.iaddrS 1 (.tmp 112) (.tmp 113)), (some (105, false))⟩, ⟨(some 115), (.load none
  (.tmp 114)), (some (105, false))⟩, ⟨(some 116), (.call (.func 42) [(.tmp 106), (.tmp 107), (.tmp 111), (.tmp 115)]), (some (105, false))⟩, ⟨(some 117), (.un .not (.tmp 116)),
  (some (105, false))⟩, ⟨(some 118), (.pick (.tmp 105) (.const (.bool true)) (.tmp 117)), none⟩] []) (.cond (.tmp 118) (.exit 3) .skip)) (.seq (.draw [⟨(some 120), (.load (some 4)
  (.tmp 3)), none⟩, ⟨(some 121), (.mv (.tmp 7)), none⟩, ⟨(some 122), (.mv (.tmp 10)), none⟩, ⟨(some 123), (.iaddrS 1 (.tmp 121) (.tmp 122)), none⟩, ⟨(some 124), (.load none (.tmp
  123)), none⟩, ⟨(some 125), (.mv (.tmp 7)), none⟩, ⟨(some 126), (.mv (.tmp 11)), none⟩, ⟨(some 127), (.iaddrS 1 (.tmp 125) (.tmp 126)), none⟩, ⟨(some 128), (.load none (.tmp
  127)), none⟩, ⟨(some 129), (.build [(.int .i64 0), (.int .i64 0)] [(0, (1, (.tmp 124))), (1, (1, (.tmp 128)))]), none⟩, ⟨(some 130), (.call (.func 40) [(.tmp 120), (.tmp 129)]),
  none⟩, ⟨(some 119), (.mv (.tmp 130)), none⟩, ⟨(some 131), (.ext (.tmp 119) 0), none⟩, ⟨(some 132), (.ext (.tmp 119) 1), none⟩, ⟨(some 14), (.mv (.tmp 131)), none⟩, ⟨(some 15),
  (.mv (.tmp 132)), none⟩] []) (.seq (.draw [⟨(some 133), (.mv (.tmp 15)), none⟩, ⟨(some 134), (.bin .neq (.tmp 133) (.const (.int .i64 0))), none⟩, ⟨(some 135), (.mv (.tmp 134)),
  none⟩, ⟨(some 136), (.load (some 4) (.tmp 3)), (some (135, false))⟩, ⟨(some 137), (.mv (.tmp 14)), (some (135, false))⟩, ⟨(some 138), (.call (.func 31) [(.tmp 136), (.tmp 137)]),
   (some (135, false))⟩, ⟨(some 139), (.bin .neq (.tmp 138) (.const (.int .i64 0))), (some (135, false))⟩, ⟨(some 140), (.pick (.tmp 135) (.const (.bool true)) (.tmp 139)), none⟩,
  ⟨(some 141), (.mv (.tmp 140)), none⟩, ⟨(some 142), (.load (some 4) (.tmp 3)), (some (141, false))⟩, ⟨(some 143), (.mv (.tmp 14)), (some (141, false))⟩, ⟨(some 144), (.mv (.tmp
  7)), (some (141, false))⟩, ⟨(some 145), (.mv (.tmp 10)), (some (141, false))⟩, ⟨(some 146), (.iaddrS 1 (.tmp 144) (.tmp 145)), (some (141, false))⟩, ⟨(some 147), (.load none
  (.tmp 146)), (some (141, false))⟩, ⟨(some 148), (.mv (.tmp 7)), (some (141, false))⟩, ⟨(some 149), (.mv (.tmp 11)), (some (141, false))⟩, ⟨(some 150), (.iaddrS 1 (.tmp 148)
  (.tmp 149)), (some (141, false))⟩, ⟨(some 151), (.load none (.tmp 150)), (some (141, false))⟩, ⟨(some 152), (.call (.func 42) [(.tmp 142), (.tmp 143), (.tmp 147), (.tmp 151)]),
  (some (141, false))⟩, ⟨(some 153), (.un .not (.tmp 152)), (some (141, false))⟩, ⟨(some 154), (.pick (.tmp 141) (.const (.bool true)) (.tmp 153)), none⟩, ⟨(some 155), (.mv (.tmp
  154)), none⟩, ⟨(some 156), (.mv (.tmp 9)), (some (155, false))⟩, ⟨(some 157), (.bin .neq (.tmp 156) (.const (.int .i64 0))), (some (155, false))⟩, ⟨(some 158), (.pick (.tmp 155)
  (.const (.bool true)) (.tmp 157)), none⟩] []) (.cond (.tmp 158) (.seq (.region [⟨(some 6), (.mv (.const (.bool false))), none⟩]) .ret) .skip)))))) (.region [⟨(some 67), (.mv
  (.tmp 11)), none⟩, ⟨(some 68), (.bin .add (.tmp 67) (.const (.int .i64 1))), none⟩, ⟨(some 11), (.mv (.tmp 68)), none⟩]))))))) (.region [⟨(some 61), (.mv (.tmp 10)), none⟩,
  ⟨(some 62), (.bin .add (.tmp 61) (.const (.int .i64 1))), none⟩, ⟨(some 10), (.mv (.tmp 62)), none⟩])))))) (.seq (.draw [⟨(some 159), (.iaddrA 2 1 (.tmp 5) (.const (.int .i64
  0))), none⟩, ⟨(some 160), (.load none (.tmp 159)), none⟩, ⟨(some 161), (.conv .i64 (.tmp 160)), none⟩, ⟨(some 162), (.faddr 2 (.tmp 3)), none⟩, ⟨(some 163), (.load none (.tmp
  162)), none⟩, ⟨(some 164), (.len (.tmp 163)), none⟩, ⟨(some 165), (.bin .rem (.tmp 161) (.tmp 164)), none⟩, ⟨(some 166), (.iaddrA 2 1 (.tmp 5) (.const (.int .i64 1))), none⟩,
  ⟨(some 167), (.load none (.tmp 166)), none⟩, ⟨(some 168), (.conv .i64 (.tmp 167)), none⟩, ⟨(some 169), (.faddr 2 (.tmp 3)), none⟩, ⟨(some 170), (.load none (.tmp 169)), none⟩,
  ⟨(some 171), (.len (.tmp 170)), none⟩, ⟨(some 172), (.bin .rem (.tmp 168) (.tmp 171)), none⟩, ⟨(some 16), (.mv (.tmp 165)), none⟩, ⟨(some 17), (.mv (.tmp 172)), none⟩] []) (.seq
  (.region [⟨(some 174), (.load (some 4) (.tmp 3)), none⟩, ⟨(some 175), (.mv (.tmp 16)), none⟩, ⟨(some 176), (.mv (.tmp 17)), none⟩, ⟨(some 177), (.call (.func 43) [(.tmp 174),
  (.tmp 175), (.tmp 176)]), none⟩, ⟨(some 173), (.mv (.tmp 177)), none⟩, ⟨(some 178), (.ext (.tmp 173) 0), none⟩, ⟨(some 179), (.ext (.tmp 173) 1), none⟩, ⟨(some 18), (.mv (.tmp
  178)), none⟩, ⟨(some 19), (.mv (.tmp 179)), none⟩]) (.seq (.region [⟨(some 181), (.load (some 4) (.tmp 3)), none⟩, ⟨(some 182), (.mv (.tmp 16)), none⟩, ⟨(some 183), (.mv (.tmp
  17)), none⟩, ⟨(some 184), (.build [(.int .i64 0), (.int .i64 0)] [(0, (1, (.tmp 182))), (1, (1, (.tmp 183)))]), none⟩, ⟨(some 185), (.call (.func 40) [(.tmp 181), (.tmp 184)]),
  none⟩, ⟨(some 180), (.mv (.tmp 185)), none⟩, ⟨(some 186), (.ext (.tmp 180) 0), none⟩, ⟨(some 187), (.ext (.tmp 180) 1), none⟩, ⟨(some 20), (.mv (.tmp 186)), none⟩, ⟨(some 21),
  (.mv (.tmp 187)), none⟩]) (.seq (.seq (.region [⟨(some 188), (.mv (.tmp 19)), none⟩, ⟨(some 189), (.bin .neq (.tmp 188) (.const (.int .i64 0))), none⟩, ⟨(some 190), (.mv (.tmp
  189)), none⟩, ⟨(some 191), (.mv (.tmp 9)), (some (190, false))⟩, ⟨(some 192), (.bin .eql (.tmp 191) (.const (.int .i64 0))), (some (190, false))⟩, ⟨(some 193), (.mv (.tmp 192)),
  (some (190, false))⟩, ⟨(some 194), (.load (some 4) (.tmp 3)), (some (193, true))⟩, ⟨(some 195), (.iaddrA 2 1 (.tmp 8) (.const (.int .i64 0))), (some (193, true))⟩, ⟨(some 196),
  (.load none (.tmp 195)), (some (193, true))⟩, ⟨(some 197), (.iaddrA 2 1 (.tmp 8) (.const (.int .i64 1))), (some (193, true))⟩, ⟨(some 198), (.load none (.tmp 197)), (some (193,
  true))⟩, ⟨(some 199), (.call (.func 44) [(.tmp 194), (.tmp 196), (.tmp 198)]), (some (193, true))⟩, ⟨(some 200), (.un .not (.tmp 199)), (some (193, true))⟩, ⟨(some 201), (.pick
  (.tmp 193) (.tmp 200) (.const (.bool false))), (some (190, false))⟩, ⟨(some 202), (.pick (.tmp 190) (.const (.bool true)) (.tmp 201)), none⟩]) (.cond (.tmp 202) (.seq (.region
  [⟨(some 6), (.mv (.const (.bool false))), none⟩]) .ret) .skip)) (.seq (.seq (.draw [⟨(some 203), (.mv (.tmp 18)), none⟩, ⟨(some 204), (.un .not (.tmp 203)), none⟩, ⟨(some 205),
  (.mv (.tmp 204)), none⟩, ⟨(some 206), (.faddr 2 (.tmp 3)), (some (205, false))⟩, ⟨(some 207), (.load none (.tmp 206)), (some (205, false))⟩, ⟨(some 208), (.mv (.tmp 16)), (some
  (205, false))⟩, ⟨(some 209), (.iaddrS 4 (.tmp 207) (.tmp 208)), (some (205, false))⟩, ⟨(some 210), (.faddr 2 (.tmp 209)), (some (205, false))⟩, ⟨(some 211), (.load none (.tmp
  210)), (some (205, false))⟩, ⟨(some 212), (.bin .eql (.tmp 211) (.const (.int .i64 0))), (some (205, false))⟩, ⟨(some 213), (.pick (.tmp 205) (.const (.bool true)) (.tmp 212)),
  none⟩, ⟨(some 214), (.mv (.tmp 213)), none⟩, ⟨(some 215), (.faddr 2 (.tmp 3)), (some (214, false))⟩, ⟨(some 216), (.load none (.tmp 215)), (some (214, false))⟩, ⟨(some 217),
  (.mv (.tmp 16)), (some (214, false))⟩, ⟨(some 218), (.iaddrS 4 (.tmp 216) (.tmp 217)), (some (214, false))⟩, ⟨(some 219), (.faddr 2 (.tmp 218)), (some (214, false))⟩, ⟨(some
  220), (.load none (.tmp 219)), (some (214, false))⟩, ⟨(some 221), (.faddr 2 (.tmp 3)), (some (214, false))⟩, ⟨(some 222), (.load none (.tmp 221)), (some (214, false))⟩, ⟨(some
  223), (.mv (.tmp 17)), (some (214, false))⟩, ⟨(some 224), (.iaddrS 4 (.tmp 222) (.tmp 223)), (some (214, false))⟩, ⟨(some 225), (.faddr 2 (.tmp 224)), (some (214, false))⟩,
  ⟨(some 226), (.load none (.tmp 225)), (some (214, false))⟩, ⟨(some 227), (.bin .neq (.tmp 220) (.tmp 226)), (some (214, false))⟩, ⟨(some 228), (.pick (.tmp 214) (.const (.bool
  true)) (.tmp 227)), none⟩, ⟨(some 229), (.mv (.tmp 228)), none⟩, ⟨(some 230), (.faddr 2 (.tmp 3)), (some (229, false))⟩, ⟨(some 231), (.load none (.tmp 230)), (some (229,
  false))⟩, ⟨(some 232), (.mv (.tmp 16)), (some (229, false))⟩, ⟨(some 233), (.iaddrS 4 (.tmp 231) (.tmp 232)), (some (229, false))⟩, ⟨(some 234), (.faddr 3 (.tmp 233)), (some
  (229, false))⟩, ⟨(some 235), (.load none (.tmp 234)), (some (229, false))⟩, ⟨(some 236), (.bin .eql (.tmp 235) (.const (.int .i64 0))), (some (229, false))⟩, ⟨(some 237), (.pick
  (.tmp 229) (.const (.bool true)) (.tmp 236)), none⟩, ⟨(some 238), (.mv (.tmp 237)), none⟩, ⟨(some 239), (.faddr 2 (.tmp 3)), (some (238, false))⟩, ⟨(some 240), (.load none (.tmp
  239)), (some (238, false))⟩, ⟨(some 241), (.mv (.tmp 17)), (some (238, false))⟩, ⟨(some 242), (.iaddrS 4 (.tmp 240) (.tmp 241)), (some (238, false))⟩, ⟨(some 243), (.faddr 3
  (.tmp 242)), (some (238, false))⟩, ⟨(some 244), (.load none (.tmp 243)), (some (238, false))⟩, ⟨(some 245), (.bin .eql (.tmp 244) (.const (.int .i64 0))), (some (238, false))⟩,
  ⟨(some 246), (.pick (.tmp 238) (.const (.bool true)) (.tmp 245)), none⟩, ⟨(some 247), (.mv (.tmp 246)), none⟩, ⟨(some 248), (.faddr 2 (.tmp 3)), (some (247, false))⟩, ⟨(some
  249), (.load none (.tmp 248)), (some (247, false))⟩, ⟨(some 250), (.mv (.tmp 16)), (some (247, false))⟩, ⟨(some 251), (.iaddrS 4 (.tmp 249) (.tmp 250)), (some (247, false))⟩,
  ⟨(some 252), (.faddr 3 (.tmp 251)), (some (247, false))⟩, ⟨(some 253), (.load none (.tmp 252)), (some (247, false))⟩, ⟨(some 254), (.faddr 2 (.tmp 3)), (some (247, false))⟩,
  ⟨(some 255), (.load none (.tmp 254)), (some (247, false))⟩, ⟨(some 256), (.mv (.tmp 17)), (some (247, false))⟩, ⟨(some 257), (.iaddrS 4 (.tmp 255) (.tmp 256)), (some (247,
  false))⟩, ⟨(some 258), (.faddr 3 (.tmp 257)), (some (247, false))⟩, ⟨(some 259), (.load none (.tmp 258)), (some (247, false))⟩, ⟨(some 260), (.bin .eql (.tmp 253) (.tmp 259)),
  (some (247, false))⟩, ⟨(some 261), (.pick (.tmp 247) (.const (.bool true)) (.tmp 260)), none⟩] []) (.cond (.tmp 261) (.seq (.region [⟨(some 262), (.call (.func 17) []), none⟩,
  ⟨(some 6), (.mv (.tmp 262)), none⟩]) .ret) .skip)) (.seq (.region [⟨(some 22), (.mv (.const (.bool false))), none⟩]) (.seq (.seq (.region [⟨(some 23), (.mv (.const (.int .i64
  0))), none⟩]) (.block 4 (.loop (.seq (.seq (.region [⟨(some 263), (.mv (.tmp 23)), none⟩, ⟨(some 264), (.faddr 2 (.tmp 3)), none⟩, ⟨(some 265), (.load none (.tmp 264)), none⟩,
  ⟨(some 266), (.len (.tmp 265)), none⟩, ⟨(some 267), (.bin .lss (.tmp 263) (.tmp 266)), none⟩]) (.cond (.tmp 267) .skip (.exit 4))) (.seq (.block 5 (.seq (.region [⟨(some 271),
  (.load (some 4) (.tmp 3)), none⟩, ⟨(some 272), (.mv (.tmp 16)), none⟩, ⟨(some 273), (.mv (.tmp 23)), none⟩, ⟨(some 274), (.call (.func 43) [(.tmp 271), (.tmp 272), (.tmp 273)]),
  none⟩, ⟨(some 270), (.mv (.tmp 274)), none⟩, ⟨(some 275), (.ext (.tmp 270) 0), none⟩, ⟨(some 276), (.ext (.tmp 270) 1), none⟩, ⟨(some 24), (.mv (.tmp 275)), none⟩, ⟨(some 25),
  (.mv (.tmp 276)), none⟩]) (.seq (.region [⟨(some 278), (.load (some 4) (.tmp 3)), none⟩, ⟨(some 279), (.mv (.tmp 23)), none⟩, ⟨(some 280), (.mv (.tmp 17)), none⟩, ⟨(some 281),
  (.call (.func 43) [(.tmp 278), (.tmp 279), (.tmp 280)]), none⟩, ⟨(some 277), (.mv (.tmp 281)), none⟩, ⟨(some 282), (.ext (.tmp 277) 0), none⟩, ⟨(some 283), (.ext (.tmp 277) 1),
  none⟩, ⟨(some 26), (.mv (.tmp 282)), none⟩, ⟨(some 27), (.mv (.tmp 283)), none⟩]) (.seq (.seq (.region [⟨(some 284), (.mv (.tmp 25)), none⟩, ⟨(some 285), (.bin .neq (.tmp 284)
  (.const (.int .i64 0))), none⟩, ⟨(some 286), (.mv (.tmp 285)), none⟩, ⟨(some 287), (.mv (.tmp 27)), (some (286, false))⟩, ⟨(some 288), (.bin .neq (.tmp 287) (.const (.int .i64
  0))), (some (286, false))⟩, ⟨(some 289), (.pick (.tmp 286) (.const (.bool true)) (.tmp 288)), none⟩]) (.cond (.tmp 289) (.seq (.region [⟨(some 6), (.mv (.const (.bool false))),
  none⟩]) .ret) .skip)) (.draw [⟨(some 290), (.mv (.tmp 22)), none⟩, ⟨(some 291), (.mv (.tmp 290)), none⟩, ⟨(some 292), (.faddr 2 (.tmp 3)), (some (291, false))⟩, ⟨(some 293),
  (.load none (.tmp 292)), (some (291, false))⟩, ⟨(some 294), (.mv (.tmp 23)), (some (291, false))⟩, ⟨(some 295), (.iaddrS 4 (.tmp 293) (.tmp 294)), (some (291, false))⟩, ⟨(some
  296), (.faddr 2 (.tmp 295)), (some (291, false))⟩, ⟨(some 297), (.load none (.tmp 296)), (some (291, false))⟩, ⟨(some 298), (.faddr 2 (.tmp 3)), (some (291, false))⟩, ⟨(some
  299), (.load none (.tmp 298)), (some (291, false))⟩, ⟨(some 300), (.mv (.tmp 16)), (some (291, false))⟩, ⟨(some 301), (.iaddrS 4 (.tmp 299) (.tmp 300)), (some (291, false))⟩,
  ⟨(some 302), (.faddr 2 (.tmp 301)), (some (291, false))⟩, ⟨(some 303), (.load none (.tmp 302)), (some (291, false))⟩, ⟨(some 304), (.bin .eql (.tmp 297) (.tmp 303)), (some (291,
  false))⟩, ⟨(some 305), (.mv (.tmp 304)), (some (291, false))⟩, ⟨(some 306), (.mv (.tmp 24)), (some (305, true))⟩, ⟨(some 307), (.pick (.tmp 305) (.tmp 306) (.const (.bool
  false))), (some (291, false))⟩, ⟨(some 308), (.mv (.tmp 307)), (some (291, false))⟩, ⟨(some 309), (.mv (.tmp 26)), (some (308, true))⟩, ⟨(some 310), (.pick (.tmp 308) (.tmp 309)
  (.const (.bool false))), (some (291, false))⟩, ⟨(some 311), (.pick (.tmp 291) (.const (.bool true)) (.tmp 310)), none⟩, ⟨(some 22), (.mv (.tmp 311)), none⟩] []))))) (.region
  [⟨(some 268), (.mv (.tmp 23)), none⟩, ⟨(some 269), (.bin .add (.tmp 268) (.const (.int .i64 1))), none⟩, ⟨(some 23), (.mv (.tmp 269)), none⟩])))))) (.seq (.region [⟨(some 312),
  (.mv (.tmp 21)), none⟩, ⟨(some 313), (.bin .eql (.tmp 312) (.const (.int .i64 0))), none⟩, ⟨(some 314), (.mv (.tmp 22)), none⟩, ⟨(some 315), (.un .not (.tmp 314)), none⟩, ⟨(some
  316), (.eqf false false [.bool] (.tmp 313) (.tmp 315)), none⟩, ⟨(some 317), (.mv (.tmp 316)), none⟩, ⟨(some 318), (.call (.func 17) []), (some (317, true))⟩, ⟨(some 319), (.pick
  (.tmp 317) (.tmp 318) (.const (.bool false))), none⟩, ⟨(some 6), (.mv (.tmp 319)), none⟩]) .ret))))))))))))))⟩
def af12 : AFn := ⟨245, [(.tmp 8)], (.seq (.region [⟨(some 4), (.box (.tmp 0)), none⟩, ⟨(some 8), (.mv (.const (.bool false))), none⟩]) (.seq (.seq (.region [⟨(some 25), (.load (some 4) (.tmp 4)),
  none⟩, ⟨(some 26), (.call (.func 29) [(.tmp 25)]), none⟩, ⟨(some 27), (.un .not (.tmp 26)), none⟩, ⟨(some 28), (.mv (.tmp 27)), none⟩, ⟨(some 29), (.mv (.tmp 2)), (some (28,
  false))⟩, ⟨(some 30), (.len (.tmp 29)), (some (28, false))⟩, ⟨(some 31), (.bin .gtr (.tmp 30) (.const (.int .i64 20))), (some (28, false))⟩, ⟨(some 32), (.pick (.tmp 28) (.const
  (.bool true)) (.tmp 31)), none⟩, ⟨(some 33), (.mv (.tmp 32)), none⟩, ⟨(some 34), (.mv (.tmp 3)), (some (33, false))⟩, ⟨(some 35), (.len (.tmp 34)), (some (33, false))⟩, ⟨(some
  36), (.bin .gtr (.tmp 35) (.const (.int .i64 110))), (some (33, false))⟩, ⟨(some 37), (.pick (.tmp 33) (.const (.bool true)) (.tmp 36)), none⟩]) (.cond (.tmp 37) (.seq (.region
  [⟨(some 38), (.call (.func 17) []), none⟩, ⟨(some 8), (.mv (.tmp 38)), none⟩]) .ret) .skip)) (.seq (.region [⟨(some 39), (.mv (.tmp 1)), none⟩, ⟨(some 40), (.conv .i64 (.tmp
  39)), none⟩, ⟨(some 41), (.faddr 1 (.tmp 4)), none⟩, ⟨(some 42), (.load none (.tmp 41)), none⟩, ⟨(some 43), (.len (.tmp 42)), none⟩, ⟨(some 44), (.bin .rem (.tmp 40) (.tmp 43)),
  none⟩, ⟨(some 9), (.mv (.tmp 44)), none⟩]) (.seq (.region [⟨(some 46), (.load (some 4) (.tmp 4)), none⟩, ⟨(some 47), (.mv (.tmp 9)), none⟩, ⟨(some 48), (.call (.func 23) [(.tmp
  46), (.tmp 47)]), none⟩, ⟨(some 45), (.mv (.tmp 48)), none⟩, ⟨(some 49), (.ext (.tmp 45) 0), none⟩, ⟨(some 50), (.ext (.tmp 45) 1), none⟩, ⟨(some 51), (.ext (.tmp 45) 2), none⟩,
  ⟨(some 10), (.mv (.tmp 49)), none⟩, ⟨(some 11), (.mv (.tmp 50)), none⟩, ⟨(some 12), (.mv (.tmp 51)), none⟩]) (.seq (.region [⟨(some 53), (.load (some 4) (.tmp 4)), none⟩, ⟨(some
  54), (.mv (.tmp 9)), none⟩, ⟨(some 55), (.call (.func 24) [(.tmp 53), (.tmp 54)]), none⟩, ⟨(some 52), (.mv (.tmp 55)), none⟩, ⟨(some 56), (.ext (.tmp 52) 0), none⟩, ⟨(some 57),
  (.ext (.tmp 52) 1), none⟩, ⟨(some 58), (.ext (.tmp 52) 2), none⟩, ⟨(some 13), (.mv (.tmp 56)), none⟩, ⟨(some 14), (.mv (.tmp 57)), none⟩, ⟨(some 15), (.mv (.tmp 58)), none⟩])
  (.seq (.region [⟨(some 60), (.load (some 4) (.tmp 4)), none⟩, ⟨(some 61), (.mv (.tmp 9)), none⟩, ⟨(some 62), (.call (.func 37) [(.tmp 60), (.tmp 61)]), none⟩, ⟨(some 59), (.mv
  (.tmp 62)), none⟩, ⟨(some 63), (.ext (.tmp 59) 0), none⟩, ⟨(some 64), (.ext (.tmp 59) 1), none⟩, ⟨(some 16), (.mv (.tmp 63)), none⟩, ⟨(some 17), (.mv (.tmp 64)), none⟩]) (.seq
  (.seq (.region [⟨(some 65), (.mv (.tmp 12)), none⟩, ⟨(some 66), (.bin .neq (.tmp 65) (.const (.int .i64 0))), none⟩, ⟨(some 67), (.mv (.tmp 66)), none⟩, ⟨(some 68), (.mv (.tmp
  15)), (some (67, false))⟩, ⟨(some 69), (.bin .neq (.tmp 68) (.const (.int .i64 0))), (some (67, false))⟩, ⟨(some 70), (.pick (.tmp 67) (.const (.bool true)) (.tmp 69)), none⟩,
  ⟨(some 71), (.mv (.tmp 70)), none⟩, ⟨(some 72), (.mv (.tmp 17)), (some (71, false))⟩, ⟨(some 73), (.bin .neq (.tmp 72) (.const (.int .i64 0))), (some (71, false))⟩, ⟨(some 74),
  (.pick (.tmp 71) (.const (.bool true)) (.tmp 73)), none⟩, ⟨(some 75), (.mv (.tmp 74)), none⟩, ⟨(some 76), (.load (some 4) (.tmp 4)), (some (75, false))⟩, ⟨(some 77), (.mv (.tmp
  11)), (some (75, false))⟩, ⟨(some 78), (.call (.func 45) [(.tmp 76), (.tmp 77)]), (some (75, false))⟩, ⟨(some 79), (.bin .neq (.tmp 78) (.const (.int .i64 0))), (some (75,
  false))⟩, ⟨(some 80), (.pick (.tmp 75) (.const (.bool true)) (.tmp 79)), none⟩, ⟨(some 81), (.mv (.tmp 80)), none⟩, ⟨(some 82), (.load (some 4) (.tmp 4)), (some (81, false))⟩,
  ⟨(some 83), (.mv (.tmp 11)), (some (81, false))⟩, ⟨(some 84), (.call (.func 27) [(.tmp 82), (.tmp 83)]), (some (81, false))⟩, ⟨(some 85), (.bin .neq (.tmp 84) (.const (.int .i64
  0))), (some (81, false))⟩, ⟨(some 86), (.pick (.tmp 81) (.const (.bool true)) (.tmp 85)), none⟩, ⟨(some 87), (.mv (.tmp 86)), none⟩, ⟨(some 88), (.load (some 4) (.tmp 4)), (some
  (87, false))⟩, ⟨(some 89), (.mv (.tmp 14)), (some (87, false))⟩, ⟨(some 90), (.call (.func 27) [(.tmp 88), (.tmp 89)]), (some (87, false))⟩, ⟨(some 91), (.bin .neq (.tmp 90)
  (.const (.int .i64 0))), (some (87, false))⟩, ⟨(some 92), (.pick (.tmp 87) (.const (.bool true)) (.tmp 91)), none⟩, ⟨(some 93), (.mv (.tmp 92)), none⟩, ⟨(some 94), (.load (some
  4) (.tmp 4)), (some (93, false))⟩, ⟨(some 95), (.mv (.tmp 11)), (some (93, false))⟩, ⟨(some 96), (.mv (.tmp 9)), (some (93, false))⟩, ⟨(some 97), (.call (.func 28) [(.tmp 94),
  (.tmp 95), (.tmp 96)]), (some (93, false))⟩, ⟨(some 98), (.mv (.tmp 10)), (some (93, false))⟩, ⟨(some 99), (.bin .neq (.tmp 97) (.tmp 98)), (some (93, false))⟩, ⟨(some 100),
  (.pick (.tmp 93) (.const (.bool true)) (.tmp 99)), none⟩, ⟨(some 101), (.mv (.tmp 100)), none⟩, ⟨(some 102), (.load (some 4) (.tmp 4)), (some (101, false))⟩, ⟨(some 103), (.mv
  (.tmp 14)), (some (101, false))⟩, ⟨(some 104), (.mv (.tmp 9)), (some (101, false))⟩, ⟨(some 105), (.call (.func 28) [(.tmp 102), (.tmp 103), (.tmp 104)]), (some (101, false))⟩,
  ⟨(some 106), (.mv (.tmp 13)), (some (101, false))⟩, ⟨(some 107), (.bin .neq (.tmp 105) (.tmp 106)), (some (101, false))⟩, ⟨(some 108), (.pick (.tmp 101) (.const (.bool true))
  (.tmp 107)), none⟩]) (.cond (.tmp 108) (.seq (.region [⟨(some 8), (.mv (.const (.bool false))), none⟩]) .ret) .skip)) (.seq (.region [⟨(some 110), (.load (some 4) (.tmp 4)),
  none⟩, ⟨(some 111), (.mv (.tmp 9)), none⟩, ⟨(some 112), (.mv (.tmp 16)), none⟩, ⟨(some 113), (.call (.func 35) [(.tmp 110), (.tmp 111), (.tmp 112)]), none⟩, ⟨(some 109), (.mv
  (.tmp 113)), none⟩, ⟨(some 114), (.ext (.tmp 109) 0), none⟩, ⟨(some 115), (.ext (.tmp 109) 1), none⟩, ⟨(some 18), (.mv (.tmp 114)), none⟩, ⟨(some 12), (.mv (.tmp 115)), none⟩])
  (.seq (.region [⟨(some 117), (.load (some 4) (.tmp 4)), none⟩, ⟨(some 118), (.mv (.tmp 9)), none⟩, ⟨(some 119), (.mv (.tmp 16)), none⟩, ⟨(some 120), (.call (.func 36) [(.tmp
  117), (.tmp 118), (.tmp 119)]), none⟩, ⟨(some 116), (.mv (.tmp 120)), none⟩, ⟨(some 121), (.ext (.tmp 116) 0), none⟩, ⟨(some 122), (.ext (.tmp 116) 1), none⟩, ⟨(some 19), (.mv
  (.tmp 121)), none⟩, ⟨(some 15), (.mv (.tmp 122)), none⟩]) (.seq (.seq (.region [⟨(some 123), (.mv (.tmp 12)), none⟩, ⟨(some 124), (.bin .neq (.tmp 123) (.const (.int .i64 0))),
  none⟩, ⟨(some 125), (.mv (.tmp 124)), none⟩, ⟨(some 126), (.mv (.tmp 15)), (some (125, false))⟩, ⟨(some 127), (.bin .neq (.tmp 126) (.const (.int .i64 0))), (some (125, false))⟩,
   ⟨(some 128), (.pick (.tmp 125) (.const (.bool true)) (.tmp 127)), none⟩, ⟨(some 129), (.mv (.tmp 128)), none⟩, ⟨(some 130), (.mv (.tmp 18)), (some (129, false))⟩, ⟨(some 131),
  (.mv (.tmp 10)), (some (129, false))⟩, ⟨(some 132), (.bin .neq (.tmp 130) (.tmp 131)), (some (129, false))⟩, ⟨(some 133), (.pick (.tmp 129) (.const (.bool true)) (.tmp 132)),
  none⟩, ⟨(some 134), (.mv (.tmp 133)), none⟩, ⟨(some 135), (.mv (.tmp 19)), (some (134, false))⟩, ⟨(some 136), (.mv (.tmp 10)), (some (134, false))⟩, ⟨(some 137), (.bin .neq
  (.tmp 135) (.tmp 136)), (some (134, false))⟩, ⟨(some 138), (.pick (.tmp 134) (.const (.bool true)) (.tmp 137)), none⟩]) (.cond (.tmp 138) (.seq (.region [⟨(some 8), (.mv (.const
  (.bool false))), none⟩]) .ret) .skip)) (.seq (.region [⟨(some 140), (.load (some 4) (.tmp 4)), none⟩, ⟨(some 141), (.mv (.tmp 9)), none⟩, ⟨(some 142), (.mv (.tmp 3)), none⟩,
  ⟨(some 143), (.call (.func 35) [(.tmp 140), (.tmp 141), (.tmp 142)]), none⟩, ⟨(some 139), (.mv (.tmp 143)), none⟩, ⟨(some 144), (.ext (.tmp 139) 0), none⟩, ⟨(some 145), (.ext
  (.tmp 139) 1), none⟩, ⟨(some 20), (.mv (.tmp 144)), none⟩, ⟨(some 21), (.mv (.tmp 145)), none⟩]) (.seq (.seq (.region [⟨(some 146), (.mv (.tmp 21)), none⟩, ⟨(some 147), (.bin
  .eql (.tmp 146) (.const (.int .i64 0))), none⟩, ⟨(some 148), (.mv (.tmp 147)), none⟩, ⟨(some 149), (.mv (.tmp 20)), (some (148, true))⟩, ⟨(some 150), (.mv (.tmp 10)), (some (148,
   true))⟩, ⟨(some 151), (.bin .lss (.tmp 149) (.tmp 150)), (some (148, true))⟩, ⟨(some 152), (.pick (.tmp 148) (.tmp 151) (.const (.bool false))), none⟩]) (.cond (.tmp 152) (.seq
  (.region [⟨(some 8), (.mv (.const (.bool false))), none⟩]) .ret) .skip)) (.seq (.region [⟨(some 153), (.load (some 4) (.tmp 4)), none⟩, ⟨(some 154), (.mv (.tmp 2)), none⟩,
  ⟨(some 155), (.call (.func 34) [(.tmp 153), (.tmp 154)]), none⟩, ⟨(some 22), (.mv (.tmp 155)), none⟩]) (.seq (.region [⟨(some 157), (.load (some 4) (.tmp 4)), none⟩, ⟨(some 158),
   (.mv (.tmp 22)), none⟩, ⟨(some 159), (.call (.func 46) [(.tmp 157), (.tmp 158)]), none⟩, ⟨(some 156), (.mv (.tmp 159)), none⟩, ⟨(some 160), (.ext (.tmp 156) 0), none⟩, ⟨(some
  161), (.ext (.tmp 156) 1), none⟩, ⟨(some 23), (.mv (.tmp 160)), none⟩, ⟨(some 21), (.mv (.tmp 161)), none⟩]) (.seq (.seq (.region [⟨(some 162), (.mv (.tmp 21)), none⟩, ⟨(some
  163), (.bin .neq (.tmp 162) (.const (.int .i64 0))), none⟩, ⟨(some 164), (.mv (.tmp 163)), none⟩, ⟨(some 165), (.mv (.tmp 23)), (some (164, false))⟩, ⟨(some 166), (.len (.tmp
  165)), (some (164, false))⟩, ⟨(some 167), (.mv (.tmp 22)), (some (164, false))⟩, ⟨(some 168), (.len (.tmp 167)), (some (164, false))⟩, ⟨(some 169), (.bin .neq (.tmp 166) (.tmp
  168)), (some (164, false))⟩, ⟨(some 170), (.pick (.tmp 164) (.const (.bool true)) (.tmp 169)), none⟩, ⟨(some 171), (.mv (.tmp 170)), none⟩, ⟨(some 172), (.faddr 0 (.tmp 4)),
  (some (171, false))⟩, ⟨(some 173), (.load none (.tmp 172)), (some (171, false))⟩, ⟨(some 174), (.mv (.tmp 9)), (some (171, false))⟩, ⟨(some 175), (.iaddrS 1 (.tmp 173) (.tmp
  174)), (some (171, false))⟩, ⟨(some 176), (.load none (.tmp 175)), (some (171, false))⟩, ⟨(some 177), (.mv (.tmp 10)), (some (171, false))⟩, ⟨(some 178), (.bin .gtr (.tmp 176)
  (.tmp 177)), (some (171, false))⟩, ⟨(some 179), (.pick (.tmp 171) (.const (.bool true)) (.tmp 178)), none⟩, ⟨(some 180), (.mv (.tmp 179)), none⟩, ⟨(some 181), (.faddr 0 (.tmp
  4)), (some (180, false))⟩, ⟨(some 182), (.load none (.tmp 181)), (some (180, false))⟩, ⟨(some 183), (.mv (.tmp 9)), (some (180, false))⟩, ⟨(some 184), (.iaddrS 1 (.tmp 182)
  (.tmp 183)), (some (180, false))⟩, ⟨(some 185), (.load none (.tmp 184)), (some (180, false))⟩, ⟨(some 186), (.mv (.tmp 13)), (some (180, false))⟩, ⟨(some 187), (.bin .lss (.tmp
  185) (.tmp 186)), (some (180, false))⟩, ⟨(some 188), (.pick (.tmp 180) (.const (.bool true)) (.tmp 187)), none⟩]) (.cond (.tmp 188) (.seq (.region [⟨(some 8), (.mv (.const
  (.bool false))), none⟩]) .ret) .skip)) (.seq (.seq (.region [⟨(some 24), (.mv (.const (.int .i64 0))), none⟩]) (.block 0 (.loop (.seq (.seq (.region [⟨(some 189), (.mv (.tmp
  24)), none⟩, ⟨(some 190), (.mv (.tmp 22)), none⟩, ⟨(some 191), (.len (.tmp 190)), none⟩, ⟨(some 192), (.bin .lss (.tmp 189) (.tmp 191)), none⟩]) (.cond (.tmp 192) .skip (.exit
  0))) (.seq (.block 1 (.seq (.draw [⟨(some 195), (.mv (.tmp 23)), none⟩, ⟨(some 196), (.mv (.tmp 24)), none⟩, ⟨(some 197), (.iaddrS 1 (.tmp 195) (.tmp 196)), none⟩, ⟨(some 198),
  (.load none (.tmp 197)), none⟩, ⟨(some 199), (.load (some 4) (.tmp 4)), none⟩, ⟨(some 200), (.mv (.tmp 22)), none⟩, ⟨(some 201), (.mv (.tmp 24)), none⟩, ⟨(some 202), (.bin .add
  (.tmp 201) (.const (.int .i64 1))), none⟩, ⟨(some 203), (.slc 1 (.tmp 200) none (some (.tmp 202)) none), none⟩, ⟨(some 204), (.faddr 2 (.tmp 4)), none⟩, ⟨(some 205), (.load none
  (.tmp 204)), none⟩, ⟨(some 206), (.mv (.tmp 22)), none⟩, ⟨(some 207), (.mv (.tmp 24)), none⟩, ⟨(some 208), (.iaddrS 1 (.tmp 206) (.tmp 207)), none⟩, ⟨(some 209), (.load none
  (.tmp 208)), none⟩, ⟨(some 210), (.iaddrS 4 (.tmp 205) (.tmp 209)), none⟩, ⟨(some 211), (.faddr 0 (.tmp 210)), none⟩, ⟨(some 212), (.load none (.tmp 211)), none⟩, ⟨(some 213),
  (.call (.func 28) [(.tmp 199), (.tmp 203), (.tmp 212)]), none⟩, ⟨(some 214), (.bin .neq (.tmp 198) (.tmp 213)), none⟩, ⟨(some 215), (.mv (.tmp 214)), none⟩, ⟨(some 216), (.faddr
  2 (.tmp 4)), (some (215, false))⟩, ⟨(some 217), (.load none (.tmp 216)), (some (215, false))⟩, ⟨(some 218), (.mv (.tmp 22)), (some (215, false))⟩, ⟨(some 219), (.mv (.tmp 24)),
  (some (215, false))⟩, ⟨(some 220), (.iaddrS 1 (.tmp 218) (.tmp 219)), (some (215, false))⟩, ⟨(some 221), (.load none (.tmp 220)), (some (215, false))⟩, ⟨(some 222), (.iaddrS 4
  (.tmp 217) (.tmp 221)), (some (215, false))⟩, ⟨(some 223), (.faddr 0 (.tmp 222)), (some (215, false))⟩, ⟨(some 224), (.load none (.tmp 223)), (some (215, false))⟩, ⟨(some 225),
  (.mv (.tmp 9)), (some (215, false))⟩, ⟨(some 226), (.bin .eql (.tmp 224) (.tmp 225)), (some (215, false))⟩, ⟨(some 227), (.mv (.tmp 226)), (some (215, false))⟩, ⟨(some 228),
  (.mv (.tmp 23)), (some (227, true))⟩, ⟨(some 229), (.mv (.tmp 24)), (some (227, true))⟩, ⟨(some 230), (.iaddrS 1 (.tmp 228) (.tmp 229)), (some (227, true))⟩, ⟨(some 231), (.load
  none (.tmp 230)), (some (227, true))⟩, ⟨(some 232), (.mv (.tmp 10)), (some (227, true))⟩, ⟨(some 233), (.bin .gtr (.tmp 231) (.tmp 232)), (some (227, true))⟩, ⟨(some 234), (.mv
  (.tmp 233)), (some (227, true))⟩, ⟨(some 235), (.mv (.tmp 23)), (some (234, false))⟩, ⟨(some 236), (.mv (.tmp 24)), (some (234, false))⟩, ⟨(some 237), (.iaddrS 1 (.tmp 235)
  (.tmp 236)), (some (234, false))⟩, ⟨(some 238), (.load none (.tmp 237)), (some (234, false))⟩, ⟨(some 239), (.mv (.tmp 13)), (some (234, false))⟩, ⟨(some 240), (.bin .lss (.tmp
  238) (.tmp 239)), (some (234, false))⟩, ⟨(some 241), (.pick (.tmp 234) (.const (.bool true)) (.tmp 240)), (some (227, true))⟩, ⟨(some 242), (.pick (.tmp 227) (.tmp 241) (.const
  (.bool false))), (some (215, false))⟩, ⟨(some 243), (.pick (.tmp 215) (.const (.bool true)) (.tmp 242)), none⟩] [(3, 18)]) (.cond (.tmp 243) (.seq (.region [⟨(some 8), (.mv
  (.const (.bool false))), none⟩]) .ret) .skip))) (.region [⟨(some 193), (.mv (.tmp 24)), none⟩, ⟨(some 194), (.bin .add (.tmp 193) (.const (.int .i64 1))), none⟩, ⟨(some 24),
  (.mv (.tmp 194)), none⟩])))))) (.seq (.region [⟨(some 244), (.call (.func 17) []), none⟩, ⟨(some 8), (.mv (.tmp 244)), none⟩]) .ret)))))))))))))))))⟩
def af13 : AFn := ⟨174, [(.tmp 10)], (.seq (.region [⟨(some 5), (.box (.tmp 0)), none⟩, ⟨(some 10), (.mv (.const (.bool false))), none⟩]) (.seq (.seq (.region [⟨(some 25), (.load (some 4) (.tmp 5)),
   none⟩, ⟨(some 26), (.call (.func 15) [(.tmp 25)]), none⟩, ⟨(some 27), (.mv (.tmp 26)), none⟩, ⟨(some 28), (.mv (.tmp 3)), (some (27, false))⟩, ⟨(some 29), (.len (.tmp 28)),
  (some (27, false))⟩, ⟨(some 30), (.bin .gtr (.tmp 29) (.const (.int .i64 20))), (some (27, false))⟩, ⟨(some 31), (.pick (.tmp 27) (.const (.bool true)) (.tmp 30)), none⟩, ⟨(some
  32), (.mv (.tmp 31)), none⟩, ⟨(some 33), (.mv (.tmp 4)), (some (32, false))⟩, ⟨(some 34), (.len (.tmp 33)), (some (32, false))⟩, ⟨(some 35), (.bin .gtr (.tmp 34) (.const (.int
  .i64 20))), (some (32, false))⟩, ⟨(some 36), (.pick (.tmp 32) (.const (.bool true)) (.tmp 35)), none⟩]) (.cond (.tmp 36) (.seq (.region [⟨(some 37), (.call (.func 17) []), none⟩,
   ⟨(some 10), (.mv (.tmp 37)), none⟩]) .ret) .skip)) (.seq (.region [⟨(some 39), (.load (some 4) (.tmp 5)), none⟩, ⟨(some 40), (.mv (.tmp 1)), none⟩, ⟨(some 41), (.mv (.tmp 2)),
  none⟩, ⟨(some 42), (.call (.func 43) [(.tmp 39), (.tmp 40), (.tmp 41)]), none⟩, ⟨(some 38), (.mv (.tmp 42)), none⟩, ⟨(some 43), (.ext (.tmp 38) 0), none⟩, ⟨(some 44), (.ext
  (.tmp 38) 1), none⟩, ⟨(some 11), (.mv (.tmp 43)), none⟩, ⟨(some 12), (.mv (.tmp 44)), none⟩]) (.seq (.region [⟨(some 46), (.load (some 4) (.tmp 5)), none⟩, ⟨(some 47), (.mv
  (.tmp 1)), none⟩, ⟨(some 48), (.mv (.tmp 2)), none⟩, ⟨(some 49), (.call (.func 47) [(.tmp 46), (.tmp 47), (.tmp 48)]), none⟩, ⟨(some 45), (.mv (.tmp 49)), none⟩, ⟨(some 50),
  (.ext (.tmp 45) 0), none⟩, ⟨(some 51), (.ext (.tmp 45) 1), none⟩, ⟨(some 13), (.mv (.tmp 50)), none⟩, ⟨(some 14), (.mv (.tmp 51)), none⟩]) (.seq (.region [⟨(some 53), (.load
  (some 4) (.tmp 5)), none⟩, ⟨(some 54), (.mv (.tmp 3)), none⟩, ⟨(some 55), (.call (.func 46) [(.tmp 53), (.tmp 54)]), none⟩, ⟨(some 52), (.mv (.tmp 55)), none⟩, ⟨(some 56), (.ext
  (.tmp 52) 0), none⟩, ⟨(some 57), (.ext (.tmp 52) 1), none⟩, ⟨(some 15), (.mv (.tmp 56)), none⟩, ⟨(some 16), (.mv (.tmp 57)), none⟩]) (.seq (.region [⟨(some 59), (.load (some 4)
  (.tmp 5)), none⟩, ⟨(some 60), (.mv (.tmp 3)), none⟩, ⟨(some 61), (.call (.func 48) [(.tmp 59), (.tmp 60)]), none⟩, ⟨(some 58), (.mv (.tmp 61)), none⟩, ⟨(some 62), (.ext (.tmp
  58) 0), none⟩, ⟨(some 63), (.ext (.tmp 58) 1), none⟩, ⟨(some 17), (.mv (.tmp 62)), none⟩, ⟨(some 18), (.mv (.tmp 63)), none⟩]) (.seq (.region [⟨(some 65), (.load (some 4) (.tmp
  5)), none⟩, ⟨(some 66), (.mv (.tmp 4)), none⟩, ⟨(some 67), (.call (.func 30) [(.tmp 65), (.tmp 66)]), none⟩, ⟨(some 64), (.mv (.tmp 67)), none⟩, ⟨(some 68), (.ext (.tmp 64) 0),
  none⟩, ⟨(some 69), (.ext (.tmp 64) 1), none⟩, ⟨(some 19), (.mv (.tmp 68)), none⟩, ⟨(some 20), (.mv (.tmp 69)), none⟩]) (.seq (.region [⟨(some 71), (.load (some 4) (.tmp 5)),
  none⟩, ⟨(some 72), (.mv (.tmp 4)), none⟩, ⟨(some 73), (.call (.func 49) [(.tmp 71), (.tmp 72)]), none⟩, ⟨(some 70), (.mv (.tmp 73)), none⟩, ⟨(some 74), (.ext (.tmp 70) 0), none⟩,
   ⟨(some 75), (.ext (.tmp 70) 1), none⟩, ⟨(some 21), (.mv (.tmp 74)), none⟩, ⟨(some 22), (.mv (.tmp 75)), none⟩]) (.seq (.seq (.draw [⟨(some 76), (.load (some 4) (.tmp 5)), none⟩,
   ⟨(some 77), (.call (.func 50) [(.tmp 76)]), none⟩, ⟨(some 78), (.load (some 4) (.tmp 5)), none⟩, ⟨(some 79), (.call (.func 51) [(.tmp 78)]), none⟩, ⟨(some 80), (.bin .neq (.tmp
  77) (.tmp 79)), none⟩, ⟨(some 81), (.mv (.tmp 80)), none⟩, ⟨(some 82), (.mv (.tmp 11)), (some (81, false))⟩, ⟨(some 83), (.mv (.tmp 13)), (some (81, false))⟩, ⟨(some 84), (.eqf
  true false [.bool] (.tmp 82) (.tmp 83)), (some (81, false))⟩, ⟨(some 85), (.pick (.tmp 81) (.const (.bool true)) (.tmp 84)), none⟩, ⟨(some 86), (.mv (.tmp 85)), none⟩, ⟨(some
  87), (.mv (.tmp 12)), (some (86, false))⟩, ⟨(some 88), (.mv (.tmp 14)), (some (86, false))⟩, ⟨(some 89), (.bin .neq (.tmp 87) (.tmp 88)), (some (86, false))⟩, ⟨(some 90), (.pick
  (.tmp 86) (.const (.bool true)) (.tmp 89)), none⟩, ⟨(some 91), (.mv (.tmp 90)), none⟩, ⟨(some 92), (.mv (.tmp 15)), (some (91, false))⟩, ⟨(some 93), (.mv (.tmp 17)), (some (91,
  false))⟩, ⟨(some 94), (.call (.func 52) [(.tmp 92), (.tmp 93)]), (some (91, false))⟩, ⟨(some 95), (.un .not (.tmp 94)), (some (91, false))⟩, ⟨(some 96), (.pick (.tmp 91) (.const
  (.bool true)) (.tmp 95)), none⟩, ⟨(some 97), (.mv (.tmp 96)), none⟩, ⟨(some 98), (.mv (.tmp 16)), (some (97, false))⟩, ⟨(some 99), (.mv (.tmp 18)), (some (97, false))⟩, ⟨(some
  100), (.bin .neq (.tmp 98) (.tmp 99)), (some (97, false))⟩, ⟨(some 101), (.pick (.tmp 97) (.const (.bool true)) (.tmp 100)), none⟩, ⟨(some 102), (.mv (.tmp 101)), none⟩, ⟨(some
  103), (.mv (.tmp 19)), (some (102, false))⟩, ⟨(some 104), (.mv (.tmp 21)), (some (102, false))⟩, ⟨(some 105), (.call (.func 22) [(.tmp 103), (.tmp 104)]), (some (102, false))⟩,
  ⟨(some 106), (.un .not (.tmp 105)), (some (102, false))⟩, ⟨(some 107), (.pick (.tmp 102) (.const (.bool true)) (.tmp 106)), none⟩, ⟨(some 108), (.mv (.tmp 107)), none⟩, ⟨(some
  109), (.mv (.tmp 20)), (some (108, false))⟩, ⟨(some 110), (.mv (.tmp 22)), (some (108, false))⟩, ⟨(some 111), (.bin .neq (.tmp 109) (.tmp 110)), (some (108, false))⟩, ⟨(some
  112), (.pick (.tmp 108) (.const (.bool true)) (.tmp 111)), none⟩, ⟨(some 113), (.mv (.tmp 112)), none⟩, ⟨(some 114), (.load (some 4) (.tmp 5)), (some (113, false))⟩, ⟨(some 115),
   (.mv (.tmp 3)), (some (113, false))⟩, ⟨(some 116), (.call (.func 53) [(.tmp 114), (.tmp 115)]), (some (113, false))⟩, ⟨(some 117), (.load (some 4) (.tmp 5)), (some (113,
  false))⟩, ⟨(some 118), (.mv (.tmp 3)), (some (113, false))⟩, ⟨(some 119), (.call (.func 31) [(.tmp 117), (.tmp 118)]), (some (113, false))⟩, ⟨(some 120), (.bin .neq (.tmp 116)
  (.tmp 119)), (some (113, false))⟩, ⟨(some 121), (.pick (.tmp 113) (.const (.bool true)) (.tmp 120)), none⟩, ⟨(some 122), (.mv (.tmp 121)), none⟩, ⟨(some 123), (.load (some 4)
  (.tmp 5)), (some (122, false))⟩, ⟨(some 124), (.mv (.tmp 4)), (some (122, false))⟩, ⟨(some 125), (.call (.func 45) [(.tmp 123), (.tmp 124)]), (some (122, false))⟩, ⟨(some 126),
  (.load (some 4) (.tmp 5)), (some (122, false))⟩, ⟨(some 127), (.mv (.tmp 4)), (some (122, false))⟩, ⟨(some 128), (.call (.func 27) [(.tmp 126), (.tmp 127)]), (some (122,
  false))⟩, ⟨(some 129), (.bin .neq (.tmp 125) (.tmp 128)), (some (122, false))⟩, ⟨(some 130), (.pick (.tmp 122) (.const (.bool true)) (.tmp 129)), none⟩] [(1, 2), (40, 41), (49,
  50)]) (.cond (.tmp 130) (.seq (.region [⟨(some 10), (.mv (.const (.bool false))), none⟩]) .ret) .skip)) (.seq (.region [⟨(some 132), (.load (some 4) (.tmp 5)), none⟩, ⟨(some
  133), (.call (.func 54) [(.tmp 132)]), none⟩, ⟨(some 131), (.mv (.tmp 133)), none⟩, ⟨(some 134), (.ext (.tmp 131) 0), none⟩, ⟨(some 135), (.ext (.tmp 131) 1), none⟩, ⟨(some 23),
  (.mv (.tmp 134)), none⟩, ⟨(some 24), (.mv (.tmp 135)), none⟩]) (.seq (.seq (.region [⟨(some 136), (.load (some 4) (.tmp 5)), none⟩, ⟨(some 137), (.call (.func 55) [(.tmp 136)]),
  none⟩, ⟨(some 138), (.bin .neq (.tmp 137) (.const (.int .i64 0))), none⟩]) (.cond (.tmp 138) (.seq (.region [⟨(some 139), (.mv (.tmp 24)), none⟩, ⟨(some 140), (.load (some 4)
  (.tmp 5)), none⟩, ⟨(some 141), (.call (.func 55) [(.tmp 140)]), none⟩, ⟨(some 142), (.bin .eql (.tmp 139) (.tmp 141)), none⟩, ⟨(some 143), (.mv (.tmp 142)), none⟩, ⟨(some 144),
  (.mv (.tmp 23)), (some (143, true))⟩, ⟨(some 145), (.len (.tmp 144)), (some (143, true))⟩, ⟨(some 146), (.bin .eql (.tmp 145) (.const (.int .i64 0))), (some (143, true))⟩,
  ⟨(some 147), (.pick (.tmp 143) (.tmp 146) (.const (.bool false))), none⟩, ⟨(some 148), (.mv (.tmp 147)), none⟩, ⟨(some 149), (.call (.func 17) []), (some (148, true))⟩, ⟨(some
  150), (.pick (.tmp 148) (.tmp 149) (.const (.bool false))), none⟩, ⟨(some 10), (.mv (.tmp 150)), none⟩]) .ret) .skip)) (.seq (.seq (.region [⟨(some 151), (.load (some 4) (.tmp
  5)), none⟩, ⟨(some 152), (.call (.func 56) [(.tmp 151)]), none⟩, ⟨(some 153), (.un .not (.tmp 152)), none⟩]) (.cond (.tmp 153) (.seq (.region [⟨(some 154), (.mv (.tmp 24)),
  none⟩, ⟨(some 155), (.bin .eql (.tmp 154) (.const (.int .i64 5))), none⟩, ⟨(some 156), (.mv (.tmp 155)), none⟩, ⟨(some 157), (.mv (.tmp 23)), (some (156, true))⟩, ⟨(some 158),
  (.len (.tmp 157)), (some (156, true))⟩, ⟨(some 159), (.bin .eql (.tmp 158) (.const (.int .i64 0))), (some (156, true))⟩, ⟨(some 160), (.pick (.tmp 156) (.tmp 159) (.const (.bool
  false))), none⟩, ⟨(some 161), (.mv (.tmp 160)), none⟩, ⟨(some 162), (.call (.func 17) []), (some (161, true))⟩, ⟨(some 163), (.pick (.tmp 161) (.tmp 162) (.const (.bool false))),
   none⟩, ⟨(some 10), (.mv (.tmp 163)), none⟩]) .ret) .skip)) (.seq (.region [⟨(some 164), (.mv (.tmp 24)), none⟩, ⟨(some 165), (.bin .eql (.tmp 164) (.const (.int .i64 0))),
  none⟩, ⟨(some 166), (.mv (.tmp 165)), none⟩, ⟨(some 167), (.load (some 4) (.tmp 5)), (some (166, true))⟩, ⟨(some 168), (.mv (.tmp 23)), (some (166, true))⟩, ⟨(some 169), (.call
  (.func 57) [(.tmp 167), (.tmp 168)]), (some (166, true))⟩, ⟨(some 170), (.pick (.tmp 166) (.tmp 169) (.const (.bool false))), none⟩, ⟨(some 171), (.mv (.tmp 170)), none⟩, ⟨(some
  172), (.call (.func 17) []), (some (171, true))⟩, ⟨(some 173), (.pick (.tmp 171) (.tmp 172) (.const (.bool false))), none⟩, ⟨(some 10), (.mv (.tmp 173)), none⟩])
  .ret)))))))))))))⟩
def af14 : AFn := ⟨84, [(.tmp 0)], (.seq (.region [⟨(some 0), (.mv (.const (.bool false))), none⟩]) (.seq (.region [⟨(some 13), (.call (.func 58) []), none⟩, ⟨(some 1), (.alloc [(.slc none 0 0 true
  0), (.slc none 0 0 true 0), (.slc none 0 0 true 0), (.slc none 0 0 true 0)]), none⟩, ⟨none, (.store 4 (.tmp 1) (.tmp 13)), none⟩]) (.seq (.region [⟨(some 15), (.load (some 4)
  (.tmp 1)), none⟩, ⟨(some 16), (.bslice [(.int .i64 0)] 1 1 [(0, (1, (.const (.int .i64 1))))]), none⟩, ⟨(some 17), (.call (.func 30) [(.tmp 15), (.tmp 16)]), none⟩, ⟨(some 14),
  (.mv (.tmp 17)), none⟩, ⟨(some 18), (.ext (.tmp 14) 0), none⟩, ⟨(some 19), (.ext (.tmp 14) 1), none⟩, ⟨(some 2), (.mv (.tmp 18)), none⟩, ⟨(some 3), (.mv (.tmp 19)), none⟩])
  (.seq (.region [⟨(some 20), (.load (some 4) (.tmp 1)), none⟩, ⟨(some 21), (.bslice [(.int .i64 0), (.int .i64 0), (.int .i64 0)] 3 1 [(0, (1, (.const (.int .i64 0)))), (1, (1,
  (.const (.int .i64 1)))), (2, (1, (.const (.int .i64 3))))]), none⟩, ⟨(some 22), (.call (.func 45) [(.tmp 20), (.tmp 21)]), none⟩, ⟨(some 4), (.mv (.tmp 22)), none⟩]) (.seq
  (.region [⟨(some 24), (.load (some 4) (.tmp 1)), none⟩, ⟨(some 25), (.build [(.int .i64 0), (.int .i64 0)] [(0, (1, (.const (.int .i64 3)))), (1, (1, (.const (.int .i64 1))))]),
  none⟩, ⟨(some 26), (.call (.func 40) [(.tmp 24), (.tmp 25)]), none⟩, ⟨(some 23), (.mv (.tmp 26)), none⟩, ⟨(some 27), (.ext (.tmp 23) 0), none⟩, ⟨(some 28), (.ext (.tmp 23) 1),
  none⟩, ⟨(some 5), (.mv (.tmp 27)), none⟩, ⟨(some 6), (.mv (.tmp 28)), none⟩]) (.seq (.region [⟨(some 29), (.load (some 4) (.tmp 1)), none⟩, ⟨(some 7), (.alloc [(.slc none 0 0
  true 0), (.slc none 0 0 true 0), (.slc none 0 0 true 0), (.slc none 0 0 true 0)]), none⟩, ⟨none, (.store 4 (.tmp 7) (.tmp 29)), none⟩]) (.seq (.region [⟨(some 30), (.build
  [(.int .i64 0), (.int .i64 0)] [(0, (1, (.const (.int .i64 0)))), (1, (1, (.const (.int .i64 1))))]), none⟩, ⟨(some 31), (.build [(.int .i64 0), (.int .i64 0)] [(0, (1, (.const
  (.int .i64 1)))), (1, (1, (.const (.int .i64 3))))]), none⟩, ⟨(some 32), (.build [(.int .i64 0), (.int .i64 0)] [(0, (1, (.const (.int .i64 3)))), (1, (1, (.const (.int .i64
  0))))]), none⟩, ⟨(some 33), (.bslice [(.int .i64 0), (.int .i64 0), (.int .i64 0), (.int .i64 0), (.int .i64 0), (.int .i64 0)] 3 2 [(0, (2, (.tmp 30))), (2, (2, (.tmp 31))), (4,
   (2, (.tmp 32)))]), none⟩, ⟨(some 34), (.faddr 3 (.tmp 7)), none⟩, ⟨none, (.store 1 (.tmp 34) (.tmp 33)), none⟩]) (.seq (.region [⟨(some 36), (.load (some 4) (.tmp 7)), none⟩,
  ⟨(some 37), (.call (.func 54) [(.tmp 36)]), none⟩, ⟨(some 35), (.mv (.tmp 37)), none⟩, ⟨(some 38), (.ext (.tmp 35) 0), none⟩, ⟨(some 39), (.ext (.tmp 35) 1), none⟩, ⟨(some 8),
  (.mv (.tmp 38)), none⟩, ⟨(some 9), (.mv (.tmp 39)), none⟩]) (.seq (.region [⟨(some 40), (.load (some 4) (.tmp 1)), none⟩, ⟨(some 10), (.alloc [(.slc none 0 0 true 0), (.slc none
  0 0 true 0), (.slc none 0 0 true 0), (.slc none 0 0 true 0)]), none⟩, ⟨none, (.store 4 (.tmp 10) (.tmp 40)), none⟩]) (.seq (.region [⟨(some 41), (.bslice [(.int .i64 0)] 1 1 [(0,
   (1, (.const (.int .i64 50))))]), none⟩, ⟨(some 42), (.faddr 1 (.tmp 10)), none⟩, ⟨none, (.store 1 (.tmp 42) (.tmp 41)), none⟩]) (.seq (.region [⟨(some 44), (.load (some 4)
  (.tmp 10)), none⟩, ⟨(some 45), (.call (.func 20) [(.tmp 44)]), none⟩, ⟨(some 43), (.mv (.tmp 45)), none⟩, ⟨(some 46), (.ext (.tmp 43) 0), none⟩, ⟨(some 47), (.ext (.tmp 43) 1),
  none⟩, ⟨(some 11), (.mv (.tmp 46)), none⟩, ⟨(some 12), (.mv (.tmp 47)), none⟩]) (.seq (.region [⟨(some 48), (.mv (.tmp 3)), none⟩, ⟨(some 49), (.bin .eql (.tmp 48) (.const (.int
  .i64 16))), none⟩, ⟨(some 50), (.mv (.tmp 49)), none⟩, ⟨(some 51), (.mv (.tmp 4)), (some (50, true))⟩, ⟨(some 52), (.bin .eql (.tmp 51) (.const (.int .i64 0))), (some (50,
  true))⟩, ⟨(some 53), (.pick (.tmp 50) (.tmp 52) (.const (.bool false))), none⟩, ⟨(some 54), (.mv (.tmp 53)), none⟩, ⟨(some 55), (.mv (.tmp 6)), (some (54, true))⟩, ⟨(some 56),
  (.bin .eql (.tmp 55) (.const (.int .i64 0))), (some (54, true))⟩, ⟨(some 57), (.pick (.tmp 54) (.tmp 56) (.const (.bool false))), none⟩, ⟨(some 58), (.mv (.tmp 57)), none⟩,
  ⟨(some 59), (.mv (.tmp 9)), (some (58, true))⟩, ⟨(some 60), (.bin .eql (.tmp 59) (.const (.int .i64 0))), (some (58, true))⟩, ⟨(some 61), (.pick (.tmp 58) (.tmp 60) (.const
  (.bool false))), none⟩, ⟨(some 62), (.mv (.tmp 61)), none⟩, ⟨(some 63), (.mv (.tmp 12)), (some (62, true))⟩, ⟨(some 64), (.bin .eql (.tmp 63) (.const (.int .i64 13))), (some (62,
   true))⟩, ⟨(some 65), (.pick (.tmp 62) (.tmp 64) (.const (.bool false))), none⟩, ⟨(some 66), (.mv (.tmp 65)), none⟩, ⟨(some 67), (.load (some 4) (.tmp 1)), (some (66, true))⟩,
  ⟨(some 68), (.mv (.tmp 5)), (some (66, true))⟩, ⟨(some 69), (.call (.func 42) [(.tmp 67), (.tmp 68), (.const (.int .i64 3)), (.const (.int .i64 1))]), (some (66, true))⟩, ⟨(some
  70), (.pick (.tmp 66) (.tmp 69) (.const (.bool false))), none⟩, ⟨(some 71), (.mv (.tmp 70)), none⟩, ⟨(some 72), (.load (some 4) (.tmp 7)), (some (71, true))⟩, ⟨(some 73), (.mv
  (.tmp 8)), (some (71, true))⟩, ⟨(some 74), (.call (.func 57) [(.tmp 72), (.tmp 73)]), (some (71, true))⟩, ⟨(some 75), (.pick (.tmp 71) (.tmp 74) (.const (.bool false))), none⟩,
  ⟨(some 76), (.mv (.tmp 75)), none⟩, ⟨(some 77), (.mv (.tmp 11)), (some (76, true))⟩, ⟨(some 78), (.len (.tmp 77)), (some (76, true))⟩, ⟨(some 79), (.bin .eql (.tmp 78) (.const
  (.int .i64 0))), (some (76, true))⟩, ⟨(some 80), (.pick (.tmp 76) (.tmp 79) (.const (.bool false))), none⟩, ⟨(some 81), (.mv (.tmp 80)), none⟩, ⟨(some 82), (.call (.func 17) []),
   (some (81, true))⟩, ⟨(some 83), (.pick (.tmp 81) (.tmp 82) (.const (.bool false))), none⟩, ⟨(some 0), (.mv (.tmp 83)), none⟩]) .ret))))))))))))⟩
def af15 : AFn := ⟨25, [(.tmp 2)], (.seq (.region [⟨(some 1), (.box (.tmp 0)), none⟩, ⟨(some 2), (.mv (.const (.bool false))), none⟩]) (.seq (.region [⟨(some 3), (.faddr 1 (.tmp 1)), none⟩, ⟨(some
  4), (.load none (.tmp 3)), none⟩, ⟨(some 5), (.len (.tmp 4)), none⟩, ⟨(some 6), (.bin .gtr (.tmp 5) (.const (.int .i64 10))), none⟩, ⟨(some 7), (.mv (.tmp 6)), none⟩, ⟨(some 8),
  (.faddr 0 (.tmp 1)), (some (7, false))⟩, ⟨(some 9), (.load none (.tmp 8)), (some (7, false))⟩, ⟨(some 10), (.len (.tmp 9)), (some (7, false))⟩, ⟨(some 11), (.bin .gtr (.tmp 10)
  (.const (.int .i64 10))), (some (7, false))⟩, ⟨(some 12), (.pick (.tmp 7) (.const (.bool true)) (.tmp 11)), none⟩, ⟨(some 13), (.mv (.tmp 12)), none⟩, ⟨(some 14), (.faddr 2
  (.tmp 1)), (some (13, false))⟩, ⟨(some 15), (.load none (.tmp 14)), (some (13, false))⟩, ⟨(some 16), (.len (.tmp 15)), (some (13, false))⟩, ⟨(some 17), (.bin .gtr (.tmp 16)
  (.const (.int .i64 20))), (some (13, false))⟩, ⟨(some 18), (.pick (.tmp 13) (.const (.bool true)) (.tmp 17)), none⟩, ⟨(some 19), (.mv (.tmp 18)), none⟩, ⟨(some 20), (.faddr 3
  (.tmp 1)), (some (19, false))⟩, ⟨(some 21), (.load none (.tmp 20)), (some (19, false))⟩, ⟨(some 22), (.len (.tmp 21)), (some (19, false))⟩, ⟨(some 23), (.bin .gtr (.tmp 22)
  (.const (.int .i64 70))), (some (19, false))⟩, ⟨(some 24), (.pick (.tmp 19) (.const (.bool true)) (.tmp 23)), none⟩, ⟨(some 2), (.mv (.tmp 24)), none⟩]) .ret))⟩
def af16 : AFn := ⟨15, [(.tmp 4)], (.seq (.region [⟨(some 2), (.box (.tmp 0)), none⟩, ⟨(some 4), (.mv (.const (.bool false))), none⟩]) (.seq (.region [⟨(some 5), (.load (some 4) (.tmp 2)), none⟩,
  ⟨(some 6), (.call (.func 51) [(.tmp 5)]), none⟩, ⟨(some 7), (.bin .eql (.tmp 6) (.const (.int .i64 0))), none⟩, ⟨(some 8), (.mv (.tmp 7)), none⟩, ⟨(some 9), (.faddr 2 (.tmp 2)),
  (some (8, true))⟩, ⟨(some 10), (.load none (.tmp 9)), (some (8, true))⟩, ⟨(some 11), (.len (.tmp 10)), (some (8, true))⟩, ⟨(some 12), (.mv (.tmp 1)), (some (8, true))⟩, ⟨(some
  13), (.bin .gtr (.tmp 11) (.tmp 12)), (some (8, true))⟩, ⟨(some 14), (.pick (.tmp 8) (.tmp 13) (.const (.bool false))), none⟩, ⟨(some 4), (.mv (.tmp 14)), none⟩]) .ret))⟩
def af17 : AFn := ⟨193, [(.tmp 0)], (.seq (.region [⟨(some 0), (.mv (.const (.bool false))), none⟩]) (.seq (.region [⟨(some 28), (.call (.func 58) []), none⟩, ⟨(some 1), (.alloc [(.slc none 0 0
  true 0), (.slc none 0 0 true 0), (.slc none 0 0 true 0), (.slc none 0 0 true 0)]), none⟩, ⟨none, (.store 4 (.tmp 1) (.tmp 28)), none⟩]) (.seq (.region [⟨(some 30), (.load (some
  4) (.tmp 1)), none⟩, ⟨(some 31), (.call (.func 18) [(.tmp 30)]), none⟩, ⟨(some 29), (.mv (.tmp 31)), none⟩, ⟨(some 32), (.ext (.tmp 29) 0), none⟩, ⟨(some 33), (.ext (.tmp 29) 1),
   none⟩, ⟨(some 2), (.mv (.tmp 32)), none⟩, ⟨(some 3), (.mv (.tmp 33)), none⟩]) (.seq (.region [⟨(some 35), (.load (some 4) (.tmp 1)), none⟩, ⟨(some 36), (.bslice [(.int .i64 0),
  (.int .i64 0), (.int .i64 0), (.int .i64 0)] 4 1 [(0, (1, (.const (.int .i64 0)))), (1, (1, (.const (.int .i64 1)))), (2, (1, (.const (.int .i64 2)))), (3, (1, (.const (.int
  .i64 3))))]), none⟩, ⟨(some 37), (.call (.func 46) [(.tmp 35), (.tmp 36)]), none⟩, ⟨(some 34), (.mv (.tmp 37)), none⟩, ⟨(some 38), (.ext (.tmp 34) 0), none⟩, ⟨(some 39), (.ext
  (.tmp 34) 1), none⟩, ⟨(some 4), (.mv (.tmp 38)), none⟩, ⟨(some 5), (.mv (.tmp 39)), none⟩]) (.seq (.region [⟨(some 41), (.load (some 4) (.tmp 1)), none⟩, ⟨(some 42), (.bslice
  [(.int .i64 0), (.int .i64 0), (.int .i64 0), (.int .i64 0)] 4 1 [(0, (1, (.const (.int .i64 1)))), (1, (1, (.const (.int .i64 0)))), (2, (1, (.const (.int .i64 2)))), (3, (1,
  (.const (.int .i64 3))))]), none⟩, ⟨(some 43), (.call (.func 46) [(.tmp 41), (.tmp 42)]), none⟩, ⟨(some 40), (.mv (.tmp 43)), none⟩, ⟨(some 44), (.ext (.tmp 40) 0), none⟩,
  ⟨(some 45), (.ext (.tmp 40) 1), none⟩, ⟨(some 6), (.mv (.tmp 44)), none⟩, ⟨(some 7), (.mv (.tmp 45)), none⟩]) (.seq (.region [⟨(some 47), (.load (some 4) (.tmp 1)), none⟩,
  ⟨(some 48), (.call (.func 23) [(.tmp 47), (.const (.int .i64 0))]), none⟩, ⟨(some 46), (.mv (.tmp 48)), none⟩, ⟨(some 49), (.ext (.tmp 46) 0), none⟩, ⟨(some 50), (.ext (.tmp 46)
  1), none⟩, ⟨(some 51), (.ext (.tmp 46) 2), none⟩, ⟨(some 8), (.mv (.tmp 49)), none⟩, ⟨(some 9), (.mv (.tmp 50)), none⟩, ⟨(some 10), (.mv (.tmp 51)), none⟩]) (.seq (.region
  [⟨(some 53), (.load (some 4) (.tmp 1)), none⟩, ⟨(some 54), (.call (.func 24) [(.tmp 53), (.const (.int .i64 0))]), none⟩, ⟨(some 52), (.mv (.tmp 54)), none⟩, ⟨(some 55), (.ext
  (.tmp 52) 0), none⟩, ⟨(some 56), (.ext (.tmp 52) 1), none⟩, ⟨(some 57), (.ext (.tmp 52) 2), none⟩, ⟨(some 11), (.mv (.tmp 55)), none⟩, ⟨(some 12), (.mv (.tmp 56)), none⟩, ⟨(some
  13), (.mv (.tmp 57)), none⟩]) (.seq (.region [⟨(some 59), (.load (some 4) (.tmp 1)), none⟩, ⟨(some 60), (.build [(.int .i64 0), (.int .i64 0), (.int .i64 0)] [(0, (1, (.const
  (.int .i64 0)))), (1, (1, (.const (.int .i64 1)))), (2, (1, (.const (.int .i64 15))))]), none⟩, ⟨(some 61), (.bslice [(.int .i64 0), (.int .i64 0), (.int .i64 0)] 1 3 [(0, (3,
  (.tmp 60)))]), none⟩, ⟨(some 62), (.call (.func 35) [(.tmp 59), (.const (.int .i64 0)), (.tmp 61)]), none⟩, ⟨(some 58), (.mv (.tmp 62)), none⟩, ⟨(some 63), (.ext (.tmp 58) 0),
  none⟩, ⟨(some 64), (.ext (.tmp 58) 1), none⟩, ⟨(some 14), (.mv (.tmp 63)), none⟩, ⟨(some 15), (.mv (.tmp 64)), none⟩]) (.seq (.region [⟨(some 66), (.load (some 4) (.tmp 1)),
  none⟩, ⟨(some 67), (.build [(.int .i64 0), (.int .i64 0), (.int .i64 0)] [(0, (1, (.const (.int .i64 2)))), (1, (1, (.const (.int .i64 1)))), (2, (1, (.const (.int .i64 15))))]),
   none⟩, ⟨(some 68), (.bslice [(.int .i64 0), (.int .i64 0), (.int .i64 0)] 1 3 [(0, (3, (.tmp 67)))]), none⟩, ⟨(some 69), (.call (.func 35) [(.tmp 66), (.const (.int .i64 0)),
  (.tmp 68)]), none⟩, ⟨(some 65), (.mv (.tmp 69)), none⟩, ⟨(some 70), (.ext (.tmp 65) 0), none⟩, ⟨(some 71), (.ext (.tmp 65) 1), none⟩, ⟨(some 16), (.mv (.tmp 70)), none⟩, ⟨(some
  17), (.mv (.tmp 71)), none⟩]) (.seq (.region [⟨(some 73), (.load (some 4) (.tmp 1)), none⟩, ⟨(some 74), (.bslice [(.int .i64 0), (.int .i64 0)] 2 1 [(0, (1, (.const (.int .i64
  0)))), (1, (1, (.const (.int .i64 2))))]), none⟩, ⟨(some 75), (.call (.func 30) [(.tmp 73), (.tmp 74)]), none⟩, ⟨(some 72), (.mv (.tmp 75)), none⟩, ⟨(some 76), (.ext (.tmp 72)
  0), none⟩, ⟨(some 77), (.ext (.tmp 72) 1), none⟩, ⟨(some 18), (.mv (.tmp 76)), none⟩, ⟨(some 19), (.mv (.tmp 77)), none⟩]) (.seq (.region [⟨(some 79), (.load (some 4) (.tmp 1)),
  none⟩, ⟨(some 80), (.call (.func 20) [(.tmp 79)]), none⟩, ⟨(some 78), (.mv (.tmp 80)), none⟩, ⟨(some 81), (.ext (.tmp 78) 0), none⟩, ⟨(some 82), (.ext (.tmp 78) 1), none⟩,
  ⟨(some 20), (.mv (.tmp 81)), none⟩, ⟨(some 21), (.mv (.tmp 82)), none⟩]) (.seq (.region [⟨(some 84), (.load (some 4) (.tmp 1)), none⟩, ⟨(some 85), (.call (.func 38) [(.tmp 84)]),
   none⟩, ⟨(some 83), (.mv (.tmp 85)), none⟩, ⟨(some 86), (.ext (.tmp 83) 0), none⟩, ⟨(some 87), (.ext (.tmp 83) 1), none⟩, ⟨(some 22), (.alloc [(.int .i64 0), (.int .i64 0)]),
  none⟩, ⟨none, (.store 2 (.tmp 22) (.tmp 86)), none⟩, ⟨(some 23), (.mv (.tmp 87)), none⟩]) (.seq (.region [⟨(some 89), (.call (.func 59) []), none⟩, ⟨(some 90), (.call (.func 38)
  [(.tmp 89)]), none⟩, ⟨(some 88), (.mv (.tmp 90)), none⟩, ⟨(some 91), (.ext (.tmp 88) 0), none⟩, ⟨(some 92), (.ext (.tmp 88) 1), none⟩, ⟨(some 24), (.alloc [(.int .i64 0), (.int
  .i64 0)]), none⟩, ⟨none, (.store 2 (.tmp 24) (.tmp 91)), none⟩, ⟨(some 25), (.mv (.tmp 92)), none⟩]) (.seq (.region [⟨(some 94), (.call (.func 59) []), none⟩, ⟨(some 95), (.call
  (.func 43) [(.tmp 94), (.const (.int .i64 0)), (.const (.int .i64 3))]), none⟩, ⟨(some 93), (.mv (.tmp 95)), none⟩, ⟨(some 96), (.ext (.tmp 93) 0), none⟩, ⟨(some 97), (.ext
  (.tmp 93) 1), none⟩, ⟨(some 26), (.mv (.tmp 96)), none⟩, ⟨(some 27), (.mv (.tmp 97)), none⟩]) (.seq (.region [⟨(some 98), (.mv (.tmp 3)), none⟩, ⟨(some 99), (.bin .eql (.tmp 98)
  (.const (.int .i64 0))), none⟩, ⟨(some 100), (.mv (.tmp 99)), none⟩, ⟨(some 101), (.mv (.tmp 5)), (some (100, true))⟩, ⟨(some 102), (.bin .eql (.tmp 101) (.const (.int .i64 0))),
   (some (100, true))⟩, ⟨(some 103), (.pick (.tmp 100) (.tmp 102) (.const (.bool false))), none⟩, ⟨(some 104), (.mv (.tmp 103)), none⟩, ⟨(some 105), (.mv (.tmp 7)), (some (104,
  true))⟩, ⟨(some 106), (.bin .eql (.tmp 105) (.const (.int .i64 16))), (some (104, true))⟩, ⟨(some 107), (.pick (.tmp 104) (.tmp 106) (.const (.bool false))), none⟩, ⟨(some 108),
  (.mv (.tmp 107)), none⟩, ⟨(some 109), (.mv (.tmp 10)), (some (108, true))⟩, ⟨(some 110), (.bin .eql (.tmp 109) (.const (.int .i64 0))), (some (108, true))⟩, ⟨(some 111), (.pick
  (.tmp 108) (.tmp 110) (.const (.bool false))), none⟩, ⟨(some 112), (.mv (.tmp 111)), none⟩, ⟨(some 113), (.mv (.tmp 13)), (some (112, true))⟩, ⟨(some 114), (.bin .eql (.tmp 113)
  (.const (.int .i64 0))), (some (112, true))⟩, ⟨(some 115), (.pick (.tmp 112) (.tmp 114) (.const (.bool false))), none⟩, ⟨(some 116), (.mv (.tmp 115)), none⟩, ⟨(some 117), (.mv
  (.tmp 15)), (some (116, true))⟩, ⟨(some 118), (.bin .eql (.tmp 117) (.const (.int .i64 0))), (some (116, true))⟩, ⟨(some 119), (.pick (.tmp 116) (.tmp 118) (.const (.bool
  false))), none⟩, ⟨(some 120), (.mv (.tmp 119)), none⟩, ⟨(some 121), (.mv (.tmp 17)), (some (120, true))⟩, ⟨(some 122), (.bin .eql (.tmp 121) (.const (.int .i64 14))), (some (120,
   true))⟩, ⟨(some 123), (.pick (.tmp 120) (.tmp 122) (.const (.bool false))), none⟩, ⟨(some 124), (.mv (.tmp 123)), none⟩, ⟨(some 125), (.mv (.tmp 19)), (some (124, true))⟩,
  ⟨(some 126), (.bin .eql (.tmp 125) (.const (.int .i64 0))), (some (124, true))⟩, ⟨(some 127), (.pick (.tmp 124) (.tmp 126) (.const (.bool false))), none⟩, ⟨(some 128), (.mv
  (.tmp 127)), none⟩, ⟨(some 129), (.mv (.tmp 21)), (some (128, true))⟩, ⟨(some 130), (.bin .eql (.tmp 129) (.const (.int .i64 0))), (some (128, true))⟩, ⟨(some 131), (.pick (.tmp
  128) (.tmp 130) (.const (.bool false))), none⟩, ⟨(some 132), (.mv (.tmp 131)), none⟩, ⟨(some 133), (.mv (.tmp 23)), (some (132, true))⟩, ⟨(some 134), (.bin .eql (.tmp 133)
  (.const (.int .i64 0))), (some (132, true))⟩, ⟨(some 135), (.pick (.tmp 132) (.tmp 134) (.const (.bool false))), none⟩, ⟨(some 136), (.mv (.tmp 135)), none⟩, ⟨(some 137), (.mv
  (.tmp 25)), (some (136, true))⟩, ⟨(some 138), (.bin .eql (.tmp 137) (.const (.int .i64 5))), (some (136, true))⟩, ⟨(some 139), (.pick (.tmp 136) (.tmp 138) (.const (.bool
  false))), none⟩, ⟨(some 140), (.mv (.tmp 139)), none⟩, ⟨(some 141), (.mv (.tmp 27)), (some (140, true))⟩, ⟨(some 142), (.bin .eql (.tmp 141) (.const (.int .i64 0))), (some (140,
  true))⟩, ⟨(some 143), (.pick (.tmp 140) (.tmp 142) (.const (.bool false))), none⟩, ⟨(some 144), (.mv (.tmp 143)), none⟩, ⟨(some 145), (.mv (.tmp 2)), (some (144, true))⟩, ⟨(some
  146), (.bin .eql (.tmp 145) (.const (.int .i64 12))), (some (144, true))⟩, ⟨(some 147), (.pick (.tmp 144) (.tmp 146) (.const (.bool false))), none⟩, ⟨(some 148), (.mv (.tmp
  147)), none⟩, ⟨(some 149), (.mv (.tmp 4)), (some (148, true))⟩, ⟨(some 150), (.bslice [(.int .i64 0), (.int .i64 0), (.int .i64 0), (.int .i64 0)] 4 1 [(0, (1, (.const (.int
  .i64 5)))), (1, (1, (.const (.int .i64 55)))), (2, (1, (.const (.int .i64 25)))), (3, (1, (.const (.int .i64 45))))]), (some (148, true))⟩, ⟨(some 151), (.call (.func 52) [(.tmp
  149), (.tmp 150)]), (some (148, true))⟩, ⟨(some 152), (.pick (.tmp 148) (.tmp 151) (.const (.bool false))), none⟩, ⟨(some 153), (.mv (.tmp 152)), none⟩, ⟨(some 154), (.mv (.tmp
  8)), (some (153, true))⟩, ⟨(some 155), (.bin .eql (.tmp 154) (.const (.int .i64 75))), (some (153, true))⟩, ⟨(some 156), (.pick (.tmp 153) (.tmp 155) (.const (.bool false))),
  none⟩, ⟨(some 157), (.mv (.tmp 156)), none⟩, ⟨(some 158), (.mv (.tmp 9)), (some (157, true))⟩, ⟨(some 159), (.bslice [(.int .i64 0), (.int .i64 0), (.int .i64 0)] 3 1 [(0, (1,
  (.const (.int .i64 0)))), (1, (1, (.const (.int .i64 1)))), (2, (1, (.const (.int .i64 3))))]), (some (157, true))⟩, ⟨(some 160), (.call (.func 22) [(.tmp 158), (.tmp 159)]),
  (some (157, true))⟩, ⟨(some 161), (.pick (.tmp 157) (.tmp 160) (.const (.bool false))), none⟩, ⟨(some 162), (.mv (.tmp 161)), none⟩, ⟨(some 163), (.mv (.tmp 11)), (some (162,
  true))⟩, ⟨(some 164), (.bin .eql (.tmp 163) (.const (.int .i64 (-25)))), (some (162, true))⟩, ⟨(some 165), (.pick (.tmp 162) (.tmp 164) (.const (.bool false))), none⟩, ⟨(some
  166), (.mv (.tmp 165)), none⟩, ⟨(some 167), (.mv (.tmp 12)), (some (166, true))⟩, ⟨(some 168), (.bslice [(.int .i64 0), (.int .i64 0)] 2 1 [(0, (1, (.const (.int .i64 0)))), (1,
  (1, (.const (.int .i64 2))))]), (some (166, true))⟩, ⟨(some 169), (.call (.func 22) [(.tmp 167), (.tmp 168)]), (some (166, true))⟩, ⟨(some 170), (.pick (.tmp 166) (.tmp 169)
  (.const (.bool false))), none⟩, ⟨(some 171), (.mv (.tmp 170)), none⟩, ⟨(some 172), (.mv (.tmp 14)), (some (171, true))⟩, ⟨(some 173), (.bin .eql (.tmp 172) (.const (.int .i64
  75))), (some (171, true))⟩, ⟨(some 174), (.pick (.tmp 171) (.tmp 173) (.const (.bool false))), none⟩, ⟨(some 175), (.mv (.tmp 174)), none⟩, ⟨(some 176), (.mv (.tmp 18)), (some
  (175, true))⟩, ⟨(some 177), (.bslice [(.int .i64 0), (.int .i64 0), (.int .i64 0), (.int .i64 0)] 4 1 [(0, (1, (.const (.int .i64 0)))), (1, (1, (.const (.int .i64 2)))), (2, (1,
   (.const (.int .i64 1)))), (3, (1, (.const (.int .i64 3))))]), (some (175, true))⟩, ⟨(some 178), (.call (.func 22) [(.tmp 176), (.tmp 177)]), (some (175, true))⟩, ⟨(some 179),
  (.pick (.tmp 175) (.tmp 178) (.const (.bool false))), none⟩, ⟨(some 180), (.mv (.tmp 179)), none⟩, ⟨(some 181), (.mv (.tmp 20)), (some (180, true))⟩, ⟨(some 182), (.bslice
  [(.int .i64 0), (.int .i64 0), (.int .i64 0), (.int .i64 0)] 4 1 [(0, (1, (.const (.int .i64 0)))), (1, (1, (.const (.int .i64 1)))), (2, (1, (.const (.int .i64 2)))), (3, (1,
  (.const (.int .i64 3))))]), (some (180, true))⟩, ⟨(some 183), (.call (.func 22) [(.tmp 181), (.tmp 182)]), (some (180, true))⟩, ⟨(some 184), (.pick (.tmp 180) (.tmp 183) (.const
  (.bool false))), none⟩, ⟨(some 185), (.mv (.tmp 184)), none⟩, ⟨(some 186), (.load (some 2) (.tmp 22)), (some (185, true))⟩, ⟨(some 187), (.build [(.int .i64 0), (.int .i64 0)]
  [(0, (1, (.const (.int .i64 1)))), (1, (1, (.const (.int .i64 3))))]), (some (185, true))⟩, ⟨(some 188), (.eqf false true [.int, .int] (.tmp 186) (.tmp 187)), (some (185,
  true))⟩, ⟨(some 189), (.pick (.tmp 185) (.tmp 188) (.const (.bool false))), none⟩, ⟨(some 190), (.mv (.tmp 189)), none⟩, ⟨(some 191), (.mv (.tmp 26)), (some (190, true))⟩,
  ⟨(some 192), (.pick (.tmp 190) (.tmp 191) (.const (.bool false))), none⟩, ⟨(some 0), (.mv (.tmp 192)), none⟩]) .ret)))))))))))))))⟩
def af18 : AFn := ⟨55, [(.tmp 2), (.tmp 3)], (.seq (.region [⟨(some 1), (.box (.tmp 0)), none⟩, ⟨(some 2), (.mv (.const (.int .i64 0))), none⟩, ⟨(some 3), (.mv (.const (.int .i64 0))), none⟩])
  (.seq (.region [⟨(some 10), (.load (some 4) (.tmp 1)), none⟩, ⟨(some 11), (.call (.func 60) [(.tmp 10)]), none⟩, ⟨(some 9), (.mv (.tmp 11)), none⟩, ⟨(some 12), (.ext (.tmp 9) 0),
   none⟩, ⟨(some 13), (.ext (.tmp 9) 1), none⟩, ⟨(some 4), (.mv (.tmp 12)), none⟩, ⟨(some 5), (.mv (.tmp 13)), none⟩]) (.seq (.seq (.region [⟨(some 14), (.mv (.tmp 5)), none⟩,
  ⟨(some 15), (.bin .neq (.tmp 14) (.const (.int .i64 0))), none⟩]) (.cond (.tmp 15) (.seq (.region [⟨(some 16), (.mv (.tmp 5)), none⟩, ⟨(some 2), (.mv (.const (.int .i64 0))),
  none⟩, ⟨(some 3), (.mv (.tmp 16)), none⟩]) .ret) .skip)) (.seq (.region [⟨(some 17), .mkmap, none⟩, ⟨none, (.mapup false [.int] (.tmp 17) (.const (.int .i64 0)) (.const (.int
  .i64 1))), none⟩, ⟨(some 18), (.mv (.tmp 17)), none⟩, ⟨(some 6), (.alloc [(.map none)]), none⟩, ⟨none, (.store 1 (.tmp 6) (.tmp 18)), none⟩]) (.seq (.seq (.region [⟨(some 19),
  (.mv (.tmp 4)), none⟩, ⟨(some 20), (.call (.func 61) [(.tmp 19)]), none⟩, ⟨(some 21), (.bin .add (.tmp 20) (.const (.int .i64 1))), none⟩, ⟨(some 22), (.mv (.const (.int .i64
  0))), none⟩]) (.block 0 (.loop (.seq (.region [⟨(some 23), (.bin .lss (.tmp 22) (.tmp 21)), none⟩]) (.seq (.cond (.tmp 23) .skip (.exit 0)) (.seq (.block 1 (.seq (.region
  [⟨(some 24), (.mv (.tmp 22)), none⟩, ⟨(some 7), (.alloc [(.int .i64 0)]), none⟩, ⟨none, (.store 1 (.tmp 7) (.tmp 24)), none⟩]) (.seq (.seq (.region [⟨(some 25), (.mv (.tmp 4)),
  none⟩, ⟨(some 26), (.load none (.tmp 7)), none⟩, ⟨(some 27), (.call (.func 62) [(.tmp 25), (.tmp 26)]), none⟩]) (.block 2 (.rangeF (.tmp 27) [28] (.region [⟨(some 8), (.mv (.tmp
  28)), none⟩]) (.block 3 (.seq (.region [⟨(some 29), (.load none (.tmp 6)), none⟩, ⟨(some 30), (.load none (.tmp 7)), none⟩, ⟨(some 31), (.look false [.int] (.int .i64 0) (.tmp
  29) (.tmp 30) false), none⟩, ⟨(some 32), (.bin .gtr (.tmp 31) (.const (.int .i64 0))), none⟩]) (.cond (.tmp 32) (.draw [⟨(some 33), (.load none (.tmp 6)), none⟩, ⟨(some 34),
  (.load none (.tmp 7)), none⟩, ⟨(some 35), (.mv (.tmp 8)), none⟩, ⟨(some 36), (.bslice [(.int .i64 0)] 1 1 [(0, (1, (.tmp 35)))]), none⟩, ⟨(some 37), (.call (.func 63) [(.tmp
  36)]), none⟩, ⟨(some 38), (.bin .or (.tmp 34) (.tmp 37)), none⟩, ⟨(some 39), (.look false [.int] (.int .i64 0) (.tmp 33) (.tmp 38) false), none⟩, ⟨(some 40), (.load none (.tmp
  6)), none⟩, ⟨(some 41), (.load none (.tmp 7)), none⟩, ⟨(some 42), (.look false [.int] (.int .i64 0) (.tmp 40) (.tmp 41) false), none⟩, ⟨(some 43), (.bin .add (.tmp 39) (.tmp
  42)), none⟩, ⟨none, (.mapup false [.int] (.tmp 33) (.tmp 38) (.tmp 43)), none⟩] [(0, 3), (1, 3), (0, 4), (1, 4), (3, 7), (4, 7), (3, 8), (4, 8), (3, 9), (4, 9)]) .skip))))))
  (.seq (.draw [⟨(some 44), (.load none (.tmp 7)), none⟩, ⟨(some 45), (.mv (.tmp 4)), none⟩, ⟨(some 46), (.call (.func 61) [(.tmp 45)]), none⟩, ⟨(some 47), (.bin .neq (.tmp 44)
  (.tmp 46)), none⟩] [(0, 2)]) (.cond (.tmp 47) (.region [⟨(some 48), (.load none (.tmp 6)), none⟩, ⟨(some 49), (.load none (.tmp 7)), none⟩, ⟨none, (.del false [.int] (.tmp 48)
  (.tmp 49)), none⟩]) .skip))))) (.region [⟨(some 50), (.bin .add (.tmp 22) (.const (.int .i64 1))), none⟩, ⟨(some 22), (.mv (.tmp 50)), none⟩]))))))) (.seq (.draw [⟨(some 51),
  (.load none (.tmp 6)), none⟩, ⟨(some 52), (.mv (.tmp 4)), none⟩, ⟨(some 53), (.call (.func 61) [(.tmp 52)]), none⟩, ⟨(some 54), (.look false [.int] (.int .i64 0) (.tmp 51) (.tmp
  53) false), none⟩, ⟨(some 2), (.mv (.tmp 54)), none⟩, ⟨(some 3), (.mv (.const (.int .i64 0))), none⟩] [(0, 2)]) .ret))))))⟩
def af19 : AFn := ⟨63, [(.tmp 2), (.tmp 3)], (.seq (.region [⟨(some 1), (.box (.tmp 0)), none⟩, ⟨(some 2), (.mv (.const (.int .i64 0))), none⟩, ⟨(some 3), (.mv (.const (.int .i64 0))), none⟩])
  (.seq (.seq (.region [⟨(some 8), (.load (some 4) (.tmp 1)), none⟩, ⟨(some 9), (.call (.func 51) [(.tmp 8)]), none⟩, ⟨(some 10), (.bin .neq (.tmp 9) (.const (.int .i64 0))),
  none⟩]) (.cond (.tmp 10) (.seq (.region [⟨(some 11), (.load (some 4) (.tmp 1)), none⟩, ⟨(some 12), (.call (.func 51) [(.tmp 11)]), none⟩, ⟨(some 2), (.mv (.const (.int .i64 0))),
   none⟩, ⟨(some 3), (.mv (.tmp 12)), none⟩]) .ret) .skip)) (.seq (.region [⟨(some 13), (.faddr 2 (.tmp 1)), none⟩, ⟨(some 14), (.load none (.tmp 13)), none⟩, ⟨(some 15), (.len
  (.tmp 14)), none⟩, ⟨(some 16), (.bin .shl (.const (.int .i64 1)) (.tmp 15)), none⟩, ⟨(some 17), (.mkslc [(.int .i64 0)] 8 (.tmp 16) (.tmp 16)), none⟩, ⟨(some 4), (.mv (.tmp 17)),
   none⟩]) (.seq (.region [⟨(some 18), (.mv (.tmp 4)), none⟩, ⟨(some 19), (.iaddrS 1 (.tmp 18) (.const (.int .i64 0))), none⟩, ⟨none, (.store 1 (.tmp 19) (.const (.int .i64 1))),
  none⟩]) (.seq (.seq (.region [⟨(some 5), (.mv (.const (.int .i64 0))), none⟩]) (.block 0 (.loop (.seq (.seq (.region [⟨(some 20), (.mv (.tmp 5)), none⟩, ⟨(some 21), (.mv (.tmp
  4)), none⟩, ⟨(some 22), (.len (.tmp 21)), none⟩, ⟨(some 23), (.bin .lss (.tmp 20) (.tmp 22)), none⟩]) (.cond (.tmp 23) .skip (.exit 0))) (.seq (.block 1 (.seq (.seq (.region
  [⟨(some 26), (.mv (.tmp 4)), none⟩, ⟨(some 27), (.mv (.tmp 5)), none⟩, ⟨(some 28), (.iaddrS 1 (.tmp 26) (.tmp 27)), none⟩, ⟨(some 29), (.load none (.tmp 28)), none⟩, ⟨(some 30),
  (.bin .eql (.tmp 29) (.const (.int .i64 0))), none⟩]) (.cond (.tmp 30) (.exit 1) .skip)) (.seq (.draw [⟨(some 31), (.load (some 4) (.tmp 1)), none⟩, ⟨(some 32), (.mv (.tmp 5)),
  none⟩, ⟨(some 33), (.call (.func 65) [(.tmp 32)]), none⟩, ⟨(some 34), (.call (.func 64) [(.tmp 31), (.tmp 33)]), none⟩, ⟨(some 6), (.mv (.tmp 34)), none⟩] [(0, 2)]) (.seq
  (.region [⟨(some 7), (.mv (.const (.int .i64 0))), none⟩]) (.block 2 (.loop (.seq (.seq (.region [⟨(some 35), (.mv (.tmp 7)), none⟩, ⟨(some 36), (.mv (.tmp 6)), none⟩, ⟨(some
  37), (.len (.tmp 36)), none⟩, ⟨(some 38), (.bin .lss (.tmp 35) (.tmp 37)), none⟩]) (.cond (.tmp 38) .skip (.exit 2))) (.seq (.block 3 (.draw [⟨(some 41), (.mv (.tmp 4)), none⟩,
  ⟨(some 42), (.mv (.tmp 5)), none⟩, ⟨(some 43), (.mv (.tmp 6)), none⟩, ⟨(some 44), (.mv (.tmp 7)), none⟩, ⟨(some 45), (.iaddrS 1 (.tmp 43) (.tmp 44)), none⟩, ⟨(some 46), (.load
  none (.tmp 45)), none⟩, ⟨(some 47), (.bin .shl (.const (.int .i64 1)) (.tmp 46)), none⟩, ⟨(some 48), (.bin .or (.tmp 42) (.tmp 47)), none⟩, ⟨(some 49), (.iaddrS 1 (.tmp 41)
  (.tmp 48)), none⟩, ⟨(some 50), (.load none (.tmp 49)), none⟩, ⟨(some 51), (.mv (.tmp 4)), none⟩, ⟨(some 52), (.mv (.tmp 5)), none⟩, ⟨(some 53), (.iaddrS 1 (.tmp 51) (.tmp 52)),
  none⟩, ⟨(some 54), (.load none (.tmp 53)), none⟩, ⟨(some 55), (.bin .add (.tmp 50) (.tmp 54)), none⟩, ⟨(some 56), (.iaddrS 1 (.tmp 41) (.tmp 48)), none⟩, ⟨none, (.store 1 (.tmp
  56) (.tmp 55)), none⟩] [])) (.region [⟨(some 39), (.mv (.tmp 7)), none⟩, ⟨(some 40), (.bin .add (.tmp 39) (.const (.int .i64 1))), none⟩, ⟨(some 7), (.mv (.tmp 40)),
  none⟩]))))))))) (.region [⟨(some 24), (.mv (.tmp 5)), none⟩, ⟨(some 25), (.bin .add (.tmp 24) (.const (.int .i64 1))), none⟩, ⟨(some 5), (.mv (.tmp 25)), none⟩])))))) (.seq
  (.region [⟨(some 57), (.mv (.tmp 4)), none⟩, ⟨(some 58), (.mv (.tmp 4)), none⟩, ⟨(some 59), (.len (.tmp 58)), none⟩, ⟨(some 60), (.bin .sub (.tmp 59) (.const (.int .i64 1))),
  none⟩, ⟨(some 61), (.iaddrS 1 (.tmp 57) (.tmp 60)), none⟩, ⟨(some 62), (.load none (.tmp 61)), none⟩, ⟨(some 2), (.mv (.tmp 62)), none⟩, ⟨(some 3), (.mv (.const (.int .i64 0))),
  none⟩]) .ret))))))⟩
def af20 : AFn := ⟨107, [(.tmp 2), (.tmp 3)], (.seq (.region [⟨(some 1), (.box (.tmp 0)), none⟩, ⟨(some 2), (.mv (.const (.slc none 0 0 true 0))), none⟩, ⟨(some 3), (.mv (.const (.int .i64 0))),
  none⟩]) (.seq (.region [⟨(some 17), (.load (some 4) (.tmp 1)), none⟩, ⟨(some 18), (.call (.func 60) [(.tmp 17)]), none⟩, ⟨(some 16), (.mv (.tmp 18)), none⟩, ⟨(some 19), (.ext
  (.tmp 16) 0), none⟩, ⟨(some 20), (.ext (.tmp 16) 1), none⟩, ⟨(some 4), (.alloc [(.ptr none)]), none⟩, ⟨none, (.store 1 (.tmp 4) (.tmp 19)), none⟩, ⟨(some 5), (.mv (.tmp 20)),
  none⟩]) (.seq (.seq (.region [⟨(some 21), (.mv (.tmp 5)), none⟩, ⟨(some 22), (.bin .neq (.tmp 21) (.const (.int .i64 0))), none⟩]) (.cond (.tmp 22) (.seq (.region [⟨(some 23),
  (.mv (.tmp 5)), none⟩, ⟨(some 2), (.mv (.const (.slc none 0 0 true 0))), none⟩, ⟨(some 3), (.mv (.tmp 23)), none⟩]) .ret) .skip)) (.seq (.region [⟨(some 24), .mkmap, none⟩,
  ⟨(some 25), (.load none (.tmp 4)), none⟩, ⟨(some 26), (.call (.func 61) [(.tmp 25)]), none⟩, ⟨none, (.mapup false [.int] (.tmp 24) (.tmp 26) (.const (.int .i64 (-1)))), none⟩,
  ⟨(some 27), (.mv (.tmp 24)), none⟩, ⟨(some 6), (.alloc [(.map none)]), none⟩, ⟨none, (.store 1 (.tmp 6) (.tmp 27)), none⟩]) (.seq (.seq (.region [⟨(some 28), (.load none (.tmp
  4)), none⟩, ⟨(some 29), (.call (.func 61) [(.tmp 28)]), none⟩, ⟨(some 30), (.bin .sub (.tmp 29) (.const (.int .i64 1))), none⟩, ⟨(some 7), (.alloc [(.int .i64 0)]), none⟩, ⟨none,
   (.store 1 (.tmp 7) (.tmp 30)), none⟩]) (.block 0 (.loop (.seq (.seq (.region [⟨(some 31), (.load none (.tmp 7)), none⟩, ⟨(some 32), (.bin .geq (.tmp 31) (.const (.int .i64 0))),
   none⟩]) (.cond (.tmp 32) .skip (.exit 0))) (.seq (.block 1 (.seq (.region [⟨(some 35), (.load none (.tmp 4)), none⟩, ⟨(some 36), (.load none (.tmp 7)), none⟩, ⟨(some 37),
  (.call (.func 62) [(.tmp 35), (.tmp 36)]), none⟩]) (.block 2 (.rangeF (.tmp 37) [38] (.region [⟨(some 8), (.mv (.tmp 38)), none⟩]) (.block 3 (.seq (.region [⟨(some 39), (.faddr
  2 (.tmp 1)), none⟩, ⟨(some 40), (.load none (.tmp 39)), none⟩, ⟨(some 41), (.mv (.tmp 8)), none⟩, ⟨(some 42), (.iaddrS 4 (.tmp 40) (.tmp 41)), none⟩, ⟨(some 43), (.faddr 0 (.tmp
  42)), none⟩, ⟨(some 44), (.load none (.tmp 43)), none⟩, ⟨(some 9), (.mv (.tmp 44)), none⟩]) (.seq (.draw [⟨(some 46), (.load none (.tmp 6)), none⟩, ⟨(some 47), (.load none (.tmp
  7)), none⟩, ⟨(some 48), (.mv (.tmp 8)), none⟩, ⟨(some 49), (.bslice [(.int .i64 0)] 1 1 [(0, (1, (.tmp 48)))]), none⟩, ⟨(some 50), (.call (.func 63) [(.tmp 49)]), none⟩, ⟨(some
  51), (.bin .or (.tmp 47) (.tmp 50)), none⟩, ⟨(some 52), (.look false [.int] (.int .i64 0) (.tmp 46) (.tmp 51) true), none⟩, ⟨(some 45), (.mv (.tmp 52)), none⟩, ⟨(some 53), (.ext
  (.tmp 45) 0), none⟩, ⟨(some 54), (.ext (.tmp 45) 1), none⟩, ⟨(some 10), (.mv (.tmp 53)), none⟩, ⟨(some 11), (.mv (.tmp 54)), none⟩] [(0, 3), (1, 3), (0, 4), (1, 4)]) (.seq
  (.draw [⟨(some 55), (.mv (.tmp 11)), none⟩, ⟨(some 56), (.mv (.tmp 55)), none⟩, ⟨(some 57), (.faddr 1 (.tmp 1)), (some (56, true))⟩, ⟨(some 58), (.load none (.tmp 57)), (some
  (56, true))⟩, ⟨(some 59), (.mv (.tmp 9)), (some (56, true))⟩, ⟨(some 60), (.iaddrS 1 (.tmp 58) (.tmp 59)), (some (56, true))⟩, ⟨(some 61), (.load none (.tmp 60)), (some (56,
  true))⟩, ⟨(some 62), (.load none (.tmp 4)), (some (56, true))⟩, ⟨(some 63), (.load none (.tmp 7)), (some (56, true))⟩, ⟨(some 64), (.mv (.tmp 8)), (some (56, true))⟩, ⟨(some 65),
   (.bslice [(.int .i64 0)] 1 1 [(0, (1, (.tmp 64)))]), (some (56, true))⟩, ⟨(some 66), (.call (.func 63) [(.tmp 65)]), (some (56, true))⟩, ⟨(some 67), (.bin .or (.tmp 63) (.tmp
  66)), (some (56, true))⟩, ⟨(some 68), (.mv (.tmp 9)), (some (56, true))⟩, ⟨(some 69), (.call (.func 67) [(.tmp 62), (.tmp 67), (.tmp 68)]), (some (56, true))⟩, ⟨(some 70),
  (.bslice [(.int .i64 0)] 1 1 [(0, (1, (.tmp 69)))]), (some (56, true))⟩, ⟨(some 71), (.call (.func 66) [(.const (.int .i64 0)), (.tmp 61), (.tmp 70)]), (some (56, true))⟩,
  ⟨(some 72), (.pick (.tmp 56) (.tmp 71) (.const (.bool false))), none⟩] [(3, 10), (6, 10), (7, 10), (8, 10), (3, 11), (6, 11), (7, 11), (8, 11), (3, 14), (6, 14), (3, 15), (6,
  15)]) (.cond (.tmp 72) (.seq (.region [⟨(some 73), (.load none (.tmp 6)), none⟩, ⟨(some 74), (.load none (.tmp 7)), none⟩, ⟨(some 75), (.mv (.tmp 8)), none⟩, ⟨none, (.mapup
  false [.int] (.tmp 73) (.tmp 74) (.tmp 75)), none⟩]) (.exit 2)) .skip))))))))) (.seq (.seq (.region [⟨(some 76), (.load none (.tmp 7)), none⟩]) (.region [⟨(some 7), (.alloc
  [(.int .i64 0)]), none⟩, ⟨none, (.store 1 (.tmp 7) (.tmp 76)), none⟩])) (.region [⟨(some 33), (.load none (.tmp 7)), none⟩, ⟨(some 34), (.bin .sub (.tmp 33) (.const (.int .i64
  1))), none⟩, ⟨none, (.store 1 (.tmp 7) (.tmp 34)), none⟩]))))))) (.seq (.seq (.region [⟨(some 78), (.load none (.tmp 6)), none⟩, ⟨(some 79), (.look false [.int] (.int .i64 0)
  (.tmp 78) (.const (.int .i64 0)) true), none⟩, ⟨(some 77), (.mv (.tmp 79)), none⟩, ⟨(some 80), (.ext (.tmp 77) 0), none⟩, ⟨(some 81), (.ext (.tmp 77) 1), none⟩, ⟨(some 12), (.mv
  (.tmp 80)), none⟩, ⟨(some 13), (.mv (.tmp 81)), none⟩]) (.seq (.region [⟨(some 82), (.mv (.tmp 13)), none⟩, ⟨(some 83), (.un .not (.tmp 82)), none⟩]) (.cond (.tmp 83) (.seq
  (.region [⟨(some 2), (.mv (.const (.slc none 0 0 true 0))), none⟩, ⟨(some 3), (.mv (.const (.int .i64 13))), none⟩]) .ret) .skip))) (.seq (.region [⟨(some 14), (.mv (.const
  (.slc none 0 0 true 0))), none⟩]) (.seq (.seq (.region [⟨(some 15), (.mv (.const (.int .i64 0))), none⟩]) (.block 4 (.loop (.seq (.seq (.region [⟨(some 84), (.mv (.tmp 15)),
  none⟩, ⟨(some 85), (.load none (.tmp 4)), none⟩, ⟨(some 86), (.call (.func 61) [(.tmp 85)]), none⟩, ⟨(some 87), (.bin .neq (.tmp 84) (.tmp 86)), none⟩]) (.cond (.tmp 87) .skip
  (.exit 4))) (.seq (.block 5 (.draw [⟨(some 95), (.mv (.tmp 14)), none⟩, ⟨(some 96), (.mv (.tmp 14)), none⟩, ⟨(some 97), (.len (.tmp 96)), none⟩, ⟨(some 98), (.mv (.tmp 14)),
  none⟩, ⟨(some 99), (.len (.tmp 98)), none⟩, ⟨(some 100), (.slc 1 (.tmp 95) none (some (.tmp 97)) (some (.tmp 99))), none⟩, ⟨(some 101), (.load none (.tmp 6)), none⟩, ⟨(some 102),
   (.mv (.tmp 15)), none⟩, ⟨(some 103), (.look false [.int] (.int .i64 0) (.tmp 101) (.tmp 102) false), none⟩, ⟨(some 104), (.bslice [(.int .i64 0)] 1 1 [(0, (1, (.tmp 103)))]),
  none⟩, ⟨(some 105), (.app 1 8 (.tmp 100) (.tmp 104)), none⟩, ⟨(some 14), (.mv (.tmp 105)), none⟩] [])) (.region [⟨(some 88), (.mv (.tmp 15)), none⟩, ⟨(some 89), (.load none
  (.tmp 6)), none⟩, ⟨(some 90), (.mv (.tmp 15)), none⟩, ⟨(some 91), (.look false [.int] (.int .i64 0) (.tmp 89) (.tmp 90) false), none⟩, ⟨(some 92), (.bslice [(.int .i64 0)] 1 1
  [(0, (1, (.tmp 91)))]), none⟩, ⟨(some 93), (.call (.func 63) [(.tmp 92)]), none⟩, ⟨(some 94), (.bin .or (.tmp 88) (.tmp 93)), none⟩, ⟨(some 15), (.mv (.tmp 94)), none⟩]))))))
  (.seq (.region [⟨(some 106), (.mv (.tmp 14)), none⟩, ⟨(some 2), (.mv (.tmp 106)), none⟩, ⟨(some 3), (.mv (.const (.int .i64 0))), none⟩]) .ret)))))))))⟩
def af21 : AFn := ⟨123, [(.tmp 2), (.tmp 3)], (.seq (.region [⟨(some 1), (.box (.tmp 0)), none⟩, ⟨(some 2), (.mv (.const (.slc none 0 0 true 0))), none⟩, ⟨(some 3), (.mv (.const (.int .i64 0))),
  none⟩]) (.seq (.seq (.region [⟨(some 14), (.load (some 4) (.tmp 1)), none⟩, ⟨(some 15), (.call (.func 51) [(.tmp 14)]), none⟩, ⟨(some 16), (.bin .neq (.tmp 15) (.const (.int
  .i64 0))), none⟩]) (.cond (.tmp 16) (.seq (.region [⟨(some 17), (.load (some 4) (.tmp 1)), none⟩, ⟨(some 18), (.call (.func 51) [(.tmp 17)]), none⟩, ⟨(some 2), (.mv (.const
  (.slc none 0 0 true 0))), none⟩, ⟨(some 3), (.mv (.tmp 18)), none⟩]) .ret) .skip)) (.seq (.region [⟨(some 19), (.faddr 2 (.tmp 1)), none⟩, ⟨(some 20), (.load none (.tmp 19)),
  none⟩, ⟨(some 21), (.len (.tmp 20)), none⟩, ⟨(some 22), (.bin .shl (.const (.int .i64 1)) (.tmp 21)), none⟩, ⟨(some 4), (.mv (.tmp 22)), none⟩]) (.seq (.region [⟨(some 23), (.mv
  (.tmp 4)), none⟩, ⟨(some 24), (.mkslc [(.int .i64 0)] 8 (.tmp 23) (.tmp 23)), none⟩, ⟨(some 5), (.mv (.tmp 24)), none⟩]) (.seq (.region [⟨(some 25), (.mv (.tmp 5)), none⟩,
  ⟨(some 26), (.mv (.tmp 4)), none⟩, ⟨(some 27), (.bin .sub (.tmp 26) (.const (.int .i64 1))), none⟩, ⟨(some 28), (.iaddrS 1 (.tmp 25) (.tmp 27)), none⟩, ⟨none, (.store 1 (.tmp
  28) (.const (.int .i64 1))), none⟩]) (.seq (.seq (.region [⟨(some 29), (.mv (.tmp 4)), none⟩, ⟨(some 30), (.bin .sub (.tmp 29) (.const (.int .i64 2))), none⟩, ⟨(some 6), (.mv
  (.tmp 30)), none⟩]) (.block 0 (.loop (.seq (.seq (.region [⟨(some 31), (.mv (.tmp 6)), none⟩, ⟨(some 32), (.bin .geq (.tmp 31) (.const (.int .i64 0))), none⟩]) (.cond (.tmp 32)
  .skip (.exit 0))) (.seq (.block 1 (.seq (.region [⟨(some 35), (.mv (.tmp 6)), none⟩, ⟨(some 36), (.call (.func 65) [(.tmp 35)]), none⟩, ⟨(some 7), (.mv (.tmp 36)), none⟩]) (.seq
  (.region [⟨(some 37), (.load (some 4) (.tmp 1)), none⟩, ⟨(some 38), (.mv (.tmp 7)), none⟩, ⟨(some 39), (.call (.func 64) [(.tmp 37), (.tmp 38)]), none⟩, ⟨(some 8), (.mv (.tmp
  39)), none⟩]) (.seq (.region [⟨(some 9), (.mv (.const (.int .i64 0))), none⟩]) (.block 2 (.loop (.seq (.seq (.region [⟨(some 40), (.mv (.tmp 9)), none⟩, ⟨(some 41), (.mv (.tmp
  8)), none⟩, ⟨(some 42), (.len (.tmp 41)), none⟩, ⟨(some 43), (.bin .lss (.tmp 40) (.tmp 42)), none⟩]) (.cond (.tmp 43) .skip (.exit 2))) (.seq (.block 3 (.seq (.draw [⟨(some 46),
   (.mv (.tmp 5)), none⟩, ⟨(some 47), (.mv (.tmp 6)), none⟩, ⟨(some 48), (.mv (.tmp 8)), none⟩, ⟨(some 49), (.mv (.tmp 9)), none⟩, ⟨(some 50), (.iaddrS 1 (.tmp 48) (.tmp 49)),
  none⟩, ⟨(some 51), (.load none (.tmp 50)), none⟩, ⟨(some 52), (.bin .shl (.const (.int .i64 1)) (.tmp 51)), none⟩, ⟨(some 53), (.bin .or (.tmp 47) (.tmp 52)), none⟩, ⟨(some 54),
  (.iaddrS 1 (.tmp 46) (.tmp 53)), none⟩, ⟨(some 55), (.load none (.tmp 54)), none⟩, ⟨(some 56), (.bin .eql (.tmp 55) (.const (.int .i64 1))), none⟩, ⟨(some 57), (.mv (.tmp 56)),
  none⟩, ⟨(some 58), (.load (some 4) (.tmp 1)), (some (57, true))⟩, ⟨(some 59), (.mv (.tmp 7)), (some (57, true))⟩, ⟨(some 60), (.mv (.tmp 8)), (some (57, true))⟩, ⟨(some 61),
  (.mv (.tmp 9)), (some (57, true))⟩, ⟨(some 62), (.iaddrS 1 (.tmp 60) (.tmp 61)), (some (57, true))⟩, ⟨(some 63), (.load none (.tmp 62)), (some (57, true))⟩, ⟨(some 64), (.call
  (.func 68) [(.tmp 58), (.tmp 59), (.tmp 63)]), (some (57, true))⟩, ⟨(some 65), (.pick (.tmp 57) (.tmp 64) (.const (.bool false))), none⟩] []) (.cond (.tmp 65) (.region [⟨(some
  66), (.mv (.tmp 5)), none⟩, ⟨(some 67), (.mv (.tmp 6)), none⟩, ⟨(some 68), (.iaddrS 1 (.tmp 66) (.tmp 67)), none⟩, ⟨none, (.store 1 (.tmp 68) (.const (.int .i64 1))), none⟩])
  .skip))) (.region [⟨(some 44), (.mv (.tmp 9)), none⟩, ⟨(some 45), (.bin .add (.tmp 44) (.const (.int .i64 1))), none⟩, ⟨(some 9), (.mv (.tmp 45)), none⟩]))))))))) (.region
  [⟨(some 33), (.mv (.tmp 6)), none⟩, ⟨(some 34), (.bin .sub (.tmp 33) (.const (.int .i64 1))), none⟩, ⟨(some 6), (.mv (.tmp 34)), none⟩])))))) (.seq (.seq (.region [⟨(some 69),
  (.mv (.tmp 5)), none⟩, ⟨(some 70), (.iaddrS 1 (.tmp 69) (.const (.int .i64 0))), none⟩, ⟨(some 71), (.load none (.tmp 70)), none⟩, ⟨(some 72), (.bin .eql (.tmp 71) (.const (.int
  .i64 0))), none⟩]) (.cond (.tmp 72) (.seq (.region [⟨(some 2), (.mv (.const (.slc none 0 0 true 0))), none⟩, ⟨(some 3), (.mv (.const (.int .i64 13))), none⟩]) .ret) .skip))
  (.seq (.region [⟨(some 10), (.mv (.const (.slc none 0 0 true 0))), none⟩]) (.seq (.region [⟨(some 11), (.mv (.const (.int .i64 0))), none⟩]) (.seq (.block 4 (.loop (.seq (.seq
  (.region [⟨(some 73), (.mv (.tmp 10)), none⟩, ⟨(some 74), (.len (.tmp 73)), none⟩, ⟨(some 75), (.faddr 2 (.tmp 1)), none⟩, ⟨(some 76), (.load none (.tmp 75)), none⟩, ⟨(some 77),
  (.len (.tmp 76)), none⟩, ⟨(some 78), (.bin .lss (.tmp 74) (.tmp 77)), none⟩]) (.cond (.tmp 78) .skip (.exit 4))) (.block 5 (.seq (.region [⟨(some 79), (.load (some 4) (.tmp 1)),
  none⟩, ⟨(some 80), (.mv (.tmp 10)), none⟩, ⟨(some 81), (.call (.func 64) [(.tmp 79), (.tmp 80)]), none⟩, ⟨(some 12), (.mv (.tmp 81)), none⟩]) (.seq (.region [⟨(some 13), (.mv
  (.const (.int .i64 0))), none⟩]) (.block 6 (.loop (.seq (.seq (.region [⟨(some 82), (.mv (.tmp 13)), none⟩, ⟨(some 83), (.mv (.tmp 12)), none⟩, ⟨(some 84), (.len (.tmp 83)),
  none⟩, ⟨(some 85), (.bin .lss (.tmp 82) (.tmp 84)), none⟩]) (.cond (.tmp 85) .skip (.exit 6))) (.seq (.block 7 (.seq (.draw [⟨(some 88), (.mv (.tmp 5)), none⟩, ⟨(some 89), (.mv
  (.tmp 11)), none⟩, ⟨(some 90), (.mv (.tmp 12)), none⟩, ⟨(some 91), (.mv (.tmp 13)), none⟩, ⟨(some 92), (.iaddrS 1 (.tmp 90) (.tmp 91)), none⟩, ⟨(some 93), (.load none (.tmp 92)),
   none⟩, ⟨(some 94), (.bin .shl (.const (.int .i64 1)) (.tmp 93)), none⟩, ⟨(some 95), (.bin .or (.tmp 89) (.tmp 94)), none⟩, ⟨(some 96), (.iaddrS 1 (.tmp 88) (.tmp 95)), none⟩,
  ⟨(some 97), (.load none (.tmp 96)), none⟩, ⟨(some 98), (.bin .eql (.tmp 97) (.const (.int .i64 1))), none⟩, ⟨(some 99), (.mv (.tmp 98)), none⟩, ⟨(some 100), (.load (some 4)
  (.tmp 1)), (some (99, true))⟩, ⟨(some 101), (.mv (.tmp 10)), (some (99, true))⟩, ⟨(some 102), (.mv (.tmp 12)), (some (99, true))⟩, ⟨(some 103), (.mv (.tmp 13)), (some (99,
  true))⟩, ⟨(some 104), (.iaddrS 1 (.tmp 102) (.tmp 103)), (some (99, true))⟩, ⟨(some 105), (.load none (.tmp 104)), (some (99, true))⟩, ⟨(some 106), (.call (.func 68) [(.tmp 100),
   (.tmp 101), (.tmp 105)]), (some (99, true))⟩, ⟨(some 107), (.pick (.tmp 99) (.tmp 106) (.const (.bool false))), none⟩] []) (.cond (.tmp 107) (.seq (.region [⟨(some 108), (.mv
  (.tmp 10)), none⟩, ⟨(some 109), (.mv (.tmp 12)), none⟩, ⟨(some 110), (.mv (.tmp 13)), none⟩, ⟨(some 111), (.iaddrS 1 (.tmp 109) (.tmp 110)), none⟩, ⟨(some 112), (.load none
  (.tmp 111)), none⟩, ⟨(some 113), (.bslice [(.int .i64 0)] 1 1 [(0, (1, (.tmp 112)))]), none⟩, ⟨(some 114), (.app 1 8 (.tmp 108) (.tmp 113)), none⟩, ⟨(some 10), (.mv (.tmp 114)),
  none⟩]) (.seq (.region [⟨(some 115), (.mv (.tmp 11)), none⟩, ⟨(some 116), (.mv (.tmp 12)), none⟩, ⟨(some 117), (.mv (.tmp 13)), none⟩, ⟨(some 118), (.iaddrS 1 (.tmp 116) (.tmp
  117)), none⟩, ⟨(some 119), (.load none (.tmp 118)), none⟩, ⟨(some 120), (.bin .shl (.const (.int .i64 1)) (.tmp 119)), none⟩, ⟨(some 121), (.bin .or (.tmp 115) (.tmp 120)),
  none⟩, ⟨(some 11), (.mv (.tmp 121)), none⟩]) (.exit 6))) .skip))) (.region [⟨(some 86), (.mv (.tmp 13)), none⟩, ⟨(some 87), (.bin .add (.tmp 86) (.const (.int .i64 1))), none⟩,
  ⟨(some 13), (.mv (.tmp 87)), none⟩]))))))))))) (.seq (.region [⟨(some 122), (.mv (.tmp 10)), none⟩, ⟨(some 2), (.mv (.tmp 122)), none⟩, ⟨(some 3), (.mv (.const (.int .i64 0))),
  none⟩]) .ret)))))))))))⟩
def af22 : AFn := ⟨26, [(.tmp 4)], (.seq (.region [⟨(some 4), (.mv (.const (.bool false))), none⟩]) (.seq (.seq (.region [⟨(some 6), (.mv (.tmp 0)), none⟩, ⟨(some 7), (.len (.tmp 6)), none⟩, ⟨(some
  8), (.mv (.tmp 1)), none⟩, ⟨(some 9), (.len (.tmp 8)), none⟩, ⟨(some 10), (.bin .neq (.tmp 7) (.tmp 9)), none⟩]) (.cond (.tmp 10) (.seq (.region [⟨(some 4), (.mv (.const (.bool
  false))), none⟩]) .ret) .skip)) (.seq (.seq (.region [⟨(some 5), (.mv (.const (.int .i64 0))), none⟩]) (.block 0 (.loop (.seq (.seq (.region [⟨(some 11), (.mv (.tmp 5)), none⟩,
  ⟨(some 12), (.mv (.tmp 0)), none⟩, ⟨(some 13), (.len (.tmp 12)), none⟩, ⟨(some 14), (.bin .lss (.tmp 11) (.tmp 13)), none⟩]) (.cond (.tmp 14) .skip (.exit 0))) (.seq (.block 1
  (.seq (.draw [⟨(some 17), (.mv (.tmp 0)), none⟩, ⟨(some 18), (.mv (.tmp 5)), none⟩, ⟨(some 19), (.iaddrS 1 (.tmp 17) (.tmp 18)), none⟩, ⟨(some 20), (.load none (.tmp 19)), none⟩,
   ⟨(some 21), (.mv (.tmp 1)), none⟩, ⟨(some 22), (.mv (.tmp 5)), none⟩, ⟨(some 23), (.iaddrS 1 (.tmp 21) (.tmp 22)), none⟩, ⟨(some 24), (.load none (.tmp 23)), none⟩, ⟨(some 25),
  (.bin .neq (.tmp 20) (.tmp 24)), none⟩] []) (.cond (.tmp 25) (.seq (.region [⟨(some 4), (.mv (.const (.bool false))), none⟩]) .ret) .skip))) (.region [⟨(some 15), (.mv (.tmp 5)),
   none⟩, ⟨(some 16), (.bin .add (.tmp 15) (.const (.int .i64 1))), none⟩, ⟨(some 5), (.mv (.tmp 16)), none⟩])))))) (.seq (.region [⟨(some 4), (.mv (.const (.bool true))), none⟩])
  .ret))))⟩
def af23 : AFn := ⟨30, [(.tmp 4), (.tmp 5), (.tmp 6)], (.seq (.region [⟨(some 2), (.box (.tmp 0)), none⟩, ⟨(some 4), (.mv (.const (.int .i64 0))), none⟩, ⟨(some 5), (.mv (.const (.slc none 0 0 true
  0))), none⟩, ⟨(some 6), (.mv (.const (.int .i64 0))), none⟩]) (.seq (.region [⟨(some 12), (.load (some 4) (.tmp 2)), none⟩, ⟨(some 13), (.mv (.tmp 1)), none⟩, ⟨(some 14), (.call
  (.func 69) [(.tmp 12), (.tmp 13)]), none⟩, ⟨(some 11), (.mv (.tmp 14)), none⟩, ⟨(some 15), (.ext (.tmp 11) 0), none⟩, ⟨(some 16), (.ext (.tmp 11) 1), none⟩, ⟨(some 7), (.mv
  (.tmp 15)), none⟩, ⟨(some 8), (.mv (.tmp 16)), none⟩]) (.seq (.seq (.region [⟨(some 17), (.mv (.tmp 8)), none⟩, ⟨(some 18), (.bin .neq (.tmp 17) (.const (.int .i64 0))), none⟩])
  (.cond (.tmp 18) (.seq (.region [⟨(some 19), (.mv (.tmp 8)), none⟩, ⟨(some 4), (.mv (.const (.int .i64 0))), none⟩, ⟨(some 5), (.mv (.const (.slc none 0 0 true 0))), none⟩,
  ⟨(some 6), (.mv (.tmp 19)), none⟩]) .ret) .skip)) (.seq (.region [⟨(some 21), (.mv (.tmp 7)), none⟩, ⟨(some 22), (.mv (.tmp 1)), none⟩, ⟨(some 23), (.mv (.tmp 7)), none⟩, ⟨(some
  24), (.mkfn 71 [(.tmp 23)] []), none⟩, ⟨(some 25), (.call (.func 70) [(.tmp 21), (.tmp 22), (.tmp 24)]), none⟩, ⟨(some 20), (.mv (.tmp 25)), none⟩, ⟨(some 26), (.ext (.tmp 20)
  0), none⟩, ⟨(some 27), (.ext (.tmp 20) 1), none⟩, ⟨(some 9), (.mv (.tmp 26)), none⟩, ⟨(some 10), (.mv (.tmp 27)), none⟩]) (.seq (.region [⟨(some 28), (.mv (.tmp 9)), none⟩,
  ⟨(some 29), (.mv (.tmp 10)), none⟩, ⟨(some 4), (.mv (.tmp 28)), none⟩, ⟨(some 5), (.mv (.tmp 29)), none⟩, ⟨(some 6), (.mv (.const (.int .i64 0))), none⟩]) .ret)))))⟩
def af24 : AFn := ⟨36, [(.tmp 4), (.tmp 5), (.tmp 6)], (.seq (.region [⟨(some 2), (.box (.tmp 0)), none⟩, ⟨(some 4), (.mv (.const (.int .i64 0))), none⟩, ⟨(some 5), (.mv (.const (.slc none 0 0 true
  0))), none⟩, ⟨(some 6), (.mv (.const (.int .i64 0))), none⟩]) (.seq (.region [⟨(some 12), (.load (some 4) (.tmp 2)), none⟩, ⟨(some 13), (.mv (.tmp 1)), none⟩, ⟨(some 14), (.call
  (.func 69) [(.tmp 12), (.tmp 13)]), none⟩, ⟨(some 11), (.mv (.tmp 14)), none⟩, ⟨(some 15), (.ext (.tmp 11) 0), none⟩, ⟨(some 16), (.ext (.tmp 11) 1), none⟩, ⟨(some 7), (.alloc
  [(.ptr none)]), none⟩, ⟨none, (.store 1 (.tmp 7) (.tmp 15)), none⟩, ⟨(some 8), (.mv (.tmp 16)), none⟩]) (.seq (.seq (.region [⟨(some 17), (.mv (.tmp 8)), none⟩, ⟨(some 18),
  (.bin .neq (.tmp 17) (.const (.int .i64 0))), none⟩]) (.cond (.tmp 18) (.seq (.region [⟨(some 19), (.mv (.tmp 8)), none⟩, ⟨(some 4), (.mv (.const (.int .i64 0))), none⟩, ⟨(some
  5), (.mv (.const (.slc none 0 0 true 0))), none⟩, ⟨(some 6), (.mv (.tmp 19)), none⟩]) .ret) .skip)) (.seq (.region [⟨(some 21), (.load none (.tmp 7)), none⟩, ⟨(some 22), (.mv
  (.tmp 1)), none⟩, ⟨(some 23), (.mkfn 72 [] [(.tmp 7)]), none⟩, ⟨(some 24), (.call (.func 70) [(.tmp 21), (.tmp 22), (.tmp 23)]), none⟩, ⟨(some 20), (.mv (.tmp 24)), none⟩,
  ⟨(some 25), (.ext (.tmp 20) 0), none⟩, ⟨(some 26), (.ext (.tmp 20) 1), none⟩, ⟨(some 9), (.mv (.tmp 25)), none⟩, ⟨(some 10), (.mv (.tmp 26)), none⟩]) (.seq (.region [⟨(some 27),
  (.faddr 0 (.tmp 2)), none⟩, ⟨(some 28), (.load none (.tmp 27)), none⟩, ⟨(some 29), (.mv (.tmp 1)), none⟩, ⟨(some 30), (.iaddrS 1 (.tmp 28) (.tmp 29)), none⟩, ⟨(some 31), (.load
  none (.tmp 30)), none⟩, ⟨(some 32), (.bin .mul (.const (.int .i64 2)) (.tmp 31)), none⟩, ⟨(some 33), (.mv (.tmp 9)), none⟩, ⟨(some 34), (.bin .sub (.tmp 32) (.tmp 33)), none⟩,
  ⟨(some 35), (.mv (.tmp 10)), none⟩, ⟨(some 4), (.mv (.tmp 34)), none⟩, ⟨(some 5), (.mv (.tmp 35)), none⟩, ⟨(some 6), (.mv (.const (.int .i64 0))), none⟩]) .ret)))))⟩
def af25 : AFn := ⟨19, [(.tmp 4)], (.seq (.region [⟨(some 2), (.box (.tmp 0)), none⟩, ⟨(some 4), (.mv (.const (.int .i64 0))), none⟩]) (.seq (.seq (.region [⟨(some 5), (.load (some 4) (.tmp 2)),
  none⟩, ⟨(some 6), (.call (.func 51) [(.tmp 5)]), none⟩, ⟨(some 7), (.bin .neq (.tmp 6) (.const (.int .i64 0))), none⟩]) (.cond (.tmp 7) (.seq (.region [⟨(some 8), (.load (some
  4) (.tmp 2)), none⟩, ⟨(some 9), (.call (.func 51) [(.tmp 8)]), none⟩, ⟨(some 4), (.mv (.tmp 9)), none⟩]) .ret) .skip)) (.seq (.seq (.region [⟨(some 10), (.mv (.tmp 1)), none⟩,
  ⟨(some 11), (.bin .lss (.tmp 10) (.const (.int .i64 0))), none⟩, ⟨(some 12), (.mv (.tmp 11)), none⟩, ⟨(some 13), (.mv (.tmp 1)), (some (12, false))⟩, ⟨(some 14), (.faddr 1 (.tmp
  2)), (some (12, false))⟩, ⟨(some 15), (.load none (.tmp 14)), (some (12, false))⟩, ⟨(some 16), (.len (.tmp 15)), (some (12, false))⟩, ⟨(some 17), (.bin .geq (.tmp 13) (.tmp 16)),
   (some (12, false))⟩, ⟨(some 18), (.pick (.tmp 12) (.const (.bool true)) (.tmp 17)), none⟩]) (.cond (.tmp 18) (.seq (.region [⟨(some 4), (.mv (.const (.int .i64 2))), none⟩])
  .ret) .skip)) (.seq (.region [⟨(some 4), (.mv (.const (.int .i64 0))), none⟩]) .ret))))⟩
def af26 : AFn := ⟨48, [(.tmp 6)], (.seq (.region [⟨(some 3), (.box (.tmp 0)), none⟩, ⟨(some 6), (.mv (.const (.int .i64 0))), none⟩]) (.seq (.region [⟨(some 11), (.faddr 0 (.tmp 3)), none⟩, ⟨(some
  12), (.load none (.tmp 11)), none⟩, ⟨(some 13), (.mv (.tmp 1)), none⟩, ⟨(some 14), (.iaddrS 1 (.tmp 12) (.tmp 13)), none⟩, ⟨(some 15), (.load none (.tmp 14)), none⟩, ⟨(some 7),
  (.mv (.tmp 15)), none⟩]) (.seq (.region [⟨(some 16), (.load (some 4) (.tmp 3)), none⟩, ⟨(some 17), (.call (.func 73) [(.tmp 16)]), none⟩, ⟨(some 8), (.mv (.tmp 17)), none⟩])
  (.seq (.seq (.region [⟨(some 9), (.mv (.const (.int .i64 0))), none⟩]) (.block 0 (.loop (.seq (.seq (.region [⟨(some 18), (.mv (.tmp 9)), none⟩, ⟨(some 19), (.mv (.tmp 8)),
  none⟩, ⟨(some 20), (.len (.tmp 19)), none⟩, ⟨(some 21), (.bin .lss (.tmp 18) (.tmp 20)), none⟩]) (.cond (.tmp 21) .skip (.exit 0))) (.seq (.block 1 (.seq (.draw [⟨(some 24),
  (.load (some 4) (.tmp 3)), none⟩, ⟨(some 25), (.mv (.tmp 8)), none⟩, ⟨(some 26), (.mv (.tmp 9)), none⟩, ⟨(some 27), (.iaddrS 1 (.tmp 25) (.tmp 26)), none⟩, ⟨(some 28), (.load
  none (.tmp 27)), none⟩, ⟨(some 29), (.mv (.tmp 1)), none⟩, ⟨(some 30), (.call (.func 28) [(.tmp 24), (.tmp 28), (.tmp 29)]), none⟩, ⟨(some 10), (.mv (.tmp 30)), none⟩] []) (.seq
  (.region [⟨(some 31), (.mv (.tmp 2)), none⟩, ⟨(some 32), (.mv (.tmp 31)), none⟩, ⟨(some 33), (.mv (.tmp 10)), (some (32, true))⟩, ⟨(some 34), (.mv (.tmp 7)), (some (32, true))⟩,
  ⟨(some 35), (.bin .gtr (.tmp 33) (.tmp 34)), (some (32, true))⟩, ⟨(some 36), (.pick (.tmp 32) (.tmp 35) (.const (.bool false))), none⟩, ⟨(some 37), (.mv (.tmp 36)), none⟩,
  ⟨(some 38), (.mv (.tmp 2)), (some (37, false))⟩, ⟨(some 39), (.un .not (.tmp 38)), (some (37, false))⟩, ⟨(some 40), (.mv (.tmp 39)), (some (37, false))⟩, ⟨(some 41), (.mv (.tmp
  10)), (some (40, true))⟩, ⟨(some 42), (.mv (.tmp 7)), (some (40, true))⟩, ⟨(some 43), (.bin .lss (.tmp 41) (.tmp 42)), (some (40, true))⟩, ⟨(some 44), (.pick (.tmp 40) (.tmp 43)
  (.const (.bool false))), (some (37, false))⟩, ⟨(some 45), (.pick (.tmp 37) (.const (.bool true)) (.tmp 44)), none⟩]) (.cond (.tmp 45) (.region [⟨(some 46), (.mv (.tmp 10)),
  none⟩, ⟨(some 7), (.mv (.tmp 46)), none⟩]) .skip)))) (.region [⟨(some 22), (.mv (.tmp 9)), none⟩, ⟨(some 23), (.bin .add (.tmp 22) (.const (.int .i64 1))), none⟩, ⟨(some 9),
  (.mv (.tmp 23)), none⟩])))))) (.seq (.region [⟨(some 47), (.mv (.tmp 7)), none⟩, ⟨(some 6), (.mv (.tmp 47)), none⟩]) .ret)))))⟩
def af27 : AFn := ⟨44, [(.tmp 4)], (.seq (.region [⟨(some 2), (.box (.tmp 0)), none⟩, ⟨(some 4), (.mv (.const (.int .i64 0))), none⟩]) (.seq (.seq (.region [⟨(some 6), (.load (some 4) (.tmp 2)),
  none⟩, ⟨(some 7), (.call (.func 51) [(.tmp 6)]), none⟩, ⟨(some 8), (.bin .neq (.tmp 7) (.const (.int .i64 0))), none⟩]) (.cond (.tmp 8) (.seq (.region [⟨(some 9), (.load (some
  4) (.tmp 2)), none⟩, ⟨(some 10), (.call (.func 51) [(.tmp 9)]), none⟩, ⟨(some 4), (.mv (.tmp 10)), none⟩]) .ret) .skip)) (.seq (.seq (.region [⟨(some 5), (.mv (.const (.int .i64
  0))), none⟩]) (.block 0 (.loop (.seq (.seq (.region [⟨(some 11), (.mv (.tmp 5)), none⟩, ⟨(some 12), (.mv (.tmp 1)), none⟩, ⟨(some 13), (.len (.tmp 12)), none⟩, ⟨(some 14), (.bin
  .lss (.tmp 11) (.tmp 13)), none⟩]) (.cond (.tmp 14) .skip (.exit 0))) (.seq (.block 1 (.seq (.draw [⟨(some 17), (.load (some 4) (.tmp 2)), none⟩, ⟨(some 18), (.mv (.tmp 1)),
  none⟩, ⟨(some 19), (.mv (.tmp 5)), none⟩, ⟨(some 20), (.iaddrS 1 (.tmp 18) (.tmp 19)), none⟩, ⟨(some 21), (.load none (.tmp 20)), none⟩, ⟨(some 22), (.call (.func 74) [(.tmp 17),
   (.tmp 21)]), none⟩, ⟨(some 23), (.un .not (.tmp 22)), none⟩, ⟨(some 24), (.mv (.tmp 23)), none⟩, ⟨(some 25), (.mv (.tmp 5)), (some (24, false))⟩, ⟨(some 26), (.bin .gtr (.tmp
  25) (.const (.int .i64 0))), (some (24, false))⟩, ⟨(some 27), (.mv (.tmp 26)), (some (24, false))⟩, ⟨(some 28), (.mv (.tmp 1)), (some (27, true))⟩, ⟨(some 29), (.mv (.tmp 5)),
  (some (27, true))⟩, ⟨(some 30), (.iaddrS 1 (.tmp 28) (.tmp 29)), (some (27, true))⟩, ⟨(some 31), (.load none (.tmp 30)), (some (27, true))⟩, ⟨(some 32), (.mv (.tmp 1)), (some
  (27, true))⟩, ⟨(some 33), (.mv (.tmp 5)), (some (27, true))⟩, ⟨(some 34), (.bin .sub (.tmp 33) (.const (.int .i64 1))), (some (27, true))⟩, ⟨(some 35), (.iaddrS 1 (.tmp 32)
  (.tmp 34)), (some (27, true))⟩, ⟨(some 36), (.load none (.tmp 35)), (some (27, true))⟩, ⟨(some 37), (.bin .leq (.tmp 31) (.tmp 36)), (some (27, true))⟩, ⟨(some 38), (.pick (.tmp
  27) (.tmp 37) (.const (.bool false))), (some (24, false))⟩, ⟨(some 39), (.pick (.tmp 24) (.const (.bool true)) (.tmp 38)), none⟩] []) (.cond (.tmp 39) (.seq (.region [⟨(some 4),
  (.mv (.const (.int .i64 3))), none⟩]) .ret) .skip))) (.region [⟨(some 15), (.mv (.tmp 5)), none⟩, ⟨(some 16), (.bin .add (.tmp 15) (.const (.int .i64 1))), none⟩, ⟨(some 5),
  (.mv (.tmp 16)), none⟩])))))) (.seq (.seq (.region [⟨(some 40), (.load (some 4) (.tmp 2)), none⟩, ⟨(some 41), (.mv (.tmp 1)), none⟩, ⟨(some 42), (.call (.func 75) [(.tmp 40),
  (.tmp 41)]), none⟩, ⟨(some 43), (.un .not (.tmp 42)), none⟩]) (.cond (.tmp 43) (.seq (.region [⟨(some 4), (.mv (.const (.int .i64 16))), none⟩]) .ret) .skip)) (.seq (.region
  [⟨(some 4), (.mv (.const (.int .i64 0))), none⟩]) .ret)))))⟩
def af28 : AFn := ⟨43, [(.tmp 6)], (.seq (.region [⟨(some 3), (.box (.tmp 0)), none⟩, ⟨(some 6), (.mv (.const (.int .i64 0))), none⟩]) (.seq (.region [⟨(some 9), (.faddr 0 (.tmp 3)), none⟩, ⟨(some
  10), (.load none (.tmp 9)), none⟩, ⟨(some 11), (.mv (.tmp 2)), none⟩, ⟨(some 12), (.iaddrS 1 (.tmp 10) (.tmp 11)), none⟩, ⟨(some 13), (.load none (.tmp 12)), none⟩, ⟨(some 7),
  (.mv (.tmp 13)), none⟩]) (.seq (.seq (.region [⟨(some 8), (.mv (.const (.int .i64 0))), none⟩]) (.block 0 (.loop (.seq (.seq (.region [⟨(some 14), (.mv (.tmp 8)), none⟩, ⟨(some
  15), (.mv (.tmp 1)), none⟩, ⟨(some 16), (.len (.tmp 15)), none⟩, ⟨(some 17), (.bin .lss (.tmp 14) (.tmp 16)), none⟩]) (.cond (.tmp 17) .skip (.exit 0))) (.seq (.block 1 (.seq
  (.draw [⟨(some 20), (.faddr 2 (.tmp 3)), none⟩, ⟨(some 21), (.load none (.tmp 20)), none⟩, ⟨(some 22), (.mv (.tmp 1)), none⟩, ⟨(some 23), (.mv (.tmp 8)), none⟩, ⟨(some 24),
  (.iaddrS 1 (.tmp 22) (.tmp 23)), none⟩, ⟨(some 25), (.load none (.tmp 24)), none⟩, ⟨(some 26), (.iaddrS 4 (.tmp 21) (.tmp 25)), none⟩, ⟨(some 27), (.faddr 0 (.tmp 26)), none⟩,
  ⟨(some 28), (.load none (.tmp 27)), none⟩, ⟨(some 29), (.mv (.tmp 2)), none⟩, ⟨(some 30), (.bin .eql (.tmp 28) (.tmp 29)), none⟩] []) (.cond (.tmp 30) (.draw [⟨(some 31), (.mv
  (.tmp 7)), none⟩, ⟨(some 32), (.faddr 2 (.tmp 3)), none⟩, ⟨(some 33), (.load none (.tmp 32)), none⟩, ⟨(some 34), (.mv (.tmp 1)), none⟩, ⟨(some 35), (.mv (.tmp 8)), none⟩, ⟨(some
  36), (.iaddrS 1 (.tmp 34) (.tmp 35)), none⟩, ⟨(some 37), (.load none (.tmp 36)), none⟩, ⟨(some 38), (.iaddrS 4 (.tmp 33) (.tmp 37)), none⟩, ⟨(some 39), (.faddr 1 (.tmp 38)),
  none⟩, ⟨(some 40), (.load none (.tmp 39)), none⟩, ⟨(some 41), (.bin .add (.tmp 31) (.tmp 40)), none⟩, ⟨(some 7), (.mv (.tmp 41)), none⟩] []) .skip))) (.region [⟨(some 18), (.mv
  (.tmp 8)), none⟩, ⟨(some 19), (.bin .add (.tmp 18) (.const (.int .i64 1))), none⟩, ⟨(some 8), (.mv (.tmp 19)), none⟩])))))) (.seq (.region [⟨(some 42), (.mv (.tmp 7)), none⟩,
  ⟨(some 6), (.mv (.tmp 42)), none⟩]) .ret))))⟩
def af29 : AFn := ⟨11, [(.tmp 2)], (.seq (.region [⟨(some 1), (.box (.tmp 0)), none⟩, ⟨(some 2), (.mv (.const (.bool false))), none⟩]) (.seq (.region [⟨(some 3), (.load (some 4) (.tmp 1)), none⟩,
  ⟨(some 4), (.call (.func 15) [(.tmp 3)]), none⟩, ⟨(some 5), (.un .not (.tmp 4)), none⟩, ⟨(some 6), (.mv (.tmp 5)), none⟩, ⟨(some 7), (.load (some 4) (.tmp 1)), (some (6, true))⟩,
   ⟨(some 8), (.call (.func 51) [(.tmp 7)]), (some (6, true))⟩, ⟨(some 9), (.bin .eql (.tmp 8) (.const (.int .i64 0))), (some (6, true))⟩, ⟨(some 10), (.pick (.tmp 6) (.tmp 9)
  (.const (.bool false))), none⟩, ⟨(some 2), (.mv (.tmp 10)), none⟩]) .ret))⟩
def af30 : AFn := ⟨24, [(.tmp 4), (.tmp 5)], (.seq (.region [⟨(some 2), (.box (.tmp 0)), none⟩, ⟨(some 4), (.mv (.const (.slc none 0 0 true 0))), none⟩, ⟨(some 5), (.mv (.const (.int .i64 0))),
  none⟩]) (.seq (.region [⟨(some 9), (.load (some 4) (.tmp 2)), none⟩, ⟨(some 10), (.mv (.tmp 1)), none⟩, ⟨(some 11), (.call (.func 76) [(.tmp 9), (.tmp 10)]), none⟩, ⟨(some 8),
  (.mv (.tmp 11)), none⟩, ⟨(some 12), (.ext (.tmp 8) 0), none⟩, ⟨(some 13), (.ext (.tmp 8) 1), none⟩, ⟨(some 6), (.mv (.tmp 12)), none⟩, ⟨(some 7), (.mv (.tmp 13)), none⟩]) (.seq
  (.seq (.region [⟨(some 14), (.mv (.tmp 7)), none⟩, ⟨(some 15), (.bin .neq (.tmp 14) (.const (.int .i64 0))), none⟩]) (.cond (.tmp 15) (.seq (.region [⟨(some 16), (.mv (.tmp 7)),
  none⟩, ⟨(some 4), (.mv (.const (.slc none 0 0 true 0))), none⟩, ⟨(some 5), (.mv (.tmp 16)), none⟩]) .ret) .skip)) (.seq (.region [⟨(some 17), (.mv (.tmp 6)), none⟩, ⟨(some 18),
  (.mv (.tmp 1)), none⟩, ⟨(some 19), (.call (.func 63) [(.tmp 18)]), none⟩, ⟨(some 20), (.mv (.tmp 6)), none⟩, ⟨(some 21), (.call (.func 61) [(.tmp 20)]), none⟩, ⟨(some 22),
  (.bslice [(.int .i64 0), (.int .i64 0)] 2 1 [(0, (1, (.tmp 19))), (1, (1, (.tmp 21)))]), none⟩, ⟨(some 23), (.call (.func 77) [(.tmp 17), (.tmp 22)]), none⟩, ⟨(some 4), (.mv
  (.tmp 23)), none⟩, ⟨(some 5), (.mv (.const (.int .i64 0))), none⟩]) .ret))))⟩
def af31 : AFn := ⟨79, [(.tmp 4)], (.seq (.region [⟨(some 2), (.box (.tmp 0)), none⟩, ⟨(some 4), (.mv (.const (.int .i64 0))), none⟩]) (.seq (.seq (.region [⟨(some 8), (.load (some 4) (.tmp 2)),
  none⟩, ⟨(some 9), (.call (.func 51) [(.tmp 8)]), none⟩, ⟨(some 10), (.bin .neq (.tmp 9) (.const (.int .i64 0))), none⟩]) (.cond (.tmp 10) (.seq (.region [⟨(some 11), (.load
  (some 4) (.tmp 2)), none⟩, ⟨(some 12), (.call (.func 51) [(.tmp 11)]), none⟩, ⟨(some 4), (.mv (.tmp 12)), none⟩]) .ret) .skip)) (.seq (.seq (.region [⟨(some 13), (.mv (.tmp 1)),
  none⟩, ⟨(some 14), (.len (.tmp 13)), none⟩, ⟨(some 15), (.faddr 2 (.tmp 2)), none⟩, ⟨(some 16), (.load none (.tmp 15)), none⟩, ⟨(some 17), (.len (.tmp 16)), none⟩, ⟨(some 18),
  (.bin .neq (.tmp 14) (.tmp 17)), none⟩]) (.cond (.tmp 18) (.seq (.region [⟨(some 4), (.mv (.const (.int .i64 15))), none⟩]) .ret) .skip)) (.seq (.seq (.region [⟨(some 5), (.mv
  (.const (.int .i64 0))), none⟩]) (.block 0 (.loop (.seq (.seq (.region [⟨(some 19), (.mv (.tmp 5)), none⟩, ⟨(some 20), (.mv (.tmp 1)), none⟩, ⟨(some 21), (.len (.tmp 20)), none⟩,
   ⟨(some 22), (.bin .lss (.tmp 19) (.tmp 21)), none⟩]) (.cond (.tmp 22) .skip (.exit 0))) (.seq (.block 1 (.seq (.draw [⟨(some 25), (.load (some 4) (.tmp 2)), none⟩, ⟨(some 26),
  (.mv (.tmp 1)), none⟩, ⟨(some 27), (.mv (.tmp 5)), none⟩, ⟨(some 28), (.iaddrS 1 (.tmp 26) (.tmp 27)), none⟩, ⟨(some 29), (.load none (.tmp 28)), none⟩, ⟨(some 30), (.call
  (.func 74) [(.tmp 25), (.tmp 29)]), none⟩, ⟨(some 31), (.un .not (.tmp 30)), none⟩, ⟨(some 32), (.mv (.tmp 31)), none⟩, ⟨(some 33), (.mv (.tmp 1)), (some (32, false))⟩, ⟨(some
  34), (.mv (.tmp 5)), (some (32, false))⟩, ⟨(some 35), (.slc 1 (.tmp 33) none (some (.tmp 34)) none), (some (32, false))⟩, ⟨(some 36), (.mv (.tmp 1)), (some (32, false))⟩, ⟨(some
  37), (.mv (.tmp 5)), (some (32, false))⟩, ⟨(some 38), (.iaddrS 1 (.tmp 36) (.tmp 37)), (some (32, false))⟩, ⟨(some 39), (.load none (.tmp 38)), (some (32, false))⟩, ⟨(some 40),
  (.call (.func 32) [(.tmp 35), (.tmp 39)]), (some (32, false))⟩, ⟨(some 41), (.pick (.tmp 32) (.const (.bool true)) (.tmp 40)), none⟩] []) (.cond (.tmp 41) (.seq (.region [⟨(some
  4), (.mv (.const (.int .i64 3))), none⟩]) .ret) .skip))) (.region [⟨(some 23), (.mv (.tmp 5)), none⟩, ⟨(some 24), (.bin .add (.tmp 23) (.const (.int .i64 1))), none⟩, ⟨(some 5),
  (.mv (.tmp 24)), none⟩])))))) (.seq (.seq (.region [⟨(some 6), (.mv (.const (.int .i64 0))), none⟩]) (.block 2 (.loop (.seq (.seq (.region [⟨(some 42), (.mv (.tmp 6)), none⟩,
  ⟨(some 43), (.mv (.tmp 1)), none⟩, ⟨(some 44), (.len (.tmp 43)), none⟩, ⟨(some 45), (.bin .lss (.tmp 42) (.tmp 44)), none⟩]) (.cond (.tmp 45) .skip (.exit 2))) (.seq (.block 3
  (.seq (.region [⟨(some 7), (.mv (.const (.int .i64 0))), none⟩]) (.block 4 (.loop (.seq (.seq (.region [⟨(some 48), (.mv (.tmp 7)), none⟩, ⟨(some 49), (.faddr 3 (.tmp 2)), none⟩,
   ⟨(some 50), (.load none (.tmp 49)), none⟩, ⟨(some 51), (.len (.tmp 50)), none⟩, ⟨(some 52), (.bin .lss (.tmp 48) (.tmp 51)), none⟩]) (.cond (.tmp 52) .skip (.exit 4))) (.seq
  (.block 5 (.seq (.draw [⟨(some 55), (.faddr 3 (.tmp 2)), none⟩, ⟨(some 56), (.load none (.tmp 55)), none⟩, ⟨(some 57), (.mv (.tmp 7)), none⟩, ⟨(some 58), (.iaddrS 2 (.tmp 56)
  (.tmp 57)), none⟩, ⟨(some 59), (.iaddrA 2 1 (.tmp 58) (.const (.int .i64 1))), none⟩, ⟨(some 60), (.load none (.tmp 59)), none⟩, ⟨(some 61), (.mv (.tmp 1)), none⟩, ⟨(some 62),
  (.mv (.tmp 6)), none⟩, ⟨(some 63), (.iaddrS 1 (.tmp 61) (.tmp 62)), none⟩, ⟨(some 64), (.load none (.tmp 63)), none⟩, ⟨(some 65), (.bin .eql (.tmp 60) (.tmp 64)), none⟩, ⟨(some
  66), (.mv (.tmp 65)), none⟩, ⟨(some 67), (.mv (.tmp 1)), (some (66, true))⟩, ⟨(some 68), (.mv (.tmp 6)), (some (66, true))⟩, ⟨(some 69), (.slc 1 (.tmp 67) none (some (.tmp 68))
  none), (some (66, true))⟩, ⟨(some 70), (.faddr 3 (.tmp 2)), (some (66, true))⟩, ⟨(some 71), (.load none (.tmp 70)), (some (66, true))⟩, ⟨(some 72), (.mv (.tmp 7)), (some (66,
  true))⟩, ⟨(some 73), (.iaddrS 2 (.tmp 71) (.tmp 72)), (some (66, true))⟩, ⟨(some 74), (.iaddrA 2 1 (.tmp 73) (.const (.int .i64 0))), (some (66, true))⟩, ⟨(some 75), (.load none
  (.tmp 74)), (some (66, true))⟩, ⟨(some 76), (.call (.func 32) [(.tmp 69), (.tmp 75)]), (some (66, true))⟩, ⟨(some 77), (.un .not (.tmp 76)), (some (66, true))⟩, ⟨(some 78),
  (.pick (.tmp 66) (.tmp 77) (.const (.bool false))), none⟩] []) (.cond (.tmp 78) (.seq (.region [⟨(some 4), (.mv (.const (.int .i64 16))), none⟩]) .ret) .skip))) (.region [⟨(some
  53), (.mv (.tmp 7)), none⟩, ⟨(some 54), (.bin .add (.tmp 53) (.const (.int .i64 1))), none⟩, ⟨(some 7), (.mv (.tmp 54)), none⟩]))))))) (.region [⟨(some 46), (.mv (.tmp 6)),
  none⟩, ⟨(some 47), (.bin .add (.tmp 46) (.const (.int .i64 1))), none⟩, ⟨(some 6), (.mv (.tmp 47)), none⟩])))))) (.seq (.region [⟨(some 4), (.mv (.const (.int .i64 0))), none⟩])
  .ret))))))⟩
def af32 : AFn := ⟨18, [(.tmp 4)], (.seq (.region [⟨(some 4), (.mv (.const (.bool false))), none⟩]) (.seq (.seq (.region [⟨(some 5), (.mv (.const (.int .i64 0))), none⟩]) (.block 0 (.loop (.seq
  (.seq (.region [⟨(some 6), (.mv (.tmp 5)), none⟩, ⟨(some 7), (.mv (.tmp 0)), none⟩, ⟨(some 8), (.len (.tmp 7)), none⟩, ⟨(some 9), (.bin .lss (.tmp 6) (.tmp 8)), none⟩]) (.cond
  (.tmp 9) .skip (.exit 0))) (.seq (.block 1 (.seq (.region [⟨(some 12), (.mv (.tmp 0)), none⟩, ⟨(some 13), (.mv (.tmp 5)), none⟩, ⟨(some 14), (.iaddrS 1 (.tmp 12) (.tmp 13)),
  none⟩, ⟨(some 15), (.load none (.tmp 14)), none⟩, ⟨(some 16), (.mv (.tmp 1)), none⟩, ⟨(some 17), (.bin .eql (.tmp 15) (.tmp 16)), none⟩]) (.cond (.tmp 17) (.seq (.region [⟨(some
  4), (.mv (.const (.bool true))), none⟩]) .ret) .skip))) (.region [⟨(some 10), (.mv (.tmp 5)), none⟩, ⟨(some 11), (.bin .add (.tmp 10) (.const (.int .i64 1))), none⟩, ⟨(some 5),
  (.mv (.tmp 11)), none⟩])))))) (.seq (.region [⟨(some 4), (.mv (.const (.bool false))), none⟩]) .ret)))⟩
def af33 : AFn := ⟨41, [(.tmp 4)], (.seq (.region [⟨(some 2), (.box (.tmp 0)), none⟩, ⟨(some 4), (.mv (.const (.bool false))), none⟩]) (.seq (.seq (.region [⟨(some 5), (.mv (.const (.int .i64 0))),
  none⟩]) (.block 0 (.loop (.seq (.seq (.region [⟨(some 8), (.mv (.tmp 5)), none⟩, ⟨(some 9), (.mv (.tmp 1)), none⟩, ⟨(some 10), (.len (.tmp 9)), none⟩, ⟨(some 11), (.bin .lss
  (.tmp 8) (.tmp 10)), none⟩]) (.cond (.tmp 11) .skip (.exit 0))) (.seq (.block 1 (.seq (.draw [⟨(some 14), (.faddr 2 (.tmp 2)), none⟩, ⟨(some 15), (.load none (.tmp 14)), none⟩,
  ⟨(some 16), (.mv (.tmp 1)), none⟩, ⟨(some 17), (.mv (.tmp 5)), none⟩, ⟨(some 18), (.iaddrS 1 (.tmp 16) (.tmp 17)), none⟩, ⟨(some 19), (.load none (.tmp 18)), none⟩, ⟨(some 20),
  (.iaddrS 4 (.tmp 15) (.tmp 19)), none⟩, ⟨(some 21), (.faddr 0 (.tmp 20)), none⟩, ⟨(some 22), (.load none (.tmp 21)), none⟩, ⟨(some 6), (.mv (.tmp 22)), none⟩] []) (.seq (.draw
  [⟨(some 23), (.load (some 4) (.tmp 2)), none⟩, ⟨(some 24), (.mv (.tmp 1)), none⟩, ⟨(some 25), (.mv (.tmp 5)), none⟩, ⟨(some 26), (.bin .add (.tmp 25) (.const (.int .i64 1))),
  none⟩, ⟨(some 27), (.slc 1 (.tmp 24) none (some (.tmp 26)) none), none⟩, ⟨(some 28), (.mv (.tmp 6)), none⟩, ⟨(some 29), (.call (.func 28) [(.tmp 23), (.tmp 27), (.tmp 28)]),
  none⟩, ⟨(some 7), (.mv (.tmp 29)), none⟩] []) (.seq (.region [⟨(some 30), (.mv (.tmp 7)), none⟩, ⟨(some 31), (.bin .lss (.tmp 30) (.const (.int .i64 0))), none⟩, ⟨(some 32),
  (.mv (.tmp 31)), none⟩, ⟨(some 33), (.mv (.tmp 7)), (some (32, false))⟩, ⟨(some 34), (.faddr 1 (.tmp 2)), (some (32, false))⟩, ⟨(some 35), (.load none (.tmp 34)), (some (32,
  false))⟩, ⟨(some 36), (.mv (.tmp 6)), (some (32, false))⟩, ⟨(some 37), (.iaddrS 1 (.tmp 35) (.tmp 36)), (some (32, false))⟩, ⟨(some 38), (.load none (.tmp 37)), (some (32,
  false))⟩, ⟨(some 39), (.bin .gtr (.tmp 33) (.tmp 38)), (some (32, false))⟩, ⟨(some 40), (.pick (.tmp 32) (.const (.bool true)) (.tmp 39)), none⟩]) (.cond (.tmp 40) (.seq
  (.region [⟨(some 4), (.mv (.const (.bool false))), none⟩]) .ret) .skip))))) (.region [⟨(some 12), (.mv (.tmp 5)), none⟩, ⟨(some 13), (.bin .add (.tmp 12) (.const (.int .i64 1))),
   none⟩, ⟨(some 5), (.mv (.tmp 13)), none⟩])))))) (.seq (.region [⟨(some 4), (.mv (.const (.bool true))), none⟩]) .ret)))⟩
def af34 : AFn := ⟨86, [(.tmp 4)], (.seq (.region [⟨(some 2), (.box (.tmp 0)), none⟩, ⟨(some 4), (.mv (.const (.slc none 0 0 true 0))), none⟩]) (.seq (.region [⟨(some 5), (.mv (.const (.slc none 0
  0 true 0))), none⟩]) (.seq (.seq (.region [⟨(some 6), (.mv (.const (.int .i64 0))), none⟩]) (.block 0 (.loop (.seq (.seq (.region [⟨(some 12), (.mv (.tmp 5)), none⟩, ⟨(some 13),
  (.len (.tmp 12)), none⟩, ⟨(some 14), (.faddr 2 (.tmp 2)), none⟩, ⟨(some 15), (.load none (.tmp 14)), none⟩, ⟨(some 16), (.len (.tmp 15)), none⟩, ⟨(some 17), (.bin .lss (.tmp 13)
  (.tmp 16)), none⟩]) (.cond (.tmp 17) .skip (.exit 0))) (.seq (.block 1 (.seq (.region [⟨(some 7), (.mv (.const (.slc none 0 0 true 0))), none⟩]) (.seq (.seq (.region [⟨(some 8),
  (.mv (.const (.int .i64 0))), none⟩]) (.block 2 (.loop (.seq (.seq (.region [⟨(some 20), (.mv (.tmp 8)), none⟩, ⟨(some 21), (.faddr 2 (.tmp 2)), none⟩, ⟨(some 22), (.load none
  (.tmp 21)), none⟩, ⟨(some 23), (.len (.tmp 22)), none⟩, ⟨(some 24), (.bin .lss (.tmp 20) (.tmp 23)), none⟩]) (.cond (.tmp 24) .skip (.exit 2))) (.seq (.block 3 (.seq (.region
  [⟨(some 27), (.mv (.tmp 5)), none⟩, ⟨(some 28), (.mv (.tmp 8)), none⟩, ⟨(some 29), (.call (.func 32) [(.tmp 27), (.tmp 28)]), none⟩, ⟨(some 30), (.un .not (.tmp 29)), none⟩,
  ⟨(some 9), (.mv (.tmp 30)), none⟩]) (.seq (.seq (.region [⟨(some 10), (.mv (.const (.int .i64 0))), none⟩]) (.block 4 (.loop (.seq (.seq (.region [⟨(some 31), (.mv (.tmp 10)),
  none⟩, ⟨(some 32), (.faddr 3 (.tmp 2)), none⟩, ⟨(some 33), (.load none (.tmp 32)), none⟩, ⟨(some 34), (.len (.tmp 33)), none⟩, ⟨(some 35), (.bin .lss (.tmp 31) (.tmp 34)),
  none⟩]) (.cond (.tmp 35) .skip (.exit 4))) (.seq (.block 5 (.region [⟨(some 38), (.mv (.tmp 9)), none⟩, ⟨(some 39), (.mv (.tmp 38)), none⟩, ⟨(some 40), (.faddr 3 (.tmp 2)),
  (some (39, true))⟩, ⟨(some 41), (.load none (.tmp 40)), (some (39, true))⟩, ⟨(some 42), (.mv (.tmp 10)), (some (39, true))⟩, ⟨(some 43), (.iaddrS 2 (.tmp 41) (.tmp 42)), (some
  (39, true))⟩, ⟨(some 44), (.iaddrA 2 1 (.tmp 43) (.const (.int .i64 1))), (some (39, true))⟩, ⟨(some 45), (.load none (.tmp 44)), (some (39, true))⟩, ⟨(some 46), (.mv (.tmp 8)),
  (some (39, true))⟩, ⟨(some 47), (.bin .neq (.tmp 45) (.tmp 46)), (some (39, true))⟩, ⟨(some 48), (.mv (.tmp 47)), (some (39, true))⟩, ⟨(some 49), (.mv (.tmp 5)), (some (48,
  false))⟩, ⟨(some 50), (.faddr 3 (.tmp 2)), (some (48, false))⟩, ⟨(some 51), (.load none (.tmp 50)), (some (48, false))⟩, ⟨(some 52), (.mv (.tmp 10)), (some (48, false))⟩, ⟨(some
  53), (.iaddrS 2 (.tmp 51) (.tmp 52)), (some (48, false))⟩, ⟨(some 54), (.iaddrA 2 1 (.tmp 53) (.const (.int .i64 0))), (some (48, false))⟩, ⟨(some 55), (.load none (.tmp 54)),
  (some (48, false))⟩, ⟨(some 56), (.call (.func 32) [(.tmp 49), (.tmp 55)]), (some (48, false))⟩, ⟨(some 57), (.pick (.tmp 48) (.const (.bool true)) (.tmp 56)), (some (39,
  true))⟩, ⟨(some 58), (.pick (.tmp 39) (.tmp 57) (.const (.bool false))), none⟩, ⟨(some 9), (.mv (.tmp 58)), none⟩])) (.region [⟨(some 36), (.mv (.tmp 10)), none⟩, ⟨(some 37),
  (.bin .add (.tmp 36) (.const (.int .i64 1))), none⟩, ⟨(some 10), (.mv (.tmp 37)), none⟩])))))) (.seq (.region [⟨(some 59), (.mv (.tmp 9)), none⟩]) (.cond (.tmp 59) (.region
  [⟨(some 60), (.mv (.tmp 7)), none⟩, ⟨(some 61), (.mv (.tmp 8)), none⟩, ⟨(some 62), (.bslice [(.int .i64 0)] 1 1 [(0, (1, (.tmp 61)))]), none⟩, ⟨(some 63), (.app 1 8 (.tmp 60)
  (.tmp 62)), none⟩, ⟨(some 7), (.mv (.tmp 63)), none⟩]) .skip))))) (.region [⟨(some 25), (.mv (.tmp 8)), none⟩, ⟨(some 26), (.bin .add (.tmp 25) (.const (.int .i64 1))), none⟩,
  ⟨(some 8), (.mv (.tmp 26)), none⟩])))))) (.seq (.region [⟨(some 11), (.mv (.const (.int .i64 0))), none⟩]) (.seq (.seq (.region [⟨(some 64), (.mv (.tmp 1)), none⟩, ⟨(some 65),
  (.len (.tmp 64)), none⟩, ⟨(some 66), (.bin .gtr (.tmp 65) (.const (.int .i64 0))), none⟩]) (.cond (.tmp 66) (.region [⟨(some 67), (.mv (.tmp 1)), none⟩, ⟨(some 68), (.mv (.tmp
  6)), none⟩, ⟨(some 69), (.mv (.tmp 1)), none⟩, ⟨(some 70), (.len (.tmp 69)), none⟩, ⟨(some 71), (.bin .rem (.tmp 68) (.tmp 70)), none⟩, ⟨(some 72), (.iaddrS 1 (.tmp 67) (.tmp
  71)), none⟩, ⟨(some 73), (.load none (.tmp 72)), none⟩, ⟨(some 74), (.conv .i64 (.tmp 73)), none⟩, ⟨(some 75), (.mv (.tmp 7)), none⟩, ⟨(some 76), (.len (.tmp 75)), none⟩, ⟨(some
  77), (.bin .rem (.tmp 74) (.tmp 76)), none⟩, ⟨(some 11), (.mv (.tmp 77)), none⟩]) .skip)) (.region [⟨(some 78), (.mv (.tmp 5)), none⟩, ⟨(some 79), (.mv (.tmp 7)), none⟩, ⟨(some
  80), (.mv (.tmp 11)), none⟩, ⟨(some 81), (.iaddrS 1 (.tmp 79) (.tmp 80)), none⟩, ⟨(some 82), (.load none (.tmp 81)), none⟩, ⟨(some 83), (.bslice [(.int .i64 0)] 1 1 [(0, (1,
  (.tmp 82)))]), none⟩, ⟨(some 84), (.app 1 8 (.tmp 78) (.tmp 83)), none⟩, ⟨(some 5), (.mv (.tmp 84)), none⟩])))))) (.region [⟨(some 18), (.mv (.tmp 6)), none⟩, ⟨(some 19), (.bin
  .add (.tmp 18) (.const (.int .i64 1))), none⟩, ⟨(some 6), (.mv (.tmp 19)), none⟩])))))) (.seq (.region [⟨(some 85), (.mv (.tmp 5)), none⟩, ⟨(some 4), (.mv (.tmp 85)), none⟩])
  .ret))))⟩
def af35 : AFn := ⟨130, [(.tmp 6), (.tmp 7)], (.seq (.region [⟨(some 3), (.box (.tmp 0)), none⟩, ⟨(some 6), (.mv (.const (.int .i64 0))), none⟩, ⟨(some 7), (.mv (.const (.int .i64 0))), none⟩])
  (.seq (.region [⟨(some 17), (.load (some 4) (.tmp 3)), none⟩, ⟨(some 18), (.mv (.tmp 1)), none⟩, ⟨(some 19), (.call (.func 69) [(.tmp 17), (.tmp 18)]), none⟩, ⟨(some 16), (.mv
  (.tmp 19)), none⟩, ⟨(some 20), (.ext (.tmp 16) 0), none⟩, ⟨(some 21), (.ext (.tmp 16) 1), none⟩, ⟨(some 8), (.alloc [(.ptr none)]), none⟩, ⟨none, (.store 1 (.tmp 8) (.tmp 20)),
  none⟩, ⟨(some 9), (.mv (.tmp 21)), none⟩]) (.seq (.block 0 (.seq (.region [⟨(some 23), (.mv (.tmp 9)), none⟩, ⟨(some 24), (.bin .neq (.tmp 23) (.const (.int .i64 0))), none⟩,
  ⟨(some 22), (.mv (.tmp 24)), none⟩]) (.cond (.tmp 22) (.seq (.region [⟨(some 25), (.mv (.tmp 9)), none⟩, ⟨(some 6), (.mv (.const (.int .i64 0))), none⟩, ⟨(some 7), (.mv (.tmp
  25)), none⟩]) .ret) (.seq (.region [⟨(some 27), (.mv (.tmp 2)), none⟩, ⟨(some 28), (.len (.tmp 27)), none⟩, ⟨(some 29), (.bin .gtr (.tmp 28) (.const (.int .i64 100))), none⟩,
  ⟨(some 26), (.mv (.tmp 29)), none⟩]) (.cond (.tmp 26) (.seq (.region [⟨(some 6), (.mv (.const (.int .i64 0))), none⟩, ⟨(some 7), (.mv (.const (.int .i64 6))), none⟩]) .ret)
  (.seq (.region [⟨(some 31), (.mv (.tmp 2)), none⟩, ⟨(some 32), (.mkfn 79 [] [(.tmp 8)]), none⟩, ⟨(some 33), (.call (.func 78) [(.tmp 31), (.tmp 32)]), none⟩, ⟨(some 30), (.mv
  (.tmp 33)), none⟩]) (.cond (.tmp 30) (.seq (.region [⟨(some 6), (.mv (.const (.int .i64 0))), none⟩, ⟨(some 7), (.mv (.const (.int .i64 3))), none⟩]) .ret) .skip))))))) (.seq
  (.region [⟨(some 34), (.faddr 2 (.tmp 3)), none⟩, ⟨(some 35), (.load none (.tmp 34)), none⟩, ⟨(some 36), (.len (.tmp 35)), none⟩, ⟨(some 37), (.mkslc [(.int .i64 0)] 8 (.tmp 36)
  (.tmp 36)), none⟩, ⟨(some 10), (.mv (.tmp 37)), none⟩]) (.seq (.region [⟨(some 38), (.faddr 0 (.tmp 3)), none⟩, ⟨(some 39), (.load none (.tmp 38)), none⟩, ⟨(some 40), (.mv (.tmp
  1)), none⟩, ⟨(some 41), (.iaddrS 1 (.tmp 39) (.tmp 40)), none⟩, ⟨(some 42), (.load none (.tmp 41)), none⟩, ⟨(some 11), (.mv (.tmp 42)), none⟩]) (.seq (.seq (.region [⟨(some 43),
  (.faddr 2 (.tmp 3)), none⟩, ⟨(some 44), (.load none (.tmp 43)), none⟩, ⟨(some 45), (.len (.tmp 44)), none⟩, ⟨(some 46), (.mv (.const (.int .i64 0))), none⟩]) (.block 1 (.loop
  (.seq (.region [⟨(some 47), (.bin .lss (.tmp 46) (.tmp 45)), none⟩]) (.seq (.cond (.tmp 47) .skip (.exit 1)) (.seq (.block 2 (.seq (.region [⟨(some 48), (.mv (.tmp 46)), none⟩,
  ⟨(some 49), (.iaddrS 4 (.tmp 44) (.tmp 46)), none⟩, ⟨(some 50), (.load (some 4) (.tmp 49)), none⟩, ⟨(some 13), (.alloc [(.int .i64 0), (.int .i64 0), (.int .i64 0), (.int .i64
  0)]), none⟩, ⟨(some 12), (.mv (.tmp 48)), none⟩, ⟨none, (.store 4 (.tmp 13) (.tmp 50)), none⟩]) (.seq (.region [⟨(some 51), (.faddr 0 (.tmp 13)), none⟩, ⟨(some 52), (.load none
  (.tmp 51)), none⟩, ⟨(some 53), (.mv (.tmp 1)), none⟩, ⟨(some 54), (.bin .eql (.tmp 52) (.tmp 53)), none⟩]) (.cond (.tmp 54) (.seq (.region [⟨(some 55), (.mv (.tmp 10)), none⟩,
  ⟨(some 56), (.mv (.tmp 12)), none⟩, ⟨(some 57), (.faddr 1 (.tmp 13)), none⟩, ⟨(some 58), (.load none (.tmp 57)), none⟩, ⟨(some 59), (.iaddrS 1 (.tmp 55) (.tmp 56)), none⟩, ⟨none,
   (.store 1 (.tmp 59) (.tmp 58)), none⟩]) (.region [⟨(some 60), (.mv (.tmp 11)), none⟩, ⟨(some 61), (.faddr 1 (.tmp 13)), none⟩, ⟨(some 62), (.load none (.tmp 61)), none⟩, ⟨(some
  63), (.mnx true [(.const (.int .i64 0)), (.tmp 62)]), none⟩, ⟨(some 64), (.bin .add (.tmp 60) (.tmp 63)), none⟩, ⟨(some 11), (.mv (.tmp 64)), none⟩])) .skip)))) (.region [⟨(some
  65), (.bin .add (.tmp 46) (.const (.int .i64 1))), none⟩, ⟨(some 46), (.mv (.tmp 65)), none⟩]))))))) (.seq (.seq (.region [⟨(some 66), (.mv (.tmp 2)), none⟩, ⟨(some 67), (.len
  (.tmp 66)), none⟩, ⟨(some 68), (.mv (.const (.int .i64 0))), none⟩]) (.block 3 (.loop (.seq (.region [⟨(some 69), (.bin .lss (.tmp 68) (.tmp 67)), none⟩]) (.seq (.cond (.tmp 69)
  .skip (.exit 3)) (.seq (.block 4 (.seq (.region [⟨(some 70), (.iaddrS 3 (.tmp 66) (.tmp 68)), none⟩, ⟨(some 71), (.load (some 3) (.tmp 70)), none⟩, ⟨(some 15), (.alloc [(.int
  .i64 0), (.int .i64 0), (.int .i64 0)]), none⟩, ⟨none, (.store 3 (.tmp 15) (.tmp 71)), none⟩]) (.seq (.seq (.draw [⟨(some 72), (.load none (.tmp 8)), none⟩, ⟨(some 73), (.faddr
  1 (.tmp 15)), none⟩, ⟨(some 74), (.load none (.tmp 73)), none⟩, ⟨(some 75), (.nilchk (.tmp 72)), none⟩, ⟨(some 76), (.faddr 4 (.tmp 75)), none⟩, ⟨(some 77), (.iaddrA 12 1 (.tmp
  76) (.tmp 74)), none⟩, ⟨(some 78), (.load none (.tmp 77)), none⟩, ⟨(some 79), (.faddr 0 (.tmp 15)), none⟩, ⟨(some 80), (.load none (.tmp 79)), none⟩, ⟨(some 81), (.bslice [(.int
  .i64 0)] 1 1 [(0, (1, (.tmp 80)))]), none⟩, ⟨(some 82), (.call (.func 63) [(.tmp 81)]), none⟩, ⟨(some 83), (.bin .and (.tmp 78) (.tmp 82)), none⟩, ⟨(some 84), (.bin .eql (.tmp
  83) (.const (.int .i64 0))), none⟩, ⟨(some 85), (.mv (.tmp 84)), none⟩, ⟨(some 86), (.faddr 2 (.tmp 15)), (some (85, false))⟩, ⟨(some 87), (.load none (.tmp 86)), (some (85,
  false))⟩, ⟨(some 88), (.mv (.tmp 10)), (some (85, false))⟩, ⟨(some 89), (.faddr 1 (.tmp 15)), (some (85, false))⟩, ⟨(some 90), (.load none (.tmp 89)), (some (85, false))⟩,
  ⟨(some 91), (.iaddrS 1 (.tmp 88) (.tmp 90)), (some (85, false))⟩, ⟨(some 92), (.load none (.tmp 91)), (some (85, false))⟩, ⟨(some 93), (.bin .gtr (.tmp 87) (.tmp 92)), (some (85,
   false))⟩, ⟨(some 94), (.pick (.tmp 85) (.const (.bool true)) (.tmp 93)), none⟩, ⟨(some 95), (.mv (.tmp 94)), none⟩, ⟨(some 96), (.faddr 2 (.tmp 15)), (some (95, false))⟩,
  ⟨(some 97), (.load none (.tmp 96)), (some (95, false))⟩, ⟨(some 98), (.mv (.tmp 10)), (some (95, false))⟩, ⟨(some 99), (.faddr 0 (.tmp 15)), (some (95, false))⟩, ⟨(some 100),
  (.load none (.tmp 99)), (some (95, false))⟩, ⟨(some 101), (.iaddrS 1 (.tmp 98) (.tmp 100)), (some (95, false))⟩, ⟨(some 102), (.load none (.tmp 101)), (some (95, false))⟩,
  ⟨(some 103), (.un .neg (.tmp 102)), (some (95, false))⟩, ⟨(some 104), (.bin .gtr (.tmp 97) (.tmp 103)), (some (95, false))⟩, ⟨(some 105), (.pick (.tmp 95) (.const (.bool true))
  (.tmp 104)), none⟩] [(0, 9), (2, 9), (6, 9), (0, 10), (2, 10), (6, 10)]) (.cond (.tmp 105) (.seq (.region [⟨(some 6), (.mv (.const (.int .i64 0))), none⟩, ⟨(some 7), (.mv
  (.const (.int .i64 14))), none⟩]) .ret) .skip)) (.seq (.draw [⟨(some 106), (.mv (.tmp 10)), none⟩, ⟨(some 107), (.faddr 1 (.tmp 15)), none⟩, ⟨(some 108), (.load none (.tmp 107)),
   none⟩, ⟨(some 109), (.iaddrS 1 (.tmp 106) (.tmp 108)), none⟩, ⟨(some 110), (.load none (.tmp 109)), none⟩, ⟨(some 111), (.faddr 2 (.tmp 15)), none⟩, ⟨(some 112), (.load none
  (.tmp 111)), none⟩, ⟨(some 113), (.bin .sub (.tmp 110) (.tmp 112)), none⟩, ⟨(some 114), (.iaddrS 1 (.tmp 106) (.tmp 108)), none⟩, ⟨none, (.store 1 (.tmp 114) (.tmp 113)), none⟩]
  []) (.seq (.draw [⟨(some 115), (.mv (.tmp 10)), none⟩, ⟨(some 116), (.faddr 0 (.tmp 15)), none⟩, ⟨(some 117), (.load none (.tmp 116)), none⟩, ⟨(some 118), (.iaddrS 1 (.tmp 115)
  (.tmp 117)), none⟩, ⟨(some 119), (.load none (.tmp 118)), none⟩, ⟨(some 120), (.faddr 2 (.tmp 15)), none⟩, ⟨(some 121), (.load none (.tmp 120)), none⟩, ⟨(some 122), (.bin .add
  (.tmp 119) (.tmp 121)), none⟩, ⟨(some 123), (.iaddrS 1 (.tmp 115) (.tmp 117)), none⟩, ⟨none, (.store 1 (.tmp 123) (.tmp 122)), none⟩] []) (.region [⟨(some 124), (.mv (.tmp 11)),
  none⟩, ⟨(some 125), (.faddr 2 (.tmp 15)), none⟩, ⟨(some 126), (.load none (.tmp 125)), none⟩, ⟨(some 127), (.bin .sub (.tmp 124) (.tmp 126)), none⟩, ⟨(some 11), (.mv (.tmp 127)),
   none⟩])))))) (.region [⟨(some 128), (.bin .add (.tmp 68) (.const (.int .i64 1))), none⟩, ⟨(some 68), (.mv (.tmp 128)), none⟩]))))))) (.seq (.region [⟨(some 129), (.mv (.tmp
  11)), none⟩, ⟨(some 6), (.mv (.tmp 129)), none⟩, ⟨(some 7), (.mv (.const (.int .i64 0))), none⟩]) .ret))))))))⟩
def af36 : AFn := ⟨217, [(.tmp 6), (.tmp 7)], (.seq (.region [⟨(some 3), (.box (.tmp 0)), none⟩, ⟨(some 6), (.mv (.const (.int .i64 0))), none⟩, ⟨(some 7), (.mv (.const (.int .i64 0))), none⟩])
  (.seq (.seq (.region [⟨(some 15), (.load (some 4) (.tmp 3)), none⟩, ⟨(some 16), (.mv (.tmp 1)), none⟩, ⟨(some 17), (.call (.func 25) [(.tmp 15), (.tmp 16)]), none⟩, ⟨(some 18),
  (.bin .neq (.tmp 17) (.const (.int .i64 0))), none⟩]) (.cond (.tmp 18) (.seq (.region [⟨(some 19), (.load (some 4) (.tmp 3)), none⟩, ⟨(some 20), (.mv (.tmp 1)), none⟩, ⟨(some
  21), (.call (.func 25) [(.tmp 19), (.tmp 20)]), none⟩, ⟨(some 6), (.mv (.const (.int .i64 0))), none⟩, ⟨(some 7), (.mv (.tmp 21)), none⟩]) .ret) .skip)) (.seq (.seq (.region
  [⟨(some 22), (.mv (.tmp 2)), none⟩, ⟨(some 23), (.len (.tmp 22)), none⟩, ⟨(some 24), (.bin .gtr (.tmp 23) (.const (.int .i64 100))), none⟩]) (.cond (.tmp 24) (.seq (.region
  [⟨(some 6), (.mv (.const (.int .i64 0))), none⟩, ⟨(some 7), (.mv (.const (.int .i64 6))), none⟩]) .ret) .skip)) (.seq (.seq (.region [⟨(some 8), (.mv (.const (.int .i64 0))),
  none⟩]) (.block 0 (.loop (.seq (.seq (.region [⟨(some 25), (.mv (.tmp 8)), none⟩, ⟨(some 26), (.mv (.tmp 2)), none⟩, ⟨(some 27), (.len (.tmp 26)), none⟩, ⟨(some 28), (.bin .lss
  (.tmp 25) (.tmp 27)), none⟩]) (.cond (.tmp 28) .skip (.exit 0))) (.seq (.block 1 (.seq (.draw [⟨(some 31), (.mv (.tmp 2)), none⟩, ⟨(some 32), (.mv (.tmp 8)), none⟩, ⟨(some 33),
  (.iaddrS 3 (.tmp 31) (.tmp 32)), none⟩, ⟨(some 34), (.faddr 2 (.tmp 33)), none⟩, ⟨(some 35), (.load none (.tmp 34)), none⟩, ⟨(some 36), (.bin .lss (.tmp 35) (.const (.int .i64
  1))), none⟩, ⟨(some 37), (.mv (.tmp 36)), none⟩, ⟨(some 38), (.load (some 4) (.tmp 3)), (some (37, false))⟩, ⟨(some 39), (.mv (.tmp 2)), (some (37, false))⟩, ⟨(some 40), (.mv
  (.tmp 8)), (some (37, false))⟩, ⟨(some 41), (.iaddrS 3 (.tmp 39) (.tmp 40)), (some (37, false))⟩, ⟨(some 42), (.faddr 0 (.tmp 41)), (some (37, false))⟩, ⟨(some 43), (.load none
  (.tmp 42)), (some (37, false))⟩, ⟨(some 44), (.call (.func 74) [(.tmp 38), (.tmp 43)]), (some (37, false))⟩, ⟨(some 45), (.un .not (.tmp 44)), (some (37, false))⟩, ⟨(some 46),
  (.pick (.tmp 37) (.const (.bool true)) (.tmp 45)), none⟩, ⟨(some 47), (.mv (.tmp 46)), none⟩, ⟨(some 48), (.load (some 4) (.tmp 3)), (some (47, false))⟩, ⟨(some 49), (.mv (.tmp
  2)), (some (47, false))⟩, ⟨(some 50), (.mv (.tmp 8)), (some (47, false))⟩, ⟨(some 51), (.iaddrS 3 (.tmp 49) (.tmp 50)), (some (47, false))⟩, ⟨(some 52), (.faddr 1 (.tmp 51)),
  (some (47, false))⟩, ⟨(some 53), (.load none (.tmp 52)), (some (47, false))⟩, ⟨(some 54), (.call (.func 74) [(.tmp 48), (.tmp 53)]), (some (47, false))⟩, ⟨(some 55), (.un .not
  (.tmp 54)), (some (47, false))⟩, ⟨(some 56), (.pick (.tmp 47) (.const (.bool true)) (.tmp 55)), none⟩] []) (.cond (.tmp 56) (.seq (.region [⟨(some 6), (.mv (.const (.int .i64
  0))), none⟩, ⟨(some 7), (.mv (.const (.int .i64 3))), none⟩]) .ret) .skip))) (.region [⟨(some 29), (.mv (.tmp 8)), none⟩, ⟨(some 30), (.bin .add (.tmp 29) (.const (.int .i64
  1))), none⟩, ⟨(some 8), (.mv (.tmp 30)), none⟩])))))) (.seq (.region [⟨(some 57), (.load (some 4) (.tmp 3)), none⟩, ⟨(some 58), (.call (.func 81) [(.tmp 57)]), none⟩, ⟨(some 9),
  (.mv (.tmp 58)), none⟩]) (.seq (.region [⟨(some 59), (.faddr 2 (.tmp 3)), none⟩, ⟨(some 60), (.load none (.tmp 59)), none⟩, ⟨(some 61), (.len (.tmp 60)), none⟩, ⟨(some 62),
  (.mkslc [(.int .i64 0)] 8 (.tmp 61) (.tmp 61)), none⟩, ⟨(some 10), (.mv (.tmp 62)), none⟩]) (.seq (.region [⟨(some 63), (.faddr 0 (.tmp 3)), none⟩, ⟨(some 64), (.load none (.tmp
  63)), none⟩, ⟨(some 65), (.mv (.tmp 1)), none⟩, ⟨(some 66), (.iaddrS 1 (.tmp 64) (.tmp 65)), none⟩, ⟨(some 67), (.load none (.tmp 66)), none⟩, ⟨(some 11), (.mv (.tmp 67)),
  none⟩]) (.seq (.seq (.region [⟨(some 12), (.mv (.const (.int .i64 0))), none⟩]) (.block 2 (.loop (.seq (.seq (.region [⟨(some 68), (.mv (.tmp 12)), none⟩, ⟨(some 69), (.faddr 2
  (.tmp 3)), none⟩, ⟨(some 70), (.load none (.tmp 69)), none⟩, ⟨(some 71), (.len (.tmp 70)), none⟩, ⟨(some 72), (.bin .lss (.tmp 68) (.tmp 71)), none⟩]) (.cond (.tmp 72) .skip
  (.exit 2))) (.seq (.block 3 (.seq (.draw [⟨(some 75), (.mv (.tmp 10)), none⟩, ⟨(some 76), (.mv (.tmp 12)), none⟩, ⟨(some 77), (.faddr 2 (.tmp 3)), none⟩, ⟨(some 78), (.load none
  (.tmp 77)), none⟩, ⟨(some 79), (.mv (.tmp 12)), none⟩, ⟨(some 80), (.iaddrS 4 (.tmp 78) (.tmp 79)), none⟩, ⟨(some 81), (.faddr 1 (.tmp 80)), none⟩, ⟨(some 82), (.load none (.tmp
  81)), none⟩, ⟨(some 83), (.faddr 2 (.tmp 3)), none⟩, ⟨(some 84), (.load none (.tmp 83)), none⟩, ⟨(some 85), (.mv (.tmp 12)), none⟩, ⟨(some 86), (.iaddrS 4 (.tmp 84) (.tmp 85)),
  none⟩, ⟨(some 87), (.faddr 1 (.tmp 86)), none⟩, ⟨(some 88), (.load none (.tmp 87)), none⟩, ⟨(some 89), (.un .neg (.tmp 88)), none⟩, ⟨(some 90), (.mnx true [(.tmp 82), (.tmp
  89)]), none⟩, ⟨(some 91), (.iaddrS 1 (.tmp 75) (.tmp 76)), none⟩, ⟨none, (.store 1 (.tmp 91) (.tmp 90)), none⟩] []) (.seq (.region [⟨(some 92), (.faddr 2 (.tmp 3)), none⟩,
  ⟨(some 93), (.load none (.tmp 92)), none⟩, ⟨(some 94), (.mv (.tmp 12)), none⟩, ⟨(some 95), (.iaddrS 4 (.tmp 93) (.tmp 94)), none⟩, ⟨(some 96), (.faddr 0 (.tmp 95)), none⟩,
  ⟨(some 97), (.load none (.tmp 96)), none⟩, ⟨(some 98), (.mv (.tmp 1)), none⟩, ⟨(some 99), (.bin .eql (.tmp 97) (.tmp 98)), none⟩]) (.cond (.tmp 99) (.region [⟨(some 100), (.mv
  (.tmp 11)), none⟩, ⟨(some 101), (.faddr 2 (.tmp 3)), none⟩, ⟨(some 102), (.load none (.tmp 101)), none⟩, ⟨(some 103), (.mv (.tmp 12)), none⟩, ⟨(some 104), (.iaddrS 4 (.tmp 102)
  (.tmp 103)), none⟩, ⟨(some 105), (.faddr 1 (.tmp 104)), none⟩, ⟨(some 106), (.load none (.tmp 105)), none⟩, ⟨(some 107), (.mnx true [(.const (.int .i64 0)), (.tmp 106)]), none⟩,
  ⟨(some 108), (.bin .add (.tmp 100) (.tmp 107)), none⟩, ⟨(some 11), (.mv (.tmp 108)), none⟩]) .skip)))) (.region [⟨(some 73), (.mv (.tmp 12)), none⟩, ⟨(some 74), (.bin .add (.tmp
  73) (.const (.int .i64 1))), none⟩, ⟨(some 12), (.mv (.tmp 74)), none⟩])))))) (.seq (.seq (.region [⟨(some 13), (.mv (.const (.int .i64 0))), none⟩]) (.block 4 (.loop (.seq
  (.seq (.region [⟨(some 109), (.mv (.tmp 13)), none⟩, ⟨(some 110), (.mv (.tmp 2)), none⟩, ⟨(some 111), (.len (.tmp 110)), none⟩, ⟨(some 112), (.bin .lss (.tmp 109) (.tmp 111)),
  none⟩]) (.cond (.tmp 112) .skip (.exit 4))) (.seq (.block 5 (.seq (.region [⟨(some 115), (.mv (.tmp 2)), none⟩, ⟨(some 116), (.mv (.tmp 13)), none⟩, ⟨(some 117), (.iaddrS 3
  (.tmp 115) (.tmp 116)), none⟩, ⟨(some 118), (.load (some 3) (.tmp 117)), none⟩, ⟨(some 14), (.alloc [(.int .i64 0), (.int .i64 0), (.int .i64 0)]), none⟩, ⟨none, (.store 3 (.tmp
  14) (.tmp 118)), none⟩]) (.seq (.seq (.draw [⟨(some 119), (.faddr 2 (.tmp 3)), none⟩, ⟨(some 120), (.load none (.tmp 119)), none⟩, ⟨(some 121), (.faddr 0 (.tmp 14)), none⟩,
  ⟨(some 122), (.load none (.tmp 121)), none⟩, ⟨(some 123), (.iaddrS 4 (.tmp 120) (.tmp 122)), none⟩, ⟨(some 124), (.faddr 0 (.tmp 123)), none⟩, ⟨(some 125), (.load none (.tmp
  124)), none⟩, ⟨(some 126), (.mv (.tmp 1)), none⟩, ⟨(some 127), (.bin .neq (.tmp 125) (.tmp 126)), none⟩, ⟨(some 128), (.mv (.tmp 127)), none⟩, ⟨(some 129), (.faddr 2 (.tmp 3)),
  (some (128, false))⟩, ⟨(some 130), (.load none (.tmp 129)), (some (128, false))⟩, ⟨(some 131), (.faddr 1 (.tmp 14)), (some (128, false))⟩, ⟨(some 132), (.load none (.tmp 131)),
  (some (128, false))⟩, ⟨(some 133), (.iaddrS 4 (.tmp 130) (.tmp 132)), (some (128, false))⟩, ⟨(some 134), (.faddr 0 (.tmp 133)), (some (128, false))⟩, ⟨(some 135), (.load none
  (.tmp 134)), (some (128, false))⟩, ⟨(some 136), (.mv (.tmp 1)), (some (128, false))⟩, ⟨(some 137), (.bin .neq (.tmp 135) (.tmp 136)), (some (128, false))⟩, ⟨(some 138), (.pick
  (.tmp 128) (.const (.bool true)) (.tmp 137)), none⟩, ⟨(some 139), (.mv (.tmp 138)), none⟩, ⟨(some 140), (.mv (.tmp 9)), (some (139, false))⟩, ⟨(some 141), (.faddr 0 (.tmp 14)),
  (some (139, false))⟩, ⟨(some 142), (.load none (.tmp 141)), (some (139, false))⟩, ⟨(some 143), (.faddr 2 (.tmp 3)), (some (139, false))⟩, ⟨(some 144), (.load none (.tmp 143)),
  (some (139, false))⟩, ⟨(some 145), (.len (.tmp 144)), (some (139, false))⟩, ⟨(some 146), (.bin .mul (.tmp 142) (.tmp 145)), (some (139, false))⟩, ⟨(some 147), (.faddr 1 (.tmp
  14)), (some (139, false))⟩, ⟨(some 148), (.load none (.tmp 147)), (some (139, false))⟩, ⟨(some 149), (.bin .add (.tmp 146) (.tmp 148)), (some (139, false))⟩, ⟨(some 150),
  (.iaddrS 1 (.tmp 140) (.tmp 149)), (some (139, false))⟩, ⟨(some 151), (.load none (.tmp 150)), (some (139, false))⟩, ⟨(some 152), (.bin .neq (.tmp 151) (.const (.int .i64 1))),
  (some (139, false))⟩, ⟨(some 153), (.pick (.tmp 139) (.const (.bool true)) (.tmp 152)), none⟩, ⟨(some 154), (.mv (.tmp 153)), none⟩, ⟨(some 155), (.faddr 2 (.tmp 3)), (some (154,
   false))⟩, ⟨(some 156), (.load none (.tmp 155)), (some (154, false))⟩, ⟨(some 157), (.faddr 0 (.tmp 14)), (some (154, false))⟩, ⟨(some 158), (.load none (.tmp 157)), (some (154,
  false))⟩, ⟨(some 159), (.iaddrS 4 (.tmp 156) (.tmp 158)), (some (154, false))⟩, ⟨(some 160), (.faddr 1 (.tmp 159)), (some (154, false))⟩, ⟨(some 161), (.load none (.tmp 160)),
  (some (154, false))⟩, ⟨(some 162), (.bin .geq (.tmp 161) (.const (.int .i64 0))), (some (154, false))⟩, ⟨(some 163), (.pick (.tmp 154) (.const (.bool true)) (.tmp 162)), none⟩,
  ⟨(some 164), (.mv (.tmp 163)), none⟩, ⟨(some 165), (.faddr 2 (.tmp 3)), (some (164, false))⟩, ⟨(some 166), (.load none (.tmp 165)), (some (164, false))⟩, ⟨(some 167), (.faddr 1
  (.tmp 14)), (some (164, false))⟩, ⟨(some 168), (.load none (.tmp 167)), (some (164, false))⟩, ⟨(some 169), (.iaddrS 4 (.tmp 166) (.tmp 168)), (some (164, false))⟩, ⟨(some 170),
  (.faddr 1 (.tmp 169)), (some (164, false))⟩, ⟨(some 171), (.load none (.tmp 170)), (some (164, false))⟩, ⟨(some 172), (.bin .leq (.tmp 171) (.const (.int .i64 0))), (some (164,
  false))⟩, ⟨(some 173), (.pick (.tmp 164) (.const (.bool true)) (.tmp 172)), none⟩, ⟨(some 174), (.mv (.tmp 173)), none⟩, ⟨(some 175), (.faddr 2 (.tmp 14)), (some (174, false))⟩,
  ⟨(some 176), (.load none (.tmp 175)), (some (174, false))⟩, ⟨(some 177), (.mv (.tmp 10)), (some (174, false))⟩, ⟨(some 178), (.faddr 0 (.tmp 14)), (some (174, false))⟩, ⟨(some
  179), (.load none (.tmp 178)), (some (174, false))⟩, ⟨(some 180), (.iaddrS 1 (.tmp 177) (.tmp 179)), (some (174, false))⟩, ⟨(some 181), (.load none (.tmp 180)), (some (174,
  false))⟩, ⟨(some 182), (.bin .gtr (.tmp 176) (.tmp 181)), (some (174, false))⟩, ⟨(some 183), (.pick (.tmp 174) (.const (.bool true)) (.tmp 182)), none⟩, ⟨(some 184), (.mv (.tmp
  183)), none⟩, ⟨(some 185), (.faddr 2 (.tmp 14)), (some (184, false))⟩, ⟨(some 186), (.load none (.tmp 185)), (some (184, false))⟩, ⟨(some 187), (.mv (.tmp 10)), (some (184,
  false))⟩, ⟨(some 188), (.faddr 1 (.tmp 14)), (some (184, false))⟩, ⟨(some 189), (.load none (.tmp 188)), (some (184, false))⟩, ⟨(some 190), (.iaddrS 1 (.tmp 187) (.tmp 189)),
  (some (184, false))⟩, ⟨(some 191), (.load none (.tmp 190)), (some (184, false))⟩, ⟨(some 192), (.bin .gtr (.tmp 186) (.tmp 191)), (some (184, false))⟩, ⟨(some 193), (.pick (.tmp
  184) (.const (.bool true)) (.tmp 192)), none⟩] []) (.cond (.tmp 193) (.seq (.region [⟨(some 6), (.mv (.const (.int .i64 0))), none⟩, ⟨(some 7), (.mv (.const (.int .i64 14))),
  none⟩]) .ret) .skip)) (.seq (.draw [⟨(some 194), (.mv (.tmp 10)), none⟩, ⟨(some 195), (.faddr 0 (.tmp 14)), none⟩, ⟨(some 196), (.load none (.tmp 195)), none⟩, ⟨(some 197),
  (.iaddrS 1 (.tmp 194) (.tmp 196)), none⟩, ⟨(some 198), (.load none (.tmp 197)), none⟩, ⟨(some 199), (.faddr 2 (.tmp 14)), none⟩, ⟨(some 200), (.load none (.tmp 199)), none⟩,
  ⟨(some 201), (.bin .sub (.tmp 198) (.tmp 200)), none⟩, ⟨(some 202), (.iaddrS 1 (.tmp 194) (.tmp 196)), none⟩, ⟨none, (.store 1 (.tmp 202) (.tmp 201)), none⟩] []) (.seq (.draw
  [⟨(some 203), (.mv (.tmp 10)), none⟩, ⟨(some 204), (.faddr 1 (.tmp 14)), none⟩, ⟨(some 205), (.load none (.tmp 204)), none⟩, ⟨(some 206), (.iaddrS 1 (.tmp 203) (.tmp 205)),
  none⟩, ⟨(some 207), (.load none (.tmp 206)), none⟩, ⟨(some 208), (.faddr 2 (.tmp 14)), none⟩, ⟨(some 209), (.load none (.tmp 208)), none⟩, ⟨(some 210), (.bin .sub (.tmp 207)
  (.tmp 209)), none⟩, ⟨(some 211), (.iaddrS 1 (.tmp 203) (.tmp 205)), none⟩, ⟨none, (.store 1 (.tmp 211) (.tmp 210)), none⟩] []) (.region [⟨(some 212), (.mv (.tmp 11)), none⟩,
  ⟨(some 213), (.faddr 2 (.tmp 14)), none⟩, ⟨(some 214), (.load none (.tmp 213)), none⟩, ⟨(some 215), (.bin .sub (.tmp 212) (.tmp 214)), none⟩, ⟨(some 11), (.mv (.tmp 215)),
  none⟩])))))) (.region [⟨(some 113), (.mv (.tmp 13)), none⟩, ⟨(some 114), (.bin .add (.tmp 113) (.const (.int .i64 1))), none⟩, ⟨(some 13), (.mv (.tmp 114)), none⟩])))))) (.seq
  (.region [⟨(some 216), (.mv (.tmp 11)), none⟩, ⟨(some 6), (.mv (.tmp 216)), none⟩, ⟨(some 7), (.mv (.const (.int .i64 0))), none⟩]) .ret))))))))))⟩
def af37 : AFn := ⟨22, [(.tmp 4), (.tmp 5)], (.seq (.region [⟨(some 2), (.box (.tmp 0)), none⟩, ⟨(some 4), (.mv (.const (.slc none 0 0 true 0))), none⟩, ⟨(some 5), (.mv (.const (.int .i64 0))),
  none⟩]) (.seq (.region [⟨(some 9), (.load (some 4) (.tmp 2)), none⟩, ⟨(some 10), (.mv (.tmp 1)), none⟩, ⟨(some 11), (.call (.func 69) [(.tmp 9), (.tmp 10)]), none⟩, ⟨(some 8),
  (.mv (.tmp 11)), none⟩, ⟨(some 12), (.ext (.tmp 8) 0), none⟩, ⟨(some 13), (.ext (.tmp 8) 1), none⟩, ⟨(some 6), (.mv (.tmp 12)), none⟩, ⟨(some 7), (.mv (.tmp 13)), none⟩]) (.seq
  (.seq (.region [⟨(some 14), (.mv (.tmp 7)), none⟩, ⟨(some 15), (.bin .neq (.tmp 14) (.const (.int .i64 0))), none⟩]) (.cond (.tmp 15) (.seq (.region [⟨(some 16), (.mv (.tmp 7)),
  none⟩, ⟨(some 4), (.mv (.const (.slc none 0 0 true 0))), none⟩, ⟨(some 5), (.mv (.tmp 16)), none⟩]) .ret) .skip)) (.seq (.region [⟨(some 17), (.mv (.tmp 6)), none⟩, ⟨(some 18),
  (.mv (.tmp 1)), none⟩, ⟨(some 19), (.mv (.tmp 6)), none⟩, ⟨(some 20), (.mkfn 71 [(.tmp 19)] []), none⟩, ⟨(some 21), (.call (.func 82) [(.tmp 17), (.tmp 18), (.tmp 20)]), none⟩,
  ⟨(some 4), (.mv (.tmp 21)), none⟩, ⟨(some 5), (.mv (.const (.int .i64 0))), none⟩]) .ret))))⟩
def af38 : AFn := ⟨49, [(.cell 2 (some 2)), (.tmp 3)], (.seq (.region [⟨(some 1), (.box (.tmp 0)), none⟩, ⟨(some 2), (.alloc [(.int .i64 0), (.int .i64 0)]), none⟩, ⟨(some 3), (.mv (.const (.int
  .i64 0))), none⟩]) (.seq (.region [⟨(some 11), (.load (some 4) (.tmp 1)), none⟩, ⟨(some 12), (.call (.func 60) [(.tmp 11)]), none⟩, ⟨(some 10), (.mv (.tmp 12)), none⟩, ⟨(some
  13), (.ext (.tmp 10) 0), none⟩, ⟨(some 14), (.ext (.tmp 10) 1), none⟩, ⟨(some 4), (.alloc [(.ptr none)]), none⟩, ⟨none, (.store 1 (.tmp 4) (.tmp 13)), none⟩, ⟨(some 5), (.mv
  (.tmp 14)), none⟩]) (.seq (.seq (.region [⟨(some 15), (.mv (.tmp 5)), none⟩, ⟨(some 16), (.bin .neq (.tmp 15) (.const (.int .i64 0))), none⟩]) (.cond (.tmp 16) (.seq (.region
  [⟨(some 17), (.build [(.int .i64 0), (.int .i64 0)] []), none⟩, ⟨(some 18), (.mv (.tmp 5)), none⟩, ⟨none, (.store 2 (.tmp 2) (.tmp 17)), none⟩, ⟨(some 3), (.mv (.tmp 18)),
  none⟩]) .ret) .skip)) (.seq (.region [⟨(some 6), (.mv (.const (.slc none 0 0 true 0))), none⟩]) (.seq (.seq (.region [⟨(some 19), (.faddr 2 (.tmp 1)), none⟩, ⟨(some 20), (.load
  none (.tmp 19)), none⟩, ⟨(some 21), (.len (.tmp 20)), none⟩, ⟨(some 22), (.mv (.const (.int .i64 0))), none⟩]) (.block 0 (.loop (.seq (.region [⟨(some 23), (.bin .lss (.tmp 22)
  (.tmp 21)), none⟩]) (.seq (.cond (.tmp 23) .skip (.exit 0)) (.seq (.block 1 (.seq (.region [⟨(some 24), (.mv (.tmp 22)), none⟩, ⟨(some 7), (.mv (.tmp 24)), none⟩]) (.seq
  (.region [⟨(some 25), (.faddr 2 (.tmp 1)), none⟩, ⟨(some 26), (.load none (.tmp 25)), none⟩, ⟨(some 27), (.len (.tmp 26)), none⟩, ⟨(some 28), (.mv (.const (.int .i64 0))),
  none⟩]) (.block 2 (.loop (.seq (.region [⟨(some 29), (.bin .lss (.tmp 28) (.tmp 27)), none⟩]) (.seq (.cond (.tmp 29) .skip (.exit 2)) (.seq (.block 3 (.seq (.region [⟨(some 30),
  (.mv (.tmp 28)), none⟩, ⟨(some 8), (.mv (.tmp 30)), none⟩]) (.region [⟨(some 31), (.mv (.tmp 6)), none⟩, ⟨(some 32), (.mv (.tmp 7)), none⟩, ⟨(some 33), (.mv (.tmp 8)), none⟩,
  ⟨(some 34), (.build [(.int .i64 0), (.int .i64 0)] [(0, (1, (.tmp 32))), (1, (1, (.tmp 33)))]), none⟩, ⟨(some 35), (.bslice [(.int .i64 0), (.int .i64 0)] 1 2 [(0, (2, (.tmp
  34)))]), none⟩, ⟨(some 36), (.app 2 16 (.tmp 31) (.tmp 35)), none⟩, ⟨(some 6), (.mv (.tmp 36)), none⟩]))) (.region [⟨(some 37), (.bin .add (.tmp 28) (.const (.int .i64 1))),
  none⟩, ⟨(some 28), (.mv (.tmp 37)), none⟩]))))))))) (.region [⟨(some 38), (.bin .add (.tmp 22) (.const (.int .i64 1))), none⟩, ⟨(some 22), (.mv (.tmp 38)), none⟩]))))))) (.seq
  (.region [⟨(some 39), (.mv (.tmp 6)), none⟩, ⟨(some 40), (.mkfn 84 [] [(.tmp 4)]), none⟩, ⟨(some 41), (.call (.func 83) [(.tmp 39), (.tmp 40)]), none⟩, ⟨(some 9), (.mv (.tmp
  41)), none⟩]) (.seq (.seq (.region [⟨(some 42), (.mv (.tmp 9)), none⟩, ⟨(some 43), (.bin .lss (.tmp 42) (.const (.int .i64 0))), none⟩]) (.cond (.tmp 43) (.seq (.region [⟨(some
  44), (.build [(.int .i64 0), (.int .i64 0)] []), none⟩, ⟨none, (.store 2 (.tmp 2) (.tmp 44)), none⟩, ⟨(some 3), (.mv (.const (.int .i64 5))), none⟩]) .ret) .skip)) (.seq
  (.region [⟨(some 45), (.mv (.tmp 6)), none⟩, ⟨(some 46), (.mv (.tmp 9)), none⟩, ⟨(some 47), (.iaddrS 2 (.tmp 45) (.tmp 46)), none⟩, ⟨(some 48), (.load (some 2) (.tmp 47)), none⟩,
   ⟨none, (.store 2 (.tmp 2) (.tmp 48)), none⟩, ⟨(some 3), (.mv (.const (.int .i64 0))), none⟩]) .ret))))))))⟩
def af39 : AFn := ⟨34, [(.cell 2 (some 2)), (.tmp 3)], (.seq (.region [⟨(some 1), (.box (.tmp 0)), none⟩, ⟨(some 2), (.alloc [(.int .i64 0), (.int .i64 0)]), none⟩, ⟨(some 3), (.mv (.const (.int
  .i64 0))), none⟩]) (.seq (.seq (.region [⟨(some 6), (.load (some 4) (.tmp 1)), none⟩, ⟨(some 7), (.call (.func 51) [(.tmp 6)]), none⟩, ⟨(some 8), (.bin .neq (.tmp 7) (.const
  (.int .i64 0))), none⟩]) (.cond (.tmp 8) (.seq (.region [⟨(some 9), (.build [(.int .i64 0), (.int .i64 0)] []), none⟩, ⟨(some 10), (.load (some 4) (.tmp 1)), none⟩, ⟨(some 11),
  (.call (.func 51) [(.tmp 10)]), none⟩, ⟨none, (.store 2 (.tmp 2) (.tmp 9)), none⟩, ⟨(some 3), (.mv (.tmp 11)), none⟩]) .ret) .skip)) (.seq (.seq (.region [⟨(some 4), (.mv
  (.const (.int .i64 0))), none⟩]) (.block 0 (.loop (.seq (.seq (.region [⟨(some 12), (.mv (.tmp 4)), none⟩, ⟨(some 13), (.faddr 2 (.tmp 1)), none⟩, ⟨(some 14), (.load none (.tmp
  13)), none⟩, ⟨(some 15), (.len (.tmp 14)), none⟩, ⟨(some 16), (.bin .lss (.tmp 12) (.tmp 15)), none⟩]) (.cond (.tmp 16) .skip (.exit 0))) (.seq (.block 1 (.seq (.region [⟨(some
  5), (.mv (.const (.int .i64 0))), none⟩]) (.block 2 (.loop (.seq (.seq (.region [⟨(some 19), (.mv (.tmp 5)), none⟩, ⟨(some 20), (.faddr 2 (.tmp 1)), none⟩, ⟨(some 21), (.load
  none (.tmp 20)), none⟩, ⟨(some 22), (.len (.tmp 21)), none⟩, ⟨(some 23), (.bin .lss (.tmp 19) (.tmp 22)), none⟩]) (.cond (.tmp 23) .skip (.exit 2))) (.seq (.block 3 (.seq
  (.region [⟨(some 26), (.load (some 4) (.tmp 1)), none⟩, ⟨(some 27), (.mv (.tmp 4)), none⟩, ⟨(some 28), (.mv (.tmp 5)), none⟩, ⟨(some 29), (.call (.func 44) [(.tmp 26), (.tmp 27),
   (.tmp 28)]), none⟩]) (.cond (.tmp 29) (.seq (.region [⟨(some 30), (.mv (.tmp 4)), none⟩, ⟨(some 31), (.mv (.tmp 5)), none⟩, ⟨(some 32), (.build [(.int .i64 0), (.int .i64 0)]
  [(0, (1, (.tmp 30))), (1, (1, (.tmp 31)))]), none⟩, ⟨none, (.store 2 (.tmp 2) (.tmp 32)), none⟩, ⟨(some 3), (.mv (.const (.int .i64 0))), none⟩]) .ret) .skip))) (.region [⟨(some
  24), (.mv (.tmp 5)), none⟩, ⟨(some 25), (.bin .add (.tmp 24) (.const (.int .i64 1))), none⟩, ⟨(some 5), (.mv (.tmp 25)), none⟩]))))))) (.region [⟨(some 17), (.mv (.tmp 4)),
  none⟩, ⟨(some 18), (.bin .add (.tmp 17) (.const (.int .i64 1))), none⟩, ⟨(some 4), (.mv (.tmp 18)), none⟩])))))) (.seq (.region [⟨(some 33), (.build [(.int .i64 0), (.int .i64
  0)] []), none⟩, ⟨none, (.store 2 (.tmp 2) (.tmp 33)), none⟩, ⟨(some 3), (.mv (.const (.int .i64 5))), none⟩]) .ret))))⟩
def af40 : AFn := ⟨116, [(.tmp 4), (.tmp 5)], (.seq (.region [⟨(some 2), (.box (.tmp 0)), none⟩, ⟨(some 3), (.box (.tmp 1)), none⟩, ⟨(some 4), (.mv (.const (.slc none 0 0 true 0))), none⟩, ⟨(some
  5), (.mv (.const (.int .i64 0))), none⟩]) (.seq (.region [⟨(some 13), (.load (some 4) (.tmp 2)), none⟩, ⟨(some 14), (.call (.func 60) [(.tmp 13)]), none⟩, ⟨(some 12), (.mv (.tmp
  14)), none⟩, ⟨(some 15), (.ext (.tmp 12) 0), none⟩, ⟨(some 16), (.ext (.tmp 12) 1), none⟩, ⟨(some 6), (.mv (.tmp 15)), none⟩, ⟨(some 7), (.mv (.tmp 16)), none⟩]) (.seq (.draw
  [⟨(some 17), (.iaddrA 2 1 (.tmp 3) (.const (.int .i64 0))), none⟩, ⟨(some 18), (.load none (.tmp 17)), none⟩, ⟨(some 19), (.iaddrA 2 1 (.tmp 3) (.const (.int .i64 1))), none⟩,
  ⟨(some 20), (.load none (.tmp 19)), none⟩, ⟨(some 8), (.mv (.tmp 18)), none⟩, ⟨(some 9), (.mv (.tmp 20)), none⟩] []) (.seq (.block 0 (.seq (.region [⟨(some 22), (.mv (.tmp 7)),
  none⟩, ⟨(some 23), (.bin .neq (.tmp 22) (.const (.int .i64 0))), none⟩, ⟨(some 21), (.mv (.tmp 23)), none⟩]) (.cond (.tmp 21) (.seq (.region [⟨(some 24), (.mv (.tmp 7)), none⟩,
  ⟨(some 4), (.mv (.const (.slc none 0 0 true 0))), none⟩, ⟨(some 5), (.mv (.tmp 24)), none⟩]) .ret) (.seq (.region [⟨(some 26), (.mv (.tmp 6)), none⟩, ⟨(some 27), (.mv (.tmp 8)),
  none⟩, ⟨(some 28), (.mv (.tmp 9)), none⟩, ⟨(some 29), (.bslice [(.int .i64 0), (.int .i64 0)] 2 1 [(0, (1, (.tmp 27))), (1, (1, (.tmp 28)))]), none⟩, ⟨(some 30), (.call (.func
  80) [(.tmp 26), (.tmp 29)]), none⟩, ⟨(some 31), (.un .not (.tmp 30)), none⟩, ⟨(some 25), (.mv (.tmp 31)), none⟩]) (.cond (.tmp 25) (.seq (.region [⟨(some 4), (.mv (.const (.slc
  none 0 0 true 0))), none⟩, ⟨(some 5), (.mv (.const (.int .i64 2))), none⟩]) .ret) (.seq (.region [⟨(some 33), (.mv (.tmp 6)), none⟩, ⟨(some 34), (.mv (.tmp 8)), none⟩, ⟨(some
  35), (.mv (.tmp 9)), none⟩, ⟨(some 36), (.call (.func 85) [(.tmp 33), (.tmp 34), (.tmp 35)]), none⟩, ⟨(some 37), (.un .not (.tmp 36)), none⟩, ⟨(some 32), (.mv (.tmp 37)),
  none⟩]) (.cond (.tmp 32) (.seq (.region [⟨(some 4), (.mv (.const (.slc none 0 0 true 0))), none⟩, ⟨(some 5), (.mv (.const (.int .i64 5))), none⟩]) .ret) .skip))))))) (.seq
  (.region [⟨(some 38), (.mv (.tmp 6)), none⟩, ⟨(some 39), (.mv (.tmp 8)), none⟩, ⟨(some 40), (.nilchk (.tmp 38)), none⟩, ⟨(some 41), (.faddr 4 (.tmp 40)), none⟩, ⟨(some 42),
  (.iaddrA 12 1 (.tmp 41) (.tmp 39)), none⟩, ⟨(some 43), (.load none (.tmp 42)), none⟩, ⟨(some 10), (.mv (.tmp 43)), none⟩]) (.seq (.seq (.region [⟨(some 44), (.faddr 2 (.tmp 2)),
  none⟩, ⟨(some 45), (.load none (.tmp 44)), none⟩, ⟨(some 46), (.len (.tmp 45)), none⟩, ⟨(some 47), (.mv (.const (.int .i64 0))), none⟩]) (.block 1 (.loop (.seq (.region [⟨(some
  48), (.bin .lss (.tmp 47) (.tmp 46)), none⟩]) (.seq (.cond (.tmp 48) .skip (.exit 1)) (.seq (.block 2 (.seq (.region [⟨(some 49), (.mv (.tmp 47)), none⟩, ⟨(some 11), (.mv (.tmp
  49)), none⟩]) (.seq (.draw [⟨(some 50), (.mv (.tmp 6)), none⟩, ⟨(some 51), (.mv (.tmp 9)), none⟩, ⟨(some 52), (.nilchk (.tmp 50)), none⟩, ⟨(some 53), (.faddr 4 (.tmp 52)), none⟩,
   ⟨(some 54), (.iaddrA 12 1 (.tmp 53) (.tmp 51)), none⟩, ⟨(some 55), (.load none (.tmp 54)), none⟩, ⟨(some 56), (.mv (.tmp 11)), none⟩, ⟨(some 57), (.bslice [(.int .i64 0)] 1 1
  [(0, (1, (.tmp 56)))]), none⟩, ⟨(some 58), (.call (.func 63) [(.tmp 57)]), none⟩, ⟨(some 59), (.bin .and (.tmp 55) (.tmp 58)), none⟩, ⟨(some 60), (.bin .neq (.tmp 59) (.const
  (.int .i64 0))), none⟩, ⟨(some 61), (.mv (.tmp 60)), none⟩, ⟨(some 62), (.mv (.tmp 6)), (some (61, true))⟩, ⟨(some 63), (.mv (.tmp 11)), (some (61, true))⟩, ⟨(some 64), (.nilchk
  (.tmp 62)), (some (61, true))⟩, ⟨(some 65), (.faddr 4 (.tmp 64)), (some (61, true))⟩, ⟨(some 66), (.iaddrA 12 1 (.tmp 65) (.tmp 63)), (some (61, true))⟩, ⟨(some 67), (.load none
  (.tmp 66)), (some (61, true))⟩, ⟨(some 68), (.mv (.tmp 8)), (some (61, true))⟩, ⟨(some 69), (.bslice [(.int .i64 0)] 1 1 [(0, (1, (.tmp 68)))]), (some (61, true))⟩, ⟨(some 70),
  (.call (.func 63) [(.tmp 69)]), (some (61, true))⟩, ⟨(some 71), (.bin .and (.tmp 67) (.tmp 70)), (some (61, true))⟩, ⟨(some 72), (.bin .eql (.tmp 71) (.const (.int .i64 0))),
  (some (61, true))⟩, ⟨(some 73), (.pick (.tmp 61) (.tmp 72) (.const (.bool false))), none⟩, ⟨(some 74), (.mv (.tmp 73)), none⟩, ⟨(some 75), (.mv (.tmp 11)), (some (74, true))⟩,
  ⟨(some 76), (.mv (.tmp 8)), (some (74, true))⟩, ⟨(some 77), (.bin .neq (.tmp 75) (.tmp 76)), (some (74, true))⟩, ⟨(some 78), (.pick (.tmp 74) (.tmp 77) (.const (.bool false))),
  none⟩] [(5, 7), (5, 8), (17, 19), (17, 20)]) (.cond (.tmp 78) (.draw [⟨(some 79), (.mv (.tmp 10)), none⟩, ⟨(some 80), (.mv (.tmp 11)), none⟩, ⟨(some 81), (.bslice [(.int .i64
  0)] 1 1 [(0, (1, (.tmp 80)))]), none⟩, ⟨(some 82), (.call (.func 63) [(.tmp 81)]), none⟩, ⟨(some 83), (.mv (.tmp 6)), none⟩, ⟨(some 84), (.mv (.tmp 11)), none⟩, ⟨(some 85),
  (.nilchk (.tmp 83)), none⟩, ⟨(some 86), (.faddr 4 (.tmp 85)), none⟩, ⟨(some 87), (.iaddrA 12 1 (.tmp 86) (.tmp 84)), none⟩, ⟨(some 88), (.load none (.tmp 87)), none⟩, ⟨(some 89),
   (.bin .or (.tmp 82) (.tmp 88)), none⟩, ⟨(some 90), (.bin .or (.tmp 79) (.tmp 89)), none⟩, ⟨(some 10), (.mv (.tmp 90)), none⟩] [(2, 9), (3, 9)]) .skip)))) (.region [⟨(some 91),
  (.bin .add (.tmp 47) (.const (.int .i64 1))), none⟩, ⟨(some 47), (.mv (.tmp 91)), none⟩]))))))) (.seq (.draw [⟨(some 92), (.mv (.tmp 6)), none⟩, ⟨(some 93), (.mv (.tmp 10)),
  none⟩, ⟨(some 94), (.mv (.tmp 10)), none⟩, ⟨(some 95), (.mv (.tmp 8)), none⟩, ⟨(some 96), (.bslice [(.int .i64 0)] 1 1 [(0, (1, (.tmp 95)))]), none⟩, ⟨(some 97), (.call (.func
  63) [(.tmp 96)]), none⟩, ⟨(some 98), (.bin .or (.tmp 94) (.tmp 97)), none⟩, ⟨(some 99), (.mv (.tmp 10)), none⟩, ⟨(some 100), (.mv (.tmp 8)), none⟩, ⟨(some 101), (.mv (.tmp 9)),
  none⟩, ⟨(some 102), (.bslice [(.int .i64 0), (.int .i64 0)] 2 1 [(0, (1, (.tmp 100))), (1, (1, (.tmp 101)))]), none⟩, ⟨(some 103), (.call (.func 63) [(.tmp 102)]), none⟩, ⟨(some
  104), (.bin .or (.tmp 99) (.tmp 103)), none⟩, ⟨(some 105), (.mv (.tmp 6)), none⟩, ⟨(some 106), (.mv (.tmp 9)), none⟩, ⟨(some 107), (.nilchk (.tmp 105)), none⟩, ⟨(some 108),
  (.faddr 4 (.tmp 107)), none⟩, ⟨(some 109), (.iaddrA 12 1 (.tmp 108) (.tmp 106)), none⟩, ⟨(some 110), (.load none (.tmp 109)), none⟩, ⟨(some 111), (.bin .or (.tmp 104) (.tmp
  110)), none⟩, ⟨(some 112), (.mv (.tmp 6)), none⟩, ⟨(some 113), (.call (.func 61) [(.tmp 112)]), none⟩, ⟨(some 114), (.bslice [(.int .i64 0), (.int .i64 0), (.int .i64 0), (.int
  .i64 0)] 4 1 [(0, (1, (.tmp 93))), (1, (1, (.tmp 98))), (2, (1, (.tmp 111))), (3, (1, (.tmp 113)))]), none⟩, ⟨(some 115), (.call (.func 77) [(.tmp 92), (.tmp 114)]), none⟩,
  ⟨(some 4), (.mv (.tmp 115)), none⟩, ⟨(some 5), (.mv (.const (.int .i64 0))), none⟩] [(4, 10), (5, 10), (4, 18), (5, 18), (10, 18), (11, 18), (18, 21)]) .ret)))))))⟩
def af41 : AFn := ⟨29, [(.tmp 4)], (.seq (.region [⟨(some 2), (.box (.tmp 0)), none⟩, ⟨(some 3), (.box (.tmp 1)), none⟩, ⟨(some 4), (.mv (.const (.int .i64 0))), none⟩]) (.seq (.seq (.region
  [⟨(some 5), (.load (some 4) (.tmp 2)), none⟩, ⟨(some 6), (.call (.func 51) [(.tmp 5)]), none⟩, ⟨(some 7), (.bin .neq (.tmp 6) (.const (.int .i64 0))), none⟩]) (.cond (.tmp 7)
  (.seq (.region [⟨(some 8), (.load (some 4) (.tmp 2)), none⟩, ⟨(some 9), (.call (.func 51) [(.tmp 8)]), none⟩, ⟨(some 4), (.mv (.tmp 9)), none⟩]) .ret) .skip)) (.seq (.seq
  (.region [⟨(some 10), (.load (some 4) (.tmp 2)), none⟩, ⟨(some 11), (.iaddrA 2 1 (.tmp 3) (.const (.int .i64 0))), none⟩, ⟨(some 12), (.load none (.tmp 11)), none⟩, ⟨(some 13),
  (.call (.func 74) [(.tmp 10), (.tmp 12)]), none⟩, ⟨(some 14), (.un .not (.tmp 13)), none⟩, ⟨(some 15), (.mv (.tmp 14)), none⟩, ⟨(some 16), (.load (some 4) (.tmp 2)), (some (15,
  false))⟩, ⟨(some 17), (.iaddrA 2 1 (.tmp 3) (.const (.int .i64 1))), (some (15, false))⟩, ⟨(some 18), (.load none (.tmp 17)), (some (15, false))⟩, ⟨(some 19), (.call (.func 74)
  [(.tmp 16), (.tmp 18)]), (some (15, false))⟩, ⟨(some 20), (.un .not (.tmp 19)), (some (15, false))⟩, ⟨(some 21), (.pick (.tmp 15) (.const (.bool true)) (.tmp 20)), none⟩])
  (.cond (.tmp 21) (.seq (.region [⟨(some 4), (.mv (.const (.int .i64 2))), none⟩]) .ret) .skip)) (.seq (.seq (.region [⟨(some 22), (.load (some 4) (.tmp 2)), none⟩, ⟨(some 23),
  (.iaddrA 2 1 (.tmp 3) (.const (.int .i64 0))), none⟩, ⟨(some 24), (.load none (.tmp 23)), none⟩, ⟨(some 25), (.iaddrA 2 1 (.tmp 3) (.const (.int .i64 1))), none⟩, ⟨(some 26),
  (.load none (.tmp 25)), none⟩, ⟨(some 27), (.call (.func 44) [(.tmp 22), (.tmp 24), (.tmp 26)]), none⟩, ⟨(some 28), (.un .not (.tmp 27)), none⟩]) (.cond (.tmp 28) (.seq (.region
  [⟨(some 4), (.mv (.const (.int .i64 5))), none⟩]) .ret) .skip)) (.seq (.region [⟨(some 4), (.mv (.const (.int .i64 0))), none⟩]) .ret)))))⟩
def af42 : AFn := ⟨50, [(.tmp 8)], (.seq (.region [⟨(some 4), (.box (.tmp 0)), none⟩, ⟨(some 8), (.mv (.const (.bool false))), none⟩]) (.seq (.region [⟨(some 9), (.mv (.const (.int .i64 (-1)))),
  none⟩]) (.seq (.seq (.region [⟨(some 10), (.mv (.const (.int .i64 0))), none⟩]) (.block 0 (.loop (.seq (.seq (.region [⟨(some 11), (.mv (.tmp 10)), none⟩, ⟨(some 12), (.mv (.tmp
  1)), none⟩, ⟨(some 13), (.len (.tmp 12)), none⟩, ⟨(some 14), (.bin .lss (.tmp 11) (.tmp 13)), none⟩]) (.cond (.tmp 14) .skip (.exit 0))) (.seq (.block 1 (.seq (.region [⟨(some
  17), (.mv (.tmp 1)), none⟩, ⟨(some 18), (.mv (.tmp 10)), none⟩, ⟨(some 19), (.iaddrS 1 (.tmp 17) (.tmp 18)), none⟩, ⟨(some 20), (.load none (.tmp 19)), none⟩, ⟨(some 21), (.mv
  (.tmp 2)), none⟩, ⟨(some 22), (.bin .eql (.tmp 20) (.tmp 21)), none⟩]) (.cond (.tmp 22) (.region [⟨(some 23), (.mv (.tmp 10)), none⟩, ⟨(some 9), (.mv (.tmp 23)), none⟩]) (.seq
  (.draw [⟨(some 24), (.mv (.tmp 9)), none⟩, ⟨(some 25), (.bin .geq (.tmp 24) (.const (.int .i64 0))), none⟩, ⟨(some 26), (.mv (.tmp 25)), none⟩, ⟨(some 27), (.faddr 2 (.tmp 4)),
  (some (26, true))⟩, ⟨(some 28), (.load none (.tmp 27)), (some (26, true))⟩, ⟨(some 29), (.mv (.tmp 1)), (some (26, true))⟩, ⟨(some 30), (.mv (.tmp 10)), (some (26, true))⟩,
  ⟨(some 31), (.iaddrS 1 (.tmp 29) (.tmp 30)), (some (26, true))⟩, ⟨(some 32), (.load none (.tmp 31)), (some (26, true))⟩, ⟨(some 33), (.iaddrS 4 (.tmp 28) (.tmp 32)), (some (26,
  true))⟩, ⟨(some 34), (.faddr 2 (.tmp 33)), (some (26, true))⟩, ⟨(some 35), (.load none (.tmp 34)), (some (26, true))⟩, ⟨(some 36), (.faddr 2 (.tmp 4)), (some (26, true))⟩,
  ⟨(some 37), (.load none (.tmp 36)), (some (26, true))⟩, ⟨(some 38), (.mv (.tmp 2)), (some (26, true))⟩, ⟨(some 39), (.iaddrS 4 (.tmp 37) (.tmp 38)), (some (26, true))⟩, ⟨(some
  40), (.faddr 2 (.tmp 39)), (some (26, true))⟩, ⟨(some 41), (.load none (.tmp 40)), (some (26, true))⟩, ⟨(some 42), (.bin .eql (.tmp 35) (.tmp 41)), (some (26, true))⟩, ⟨(some
  43), (.pick (.tmp 26) (.tmp 42) (.const (.bool false))), none⟩] []) (.cond (.tmp 43) (.seq (.region [⟨(some 44), (.mv (.tmp 1)), none⟩, ⟨(some 45), (.mv (.tmp 10)), none⟩,
  ⟨(some 46), (.iaddrS 1 (.tmp 44) (.tmp 45)), none⟩, ⟨(some 47), (.load none (.tmp 46)), none⟩, ⟨(some 48), (.mv (.tmp 3)), none⟩, ⟨(some 49), (.bin .eql (.tmp 47) (.tmp 48)),
  none⟩, ⟨(some 8), (.mv (.tmp 49)), none⟩]) .ret) .skip))))) (.region [⟨(some 15), (.mv (.tmp 10)), none⟩, ⟨(some 16), (.bin .add (.tmp 15) (.const (.int .i64 1))), none⟩, ⟨(some
  10), (.mv (.tmp 16)), none⟩])))))) (.seq (.region [⟨(some 8), (.mv (.const (.bool false))), none⟩]) .ret))))⟩
def af43 : AFn := ⟨37, [(.tmp 6), (.tmp 7)], (.seq (.region [⟨(some 3), (.box (.tmp 0)), none⟩, ⟨(some 6), (.mv (.const (.bool false))), none⟩, ⟨(some 7), (.mv (.const (.int .i64 0))), none⟩])
  (.seq (.region [⟨(some 11), (.load (some 4) (.tmp 3)), none⟩, ⟨(some 12), (.call (.func 60) [(.tmp 11)]), none⟩, ⟨(some 10), (.mv (.tmp 12)), none⟩, ⟨(some 13), (.ext (.tmp 10)
  0), none⟩, ⟨(some 14), (.ext (.tmp 10) 1), none⟩, ⟨(some 8), (.mv (.tmp 13)), none⟩, ⟨(some 9), (.mv (.tmp 14)), none⟩]) (.seq (.block 0 (.seq (.region [⟨(some 16), (.mv (.tmp
  9)), none⟩, ⟨(some 17), (.bin .neq (.tmp 16) (.const (.int .i64 0))), none⟩, ⟨(some 15), (.mv (.tmp 17)), none⟩]) (.cond (.tmp 15) (.seq (.region [⟨(some 18), (.mv (.tmp 9)),
  none⟩, ⟨(some 6), (.mv (.const (.bool false))), none⟩, ⟨(some 7), (.mv (.tmp 18)), none⟩]) .ret) (.seq (.region [⟨(some 20), (.mv (.tmp 8)), none⟩, ⟨(some 21), (.mv (.tmp 1)),
  none⟩, ⟨(some 22), (.mv (.tmp 2)), none⟩, ⟨(some 23), (.bslice [(.int .i64 0), (.int .i64 0)] 2 1 [(0, (1, (.tmp 21))), (1, (1, (.tmp 22)))]), none⟩, ⟨(some 24), (.call (.func
  80) [(.tmp 20), (.tmp 23)]), none⟩, ⟨(some 25), (.un .not (.tmp 24)), none⟩, ⟨(some 19), (.mv (.tmp 25)), none⟩]) (.cond (.tmp 19) (.seq (.region [⟨(some 6), (.mv (.const (.bool
  false))), none⟩, ⟨(some 7), (.mv (.const (.int .i64 2))), none⟩]) .ret) .skip))))) (.seq (.draw [⟨(some 26), (.mv (.tmp 8)), none⟩, ⟨(some 27), (.mv (.tmp 2)), none⟩, ⟨(some 28),
   (.nilchk (.tmp 26)), none⟩, ⟨(some 29), (.faddr 4 (.tmp 28)), none⟩, ⟨(some 30), (.iaddrA 12 1 (.tmp 29) (.tmp 27)), none⟩, ⟨(some 31), (.load none (.tmp 30)), none⟩, ⟨(some
  32), (.mv (.tmp 1)), none⟩, ⟨(some 33), (.bslice [(.int .i64 0)] 1 1 [(0, (1, (.tmp 32)))]), none⟩, ⟨(some 34), (.call (.func 63) [(.tmp 33)]), none⟩, ⟨(some 35), (.bin .and
  (.tmp 31) (.tmp 34)), none⟩, ⟨(some 36), (.bin .neq (.tmp 35) (.const (.int .i64 0))), none⟩, ⟨(some 6), (.mv (.tmp 36)), none⟩, ⟨(some 7), (.mv (.const (.int .i64 0))), none⟩]
  [(5, 7), (5, 8)]) .ret))))⟩
def af44 : AFn := ⟨106, [(.tmp 6)], (.seq (.region [⟨(some 3), (.box (.tmp 0)), none⟩, ⟨(some 6), (.mv (.const (.bool false))), none⟩]) (.seq (.draw [⟨(some 12), (.faddr 2 (.tmp 3)), none⟩, ⟨(some
  13), (.load none (.tmp 12)), none⟩, ⟨(some 14), (.mv (.tmp 1)), none⟩, ⟨(some 15), (.iaddrS 4 (.tmp 13) (.tmp 14)), none⟩, ⟨(some 16), (.load (some 4) (.tmp 15)), none⟩, ⟨(some
  17), (.faddr 2 (.tmp 3)), none⟩, ⟨(some 18), (.load none (.tmp 17)), none⟩, ⟨(some 19), (.mv (.tmp 2)), none⟩, ⟨(some 20), (.iaddrS 4 (.tmp 18) (.tmp 19)), none⟩, ⟨(some 21),
  (.load (some 4) (.tmp 20)), none⟩, ⟨(some 7), (.alloc [(.int .i64 0), (.int .i64 0), (.int .i64 0), (.int .i64 0)]), none⟩, ⟨(some 8), (.alloc [(.int .i64 0), (.int .i64 0),
  (.int .i64 0), (.int .i64 0)]), none⟩, ⟨none, (.store 4 (.tmp 7) (.tmp 16)), none⟩, ⟨none, (.store 4 (.tmp 8) (.tmp 21)), none⟩] [(1, 10), (4, 10), (6, 10), (9, 10), (1, 11), (4,
   11), (6, 11), (9, 11), (10, 11), (6, 12), (9, 12)]) (.seq (.region [⟨(some 22), (.faddr 2 (.tmp 3)), none⟩, ⟨(some 23), (.load none (.tmp 22)), none⟩, ⟨(some 24), (.len (.tmp
  23)), none⟩, ⟨(some 9), (.mv (.tmp 24)), none⟩]) (.seq (.region [⟨(some 25), (.load (some 4) (.tmp 3)), none⟩, ⟨(some 26), (.call (.func 81) [(.tmp 25)]), none⟩, ⟨(some 10),
  (.mv (.tmp 26)), none⟩]) (.seq (.seq (.region [⟨(some 27), (.mv (.tmp 1)), none⟩, ⟨(some 28), (.mv (.tmp 2)), none⟩, ⟨(some 29), (.bin .eql (.tmp 27) (.tmp 28)), none⟩, ⟨(some
  30), (.mv (.tmp 29)), none⟩, ⟨(some 31), (.faddr 2 (.tmp 7)), (some (30, false))⟩, ⟨(some 32), (.load none (.tmp 31)), (some (30, false))⟩, ⟨(some 33), (.bin .eql (.tmp 32)
  (.const (.int .i64 0))), (some (30, false))⟩, ⟨(some 34), (.pick (.tmp 30) (.const (.bool true)) (.tmp 33)), none⟩, ⟨(some 35), (.mv (.tmp 34)), none⟩, ⟨(some 36), (.faddr 2
  (.tmp 7)), (some (35, false))⟩, ⟨(some 37), (.load none (.tmp 36)), (some (35, false))⟩, ⟨(some 38), (.faddr 2 (.tmp 8)), (some (35, false))⟩, ⟨(some 39), (.load none (.tmp 38)),
   (some (35, false))⟩, ⟨(some 40), (.bin .neq (.tmp 37) (.tmp 39)), (some (35, false))⟩, ⟨(some 41), (.pick (.tmp 35) (.const (.bool true)) (.tmp 40)), none⟩, ⟨(some 42), (.mv
  (.tmp 41)), none⟩, ⟨(some 43), (.faddr 3 (.tmp 7)), (some (42, false))⟩, ⟨(some 44), (.load none (.tmp 43)), (some (42, false))⟩, ⟨(some 45), (.faddr 3 (.tmp 8)), (some (42,
  false))⟩, ⟨(some 46), (.load none (.tmp 45)), (some (42, false))⟩, ⟨(some 47), (.bin .eql (.tmp 44) (.tmp 46)), (some (42, false))⟩, ⟨(some 48), (.pick (.tmp 42) (.const (.bool
  true)) (.tmp 47)), none⟩, ⟨(some 49), (.mv (.tmp 48)), none⟩, ⟨(some 50), (.faddr 3 (.tmp 7)), (some (49, false))⟩, ⟨(some 51), (.load none (.tmp 50)), (some (49, false))⟩,
  ⟨(some 52), (.bin .eql (.tmp 51) (.const (.int .i64 0))), (some (49, false))⟩, ⟨(some 53), (.pick (.tmp 49) (.const (.bool true)) (.tmp 52)), none⟩, ⟨(some 54), (.mv (.tmp 53)),
  none⟩, ⟨(some 55), (.faddr 3 (.tmp 8)), (some (54, false))⟩, ⟨(some 56), (.load none (.tmp 55)), (some (54, false))⟩, ⟨(some 57), (.bin .eql (.tmp 56) (.const (.int .i64 0))),
  (some (54, false))⟩, ⟨(some 58), (.pick (.tmp 54) (.const (.bool true)) (.tmp 57)), none⟩, ⟨(some 59), (.mv (.tmp 58)), none⟩, ⟨(some 60), (.mv (.tmp 10)), (some (59, false))⟩,
  ⟨(some 61), (.mv (.tmp 2)), (some (59, false))⟩, ⟨(some 62), (.mv (.tmp 9)), (some (59, false))⟩, ⟨(some 63), (.bin .mul (.tmp 61) (.tmp 62)), (some (59, false))⟩, ⟨(some 64),
  (.mv (.tmp 1)), (some (59, false))⟩, ⟨(some 65), (.bin .add (.tmp 63) (.tmp 64)), (some (59, false))⟩, ⟨(some 66), (.iaddrS 1 (.tmp 60) (.tmp 65)), (some (59, false))⟩, ⟨(some
  67), (.load none (.tmp 66)), (some (59, false))⟩, ⟨(some 68), (.bin .eql (.tmp 67) (.const (.int .i64 1))), (some (59, false))⟩, ⟨(some 69), (.pick (.tmp 59) (.const (.bool
  true)) (.tmp 68)), none⟩]) (.cond (.tmp 69) (.seq (.region [⟨(some 6), (.mv (.const (.bool false))), none⟩]) .ret) .skip)) (.seq (.seq (.region [⟨(some 11), (.mv (.const (.int
  .i64 0))), none⟩]) (.block 0 (.loop (.seq (.seq (.region [⟨(some 70), (.mv (.tmp 11)), none⟩, ⟨(some 71), (.mv (.tmp 9)), none⟩, ⟨(some 72), (.bin .lss (.tmp 70) (.tmp 71)),
  none⟩]) (.cond (.tmp 72) .skip (.exit 0))) (.seq (.block 1 (.seq (.draw [⟨(some 75), (.faddr 2 (.tmp 3)), none⟩, ⟨(some 76), (.load none (.tmp 75)), none⟩, ⟨(some 77), (.mv
  (.tmp 11)), none⟩, ⟨(some 78), (.iaddrS 4 (.tmp 76) (.tmp 77)), none⟩, ⟨(some 79), (.faddr 2 (.tmp 78)), none⟩, ⟨(some 80), (.load none (.tmp 79)), none⟩, ⟨(some 81), (.faddr 2
  (.tmp 7)), none⟩, ⟨(some 82), (.load none (.tmp 81)), none⟩, ⟨(some 83), (.bin .eql (.tmp 80) (.tmp 82)), none⟩, ⟨(some 84), (.mv (.tmp 83)), none⟩, ⟨(some 85), (.mv (.tmp 10)),
  (some (84, true))⟩, ⟨(some 86), (.mv (.tmp 1)), (some (84, true))⟩, ⟨(some 87), (.mv (.tmp 9)), (some (84, true))⟩, ⟨(some 88), (.bin .mul (.tmp 86) (.tmp 87)), (some (84,
  true))⟩, ⟨(some 89), (.mv (.tmp 11)), (some (84, true))⟩, ⟨(some 90), (.bin .add (.tmp 88) (.tmp 89)), (some (84, true))⟩, ⟨(some 91), (.iaddrS 1 (.tmp 85) (.tmp 90)), (some (84,
   true))⟩, ⟨(some 92), (.load none (.tmp 91)), (some (84, true))⟩, ⟨(some 93), (.bin .eql (.tmp 92) (.const (.int .i64 1))), (some (84, true))⟩, ⟨(some 94), (.pick (.tmp 84)
  (.tmp 93) (.const (.bool false))), none⟩, ⟨(some 95), (.mv (.tmp 94)), none⟩, ⟨(some 96), (.mv (.tmp 10)), (some (95, true))⟩, ⟨(some 97), (.mv (.tmp 11)), (some (95, true))⟩,
  ⟨(some 98), (.mv (.tmp 9)), (some (95, true))⟩, ⟨(some 99), (.bin .mul (.tmp 97) (.tmp 98)), (some (95, true))⟩, ⟨(some 100), (.mv (.tmp 2)), (some (95, true))⟩, ⟨(some 101),
  (.bin .add (.tmp 99) (.tmp 100)), (some (95, true))⟩, ⟨(some 102), (.iaddrS 1 (.tmp 96) (.tmp 101)), (some (95, true))⟩, ⟨(some 103), (.load none (.tmp 102)), (some (95, true))⟩,
   ⟨(some 104), (.bin .eql (.tmp 103) (.const (.int .i64 1))), (some (95, true))⟩, ⟨(some 105), (.pick (.tmp 95) (.tmp 104) (.const (.bool false))), none⟩] []) (.cond (.tmp 105)
  (.seq (.region [⟨(some 6), (.mv (.const (.bool false))), none⟩]) .ret) .skip))) (.region [⟨(some 73), (.mv (.tmp 11)), none⟩, ⟨(some 74), (.bin .add (.tmp 73) (.const (.int .i64
  1))), none⟩, ⟨(some 11), (.mv (.tmp 74)), none⟩])))))) (.seq (.region [⟨(some 6), (.mv (.const (.bool true))), none⟩]) .ret)))))))⟩
def af45 : AFn := ⟨14, [(.tmp 4)], (.seq (.region [⟨(some 2), (.box (.tmp 0)), none⟩, ⟨(some 4), (.mv (.const (.int .i64 0))), none⟩]) (.seq (.region [⟨(some 8), (.load (some 4) (.tmp 2)), none⟩,
  ⟨(some 9), (.mv (.tmp 1)), none⟩, ⟨(some 10), (.call (.func 76) [(.tmp 8), (.tmp 9)]), none⟩, ⟨(some 7), (.mv (.tmp 10)), none⟩, ⟨(some 11), (.ext (.tmp 7) 0), none⟩, ⟨(some 12),
   (.ext (.tmp 7) 1), none⟩, ⟨(some 5), (.mv (.tmp 11)), none⟩, ⟨(some 6), (.mv (.tmp 12)), none⟩]) (.seq (.region [⟨(some 13), (.mv (.tmp 6)), none⟩, ⟨(some 4), (.mv (.tmp 13)),
  none⟩]) .ret)))⟩
def af46 : AFn := ⟨55, [(.tmp 4), (.tmp 5)], (.seq (.region [⟨(some 2), (.box (.tmp 0)), none⟩, ⟨(some 4), (.mv (.const (.slc none 0 0 true 0))), none⟩, ⟨(some 5), (.mv (.const (.int .i64 0))),
  none⟩]) (.seq (.region [⟨(some 14), (.load (some 4) (.tmp 2)), none⟩, ⟨(some 15), (.mv (.tmp 1)), none⟩, ⟨(some 16), (.call (.func 86) [(.tmp 14), (.tmp 15)]), none⟩, ⟨(some 13),
   (.mv (.tmp 16)), none⟩, ⟨(some 17), (.ext (.tmp 13) 0), none⟩, ⟨(some 18), (.ext (.tmp 13) 1), none⟩, ⟨(some 6), (.mv (.tmp 17)), none⟩, ⟨(some 7), (.mv (.tmp 18)), none⟩])
  (.seq (.seq (.region [⟨(some 19), (.mv (.tmp 7)), none⟩, ⟨(some 20), (.bin .neq (.tmp 19) (.const (.int .i64 0))), none⟩]) (.cond (.tmp 20) (.seq (.region [⟨(some 21), (.mv
  (.tmp 7)), none⟩, ⟨(some 4), (.mv (.const (.slc none 0 0 true 0))), none⟩, ⟨(some 5), (.mv (.tmp 21)), none⟩]) .ret) .skip)) (.seq (.region [⟨(some 22), (.faddr 0 (.tmp 2)),
  none⟩, ⟨(some 23), (.load none (.tmp 22)), none⟩, ⟨(some 24), (.call (.func 87) [(.tmp 23)]), none⟩, ⟨(some 8), (.mv (.tmp 24)), none⟩]) (.seq (.region [⟨(some 9), (.mv (.const
  (.slc none 0 0 true 0))), none⟩]) (.seq (.seq (.region [⟨(some 25), (.mv (.tmp 1)), none⟩, ⟨(some 26), (.len (.tmp 25)), none⟩, ⟨(some 27), (.mv (.const (.int .i64 0))), none⟩])
  (.block 0 (.loop (.seq (.region [⟨(some 28), (.bin .lss (.tmp 27) (.tmp 26)), none⟩]) (.seq (.cond (.tmp 28) .skip (.exit 0)) (.seq (.block 1 (.seq (.region [⟨(some 29),
  (.iaddrS 1 (.tmp 25) (.tmp 27)), none⟩, ⟨(some 30), (.load none (.tmp 29)), none⟩, ⟨(some 11), (.mv (.tmp 30)), none⟩]) (.seq (.region [⟨(some 31), (.faddr 2 (.tmp 2)), none⟩,
  ⟨(some 32), (.load none (.tmp 31)), none⟩, ⟨(some 33), (.mv (.tmp 11)), none⟩, ⟨(some 34), (.iaddrS 4 (.tmp 32) (.tmp 33)), none⟩, ⟨(some 35), (.load (some 4) (.tmp 34)), none⟩,
  ⟨(some 12), (.alloc [(.int .i64 0), (.int .i64 0), (.int .i64 0), (.int .i64 0)]), none⟩, ⟨none, (.store 4 (.tmp 12) (.tmp 35)), none⟩]) (.seq (.draw [⟨(some 36), (.mv (.tmp 8)),
   none⟩, ⟨(some 37), (.faddr 0 (.tmp 12)), none⟩, ⟨(some 38), (.load none (.tmp 37)), none⟩, ⟨(some 39), (.iaddrS 1 (.tmp 36) (.tmp 38)), none⟩, ⟨(some 40), (.load none (.tmp
  39)), none⟩, ⟨(some 41), (.faddr 1 (.tmp 12)), none⟩, ⟨(some 42), (.load none (.tmp 41)), none⟩, ⟨(some 43), (.bin .add (.tmp 40) (.tmp 42)), none⟩, ⟨(some 44), (.iaddrS 1 (.tmp
  36) (.tmp 38)), none⟩, ⟨none, (.store 1 (.tmp 44) (.tmp 43)), none⟩] []) (.region [⟨(some 45), (.mv (.tmp 9)), none⟩, ⟨(some 46), (.mv (.tmp 8)), none⟩, ⟨(some 47), (.faddr 0
  (.tmp 12)), none⟩, ⟨(some 48), (.load none (.tmp 47)), none⟩, ⟨(some 49), (.iaddrS 1 (.tmp 46) (.tmp 48)), none⟩, ⟨(some 50), (.load none (.tmp 49)), none⟩, ⟨(some 51), (.bslice
  [(.int .i64 0)] 1 1 [(0, (1, (.tmp 50)))]), none⟩, ⟨(some 52), (.app 1 8 (.tmp 45) (.tmp 51)), none⟩, ⟨(some 9), (.mv (.tmp 52)), none⟩]))))) (.region [⟨(some 53), (.bin .add
  (.tmp 27) (.const (.int .i64 1))), none⟩, ⟨(some 27), (.mv (.tmp 53)), none⟩]))))))) (.seq (.region [⟨(some 54), (.mv (.tmp 9)), none⟩, ⟨(some 4), (.mv (.tmp 54)), none⟩, ⟨(some
  5), (.mv (.const (.int .i64 0))), none⟩]) .ret)))))))⟩
def af47 : AFn := ⟨35, [(.tmp 6), (.tmp 7)], (.seq (.region [⟨(some 3), (.box (.tmp 0)), none⟩, ⟨(some 6), (.mv (.const (.bool false))), none⟩, ⟨(some 7), (.mv (.const (.int .i64 0))), none⟩])
  (.seq (.seq (.region [⟨(some 8), (.load (some 4) (.tmp 3)), none⟩, ⟨(some 9), (.call (.func 51) [(.tmp 8)]), none⟩, ⟨(some 10), (.bin .neq (.tmp 9) (.const (.int .i64 0))),
  none⟩]) (.cond (.tmp 10) (.seq (.region [⟨(some 11), (.load (some 4) (.tmp 3)), none⟩, ⟨(some 12), (.call (.func 51) [(.tmp 11)]), none⟩, ⟨(some 6), (.mv (.const (.bool false))),
   none⟩, ⟨(some 7), (.mv (.tmp 12)), none⟩]) .ret) .skip)) (.seq (.seq (.region [⟨(some 13), (.load (some 4) (.tmp 3)), none⟩, ⟨(some 14), (.mv (.tmp 1)), none⟩, ⟨(some 15),
  (.call (.func 74) [(.tmp 13), (.tmp 14)]), none⟩, ⟨(some 16), (.un .not (.tmp 15)), none⟩, ⟨(some 17), (.mv (.tmp 16)), none⟩, ⟨(some 18), (.load (some 4) (.tmp 3)), (some (17,
  false))⟩, ⟨(some 19), (.mv (.tmp 2)), (some (17, false))⟩, ⟨(some 20), (.call (.func 74) [(.tmp 18), (.tmp 19)]), (some (17, false))⟩, ⟨(some 21), (.un .not (.tmp 20)), (some
  (17, false))⟩, ⟨(some 22), (.pick (.tmp 17) (.const (.bool true)) (.tmp 21)), none⟩]) (.cond (.tmp 22) (.seq (.region [⟨(some 6), (.mv (.const (.bool false))), none⟩, ⟨(some 7),
  (.mv (.const (.int .i64 2))), none⟩]) .ret) .skip)) (.seq (.draw [⟨(some 23), (.load (some 4) (.tmp 3)), none⟩, ⟨(some 24), (.call (.func 81) [(.tmp 23)]), none⟩, ⟨(some 25),
  (.mv (.tmp 1)), none⟩, ⟨(some 26), (.faddr 2 (.tmp 3)), none⟩, ⟨(some 27), (.load none (.tmp 26)), none⟩, ⟨(some 28), (.len (.tmp 27)), none⟩, ⟨(some 29), (.bin .mul (.tmp 25)
  (.tmp 28)), none⟩, ⟨(some 30), (.mv (.tmp 2)), none⟩, ⟨(some 31), (.bin .add (.tmp 29) (.tmp 30)), none⟩, ⟨(some 32), (.iaddrS 1 (.tmp 24) (.tmp 31)), none⟩, ⟨(some 33), (.load
  none (.tmp 32)), none⟩, ⟨(some 34), (.bin .eql (.tmp 33) (.const (.int .i64 1))), none⟩, ⟨(some 6), (.mv (.tmp 34)), none⟩, ⟨(some 7), (.mv (.const (.int .i64 0))), none⟩] [(1,
  4)]) .ret))))⟩
def af48 : AFn := ⟨40, [(.tmp 4), (.tmp 5)], (.seq (.region [⟨(some 2), (.box (.tmp 0)), none⟩, ⟨(some 4), (.mv (.const (.slc none 0 0 true 0))), none⟩, ⟨(some 5), (.mv (.const (.int .i64 0))),
  none⟩]) (.seq (.seq (.region [⟨(some 8), (.load (some 4) (.tmp 2)), none⟩, ⟨(some 9), (.mv (.tmp 1)), none⟩, ⟨(some 10), (.call (.func 31) [(.tmp 8), (.tmp 9)]), none⟩, ⟨(some
  11), (.bin .neq (.tmp 10) (.const (.int .i64 0))), none⟩]) (.cond (.tmp 11) (.seq (.region [⟨(some 12), (.load (some 4) (.tmp 2)), none⟩, ⟨(some 13), (.mv (.tmp 1)), none⟩,
  ⟨(some 14), (.call (.func 31) [(.tmp 12), (.tmp 13)]), none⟩, ⟨(some 4), (.mv (.const (.slc none 0 0 true 0))), none⟩, ⟨(some 5), (.mv (.tmp 14)), none⟩]) .ret) .skip)) (.seq
  (.region [⟨(some 6), (.mv (.const (.slc none 0 0 true 0))), none⟩]) (.seq (.seq (.region [⟨(some 7), (.mv (.const (.int .i64 0))), none⟩]) (.block 0 (.loop (.seq (.seq (.region
  [⟨(some 15), (.mv (.tmp 7)), none⟩, ⟨(some 16), (.mv (.tmp 1)), none⟩, ⟨(some 17), (.len (.tmp 16)), none⟩, ⟨(some 18), (.bin .lss (.tmp 15) (.tmp 17)), none⟩]) (.cond (.tmp 18)
  .skip (.exit 0))) (.seq (.block 1 (.draw [⟨(some 21), (.mv (.tmp 6)), none⟩, ⟨(some 22), (.load (some 4) (.tmp 2)), none⟩, ⟨(some 23), (.mv (.tmp 1)), none⟩, ⟨(some 24), (.mv
  (.tmp 7)), none⟩, ⟨(some 25), (.bin .add (.tmp 24) (.const (.int .i64 1))), none⟩, ⟨(some 26), (.slc 1 (.tmp 23) none (some (.tmp 25)) none), none⟩, ⟨(some 27), (.faddr 2 (.tmp
  2)), none⟩, ⟨(some 28), (.load none (.tmp 27)), none⟩, ⟨(some 29), (.mv (.tmp 1)), none⟩, ⟨(some 30), (.mv (.tmp 7)), none⟩, ⟨(some 31), (.iaddrS 1 (.tmp 29) (.tmp 30)), none⟩,
  ⟨(some 32), (.load none (.tmp 31)), none⟩, ⟨(some 33), (.iaddrS 4 (.tmp 28) (.tmp 32)), none⟩, ⟨(some 34), (.faddr 0 (.tmp 33)), none⟩, ⟨(some 35), (.load none (.tmp 34)), none⟩,
   ⟨(some 36), (.call (.func 28) [(.tmp 22), (.tmp 26), (.tmp 35)]), none⟩, ⟨(some 37), (.bslice [(.int .i64 0)] 1 1 [(0, (1, (.tmp 36)))]), none⟩, ⟨(some 38), (.app 1 8 (.tmp 21)
  (.tmp 37)), none⟩, ⟨(some 6), (.mv (.tmp 38)), none⟩] [])) (.region [⟨(some 19), (.mv (.tmp 7)), none⟩, ⟨(some 20), (.bin .add (.tmp 19) (.const (.int .i64 1))), none⟩, ⟨(some
  7), (.mv (.tmp 20)), none⟩])))))) (.seq (.region [⟨(some 39), (.mv (.tmp 6)), none⟩, ⟨(some 4), (.mv (.tmp 39)), none⟩, ⟨(some 5), (.mv (.const (.int .i64 0))), none⟩])
  .ret)))))⟩
def af49 : AFn := ⟨58, [(.tmp 4), (.tmp 5)], (.seq (.region [⟨(some 2), (.box (.tmp 0)), none⟩, ⟨(some 4), (.mv (.const (.slc none 0 0 true 0))), none⟩, ⟨(some 5), (.mv (.const (.int .i64 0))),
  none⟩]) (.seq (.seq (.region [⟨(some 10), (.load (some 4) (.tmp 2)), none⟩, ⟨(some 11), (.mv (.tmp 1)), none⟩, ⟨(some 12), (.call (.func 27) [(.tmp 10), (.tmp 11)]), none⟩,
  ⟨(some 13), (.bin .neq (.tmp 12) (.const (.int .i64 0))), none⟩]) (.cond (.tmp 13) (.seq (.region [⟨(some 14), (.load (some 4) (.tmp 2)), none⟩, ⟨(some 15), (.mv (.tmp 1)),
  none⟩, ⟨(some 16), (.call (.func 27) [(.tmp 14), (.tmp 15)]), none⟩, ⟨(some 4), (.mv (.const (.slc none 0 0 true 0))), none⟩, ⟨(some 5), (.mv (.tmp 16)), none⟩]) .ret) .skip))
  (.seq (.region [⟨(some 6), (.mv (.const (.slc none 0 0 true 0))), none⟩]) (.seq (.block 0 (.loop (.seq (.seq (.region [⟨(some 17), (.mv (.tmp 6)), none⟩, ⟨(some 18), (.len (.tmp
  17)), none⟩, ⟨(some 19), (.faddr 2 (.tmp 2)), none⟩, ⟨(some 20), (.load none (.tmp 19)), none⟩, ⟨(some 21), (.len (.tmp 20)), none⟩, ⟨(some 22), (.bin .lss (.tmp 18) (.tmp 21)),
  none⟩]) (.cond (.tmp 22) .skip (.exit 0))) (.block 1 (.seq (.region [⟨(some 23), (.load (some 4) (.tmp 2)), none⟩, ⟨(some 24), (.mv (.tmp 6)), none⟩, ⟨(some 25), (.call (.func
  64) [(.tmp 23), (.tmp 24)]), none⟩, ⟨(some 7), (.mv (.tmp 25)), none⟩]) (.seq (.region [⟨(some 26), (.mv (.tmp 7)), none⟩, ⟨(some 27), (.iaddrS 1 (.tmp 26) (.const (.int .i64
  0))), none⟩, ⟨(some 28), (.load none (.tmp 27)), none⟩, ⟨(some 8), (.mv (.tmp 28)), none⟩]) (.seq (.seq (.region [⟨(some 29), (.mv (.tmp 7)), none⟩, ⟨(some 30), (.len (.tmp 29)),
   none⟩, ⟨(some 31), (.bin .sub (.tmp 30) (.const (.int .i64 1))), none⟩, ⟨(some 9), (.mv (.tmp 31)), none⟩]) (.block 2 (.loop (.seq (.seq (.region [⟨(some 32), (.mv (.tmp 9)),
  none⟩, ⟨(some 33), (.bin .geq (.tmp 32) (.const (.int .i64 0))), none⟩]) (.cond (.tmp 33) .skip (.exit 2))) (.seq (.block 3 (.seq (.region [⟨(some 36), (.mv (.tmp 6)), none⟩,
  ⟨(some 37), (.len (.tmp 36)), none⟩, ⟨(some 38), (.mv (.tmp 1)), none⟩, ⟨(some 39), (.len (.tmp 38)), none⟩, ⟨(some 40), (.bin .lss (.tmp 37) (.tmp 39)), none⟩, ⟨(some 41), (.mv
  (.tmp 40)), none⟩, ⟨(some 42), (.mv (.tmp 1)), (some (41, true))⟩, ⟨(some 43), (.mv (.tmp 7)), (some (41, true))⟩, ⟨(some 44), (.mv (.tmp 9)), (some (41, true))⟩, ⟨(some 45),
  (.iaddrS 1 (.tmp 43) (.tmp 44)), (some (41, true))⟩, ⟨(some 46), (.load none (.tmp 45)), (some (41, true))⟩, ⟨(some 47), (.call (.func 32) [(.tmp 42), (.tmp 46)]), (some (41,
  true))⟩, ⟨(some 48), (.pick (.tmp 41) (.tmp 47) (.const (.bool false))), none⟩]) (.cond (.tmp 48) (.region [⟨(some 49), (.mv (.tmp 7)), none⟩, ⟨(some 50), (.mv (.tmp 9)), none⟩,
  ⟨(some 51), (.iaddrS 1 (.tmp 49) (.tmp 50)), none⟩, ⟨(some 52), (.load none (.tmp 51)), none⟩, ⟨(some 8), (.mv (.tmp 52)), none⟩]) .skip))) (.region [⟨(some 34), (.mv (.tmp 9)),
  none⟩, ⟨(some 35), (.bin .sub (.tmp 34) (.const (.int .i64 1))), none⟩, ⟨(some 9), (.mv (.tmp 35)), none⟩])))))) (.region [⟨(some 53), (.mv (.tmp 6)), none⟩, ⟨(some 54), (.mv
  (.tmp 8)), none⟩, ⟨(some 55), (.bslice [(.int .i64 0)] 1 1 [(0, (1, (.tmp 54)))]), none⟩, ⟨(some 56), (.app 1 8 (.tmp 53) (.tmp 55)), none⟩, ⟨(some 6), (.mv (.tmp 56)),
  none⟩])))))))) (.seq (.region [⟨(some 57), (.mv (.tmp 6)), none⟩, ⟨(some 4), (.mv (.tmp 57)), none⟩, ⟨(some 5), (.mv (.const (.int .i64 0))), none⟩]) .ret)))))⟩
def af50 : AFn := ⟨11, [(.tmp 2)], (.seq (.region [⟨(some 1), (.box (.tmp 0)), none⟩, ⟨(some 2), (.mv (.const (.int .i64 0))), none⟩]) (.seq (.region [⟨(some 6), (.load (some 4) (.tmp 1)), none⟩,
  ⟨(some 7), (.call (.func 60) [(.tmp 6)]), none⟩, ⟨(some 5), (.mv (.tmp 7)), none⟩, ⟨(some 8), (.ext (.tmp 5) 0), none⟩, ⟨(some 9), (.ext (.tmp 5) 1), none⟩, ⟨(some 3), (.mv
  (.tmp 8)), none⟩, ⟨(some 4), (.mv (.tmp 9)), none⟩]) (.seq (.region [⟨(some 10), (.mv (.tmp 4)), none⟩, ⟨(some 2), (.mv (.tmp 10)), none⟩]) .ret)))⟩
def af51 : AFn := ⟨10, [(.tmp 2)], (.seq (.region [⟨(some 1), (.box (.tmp 0)), none⟩, ⟨(some 2), (.mv (.const (.int .i64 0))), none⟩]) (.seq (.seq (.region [⟨(some 3), (.load (some 4) (.tmp 1)),
  none⟩, ⟨(some 4), (.call (.func 55) [(.tmp 3)]), none⟩, ⟨(some 5), (.bin .neq (.tmp 4) (.const (.int .i64 0))), none⟩]) (.cond (.tmp 5) (.seq (.region [⟨(some 6), (.load (some
  4) (.tmp 1)), none⟩, ⟨(some 7), (.call (.func 55) [(.tmp 6)]), none⟩, ⟨(some 2), (.mv (.tmp 7)), none⟩]) .ret) .skip)) (.seq (.seq (.region [⟨(some 8), (.load (some 4) (.tmp 1)),
   none⟩, ⟨(some 9), (.call (.func 56) [(.tmp 8)]), none⟩]) (.cond (.tmp 9) (.seq (.region [⟨(some 2), (.mv (.const (.int .i64 24))), none⟩]) .ret) .skip)) (.seq (.region [⟨(some
  2), (.mv (.const (.int .i64 0))), none⟩]) .ret))))⟩
def af52 : AFn := ⟨26, [(.tmp 4)], (.seq (.region [⟨(some 4), (.mv (.const (.bool false))), none⟩]) (.seq (.seq (.region [⟨(some 6), (.mv (.tmp 0)), none⟩, ⟨(some 7), (.len (.tmp 6)), none⟩, ⟨(some
  8), (.mv (.tmp 1)), none⟩, ⟨(some 9), (.len (.tmp 8)), none⟩, ⟨(some 10), (.bin .neq (.tmp 7) (.tmp 9)), none⟩]) (.cond (.tmp 10) (.seq (.region [⟨(some 4), (.mv (.const (.bool
  false))), none⟩]) .ret) .skip)) (.seq (.seq (.region [⟨(some 5), (.mv (.const (.int .i64 0))), none⟩]) (.block 0 (.loop (.seq (.seq (.region [⟨(some 11), (.mv (.tmp 5)), none⟩,
  ⟨(some 12), (.mv (.tmp 0)), none⟩, ⟨(some 13), (.len (.tmp 12)), none⟩, ⟨(some 14), (.bin .lss (.tmp 11) (.tmp 13)), none⟩]) (.cond (.tmp 14) .skip (.exit 0))) (.seq (.block 1
  (.seq (.draw [⟨(some 17), (.mv (.tmp 0)), none⟩, ⟨(some 18), (.mv (.tmp 5)), none⟩, ⟨(some 19), (.iaddrS 1 (.tmp 17) (.tmp 18)), none⟩, ⟨(some 20), (.load none (.tmp 19)), none⟩,
   ⟨(some 21), (.mv (.tmp 1)), none⟩, ⟨(some 22), (.mv (.tmp 5)), none⟩, ⟨(some 23), (.iaddrS 1 (.tmp 21) (.tmp 22)), none⟩, ⟨(some 24), (.load none (.tmp 23)), none⟩, ⟨(some 25),
  (.bin .neq (.tmp 20) (.tmp 24)), none⟩] []) (.cond (.tmp 25) (.seq (.region [⟨(some 4), (.mv (.const (.bool false))), none⟩]) .ret) .skip))) (.region [⟨(some 15), (.mv (.tmp 5)),
   none⟩, ⟨(some 16), (.bin .add (.tmp 15) (.const (.int .i64 1))), none⟩, ⟨(some 5), (.mv (.tmp 16)), none⟩])))))) (.seq (.region [⟨(some 4), (.mv (.const (.bool true))), none⟩])
  .ret))))⟩
def af53 : AFn := ⟨14, [(.tmp 4)], (.seq (.region [⟨(some 2), (.box (.tmp 0)), none⟩, ⟨(some 4), (.mv (.const (.int .i64 0))), none⟩]) (.seq (.region [⟨(some 8), (.load (some 4) (.tmp 2)), none⟩,
  ⟨(some 9), (.mv (.tmp 1)), none⟩, ⟨(some 10), (.call (.func 86) [(.tmp 8), (.tmp 9)]), none⟩, ⟨(some 7), (.mv (.tmp 10)), none⟩, ⟨(some 11), (.ext (.tmp 7) 0), none⟩, ⟨(some 12),
   (.ext (.tmp 7) 1), none⟩, ⟨(some 5), (.mv (.tmp 11)), none⟩, ⟨(some 6), (.mv (.tmp 12)), none⟩]) (.seq (.region [⟨(some 13), (.mv (.tmp 6)), none⟩, ⟨(some 4), (.mv (.tmp 13)),
  none⟩]) .ret)))⟩
def af54 : AFn := ⟨99, [(.tmp 2), (.tmp 3)], (.seq (.region [⟨(some 1), (.box (.tmp 0)), none⟩, ⟨(some 2), (.mv (.const (.slc none 0 0 true 0))), none⟩, ⟨(some 3), (.mv (.const (.int .i64 0))),
  none⟩]) (.seq (.seq (.region [⟨(some 15), (.load (some 4) (.tmp 1)), none⟩, ⟨(some 16), (.call (.func 88) [(.tmp 15)]), none⟩, ⟨(some 4), (.mv (.tmp 16)), none⟩]) (.seq (.region
  [⟨(some 17), (.mv (.tmp 4)), none⟩, ⟨(some 18), (.bin .neq (.tmp 17) (.const (.int .i64 0))), none⟩]) (.cond (.tmp 18) (.seq (.region [⟨(some 19), (.mv (.tmp 4)), none⟩, ⟨(some
  2), (.mv (.const (.slc none 0 0 true 0))), none⟩, ⟨(some 3), (.mv (.tmp 19)), none⟩]) .ret) .skip))) (.seq (.region [⟨(some 20), (.load (some 4) (.tmp 1)), none⟩, ⟨(some 21),
  (.call (.func 89) [(.tmp 20)]), none⟩, ⟨(some 5), (.mv (.tmp 21)), none⟩]) (.seq (.region [⟨(some 22), (.mv (.tmp 5)), none⟩, ⟨(some 23), (.call (.func 90) [(.tmp 22)]), none⟩,
  ⟨(some 6), (.mv (.tmp 23)), none⟩]) (.seq (.seq (.region [⟨(some 24), (.mv (.tmp 6)), none⟩, ⟨(some 25), (.bin .lss (.tmp 24) (.const (.int .i64 0))), none⟩]) (.cond (.tmp 25)
  (.seq (.region [⟨(some 2), (.mv (.const (.slc none 0 0 true 0))), none⟩, ⟨(some 3), (.mv (.const (.int .i64 5))), none⟩]) .ret) .skip)) (.seq (.region [⟨(some 26), (.mv (.tmp
  6)), none⟩, ⟨(some 7), (.mv (.tmp 26)), none⟩]) (.seq (.region [⟨(some 27), .mkmap, none⟩, ⟨(some 8), (.mv (.tmp 27)), none⟩]) (.seq (.region [⟨(some 9), (.mv (.const (.slc none
  0 0 true 0))), none⟩]) (.block 0 (.loop (.block 1 (.seq (.seq (.region [⟨(some 29), (.mv (.tmp 8)), none⟩, ⟨(some 30), (.mv (.tmp 7)), none⟩, ⟨(some 31), (.look false [.int]
  (.int .i64 0) (.tmp 29) (.tmp 30) true), none⟩, ⟨(some 28), (.mv (.tmp 31)), none⟩, ⟨(some 32), (.ext (.tmp 28) 0), none⟩, ⟨(some 33), (.ext (.tmp 28) 1), none⟩, ⟨(some 10),
  (.mv (.tmp 32)), none⟩, ⟨(some 11), (.mv (.tmp 33)), none⟩]) (.seq (.region [⟨(some 34), (.mv (.tmp 11)), none⟩]) (.cond (.tmp 34) (.seq (.region [⟨(some 35), (.mv (.tmp 9)),
  none⟩, ⟨(some 36), (.len (.tmp 35)), none⟩, ⟨(some 37), (.mv (.tmp 10)), none⟩, ⟨(some 38), (.bin .sub (.tmp 36) (.tmp 37)), none⟩, ⟨(some 39), (.mkslc [(.int .i64 0)] 8 (.tmp
  38) (.tmp 38)), none⟩, ⟨(some 12), (.mv (.tmp 39)), none⟩]) (.seq (.region [⟨(some 40), (.mv (.tmp 12)), none⟩, ⟨(some 41), (.mv (.tmp 9)), none⟩, ⟨(some 42), (.mv (.tmp 10)),
  none⟩, ⟨(some 43), (.slc 1 (.tmp 41) (some (.tmp 42)) none none), none⟩, ⟨(some 44), (.copy 1 (.tmp 40) (.tmp 43)), none⟩]) (.seq (.region [⟨(some 45), (.mv (.tmp 12)), none⟩,
  ⟨(some 46), (.call (.func 91) [(.tmp 45)]), none⟩]) (.seq (.region [⟨(some 47), (.mv (.tmp 12)), none⟩, ⟨(some 2), (.mv (.tmp 47)), none⟩, ⟨(some 3), (.mv (.const (.int .i64
  0))), none⟩]) .ret)))) .skip))) (.seq (.region [⟨(some 48), (.mv (.tmp 8)), none⟩, ⟨(some 49), (.mv (.tmp 7)), none⟩, ⟨(some 50), (.mv (.tmp 9)), none⟩, ⟨(some 51), (.len (.tmp
  50)), none⟩, ⟨none, (.mapup false [.int] (.tmp 48) (.tmp 49) (.tmp 51)), none⟩]) (.seq (.region [⟨(some 52), (.mv (.tmp 9)), none⟩, ⟨(some 53), (.mv (.tmp 7)), none⟩, ⟨(some 54),
   (.bslice [(.int .i64 0)] 1 1 [(0, (1, (.tmp 53)))]), none⟩, ⟨(some 55), (.app 1 8 (.tmp 52) (.tmp 54)), none⟩, ⟨(some 9), (.mv (.tmp 55)), none⟩]) (.seq (.region [⟨(some 56),
  (.faddr 3 (.tmp 1)), none⟩, ⟨(some 57), (.load none (.tmp 56)), none⟩, ⟨(some 58), (.len (.tmp 57)), none⟩, ⟨(some 59), (.mv (.const (.int .i64 0))), none⟩]) (.block 2 (.loop
  (.seq (.region [⟨(some 60), (.bin .lss (.tmp 59) (.tmp 58)), none⟩]) (.seq (.cond (.tmp 60) .skip (.exit 2)) (.seq (.block 3 (.seq (.region [⟨(some 61), (.iaddrS 2 (.tmp 57)
  (.tmp 59)), none⟩, ⟨(some 62), (.load (some 2) (.tmp 61)), none⟩, ⟨(some 14), (.alloc [(.int .i64 0), (.int .i64 0)]), none⟩, ⟨none, (.store 2 (.tmp 14) (.tmp 62)), none⟩])
  (.seq (.draw [⟨(some 63), (.iaddrA 2 1 (.tmp 14) (.const (.int .i64 1))), none⟩, ⟨(some 64), (.load none (.tmp 63)), none⟩, ⟨(some 65), (.mv (.tmp 7)), none⟩, ⟨(some 66), (.bin
  .eql (.tmp 64) (.tmp 65)), none⟩, ⟨(some 67), (.mv (.tmp 66)), none⟩, ⟨(some 68), (.mv (.tmp 5)), (some (67, true))⟩, ⟨(some 69), (.iaddrA 2 1 (.tmp 14) (.const (.int .i64 0))),
  (some (67, true))⟩, ⟨(some 70), (.load none (.tmp 69)), (some (67, true))⟩, ⟨(some 71), (.nilchk (.tmp 68)), (some (67, true))⟩, ⟨(some 72), (.faddr 4 (.tmp 71)), (some (67,
  true))⟩, ⟨(some 73), (.iaddrA 12 1 (.tmp 72) (.tmp 70)), (some (67, true))⟩, ⟨(some 74), (.load none (.tmp 73)), (some (67, true))⟩, ⟨(some 75), (.iaddrA 2 1 (.tmp 14) (.const
  (.int .i64 0))), (some (67, true))⟩, ⟨(some 76), (.load none (.tmp 75)), (some (67, true))⟩, ⟨(some 77), (.bslice [(.int .i64 0)] 1 1 [(0, (1, (.tmp 76)))]), (some (67, true))⟩,
  ⟨(some 78), (.call (.func 63) [(.tmp 77)]), (some (67, true))⟩, ⟨(some 79), (.bin .and (.tmp 74) (.tmp 78)), (some (67, true))⟩, ⟨(some 80), (.bin .neq (.tmp 79) (.const (.int
  .i64 0))), (some (67, true))⟩, ⟨(some 81), (.pick (.tmp 67) (.tmp 80) (.const (.bool false))), none⟩, ⟨(some 82), (.mv (.tmp 81)), none⟩, ⟨(some 83), (.mv (.tmp 5)), (some (82,
  true))⟩, ⟨(some 84), (.mv (.tmp 7)), (some (82, true))⟩, ⟨(some 85), (.nilchk (.tmp 83)), (some (82, true))⟩, ⟨(some 86), (.faddr 4 (.tmp 85)), (some (82, true))⟩, ⟨(some 87),
  (.iaddrA 12 1 (.tmp 86) (.tmp 84)), (some (82, true))⟩, ⟨(some 88), (.load none (.tmp 87)), (some (82, true))⟩, ⟨(some 89), (.iaddrA 2 1 (.tmp 14) (.const (.int .i64 0))), (some
  (82, true))⟩, ⟨(some 90), (.load none (.tmp 89)), (some (82, true))⟩, ⟨(some 91), (.bslice [(.int .i64 0)] 1 1 [(0, (1, (.tmp 90)))]), (some (82, true))⟩, ⟨(some 92), (.call
  (.func 63) [(.tmp 91)]), (some (82, true))⟩, ⟨(some 93), (.bin .and (.tmp 88) (.tmp 92)), (some (82, true))⟩, ⟨(some 94), (.bin .neq (.tmp 93) (.const (.int .i64 0))), (some (82,
   true))⟩, ⟨(some 95), (.pick (.tmp 82) (.tmp 94) (.const (.bool false))), none⟩] [(7, 14), (11, 14), (7, 15), (11, 15), (25, 28), (25, 29)]) (.cond (.tmp 95) (.seq (.region
  [⟨(some 96), (.iaddrA 2 1 (.tmp 14) (.const (.int .i64 0))), none⟩, ⟨(some 97), (.load none (.tmp 96)), none⟩, ⟨(some 7), (.mv (.tmp 97)), none⟩]) (.exit 2)) .skip)))) (.region
  [⟨(some 98), (.bin .add (.tmp 59) (.const (.int .i64 1))), none⟩, ⟨(some 59), (.mv (.tmp 98)), none⟩])))))))))))))))))))))⟩
def af55 : AFn := ⟨173, [(.tmp 2)], (.seq (.region [⟨(some 1), (.box (.tmp 0)), none⟩, ⟨(some 2), (.mv (.const (.int .i64 0))), none⟩]) (.seq (.seq (.region [⟨(some 8), (.faddr 1 (.tmp 1)), none⟩,
  ⟨(some 9), (.load none (.tmp 8)), none⟩, ⟨(some 10), (.len (.tmp 9)), none⟩, ⟨(some 11), (.bin .lss (.tmp 10) (.const (.int .i64 1))), none⟩, ⟨(some 12), (.mv (.tmp 11)), none⟩,
  ⟨(some 13), (.faddr 1 (.tmp 1)), (some (12, false))⟩, ⟨(some 14), (.load none (.tmp 13)), (some (12, false))⟩, ⟨(some 15), (.len (.tmp 14)), (some (12, false))⟩, ⟨(some 16),
  (.bin .gtr (.tmp 15) (.const (.int .i64 4))), (some (12, false))⟩, ⟨(some 17), (.pick (.tmp 12) (.const (.bool true)) (.tmp 16)), none⟩, ⟨(some 18), (.mv (.tmp 17)), none⟩,
  ⟨(some 19), (.faddr 2 (.tmp 1)), (some (18, false))⟩, ⟨(some 20), (.load none (.tmp 19)), (some (18, false))⟩, ⟨(some 21), (.len (.tmp 20)), (some (18, false))⟩, ⟨(some 22),
  (.bin .gtr (.tmp 21) (.const (.int .i64 12))), (some (18, false))⟩, ⟨(some 23), (.pick (.tmp 18) (.const (.bool true)) (.tmp 22)), none⟩, ⟨(some 24), (.mv (.tmp 23)), none⟩,
  ⟨(some 25), (.faddr 3 (.tmp 1)), (some (24, false))⟩, ⟨(some 26), (.load none (.tmp 25)), (some (24, false))⟩, ⟨(some 27), (.len (.tmp 26)), (some (24, false))⟩, ⟨(some 28),
  (.bin .gtr (.tmp 27) (.const (.int .i64 60))), (some (24, false))⟩, ⟨(some 29), (.pick (.tmp 24) (.const (.bool true)) (.tmp 28)), none⟩]) (.cond (.tmp 29) (.seq (.region
  [⟨(some 2), (.mv (.const (.int .i64 6))), none⟩]) .ret) .skip)) (.seq (.seq (.region [⟨(some 30), (.faddr 0 (.tmp 1)), none⟩, ⟨(some 31), (.load none (.tmp 30)), none⟩, ⟨(some
  32), (.len (.tmp 31)), none⟩, ⟨(some 33), (.faddr 1 (.tmp 1)), none⟩, ⟨(some 34), (.load none (.tmp 33)), none⟩, ⟨(some 35), (.len (.tmp 34)), none⟩, ⟨(some 36), (.bin .neq
  (.tmp 32) (.tmp 35)), none⟩]) (.cond (.tmp 36) (.seq (.region [⟨(some 2), (.mv (.const (.int .i64 15))), none⟩]) .ret) .skip)) (.seq (.seq (.region [⟨(some 3), (.mv (.const
  (.int .i64 0))), none⟩]) (.block 0 (.loop (.seq (.seq (.region [⟨(some 37), (.mv (.tmp 3)), none⟩, ⟨(some 38), (.faddr 1 (.tmp 1)), none⟩, ⟨(some 39), (.load none (.tmp 38)),
  none⟩, ⟨(some 40), (.len (.tmp 39)), none⟩, ⟨(some 41), (.bin .lss (.tmp 37) (.tmp 40)), none⟩]) (.cond (.tmp 41) .skip (.exit 0))) (.seq (.block 1 (.seq (.draw [⟨(some 44),
  (.faddr 1 (.tmp 1)), none⟩, ⟨(some 45), (.load none (.tmp 44)), none⟩, ⟨(some 46), (.mv (.tmp 3)), none⟩, ⟨(some 47), (.iaddrS 1 (.tmp 45) (.tmp 46)), none⟩, ⟨(some 48), (.load
  none (.tmp 47)), none⟩, ⟨(some 49), (.bin .lss (.tmp 48) (.const (.int .i64 0))), none⟩, ⟨(some 50), (.mv (.tmp 49)), none⟩, ⟨(some 51), (.faddr 1 (.tmp 1)), (some (50, false))⟩,
   ⟨(some 52), (.load none (.tmp 51)), (some (50, false))⟩, ⟨(some 53), (.mv (.tmp 3)), (some (50, false))⟩, ⟨(some 54), (.iaddrS 1 (.tmp 52) (.tmp 53)), (some (50, false))⟩,
  ⟨(some 55), (.load none (.tmp 54)), (some (50, false))⟩, ⟨(some 56), (.bin .gtr (.tmp 55) (.const (.int .i64 100000))), (some (50, false))⟩, ⟨(some 57), (.pick (.tmp 50) (.const
  (.bool true)) (.tmp 56)), none⟩, ⟨(some 58), (.mv (.tmp 57)), none⟩, ⟨(some 59), (.faddr 0 (.tmp 1)), (some (58, false))⟩, ⟨(some 60), (.load none (.tmp 59)), (some (58,
  false))⟩, ⟨(some 61), (.mv (.tmp 3)), (some (58, false))⟩, ⟨(some 62), (.iaddrS 1 (.tmp 60) (.tmp 61)), (some (58, false))⟩, ⟨(some 63), (.load none (.tmp 62)), (some (58,
  false))⟩, ⟨(some 64), (.bin .lss (.tmp 63) (.const (.int .i64 0))), (some (58, false))⟩, ⟨(some 65), (.pick (.tmp 58) (.const (.bool true)) (.tmp 64)), none⟩, ⟨(some 66), (.mv
  (.tmp 65)), none⟩, ⟨(some 67), (.faddr 0 (.tmp 1)), (some (66, false))⟩, ⟨(some 68), (.load none (.tmp 67)), (some (66, false))⟩, ⟨(some 69), (.mv (.tmp 3)), (some (66, false))⟩,
   ⟨(some 70), (.iaddrS 1 (.tmp 68) (.tmp 69)), (some (66, false))⟩, ⟨(some 71), (.load none (.tmp 70)), (some (66, false))⟩, ⟨(some 72), (.faddr 1 (.tmp 1)), (some (66, false))⟩,
  ⟨(some 73), (.load none (.tmp 72)), (some (66, false))⟩, ⟨(some 74), (.mv (.tmp 3)), (some (66, false))⟩, ⟨(some 75), (.iaddrS 1 (.tmp 73) (.tmp 74)), (some (66, false))⟩,
  ⟨(some 76), (.load none (.tmp 75)), (some (66, false))⟩, ⟨(some 77), (.bin .gtr (.tmp 71) (.tmp 76)), (some (66, false))⟩, ⟨(some 78), (.pick (.tmp 66) (.const (.bool true))
  (.tmp 77)), none⟩] []) (.cond (.tmp 78) (.seq (.region [⟨(some 2), (.mv (.const (.int .i64 2))), none⟩]) .ret) .skip))) (.region [⟨(some 42), (.mv (.tmp 3)), none⟩, ⟨(some 43),
  (.bin .add (.tmp 42) (.const (.int .i64 1))), none⟩, ⟨(some 3), (.mv (.tmp 43)), none⟩])))))) (.seq (.seq (.region [⟨(some 4), (.mv (.const (.int .i64 0))), none⟩]) (.block 2
  (.loop (.seq (.seq (.region [⟨(some 79), (.mv (.tmp 4)), none⟩, ⟨(some 80), (.faddr 2 (.tmp 1)), none⟩, ⟨(some 81), (.load none (.tmp 80)), none⟩, ⟨(some 82), (.len (.tmp 81)),
  none⟩, ⟨(some 83), (.bin .lss (.tmp 79) (.tmp 82)), none⟩]) (.cond (.tmp 83) .skip (.exit 2))) (.seq (.block 3 (.seq (.region [⟨(some 86), (.faddr 2 (.tmp 1)), none⟩, ⟨(some 87),
   (.load none (.tmp 86)), none⟩, ⟨(some 88), (.mv (.tmp 4)), none⟩, ⟨(some 89), (.iaddrS 4 (.tmp 87) (.tmp 88)), none⟩, ⟨(some 90), (.load (some 4) (.tmp 89)), none⟩, ⟨(some 5),
  (.alloc [(.int .i64 0), (.int .i64 0), (.int .i64 0), (.int .i64 0)]), none⟩, ⟨none, (.store 4 (.tmp 5) (.tmp 90)), none⟩]) (.seq (.region [⟨(some 91), (.faddr 0 (.tmp 5)),
  none⟩, ⟨(some 92), (.load none (.tmp 91)), none⟩, ⟨(some 93), (.bin .lss (.tmp 92) (.const (.int .i64 0))), none⟩, ⟨(some 94), (.mv (.tmp 93)), none⟩, ⟨(some 95), (.faddr 0
  (.tmp 5)), (some (94, false))⟩, ⟨(some 96), (.load none (.tmp 95)), (some (94, false))⟩, ⟨(some 97), (.faddr 1 (.tmp 1)), (some (94, false))⟩, ⟨(some 98), (.load none (.tmp 97)),
   (some (94, false))⟩, ⟨(some 99), (.len (.tmp 98)), (some (94, false))⟩, ⟨(some 100), (.bin .geq (.tmp 96) (.tmp 99)), (some (94, false))⟩, ⟨(some 101), (.pick (.tmp 94) (.const
  (.bool true)) (.tmp 100)), none⟩, ⟨(some 102), (.mv (.tmp 101)), none⟩, ⟨(some 103), (.faddr 1 (.tmp 5)), (some (102, false))⟩, ⟨(some 104), (.load none (.tmp 103)), (some (102,
  false))⟩, ⟨(some 105), (.bin .lss (.tmp 104) (.const (.int .i64 (-100000)))), (some (102, false))⟩, ⟨(some 106), (.pick (.tmp 102) (.const (.bool true)) (.tmp 105)), none⟩,
  ⟨(some 107), (.mv (.tmp 106)), none⟩, ⟨(some 108), (.faddr 1 (.tmp 5)), (some (107, false))⟩, ⟨(some 109), (.load none (.tmp 108)), (some (107, false))⟩, ⟨(some 110), (.bin .gtr
  (.tmp 109) (.const (.int .i64 100000))), (some (107, false))⟩, ⟨(some 111), (.pick (.tmp 107) (.const (.bool true)) (.tmp 110)), none⟩, ⟨(some 112), (.mv (.tmp 111)), none⟩,
  ⟨(some 113), (.faddr 2 (.tmp 5)), (some (112, false))⟩, ⟨(some 114), (.load none (.tmp 113)), (some (112, false))⟩, ⟨(some 115), (.bin .lss (.tmp 114) (.const (.int .i64 0))),
  (some (112, false))⟩, ⟨(some 116), (.pick (.tmp 112) (.const (.bool true)) (.tmp 115)), none⟩, ⟨(some 117), (.mv (.tmp 116)), none⟩, ⟨(some 118), (.faddr 2 (.tmp 5)), (some (117,
   false))⟩, ⟨(some 119), (.load none (.tmp 118)), (some (117, false))⟩, ⟨(some 120), (.bin .gtr (.tmp 119) (.const (.int .i64 4))), (some (117, false))⟩, ⟨(some 121), (.pick
  (.tmp 117) (.const (.bool true)) (.tmp 120)), none⟩, ⟨(some 122), (.mv (.tmp 121)), none⟩, ⟨(some 123), (.faddr 3 (.tmp 5)), (some (122, false))⟩, ⟨(some 124), (.load none (.tmp
  123)), (some (122, false))⟩, ⟨(some 125), (.bin .lss (.tmp 124) (.const (.int .i64 0))), (some (122, false))⟩, ⟨(some 126), (.pick (.tmp 122) (.const (.bool true)) (.tmp 125)),
  none⟩, ⟨(some 127), (.mv (.tmp 126)), none⟩, ⟨(some 128), (.faddr 3 (.tmp 5)), (some (127, false))⟩, ⟨(some 129), (.load none (.tmp 128)), (some (127, false))⟩, ⟨(some 130),
  (.bin .gtr (.tmp 129) (.const (.int .i64 5))), (some (127, false))⟩, ⟨(some 131), (.pick (.tmp 127) (.const (.bool true)) (.tmp 130)), none⟩, ⟨(some 132), (.mv (.tmp 131)),
  none⟩, ⟨(some 133), (.faddr 2 (.tmp 5)), (some (132, false))⟩, ⟨(some 134), (.load none (.tmp 133)), (some (132, false))⟩, ⟨(some 135), (.bin .eql (.tmp 134) (.const (.int .i64
  0))), (some (132, false))⟩, ⟨(some 136), (.mv (.tmp 135)), (some (132, false))⟩, ⟨(some 137), (.faddr 3 (.tmp 5)), (some (136, true))⟩, ⟨(some 138), (.load none (.tmp 137)),
  (some (136, true))⟩, ⟨(some 139), (.bin .neq (.tmp 138) (.const (.int .i64 0))), (some (136, true))⟩, ⟨(some 140), (.pick (.tmp 136) (.tmp 139) (.const (.bool false))), (some
  (132, false))⟩, ⟨(some 141), (.pick (.tmp 132) (.const (.bool true)) (.tmp 140)), none⟩]) (.cond (.tmp 141) (.seq (.region [⟨(some 2), (.mv (.const (.int .i64 2))), none⟩])
  .ret) .skip)))) (.region [⟨(some 84), (.mv (.tmp 4)), none⟩, ⟨(some 85), (.bin .add (.tmp 84) (.const (.int .i64 1))), none⟩, ⟨(some 4), (.mv (.tmp 85)), none⟩])))))) (.seq
  (.seq (.region [⟨(some 6), (.mv (.const (.int .i64 0))), none⟩]) (.block 4 (.loop (.seq (.seq (.region [⟨(some 142), (.mv (.tmp 6)), none⟩, ⟨(some 143), (.faddr 3 (.tmp 1)),
  none⟩, ⟨(some 144), (.load none (.tmp 143)), none⟩, ⟨(some 145), (.len (.tmp 144)), none⟩, ⟨(some 146), (.bin .lss (.tmp 142) (.tmp 145)), none⟩]) (.cond (.tmp 146) .skip (.exit
  4))) (.seq (.block 5 (.seq (.region [⟨(some 149), (.faddr 3 (.tmp 1)), none⟩, ⟨(some 150), (.load none (.tmp 149)), none⟩, ⟨(some 151), (.mv (.tmp 6)), none⟩, ⟨(some 152),
  (.iaddrS 2 (.tmp 150) (.tmp 151)), none⟩, ⟨(some 153), (.load (some 2) (.tmp 152)), none⟩, ⟨(some 7), (.alloc [(.int .i64 0), (.int .i64 0)]), none⟩, ⟨none, (.store 2 (.tmp 7)
  (.tmp 153)), none⟩]) (.seq (.region [⟨(some 154), (.load (some 4) (.tmp 1)), none⟩, ⟨(some 155), (.iaddrA 2 1 (.tmp 7) (.const (.int .i64 0))), none⟩, ⟨(some 156), (.load none
  (.tmp 155)), none⟩, ⟨(some 157), (.call (.func 74) [(.tmp 154), (.tmp 156)]), none⟩, ⟨(some 158), (.un .not (.tmp 157)), none⟩, ⟨(some 159), (.mv (.tmp 158)), none⟩, ⟨(some 160),
   (.load (some 4) (.tmp 1)), (some (159, false))⟩, ⟨(some 161), (.iaddrA 2 1 (.tmp 7) (.const (.int .i64 1))), (some (159, false))⟩, ⟨(some 162), (.load none (.tmp 161)), (some
  (159, false))⟩, ⟨(some 163), (.call (.func 74) [(.tmp 160), (.tmp 162)]), (some (159, false))⟩, ⟨(some 164), (.un .not (.tmp 163)), (some (159, false))⟩, ⟨(some 165), (.pick
  (.tmp 159) (.const (.bool true)) (.tmp 164)), none⟩, ⟨(some 166), (.mv (.tmp 165)), none⟩, ⟨(some 167), (.iaddrA 2 1 (.tmp 7) (.const (.int .i64 0))), (some (166, false))⟩,
  ⟨(some 168), (.load none (.tmp 167)), (some (166, false))⟩, ⟨(some 169), (.iaddrA 2 1 (.tmp 7) (.const (.int .i64 1))), (some (166, false))⟩, ⟨(some 170), (.load none (.tmp
  169)), (some (166, false))⟩, ⟨(some 171), (.bin .eql (.tmp 168) (.tmp 170)), (some (166, false))⟩, ⟨(some 172), (.pick (.tmp 166) (.const (.bool true)) (.tmp 171)), none⟩])
  (.cond (.tmp 172) (.seq (.region [⟨(some 2), (.mv (.const (.int .i64 3))), none⟩]) .ret) .skip)))) (.region [⟨(some 147), (.mv (.tmp 6)), none⟩, ⟨(some 148), (.bin .add (.tmp
  147) (.const (.int .i64 1))), none⟩, ⟨(some 6), (.mv (.tmp 148)), none⟩])))))) (.seq (.region [⟨(some 2), (.mv (.const (.int .i64 0))), none⟩]) .ret)))))))⟩
def af56 : AFn := ⟨25, [(.tmp 2)], (.seq (.region [⟨(some 1), (.box (.tmp 0)), none⟩, ⟨(some 2), (.mv (.const (.bool false))), none⟩]) (.seq (.region [⟨(some 5), (.load (some 4) (.tmp 1)), none⟩,
  ⟨(some 6), (.call (.func 81) [(.tmp 5)]), none⟩, ⟨(some 3), (.mv (.tmp 6)), none⟩]) (.seq (.seq (.region [⟨(some 4), (.mv (.const (.int .i64 0))), none⟩]) (.block 0 (.loop (.seq
  (.seq (.region [⟨(some 7), (.mv (.tmp 4)), none⟩, ⟨(some 8), (.faddr 2 (.tmp 1)), none⟩, ⟨(some 9), (.load none (.tmp 8)), none⟩, ⟨(some 10), (.len (.tmp 9)), none⟩, ⟨(some 11),
  (.bin .lss (.tmp 7) (.tmp 10)), none⟩]) (.cond (.tmp 11) .skip (.exit 0))) (.seq (.block 1 (.seq (.region [⟨(some 14), (.mv (.tmp 3)), none⟩, ⟨(some 15), (.mv (.tmp 4)), none⟩,
  ⟨(some 16), (.faddr 2 (.tmp 1)), none⟩, ⟨(some 17), (.load none (.tmp 16)), none⟩, ⟨(some 18), (.len (.tmp 17)), none⟩, ⟨(some 19), (.bin .mul (.tmp 15) (.tmp 18)), none⟩,
  ⟨(some 20), (.mv (.tmp 4)), none⟩, ⟨(some 21), (.bin .add (.tmp 19) (.tmp 20)), none⟩, ⟨(some 22), (.iaddrS 1 (.tmp 14) (.tmp 21)), none⟩, ⟨(some 23), (.load none (.tmp 22)),
  none⟩, ⟨(some 24), (.bin .eql (.tmp 23) (.const (.int .i64 1))), none⟩]) (.cond (.tmp 24) (.seq (.region [⟨(some 2), (.mv (.const (.bool true))), none⟩]) .ret) .skip))) (.region
  [⟨(some 12), (.mv (.tmp 4)), none⟩, ⟨(some 13), (.bin .add (.tmp 12) (.const (.int .i64 1))), none⟩, ⟨(some 4), (.mv (.tmp 13)), none⟩])))))) (.seq (.region [⟨(some 2), (.mv
  (.const (.bool false))), none⟩]) .ret))))⟩
def af57 : AFn := ⟨70, [(.tmp 4)], (.seq (.region [⟨(some 2), (.box (.tmp 0)), none⟩, ⟨(some 4), (.mv (.const (.bool false))), none⟩]) (.seq (.seq (.region [⟨(some 10), (.mv (.tmp 1)), none⟩,
  ⟨(some 11), (.len (.tmp 10)), none⟩, ⟨(some 12), (.bin .lss (.tmp 11) (.const (.int .i64 2))), none⟩]) (.cond (.tmp 12) (.seq (.region [⟨(some 4), (.mv (.const (.bool false))),
  none⟩]) .ret) .skip)) (.seq (.seq (.region [⟨(some 5), (.mv (.const (.int .i64 0))), none⟩]) (.block 0 (.loop (.seq (.seq (.region [⟨(some 13), (.mv (.tmp 5)), none⟩, ⟨(some 14),
   (.mv (.tmp 1)), none⟩, ⟨(some 15), (.len (.tmp 14)), none⟩, ⟨(some 16), (.bin .lss (.tmp 13) (.tmp 15)), none⟩]) (.cond (.tmp 16) .skip (.exit 0))) (.seq (.block 1 (.seq
  (.region [⟨(some 6), (.mv (.const (.int .i64 0))), none⟩]) (.block 2 (.loop (.seq (.seq (.region [⟨(some 19), (.mv (.tmp 6)), none⟩, ⟨(some 20), (.mv (.tmp 5)), none⟩, ⟨(some
  21), (.bin .lss (.tmp 19) (.tmp 20)), none⟩]) (.cond (.tmp 21) .skip (.exit 2))) (.seq (.block 3 (.seq (.draw [⟨(some 24), (.mv (.tmp 1)), none⟩, ⟨(some 25), (.mv (.tmp 5)),
  none⟩, ⟨(some 26), (.iaddrS 1 (.tmp 24) (.tmp 25)), none⟩, ⟨(some 27), (.load none (.tmp 26)), none⟩, ⟨(some 28), (.mv (.tmp 1)), none⟩, ⟨(some 29), (.mv (.tmp 6)), none⟩,
  ⟨(some 30), (.iaddrS 1 (.tmp 28) (.tmp 29)), none⟩, ⟨(some 31), (.load none (.tmp 30)), none⟩, ⟨(some 32), (.bin .eql (.tmp 27) (.tmp 31)), none⟩] []) (.cond (.tmp 32) (.seq
  (.region [⟨(some 4), (.mv (.const (.bool false))), none⟩]) .ret) .skip))) (.region [⟨(some 22), (.mv (.tmp 6)), none⟩, ⟨(some 23), (.bin .add (.tmp 22) (.const (.int .i64 1))),
  none⟩, ⟨(some 6), (.mv (.tmp 23)), none⟩]))))))) (.region [⟨(some 17), (.mv (.tmp 5)), none⟩, ⟨(some 18), (.bin .add (.tmp 17) (.const (.int .i64 1))), none⟩, ⟨(some 5), (.mv
  (.tmp 18)), none⟩])))))) (.seq (.seq (.region [⟨(some 7), (.mv (.const (.int .i64 0))), none⟩]) (.block 4 (.loop (.seq (.seq (.region [⟨(some 33), (.mv (.tmp 7)), none⟩, ⟨(some
  34), (.mv (.tmp 1)), none⟩, ⟨(some 35), (.len (.tmp 34)), none⟩, ⟨(some 36), (.bin .lss (.tmp 33) (.tmp 35)), none⟩]) (.cond (.tmp 36) .skip (.exit 4))) (.seq (.block 5 (.seq
  (.region [⟨(some 8), (.mv (.const (.bool false))), none⟩]) (.seq (.seq (.region [⟨(some 9), (.mv (.const (.int .i64 0))), none⟩]) (.block 6 (.loop (.seq (.seq (.region [⟨(some
  39), (.mv (.tmp 9)), none⟩, ⟨(some 40), (.faddr 3 (.tmp 2)), none⟩, ⟨(some 41), (.load none (.tmp 40)), none⟩, ⟨(some 42), (.len (.tmp 41)), none⟩, ⟨(some 43), (.bin .lss (.tmp
  39) (.tmp 42)), none⟩]) (.cond (.tmp 43) .skip (.exit 6))) (.seq (.block 7 (.draw [⟨(some 46), (.mv (.tmp 8)), none⟩, ⟨(some 47), (.mv (.tmp 46)), none⟩, ⟨(some 48), (.faddr 3
  (.tmp 2)), (some (47, false))⟩, ⟨(some 49), (.load none (.tmp 48)), (some (47, false))⟩, ⟨(some 50), (.mv (.tmp 9)), (some (47, false))⟩, ⟨(some 51), (.iaddrS 2 (.tmp 49) (.tmp
  50)), (some (47, false))⟩, ⟨(some 52), (.load (some 2) (.tmp 51)), (some (47, false))⟩, ⟨(some 53), (.mv (.tmp 1)), (some (47, false))⟩, ⟨(some 54), (.mv (.tmp 7)), (some (47,
  false))⟩, ⟨(some 55), (.iaddrS 1 (.tmp 53) (.tmp 54)), (some (47, false))⟩, ⟨(some 56), (.load none (.tmp 55)), (some (47, false))⟩, ⟨(some 57), (.mv (.tmp 1)), (some (47,
  false))⟩, ⟨(some 58), (.mv (.tmp 7)), (some (47, false))⟩, ⟨(some 59), (.bin .add (.tmp 58) (.const (.int .i64 1))), (some (47, false))⟩, ⟨(some 60), (.mv (.tmp 1)), (some (47,
  false))⟩, ⟨(some 61), (.len (.tmp 60)), (some (47, false))⟩, ⟨(some 62), (.bin .rem (.tmp 59) (.tmp 61)), (some (47, false))⟩, ⟨(some 63), (.iaddrS 1 (.tmp 57) (.tmp 62)), (some
  (47, false))⟩, ⟨(some 64), (.load none (.tmp 63)), (some (47, false))⟩, ⟨(some 65), (.build [(.int .i64 0), (.int .i64 0)] [(0, (1, (.tmp 56))), (1, (1, (.tmp 64)))]), (some (47,
   false))⟩, ⟨(some 66), (.eqf false true [.int, .int] (.tmp 52) (.tmp 65)), (some (47, false))⟩, ⟨(some 67), (.pick (.tmp 47) (.const (.bool true)) (.tmp 66)), none⟩, ⟨(some 8),
  (.mv (.tmp 67)), none⟩] [])) (.region [⟨(some 44), (.mv (.tmp 9)), none⟩, ⟨(some 45), (.bin .add (.tmp 44) (.const (.int .i64 1))), none⟩, ⟨(some 9), (.mv (.tmp 45)),
  none⟩])))))) (.seq (.region [⟨(some 68), (.mv (.tmp 8)), none⟩, ⟨(some 69), (.un .not (.tmp 68)), none⟩]) (.cond (.tmp 69) (.seq (.region [⟨(some 4), (.mv (.const (.bool
  false))), none⟩]) .ret) .skip))))) (.region [⟨(some 37), (.mv (.tmp 7)), none⟩, ⟨(some 38), (.bin .add (.tmp 37) (.const (.int .i64 1))), none⟩, ⟨(some 7), (.mv (.tmp 38)),
  none⟩])))))) (.seq (.region [⟨(some 4), (.mv (.const (.bool true))), none⟩]) .ret)))))⟩
def af58 : AFn := ⟨11, [(.cell 0 (some 4))], (.seq (.region [⟨(some 0), (.alloc [(.slc none 0 0 true 0), (.slc none 0 0 true 0), (.slc none 0 0 true 0), (.slc none 0 0 true 0)]), none⟩]) (.seq
  (.region [⟨(some 1), (.bslice [(.int .i64 0)] 1 1 [(0, (1, (.const (.int .i64 20))))]), none⟩, ⟨(some 2), (.bslice [(.int .i64 0)] 1 1 [(0, (1, (.const (.int .i64 70))))]),
  none⟩, ⟨(some 3), (.call (.func 92) [(.const (.int .i64 (-15))), (.const (.int .i64 0)), (.const (.int .i64 0))]), none⟩, ⟨(some 4), (.call (.func 92) [(.const (.int .i64 50)),
  (.const (.int .i64 1)), (.const (.int .i64 1))]), none⟩, ⟨(some 5), (.call (.func 92) [(.const (.int .i64 (-30))), (.const (.int .i64 0)), (.const (.int .i64 0))]), none⟩,
  ⟨(some 6), (.call (.func 92) [(.const (.int .i64 20)), (.const (.int .i64 1)), (.const (.int .i64 2))]), none⟩, ⟨(some 7), (.bslice [(.int .i64 0), (.int .i64 0), (.int .i64 0),
  (.int .i64 0), (.int .i64 0), (.int .i64 0), (.int .i64 0), (.int .i64 0), (.int .i64 0), (.int .i64 0), (.int .i64 0), (.int .i64 0), (.int .i64 0), (.int .i64 0), (.int .i64
  0), (.int .i64 0)] 4 4 [(0, (4, (.tmp 3))), (4, (4, (.tmp 4))), (8, (4, (.tmp 5))), (12, (4, (.tmp 6)))]), none⟩, ⟨(some 8), (.build [(.int .i64 0), (.int .i64 0)] [(0, (1,
  (.const (.int .i64 0)))), (1, (1, (.const (.int .i64 1))))]), none⟩, ⟨(some 9), (.bslice [(.int .i64 0), (.int .i64 0)] 1 2 [(0, (2, (.tmp 8)))]), none⟩, ⟨(some 10), (.build
  [(.slc none 0 0 true 0), (.slc none 0 0 true 0), (.slc none 0 0 true 0), (.slc none 0 0 true 0)] [(0, (1, (.tmp 1))), (1, (1, (.tmp 2))), (2, (1, (.tmp 7))), (3, (1, (.tmp
  9)))]), none⟩, ⟨none, (.store 4 (.tmp 0) (.tmp 10)), none⟩]) .ret))⟩
def af59 : AFn := ⟨15, [(.cell 0 (some 4))], (.seq (.region [⟨(some 0), (.alloc [(.slc none 0 0 true 0), (.slc none 0 0 true 0), (.slc none 0 0 true 0), (.slc none 0 0 true 0)]), none⟩]) (.seq
  (.region [⟨(some 2), (.call (.func 58) []), none⟩, ⟨(some 1), (.alloc [(.slc none 0 0 true 0), (.slc none 0 0 true 0), (.slc none 0 0 true 0), (.slc none 0 0 true 0)]), none⟩,
  ⟨none, (.store 4 (.tmp 1) (.tmp 2)), none⟩]) (.seq (.region [⟨(some 3), (.faddr 2 (.tmp 1)), none⟩, ⟨(some 4), (.load none (.tmp 3)), none⟩, ⟨(some 5), (.iaddrS 4 (.tmp 4)
  (.const (.int .i64 2))), none⟩, ⟨(some 6), (.faddr 2 (.tmp 5)), none⟩, ⟨none, (.store 1 (.tmp 6) (.const (.int .i64 1))), none⟩]) (.seq (.region [⟨(some 7), (.faddr 3 (.tmp 1)),
  none⟩, ⟨(some 8), (.load none (.tmp 7)), none⟩, ⟨(some 9), (.build [(.int .i64 0), (.int .i64 0)] [(0, (1, (.const (.int .i64 1)))), (1, (1, (.const (.int .i64 2))))]), none⟩,
  ⟨(some 10), (.build [(.int .i64 0), (.int .i64 0)] [(0, (1, (.const (.int .i64 2)))), (1, (1, (.const (.int .i64 3))))]), none⟩, ⟨(some 11), (.bslice [(.int .i64 0), (.int .i64
  0), (.int .i64 0), (.int .i64 0)] 2 2 [(0, (2, (.tmp 9))), (2, (2, (.tmp 10)))]), none⟩, ⟨(some 12), (.app 2 16 (.tmp 8) (.tmp 11)), none⟩, ⟨(some 13), (.faddr 3 (.tmp 1)),
  none⟩, ⟨none, (.store 1 (.tmp 13) (.tmp 12)), none⟩]) (.seq (.region [⟨(some 14), (.load (some 4) (.tmp 1)), none⟩, ⟨none, (.store 4 (.tmp 0) (.tmp 14)), none⟩]) .ret)))))⟩
end Go.Ax
