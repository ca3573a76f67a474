/-
  The functions of the program as the abstract machine reads them. Written by gen_fns.py out of Lean's own reckoning of 'compF'.
-/
import Derived.Test.YtjcehnfhkgbpiaaXL0
namespace Go.Ax
def af3 : AFn := ⟨112, [(.tmp 6)], (.seq (.region [⟨(some 3), (.box (.tmp 0)), none⟩, ⟨(some 6), (.mv (.const (.bool false))), none⟩]) (.seq (.seq (.region [⟨(some 15), (.load (some 2) (.tmp 3)),
  none⟩, ⟨(some 16), (.call (.func 15) [(.tmp 15)]), none⟩, ⟨(some 17), (.mv (.tmp 16)), none⟩, ⟨(some 18), (.mv (.tmp 1)), (some (17, false))⟩, ⟨(some 19), (.len (.tmp 18)),
  (some (17, false))⟩, ⟨(some 20), (.bin .gtr (.tmp 19) (.const (.int .i64 60))), (some (17, false))⟩, ⟨(some 21), (.pick (.tmp 17) (.const (.bool true)) (.tmp 20)), none⟩, ⟨(some
  22), (.mv (.tmp 21)), none⟩, ⟨(some 23), (.mv (.tmp 2)), (some (22, false))⟩, ⟨(some 24), (.len (.tmp 23)), (some (22, false))⟩, ⟨(some 25), (.bin .gtr (.tmp 24) (.const (.int
  .i64 30))), (some (22, false))⟩, ⟨(some 26), (.pick (.tmp 22) (.const (.bool true)) (.tmp 25)), none⟩]) (.cond (.tmp 26) (.seq (.region [⟨(some 27), (.call (.func 16) []), none⟩,
   ⟨(some 6), (.mv (.tmp 27)), none⟩]) .ret) .skip)) (.seq (.region [⟨(some 29), (.load (some 2) (.tmp 3)), none⟩, ⟨(some 30), (.mv (.tmp 2)), none⟩, ⟨(some 31), (.call (.func 17)
  [(.tmp 29), (.tmp 30)]), none⟩, ⟨(some 28), (.mv (.tmp 31)), none⟩, ⟨(some 32), (.ext (.tmp 28) 0), none⟩, ⟨(some 33), (.ext (.tmp 28) 1), none⟩, ⟨(some 7), (.mv (.tmp 32)),
  none⟩, ⟨(some 8), (.mv (.tmp 33)), none⟩]) (.seq (.region [⟨(some 35), (.load (some 2) (.tmp 3)), none⟩, ⟨(some 36), (.mv (.tmp 2)), none⟩, ⟨(some 37), (.call (.func 18) [(.tmp
  35), (.tmp 36)]), none⟩, ⟨(some 34), (.mv (.tmp 37)), none⟩, ⟨(some 38), (.ext (.tmp 34) 0), none⟩, ⟨(some 39), (.ext (.tmp 34) 1), none⟩, ⟨(some 9), (.mv (.tmp 38)), none⟩,
  ⟨(some 10), (.mv (.tmp 39)), none⟩]) (.seq (.seq (.draw [⟨(some 40), (.load (some 2) (.tmp 3)), none⟩, ⟨(some 41), (.call (.func 19) [(.tmp 40)]), none⟩, ⟨(some 42), (.load
  (some 2) (.tmp 3)), none⟩, ⟨(some 43), (.call (.func 20) [(.tmp 42)]), none⟩, ⟨(some 44), (.bin .neq (.tmp 41) (.tmp 43)), none⟩, ⟨(some 45), (.mv (.tmp 44)), none⟩, ⟨(some 46),
  (.load (some 2) (.tmp 3)), (some (45, false))⟩, ⟨(some 47), (.mv (.tmp 1)), (some (45, false))⟩, ⟨(some 48), (.call (.func 21) [(.tmp 46), (.tmp 47)]), (some (45, false))⟩,
  ⟨(some 49), (.load (some 2) (.tmp 3)), (some (45, false))⟩, ⟨(some 50), (.mv (.tmp 1)), (some (45, false))⟩, ⟨(some 51), (.call (.func 22) [(.tmp 49), (.tmp 50)]), (some (45,
  false))⟩, ⟨(some 52), (.bin .neq (.tmp 48) (.tmp 51)), (some (45, false))⟩, ⟨(some 53), (.pick (.tmp 45) (.const (.bool true)) (.tmp 52)), none⟩, ⟨(some 54), (.mv (.tmp 53)),
  none⟩, ⟨(some 55), (.mv (.tmp 7)), (some (54, false))⟩, ⟨(some 56), (.mv (.tmp 9)), (some (54, false))⟩, ⟨(some 57), (.bin .neq (.tmp 55) (.tmp 56)), (some (54, false))⟩, ⟨(some
  58), (.pick (.tmp 54) (.const (.bool true)) (.tmp 57)), none⟩, ⟨(some 59), (.mv (.tmp 58)), none⟩, ⟨(some 60), (.mv (.tmp 8)), (some (59, false))⟩, ⟨(some 61), (.mv (.tmp 10)),
  (some (59, false))⟩, ⟨(some 62), (.bin .neq (.tmp 60) (.tmp 61)), (some (59, false))⟩, ⟨(some 63), (.pick (.tmp 59) (.const (.bool true)) (.tmp 62)), none⟩] [(1, 2), (8, 9)])
  (.cond (.tmp 63) (.seq (.region [⟨(some 6), (.mv (.const (.bool false))), none⟩]) .ret) .skip)) (.seq (.region [⟨(some 65), (.load (some 2) (.tmp 3)), none⟩, ⟨(some 66), (.call
  (.func 23) [(.tmp 65)]), none⟩, ⟨(some 64), (.mv (.tmp 66)), none⟩, ⟨(some 67), (.ext (.tmp 64) 0), none⟩, ⟨(some 68), (.ext (.tmp 64) 1), none⟩, ⟨(some 11), (.mv (.tmp 67)),
  none⟩, ⟨(some 12), (.mv (.tmp 68)), none⟩]) (.seq (.seq (.region [⟨(some 69), (.load (some 2) (.tmp 3)), none⟩, ⟨(some 70), (.call (.func 20) [(.tmp 69)]), none⟩, ⟨(some 71),
  (.bin .neq (.tmp 70) (.const (.int .i64 0))), none⟩]) (.cond (.tmp 71) (.seq (.region [⟨(some 72), (.mv (.tmp 12)), none⟩, ⟨(some 73), (.load (some 2) (.tmp 3)), none⟩, ⟨(some
  74), (.call (.func 20) [(.tmp 73)]), none⟩, ⟨(some 75), (.bin .eql (.tmp 72) (.tmp 74)), none⟩, ⟨(some 76), (.mv (.tmp 75)), none⟩, ⟨(some 77), (.mv (.tmp 11)), (some (76,
  true))⟩, ⟨(some 78), (.len (.tmp 77)), (some (76, true))⟩, ⟨(some 79), (.bin .eql (.tmp 78) (.const (.int .i64 0))), (some (76, true))⟩, ⟨(some 80), (.pick (.tmp 76) (.tmp 79)
  (.const (.bool false))), none⟩, ⟨(some 81), (.mv (.tmp 80)), none⟩, ⟨(some 82), (.call (.func 16) []), (some (81, true))⟩, ⟨(some 83), (.pick (.tmp 81) (.tmp 82) (.const (.bool
  false))), none⟩, ⟨(some 6), (.mv (.tmp 83)), none⟩]) .ret) .skip)) (.seq (.region [⟨(some 85), (.load (some 2) (.tmp 3)), none⟩, ⟨(some 86), (.call (.func 24) [(.tmp 85)]),
  none⟩, ⟨(some 84), (.mv (.tmp 86)), none⟩, ⟨(some 87), (.ext (.tmp 84) 0), none⟩, ⟨(some 88), (.ext (.tmp 84) 1), none⟩, ⟨(some 13), (.mv (.tmp 87)), none⟩, ⟨(some 14), (.mv
  (.tmp 88)), none⟩]) (.seq (.seq (.region [⟨(some 89), (.mv (.tmp 14)), none⟩, ⟨(some 90), (.un .not (.tmp 89)), none⟩]) (.cond (.tmp 90) (.seq (.region [⟨(some 91), (.mv (.tmp
  12)), none⟩, ⟨(some 92), (.bin .eql (.tmp 91) (.const (.int .i64 21))), none⟩, ⟨(some 93), (.mv (.tmp 92)), none⟩, ⟨(some 94), (.mv (.tmp 11)), (some (93, true))⟩, ⟨(some 95),
  (.len (.tmp 94)), (some (93, true))⟩, ⟨(some 96), (.bin .eql (.tmp 95) (.const (.int .i64 0))), (some (93, true))⟩, ⟨(some 97), (.pick (.tmp 93) (.tmp 96) (.const (.bool
  false))), none⟩, ⟨(some 98), (.mv (.tmp 97)), none⟩, ⟨(some 99), (.call (.func 16) []), (some (98, true))⟩, ⟨(some 100), (.pick (.tmp 98) (.tmp 99) (.const (.bool false))),
  none⟩, ⟨(some 6), (.mv (.tmp 100)), none⟩]) .ret) .skip)) (.seq (.region [⟨(some 101), (.mv (.tmp 12)), none⟩, ⟨(some 102), (.bin .eql (.tmp 101) (.const (.int .i64 0))), none⟩,
  ⟨(some 103), (.mv (.tmp 102)), none⟩, ⟨(some 104), (.load (some 2) (.tmp 3)), (some (103, true))⟩, ⟨(some 105), (.mv (.tmp 11)), (some (103, true))⟩, ⟨(some 106), (.call (.func
  22) [(.tmp 104), (.tmp 105)]), (some (103, true))⟩, ⟨(some 107), (.bin .eql (.tmp 106) (.const (.int .i64 0))), (some (103, true))⟩, ⟨(some 108), (.pick (.tmp 103) (.tmp 107)
  (.const (.bool false))), none⟩, ⟨(some 109), (.mv (.tmp 108)), none⟩, ⟨(some 110), (.call (.func 16) []), (some (109, true))⟩, ⟨(some 111), (.pick (.tmp 109) (.tmp 110) (.const
  (.bool false))), none⟩, ⟨(some 6), (.mv (.tmp 111)), none⟩]) .ret))))))))))⟩
def af4 : AFn := ⟨77, [(.tmp 6)], (.seq (.region [⟨(some 3), (.box (.tmp 0)), none⟩, ⟨(some 6), (.mv (.const (.bool false))), none⟩]) (.seq (.seq (.region [⟨(some 14), (.load (some 2) (.tmp 3)),
  none⟩, ⟨(some 15), (.call (.func 15) [(.tmp 14)]), none⟩]) (.cond (.tmp 15) (.seq (.region [⟨(some 16), (.call (.func 16) []), none⟩, ⟨(some 6), (.mv (.tmp 16)), none⟩]) .ret)
  .skip)) (.seq (.region [⟨(some 18), (.load (some 2) (.tmp 3)), none⟩, ⟨(some 19), (.mv (.tmp 1)), none⟩, ⟨(some 20), (.call (.func 25) [(.tmp 18), (.tmp 19)]), none⟩, ⟨(some 17),
   (.mv (.tmp 20)), none⟩, ⟨(some 21), (.ext (.tmp 17) 0), none⟩, ⟨(some 22), (.ext (.tmp 17) 1), none⟩, ⟨(some 7), (.alloc [(.int .i64 0), (.int .i64 0)]), none⟩, ⟨none, (.store
  2 (.tmp 7) (.tmp 21)), none⟩, ⟨(some 8), (.mv (.tmp 22)), none⟩]) (.seq (.region [⟨(some 24), (.load (some 2) (.tmp 3)), none⟩, ⟨(some 25), (.mv (.tmp 1)), none⟩, ⟨(some 26),
  (.call (.func 26) [(.tmp 24), (.tmp 25)]), none⟩, ⟨(some 23), (.mv (.tmp 26)), none⟩, ⟨(some 27), (.ext (.tmp 23) 0), none⟩, ⟨(some 28), (.ext (.tmp 23) 1), none⟩, ⟨(some 9),
  (.alloc [(.int .i64 0), (.int .i64 0)]), none⟩, ⟨none, (.store 2 (.tmp 9) (.tmp 27)), none⟩, ⟨(some 10), (.mv (.tmp 28)), none⟩]) (.seq (.region [⟨(some 30), (.load (some 2)
  (.tmp 3)), none⟩, ⟨(some 31), (.mv (.tmp 1)), none⟩, ⟨(some 32), (.mv (.tmp 2)), none⟩, ⟨(some 33), (.call (.func 27) [(.tmp 30), (.tmp 31), (.tmp 32)]), none⟩, ⟨(some 29), (.mv
  (.tmp 33)), none⟩, ⟨(some 34), (.ext (.tmp 29) 0), none⟩, ⟨(some 35), (.ext (.tmp 29) 1), none⟩, ⟨(some 11), (.mv (.tmp 34)), none⟩, ⟨(some 12), (.mv (.tmp 35)), none⟩]) (.seq
  (.seq (.region [⟨(some 36), (.load (some 2) (.tmp 7)), none⟩, ⟨(some 37), (.load (some 2) (.tmp 9)), none⟩, ⟨(some 38), (.eqf true true [.int, .int] (.tmp 36) (.tmp 37)), none⟩,
  ⟨(some 39), (.mv (.tmp 38)), none⟩, ⟨(some 40), (.mv (.tmp 8)), (some (39, false))⟩, ⟨(some 41), (.mv (.tmp 10)), (some (39, false))⟩, ⟨(some 42), (.bin .neq (.tmp 40) (.tmp
  41)), (some (39, false))⟩, ⟨(some 43), (.pick (.tmp 39) (.const (.bool true)) (.tmp 42)), none⟩, ⟨(some 44), (.mv (.tmp 43)), none⟩, ⟨(some 45), (.mv (.tmp 12)), (some (44,
  false))⟩, ⟨(some 46), (.mv (.tmp 10)), (some (44, false))⟩, ⟨(some 47), (.bin .neq (.tmp 45) (.tmp 46)), (some (44, false))⟩, ⟨(some 48), (.pick (.tmp 44) (.const (.bool true))
  (.tmp 47)), none⟩]) (.cond (.tmp 48) (.seq (.region [⟨(some 6), (.mv (.const (.bool false))), none⟩]) .ret) .skip)) (.seq (.seq (.region [⟨(some 49), (.mv (.tmp 12)), none⟩,
  ⟨(some 50), (.bin .neq (.tmp 49) (.const (.int .i64 0))), none⟩]) (.cond (.tmp 50) (.seq (.region [⟨(some 51), (.mv (.tmp 11)), none⟩, ⟨(some 52), (.len (.tmp 51)), none⟩,
  ⟨(some 53), (.bin .eql (.tmp 52) (.const (.int .i64 0))), none⟩, ⟨(some 54), (.mv (.tmp 53)), none⟩, ⟨(some 55), (.call (.func 16) []), (some (54, true))⟩, ⟨(some 56), (.pick
  (.tmp 54) (.tmp 55) (.const (.bool false))), none⟩, ⟨(some 6), (.mv (.tmp 56)), none⟩]) .ret) .skip)) (.seq (.region [⟨(some 57), (.faddr 0 (.tmp 9)), none⟩, ⟨(some 58), (.load
  none (.tmp 57)), none⟩, ⟨(some 13), (.mv (.tmp 58)), none⟩]) (.seq (.seq (.region [⟨(some 59), (.mv (.tmp 2)), none⟩]) (.cond (.tmp 59) (.region [⟨(some 60), (.faddr 1 (.tmp 9)),
   none⟩, ⟨(some 61), (.load none (.tmp 60)), none⟩, ⟨(some 13), (.mv (.tmp 61)), none⟩]) .skip)) (.seq (.region [⟨(some 62), (.load (some 2) (.tmp 3)), none⟩, ⟨(some 63), (.mv
  (.tmp 11)), none⟩, ⟨(some 64), (.call (.func 22) [(.tmp 62), (.tmp 63)]), none⟩, ⟨(some 65), (.bin .eql (.tmp 64) (.const (.int .i64 0))), none⟩, ⟨(some 66), (.mv (.tmp 65)),
  none⟩, ⟨(some 67), (.mv (.tmp 11)), (some (66, true))⟩, ⟨(some 68), (.mv (.tmp 1)), (some (66, true))⟩, ⟨(some 69), (.iaddrS 1 (.tmp 67) (.tmp 68)), (some (66, true))⟩, ⟨(some
  70), (.load none (.tmp 69)), (some (66, true))⟩, ⟨(some 71), (.mv (.tmp 13)), (some (66, true))⟩, ⟨(some 72), (.bin .eql (.tmp 70) (.tmp 71)), (some (66, true))⟩, ⟨(some 73),
  (.pick (.tmp 66) (.tmp 72) (.const (.bool false))), none⟩, ⟨(some 74), (.mv (.tmp 73)), none⟩, ⟨(some 75), (.call (.func 16) []), (some (74, true))⟩, ⟨(some 76), (.pick (.tmp
  74) (.tmp 75) (.const (.bool false))), none⟩, ⟨(some 6), (.mv (.tmp 76)), none⟩]) .ret))))))))))⟩
def af5 : AFn := ⟨159, [(.tmp 8)], (.seq (.region [⟨(some 4), (.box (.tmp 0)), none⟩, ⟨(some 8), (.mv (.const (.bool false))), none⟩]) (.seq (.seq (.region [⟨(some 24), (.load (some 2) (.tmp 4)),
  none⟩, ⟨(some 25), (.call (.func 15) [(.tmp 24)]), none⟩, ⟨(some 26), (.mv (.tmp 25)), none⟩, ⟨(some 27), (.mv (.tmp 3)), (some (26, false))⟩, ⟨(some 28), (.len (.tmp 27)),
  (some (26, false))⟩, ⟨(some 29), (.bin .gtr (.tmp 28) (.const (.int .i64 30))), (some (26, false))⟩, ⟨(some 30), (.pick (.tmp 26) (.const (.bool true)) (.tmp 29)), none⟩])
  (.cond (.tmp 30) (.seq (.region [⟨(some 31), (.call (.func 16) []), none⟩, ⟨(some 8), (.mv (.tmp 31)), none⟩]) .ret) .skip)) (.seq (.region [⟨(some 33), (.load (some 2) (.tmp
  4)), none⟩, ⟨(some 34), (.mv (.tmp 1)), none⟩, ⟨(some 35), (.mv (.tmp 2)), none⟩, ⟨(some 36), (.mv (.tmp 3)), none⟩, ⟨(some 37), (.call (.func 28) [(.tmp 33), (.tmp 34), (.tmp
  35), (.tmp 36)]), none⟩, ⟨(some 32), (.mv (.tmp 37)), none⟩, ⟨(some 38), (.ext (.tmp 32) 0), none⟩, ⟨(some 39), (.ext (.tmp 32) 1), none⟩, ⟨(some 9), (.mv (.tmp 38)), none⟩,
  ⟨(some 10), (.mv (.tmp 39)), none⟩]) (.seq (.region [⟨(some 41), (.load (some 2) (.tmp 4)), none⟩, ⟨(some 42), (.mv (.tmp 1)), none⟩, ⟨(some 43), (.mv (.tmp 2)), none⟩, ⟨(some
  44), (.mv (.tmp 3)), none⟩, ⟨(some 45), (.call (.func 29) [(.tmp 41), (.tmp 42), (.tmp 43), (.tmp 44)]), none⟩, ⟨(some 40), (.mv (.tmp 45)), none⟩, ⟨(some 46), (.ext (.tmp 40)
  0), none⟩, ⟨(some 47), (.ext (.tmp 40) 1), none⟩, ⟨(some 11), (.mv (.tmp 46)), none⟩, ⟨(some 12), (.mv (.tmp 47)), none⟩]) (.seq (.seq (.region [⟨(some 48), (.mv (.tmp 9)),
  none⟩, ⟨(some 49), (.mv (.tmp 11)), none⟩, ⟨(some 50), (.bin .neq (.tmp 48) (.tmp 49)), none⟩, ⟨(some 51), (.mv (.tmp 50)), none⟩, ⟨(some 52), (.mv (.tmp 10)), (some (51,
  false))⟩, ⟨(some 53), (.mv (.tmp 12)), (some (51, false))⟩, ⟨(some 54), (.bin .neq (.tmp 52) (.tmp 53)), (some (51, false))⟩, ⟨(some 55), (.pick (.tmp 51) (.const (.bool true))
  (.tmp 54)), none⟩]) (.cond (.tmp 55) (.seq (.region [⟨(some 8), (.mv (.const (.bool false))), none⟩]) .ret) .skip)) (.seq (.region [⟨(some 57), (.load (some 2) (.tmp 4)), none⟩,
  ⟨(some 58), (.mv (.tmp 1)), none⟩, ⟨(some 59), (.mv (.tmp 2)), none⟩, ⟨(some 60), (.call (.func 30) [(.tmp 57), (.tmp 58), (.tmp 59)]), none⟩, ⟨(some 56), (.mv (.tmp 60)), none⟩,
   ⟨(some 61), (.ext (.tmp 56) 0), none⟩, ⟨(some 62), (.ext (.tmp 56) 1), none⟩, ⟨(some 13), (.mv (.tmp 61)), none⟩, ⟨(some 14), (.mv (.tmp 62)), none⟩]) (.seq (.seq (.region
  [⟨(some 63), (.mv (.tmp 14)), none⟩, ⟨(some 64), (.load (some 2) (.tmp 4)), none⟩, ⟨(some 65), (.mv (.tmp 1)), none⟩, ⟨(some 66), (.call (.func 31) [(.tmp 64), (.tmp 65)]),
  none⟩, ⟨(some 67), (.bin .neq (.tmp 63) (.tmp 66)), none⟩]) (.cond (.tmp 67) (.seq (.region [⟨(some 8), (.mv (.const (.bool false))), none⟩]) .ret) .skip)) (.seq (.seq (.region
  [⟨(some 68), (.mv (.tmp 14)), none⟩, ⟨(some 69), (.bin .eql (.tmp 68) (.const (.int .i64 0))), none⟩]) (.cond (.tmp 69) (.seq (.region [⟨(some 71), (.load (some 2) (.tmp 4)),
  none⟩, ⟨(some 72), (.mv (.tmp 1)), none⟩, ⟨(some 73), (.call (.func 26) [(.tmp 71), (.tmp 72)]), none⟩, ⟨(some 70), (.mv (.tmp 73)), none⟩, ⟨(some 74), (.ext (.tmp 70) 0), none⟩,
   ⟨(some 75), (.ext (.tmp 70) 1), none⟩, ⟨(some 15), (.alloc [(.int .i64 0), (.int .i64 0)]), none⟩, ⟨none, (.store 2 (.tmp 15) (.tmp 74)), none⟩, ⟨(some 16), (.mv (.tmp 75)),
  none⟩]) (.seq (.region [⟨(some 77), (.load (some 2) (.tmp 4)), none⟩, ⟨(some 78), (.mv (.tmp 1)), none⟩, ⟨(some 79), (.mv (.tmp 2)), none⟩, ⟨(some 80), (.mv (.tmp 13)), none⟩,
  ⟨(some 81), (.call (.func 29) [(.tmp 77), (.tmp 78), (.tmp 79), (.tmp 80)]), none⟩, ⟨(some 76), (.mv (.tmp 81)), none⟩, ⟨(some 82), (.ext (.tmp 76) 0), none⟩, ⟨(some 83), (.ext
  (.tmp 76) 1), none⟩, ⟨(some 17), (.mv (.tmp 82)), none⟩, ⟨(some 18), (.mv (.tmp 83)), none⟩]) (.seq (.region [⟨(some 84), (.mv (.tmp 18)), none⟩, ⟨(some 85), (.bin .neq (.tmp
  84) (.const (.int .i64 0))), none⟩, ⟨(some 86), (.mv (.tmp 85)), none⟩, ⟨(some 87), (.mv (.tmp 2)), (some (86, false))⟩, ⟨(some 88), (.mv (.tmp 87)), (some (86, false))⟩, ⟨(some
  89), (.mv (.tmp 17)), (some (88, true))⟩, ⟨(some 90), (.faddr 1 (.tmp 15)), (some (88, true))⟩, ⟨(some 91), (.load none (.tmp 90)), (some (88, true))⟩, ⟨(some 92), (.bin .neq
  (.tmp 89) (.tmp 91)), (some (88, true))⟩, ⟨(some 93), (.pick (.tmp 88) (.tmp 92) (.const (.bool false))), (some (86, false))⟩, ⟨(some 94), (.pick (.tmp 86) (.const (.bool true))
  (.tmp 93)), none⟩, ⟨(some 95), (.mv (.tmp 94)), none⟩, ⟨(some 96), (.mv (.tmp 2)), (some (95, false))⟩, ⟨(some 97), (.un .not (.tmp 96)), (some (95, false))⟩, ⟨(some 98), (.mv
  (.tmp 97)), (some (95, false))⟩, ⟨(some 99), (.mv (.tmp 17)), (some (98, true))⟩, ⟨(some 100), (.faddr 0 (.tmp 15)), (some (98, true))⟩, ⟨(some 101), (.load none (.tmp 100)),
  (some (98, true))⟩, ⟨(some 102), (.bin .neq (.tmp 99) (.tmp 101)), (some (98, true))⟩, ⟨(some 103), (.pick (.tmp 98) (.tmp 102) (.const (.bool false))), (some (95, false))⟩,
  ⟨(some 104), (.pick (.tmp 95) (.const (.bool true)) (.tmp 103)), none⟩]) (.cond (.tmp 104) (.seq (.region [⟨(some 8), (.mv (.const (.bool false))), none⟩]) .ret) .skip)))) (.seq
  (.region [⟨(some 105), (.mv (.tmp 13)), none⟩, ⟨(some 106), (.len (.tmp 105)), none⟩, ⟨(some 107), (.bin .neq (.tmp 106) (.const (.int .i64 0))), none⟩]) (.cond (.tmp 107) (.seq
  (.region [⟨(some 8), (.mv (.const (.bool false))), none⟩]) .ret) .skip)))) (.seq (.region [⟨(some 109), (.load (some 2) (.tmp 4)), none⟩, ⟨(some 110), (.call (.func 32) [(.tmp
  109)]), none⟩, ⟨(some 108), (.mv (.tmp 110)), none⟩, ⟨(some 111), (.ext (.tmp 108) 0), none⟩, ⟨(some 112), (.ext (.tmp 108) 1), none⟩, ⟨(some 19), (.mv (.tmp 111)), none⟩,
  ⟨(some 14), (.mv (.tmp 112)), none⟩]) (.seq (.seq (.region [⟨(some 113), (.load (some 2) (.tmp 4)), none⟩, ⟨(some 114), (.call (.func 20) [(.tmp 113)]), none⟩, ⟨(some 115),
  (.bin .neq (.tmp 114) (.const (.int .i64 0))), none⟩]) (.cond (.tmp 115) (.seq (.region [⟨(some 116), (.mv (.tmp 14)), none⟩, ⟨(some 117), (.load (some 2) (.tmp 4)), none⟩,
  ⟨(some 118), (.call (.func 20) [(.tmp 117)]), none⟩, ⟨(some 119), (.bin .eql (.tmp 116) (.tmp 118)), none⟩, ⟨(some 120), (.mv (.tmp 119)), none⟩, ⟨(some 121), (.mv (.tmp 19)),
  (some (120, true))⟩, ⟨(some 122), (.len (.tmp 121)), (some (120, true))⟩, ⟨(some 123), (.bin .eql (.tmp 122) (.const (.int .i64 0))), (some (120, true))⟩, ⟨(some 124), (.pick
  (.tmp 120) (.tmp 123) (.const (.bool false))), none⟩, ⟨(some 125), (.mv (.tmp 124)), none⟩, ⟨(some 126), (.call (.func 16) []), (some (125, true))⟩, ⟨(some 127), (.pick (.tmp
  125) (.tmp 126) (.const (.bool false))), none⟩, ⟨(some 8), (.mv (.tmp 127)), none⟩]) .ret) .skip)) (.seq (.region [⟨(some 129), (.load (some 2) (.tmp 4)), none⟩, ⟨(some 130),
  (.call (.func 24) [(.tmp 129)]), none⟩, ⟨(some 128), (.mv (.tmp 130)), none⟩, ⟨(some 131), (.ext (.tmp 128) 0), none⟩, ⟨(some 132), (.ext (.tmp 128) 1), none⟩, ⟨(some 20), (.mv
  (.tmp 131)), none⟩, ⟨(some 21), (.mv (.tmp 132)), none⟩]) (.seq (.seq (.region [⟨(some 133), (.mv (.tmp 21)), none⟩]) (.cond (.tmp 133) (.seq (.region [⟨(some 134), (.mv (.tmp
  14)), none⟩, ⟨(some 135), (.bin .eql (.tmp 134) (.const (.int .i64 5))), none⟩, ⟨(some 136), (.mv (.tmp 135)), none⟩, ⟨(some 137), (.mv (.tmp 19)), (some (136, true))⟩, ⟨(some
  138), (.len (.tmp 137)), (some (136, true))⟩, ⟨(some 139), (.bin .eql (.tmp 138) (.const (.int .i64 0))), (some (136, true))⟩, ⟨(some 140), (.pick (.tmp 136) (.tmp 139) (.const
  (.bool false))), none⟩, ⟨(some 141), (.mv (.tmp 140)), none⟩, ⟨(some 142), (.call (.func 16) []), (some (141, true))⟩, ⟨(some 143), (.pick (.tmp 141) (.tmp 142) (.const (.bool
  false))), none⟩, ⟨(some 8), (.mv (.tmp 143)), none⟩]) .ret) .skip)) (.seq (.region [⟨(some 145), (.load (some 2) (.tmp 4)), none⟩, ⟨(some 146), (.mv (.tmp 19)), none⟩, ⟨(some
  147), (.call (.func 18) [(.tmp 145), (.tmp 146)]), none⟩, ⟨(some 144), (.mv (.tmp 147)), none⟩, ⟨(some 148), (.ext (.tmp 144) 0), none⟩, ⟨(some 149), (.ext (.tmp 144) 1), none⟩,
  ⟨(some 22), (.mv (.tmp 148)), none⟩, ⟨(some 23), (.mv (.tmp 149)), none⟩]) (.seq (.region [⟨(some 150), (.mv (.tmp 14)), none⟩, ⟨(some 151), (.bin .eql (.tmp 150) (.const (.int
  .i64 0))), none⟩, ⟨(some 152), (.mv (.tmp 151)), none⟩, ⟨(some 153), (.mv (.tmp 23)), (some (152, true))⟩, ⟨(some 154), (.bin .eql (.tmp 153) (.const (.int .i64 0))), (some (152,
   true))⟩, ⟨(some 155), (.pick (.tmp 152) (.tmp 154) (.const (.bool false))), none⟩, ⟨(some 156), (.mv (.tmp 155)), none⟩, ⟨(some 157), (.call (.func 16) []), (some (156, true))⟩,
   ⟨(some 158), (.pick (.tmp 156) (.tmp 157) (.const (.bool false))), none⟩, ⟨(some 8), (.mv (.tmp 158)), none⟩]) .ret))))))))))))))⟩
def af6 : AFn := ⟨62, [(.tmp 6)], (.seq (.region [⟨(some 4), (.box (.tmp 1)), none⟩, ⟨(some 6), (.mv (.const (.bool false))), none⟩]) (.seq (.seq (.region [⟨(some 15), (.mv (.tmp 2)), none⟩,
  ⟨(some 16), (.len (.tmp 15)), none⟩, ⟨(some 17), (.bin .gtr (.tmp 16) (.const (.int .i64 30))), none⟩]) (.cond (.tmp 17) (.seq (.region [⟨(some 18), (.call (.func 16) []), none⟩,
   ⟨(some 6), (.mv (.tmp 18)), none⟩]) .ret) .skip)) (.seq (.region [⟨(some 20), (.mv (.tmp 0)), none⟩, ⟨(some 21), (.load (some 2) (.tmp 4)), none⟩, ⟨(some 22), (.call (.func 33)
  [(.tmp 20), (.tmp 21)]), none⟩, ⟨(some 19), (.mv (.tmp 22)), none⟩, ⟨(some 23), (.ext (.tmp 19) 0), none⟩, ⟨(some 24), (.ext (.tmp 19) 1), none⟩, ⟨(some 7), (.alloc [(.int .i64
  0), (.int .i64 0)]), none⟩, ⟨none, (.store 2 (.tmp 7) (.tmp 23)), none⟩, ⟨(some 8), (.mv (.tmp 24)), none⟩]) (.seq (.region [⟨(some 26), (.mv (.tmp 0)), none⟩, ⟨(some 27),
  (.load (some 2) (.tmp 4)), none⟩, ⟨(some 28), (.call (.func 34) [(.tmp 26), (.tmp 27)]), none⟩, ⟨(some 25), (.mv (.tmp 28)), none⟩, ⟨(some 29), (.ext (.tmp 25) 0), none⟩, ⟨(some
  30), (.ext (.tmp 25) 1), none⟩, ⟨(some 9), (.alloc [(.int .i64 0), (.int .i64 0)]), none⟩, ⟨none, (.store 2 (.tmp 9) (.tmp 29)), none⟩, ⟨(some 10), (.mv (.tmp 30)), none⟩])
  (.seq (.region [⟨(some 32), (.mv (.tmp 2)), none⟩, ⟨(some 33), (.call (.func 35) [(.tmp 32)]), none⟩, ⟨(some 31), (.mv (.tmp 33)), none⟩, ⟨(some 34), (.ext (.tmp 31) 0), none⟩,
  ⟨(some 35), (.ext (.tmp 31) 1), none⟩, ⟨(some 11), (.alloc [(.int .i64 0), (.int .i64 0)]), none⟩, ⟨none, (.store 2 (.tmp 11) (.tmp 34)), none⟩, ⟨(some 12), (.mv (.tmp 35)),
  none⟩]) (.seq (.region [⟨(some 37), (.mv (.tmp 2)), none⟩, ⟨(some 38), (.call (.func 36) [(.tmp 37)]), none⟩, ⟨(some 36), (.mv (.tmp 38)), none⟩, ⟨(some 39), (.ext (.tmp 36) 0),
  none⟩, ⟨(some 40), (.ext (.tmp 36) 1), none⟩, ⟨(some 13), (.alloc [(.int .i64 0), (.int .i64 0)]), none⟩, ⟨none, (.store 2 (.tmp 13) (.tmp 39)), none⟩, ⟨(some 14), (.mv (.tmp
  40)), none⟩]) (.seq (.region [⟨(some 41), (.load (some 2) (.tmp 7)), none⟩, ⟨(some 42), (.load (some 2) (.tmp 9)), none⟩, ⟨(some 43), (.eqf false true [.int, .int] (.tmp 41)
  (.tmp 42)), none⟩, ⟨(some 44), (.mv (.tmp 43)), none⟩, ⟨(some 45), (.mv (.tmp 8)), (some (44, true))⟩, ⟨(some 46), (.mv (.tmp 10)), (some (44, true))⟩, ⟨(some 47), (.bin .eql
  (.tmp 45) (.tmp 46)), (some (44, true))⟩, ⟨(some 48), (.pick (.tmp 44) (.tmp 47) (.const (.bool false))), none⟩, ⟨(some 49), (.mv (.tmp 48)), none⟩, ⟨(some 50), (.load (some 2)
  (.tmp 11)), (some (49, true))⟩, ⟨(some 51), (.load (some 2) (.tmp 13)), (some (49, true))⟩, ⟨(some 52), (.eqf false true [.int, .int] (.tmp 50) (.tmp 51)), (some (49, true))⟩,
  ⟨(some 53), (.pick (.tmp 49) (.tmp 52) (.const (.bool false))), none⟩, ⟨(some 54), (.mv (.tmp 53)), none⟩, ⟨(some 55), (.mv (.tmp 12)), (some (54, true))⟩, ⟨(some 56), (.mv
  (.tmp 14)), (some (54, true))⟩, ⟨(some 57), (.bin .eql (.tmp 55) (.tmp 56)), (some (54, true))⟩, ⟨(some 58), (.pick (.tmp 54) (.tmp 57) (.const (.bool false))), none⟩, ⟨(some
  59), (.mv (.tmp 58)), none⟩, ⟨(some 60), (.call (.func 16) []), (some (59, true))⟩, ⟨(some 61), (.pick (.tmp 59) (.tmp 60) (.const (.bool false))), none⟩, ⟨(some 6), (.mv (.tmp
  61)), none⟩]) .ret)))))))⟩
def af7 : AFn := ⟨177, [(.tmp 6)], (.seq (.region [⟨(some 3), (.box (.tmp 0)), none⟩, ⟨(some 6), (.mv (.const (.bool false))), none⟩]) (.seq (.seq (.region [⟨(some 22), (.load (some 2) (.tmp 3)),
  none⟩, ⟨(some 23), (.call (.func 37) [(.tmp 22)]), none⟩, ⟨(some 24), (.un .not (.tmp 23)), none⟩, ⟨(some 25), (.mv (.tmp 24)), none⟩, ⟨(some 26), (.mv (.tmp 1)), (some (25,
  false))⟩, ⟨(some 27), (.len (.tmp 26)), (some (25, false))⟩, ⟨(some 28), (.bin .gtr (.tmp 27) (.const (.int .i64 60))), (some (25, false))⟩, ⟨(some 29), (.pick (.tmp 25) (.const
  (.bool true)) (.tmp 28)), none⟩, ⟨(some 30), (.mv (.tmp 29)), none⟩, ⟨(some 31), (.faddr 1 (.tmp 3)), (some (30, false))⟩, ⟨(some 32), (.load none (.tmp 31)), (some (30,
  false))⟩, ⟨(some 33), (.len (.tmp 32)), (some (30, false))⟩, ⟨(some 34), (.bin .eql (.tmp 33) (.const (.int .i64 0))), (some (30, false))⟩, ⟨(some 35), (.pick (.tmp 30) (.const
  (.bool true)) (.tmp 34)), none⟩]) (.cond (.tmp 35) (.seq (.region [⟨(some 36), (.call (.func 16) []), none⟩, ⟨(some 6), (.mv (.tmp 36)), none⟩]) .ret) .skip)) (.seq (.region
  [⟨(some 37), (.mv (.tmp 2)), none⟩, ⟨(some 38), (.conv .i64 (.tmp 37)), none⟩, ⟨(some 39), (.faddr 1 (.tmp 3)), none⟩, ⟨(some 40), (.load none (.tmp 39)), none⟩, ⟨(some 41),
  (.len (.tmp 40)), none⟩, ⟨(some 42), (.bin .rem (.tmp 38) (.tmp 41)), none⟩, ⟨(some 7), (.mv (.tmp 42)), none⟩]) (.seq (.region [⟨(some 44), (.load (some 2) (.tmp 3)), none⟩,
  ⟨(some 45), (.mv (.tmp 1)), none⟩, ⟨(some 46), (.call (.func 38) [(.tmp 44), (.tmp 45)]), none⟩, ⟨(some 43), (.mv (.tmp 46)), none⟩, ⟨(some 47), (.ext (.tmp 43) 0), none⟩,
  ⟨(some 48), (.ext (.tmp 43) 1), none⟩, ⟨(some 8), (.mv (.tmp 47)), none⟩, ⟨(some 9), (.mv (.tmp 48)), none⟩]) (.seq (.region [⟨(some 50), (.load (some 2) (.tmp 3)), none⟩,
  ⟨(some 51), (.mv (.tmp 7)), none⟩, ⟨(some 52), (.call (.func 25) [(.tmp 50), (.tmp 51)]), none⟩, ⟨(some 49), (.mv (.tmp 52)), none⟩, ⟨(some 53), (.ext (.tmp 49) 0), none⟩,
  ⟨(some 54), (.ext (.tmp 49) 1), none⟩, ⟨(some 10), (.alloc [(.int .i64 0), (.int .i64 0)]), none⟩, ⟨none, (.store 2 (.tmp 10) (.tmp 53)), none⟩, ⟨(some 11), (.mv (.tmp 54)),
  none⟩]) (.seq (.seq (.region [⟨(some 55), (.mv (.tmp 9)), none⟩, ⟨(some 56), (.un .not (.tmp 55)), none⟩]) (.cond (.tmp 56) (.seq (.region [⟨(some 57), (.mv (.tmp 11)), none⟩,
  ⟨(some 58), (.bin .eql (.tmp 57) (.const (.int .i64 21))), none⟩, ⟨(some 59), (.mv (.tmp 58)), none⟩, ⟨(some 60), (.call (.func 16) []), (some (59, true))⟩, ⟨(some 61), (.pick
  (.tmp 59) (.tmp 60) (.const (.bool false))), none⟩, ⟨(some 6), (.mv (.tmp 61)), none⟩]) .ret) .skip)) (.seq (.seq (.draw [⟨(some 62), (.mv (.tmp 11)), none⟩, ⟨(some 63), (.bin
  .neq (.tmp 62) (.const (.int .i64 0))), none⟩, ⟨(some 64), (.mv (.tmp 63)), none⟩, ⟨(some 65), (.load (some 2) (.tmp 3)), (some (64, false))⟩, ⟨(some 66), (.mv (.tmp 8)), (some
  (64, false))⟩, ⟨(some 67), (.call (.func 21) [(.tmp 65), (.tmp 66)]), (some (64, false))⟩, ⟨(some 68), (.bin .neq (.tmp 67) (.const (.int .i64 0))), (some (64, false))⟩, ⟨(some
  69), (.pick (.tmp 64) (.const (.bool true)) (.tmp 68)), none⟩, ⟨(some 70), (.mv (.tmp 69)), none⟩, ⟨(some 71), (.mv (.tmp 8)), (some (70, false))⟩, ⟨(some 72), (.mv (.tmp 7)),
  (some (70, false))⟩, ⟨(some 73), (.iaddrS 1 (.tmp 71) (.tmp 72)), (some (70, false))⟩, ⟨(some 74), (.load none (.tmp 73)), (some (70, false))⟩, ⟨(some 75), (.faddr 0 (.tmp 10)),
  (some (70, false))⟩, ⟨(some 76), (.load none (.tmp 75)), (some (70, false))⟩, ⟨(some 77), (.bin .lss (.tmp 74) (.tmp 76)), (some (70, false))⟩, ⟨(some 78), (.pick (.tmp 70)
  (.const (.bool true)) (.tmp 77)), none⟩, ⟨(some 79), (.mv (.tmp 78)), none⟩, ⟨(some 80), (.mv (.tmp 8)), (some (79, false))⟩, ⟨(some 81), (.mv (.tmp 7)), (some (79, false))⟩,
  ⟨(some 82), (.iaddrS 1 (.tmp 80) (.tmp 81)), (some (79, false))⟩, ⟨(some 83), (.load none (.tmp 82)), (some (79, false))⟩, ⟨(some 84), (.faddr 1 (.tmp 10)), (some (79, false))⟩,
  ⟨(some 85), (.load none (.tmp 84)), (some (79, false))⟩, ⟨(some 86), (.bin .gtr (.tmp 83) (.tmp 85)), (some (79, false))⟩, ⟨(some 87), (.pick (.tmp 79) (.const (.bool true))
  (.tmp 86)), none⟩] []) (.cond (.tmp 87) (.seq (.region [⟨(some 6), (.mv (.const (.bool false))), none⟩]) .ret) .skip)) (.seq (.seq (.region [⟨(some 12), (.mv (.const (.int .i64
  0))), none⟩]) (.block 0 (.loop (.seq (.seq (.region [⟨(some 88), (.mv (.tmp 12)), none⟩, ⟨(some 89), (.bin .lss (.tmp 88) (.const (.int .i64 2))), none⟩]) (.cond (.tmp 89) .skip
  (.exit 0))) (.seq (.block 1 (.seq (.region [⟨(some 92), (.faddr 0 (.tmp 10)), none⟩, ⟨(some 93), (.load none (.tmp 92)), none⟩, ⟨(some 13), (.mv (.tmp 93)), none⟩]) (.seq (.seq
  (.region [⟨(some 94), (.mv (.tmp 12)), none⟩, ⟨(some 95), (.bin .eql (.tmp 94) (.const (.int .i64 1))), none⟩]) (.cond (.tmp 95) (.region [⟨(some 96), (.faddr 1 (.tmp 10)),
  none⟩, ⟨(some 97), (.load none (.tmp 96)), none⟩, ⟨(some 13), (.mv (.tmp 97)), none⟩]) .skip)) (.seq (.region [⟨(some 99), (.load (some 2) (.tmp 3)), none⟩, ⟨(some 100), (.mv
  (.tmp 7)), none⟩, ⟨(some 101), (.mv (.tmp 12)), none⟩, ⟨(some 102), (.bin .eql (.tmp 101) (.const (.int .i64 1))), none⟩, ⟨(some 103), (.call (.func 27) [(.tmp 99), (.tmp 100),
  (.tmp 102)]), none⟩, ⟨(some 98), (.mv (.tmp 103)), none⟩, ⟨(some 104), (.ext (.tmp 98) 0), none⟩, ⟨(some 105), (.ext (.tmp 98) 1), none⟩, ⟨(some 14), (.mv (.tmp 104)), none⟩,
  ⟨(some 15), (.mv (.tmp 105)), none⟩]) (.seq (.region [⟨(some 107), (.load (some 2) (.tmp 3)), none⟩, ⟨(some 108), (.mv (.tmp 7)), none⟩, ⟨(some 109), (.mv (.tmp 12)), none⟩,
  ⟨(some 110), (.bin .eql (.tmp 109) (.const (.int .i64 1))), none⟩, ⟨(some 111), (.call (.func 30) [(.tmp 107), (.tmp 108), (.tmp 110)]), none⟩, ⟨(some 106), (.mv (.tmp 111)),
  none⟩, ⟨(some 112), (.ext (.tmp 106) 0), none⟩, ⟨(some 113), (.ext (.tmp 106) 1), none⟩, ⟨(some 16), (.mv (.tmp 112)), none⟩, ⟨(some 17), (.mv (.tmp 113)), none⟩]) (.seq
  (.region [⟨(some 115), (.load (some 2) (.tmp 3)), none⟩, ⟨(some 116), (.mv (.tmp 7)), none⟩, ⟨(some 117), (.mv (.tmp 12)), none⟩, ⟨(some 118), (.bin .eql (.tmp 117) (.const
  (.int .i64 1))), none⟩, ⟨(some 119), (.mv (.tmp 16)), none⟩, ⟨(some 120), (.call (.func 28) [(.tmp 115), (.tmp 116), (.tmp 118), (.tmp 119)]), none⟩, ⟨(some 114), (.mv (.tmp
  120)), none⟩, ⟨(some 121), (.ext (.tmp 114) 0), none⟩, ⟨(some 122), (.ext (.tmp 114) 1), none⟩, ⟨(some 18), (.mv (.tmp 121)), none⟩, ⟨(some 19), (.mv (.tmp 122)), none⟩]) (.seq
  (.region [⟨(some 124), (.load (some 2) (.tmp 3)), none⟩, ⟨(some 125), (.mv (.tmp 7)), none⟩, ⟨(some 126), (.mv (.tmp 12)), none⟩, ⟨(some 127), (.bin .eql (.tmp 126) (.const
  (.int .i64 1))), none⟩, ⟨(some 128), (.mv (.tmp 16)), none⟩, ⟨(some 129), (.call (.func 29) [(.tmp 124), (.tmp 125), (.tmp 127), (.tmp 128)]), none⟩, ⟨(some 123), (.mv (.tmp
  129)), none⟩, ⟨(some 130), (.ext (.tmp 123) 0), none⟩, ⟨(some 131), (.ext (.tmp 123) 1), none⟩, ⟨(some 20), (.mv (.tmp 130)), none⟩, ⟨(some 21), (.mv (.tmp 131)), none⟩]) (.seq
  (.region [⟨(some 132), (.mv (.tmp 15)), none⟩, ⟨(some 133), (.bin .neq (.tmp 132) (.const (.int .i64 0))), none⟩, ⟨(some 134), (.mv (.tmp 133)), none⟩, ⟨(some 135), (.mv (.tmp
  17)), (some (134, false))⟩, ⟨(some 136), (.bin .neq (.tmp 135) (.const (.int .i64 0))), (some (134, false))⟩, ⟨(some 137), (.pick (.tmp 134) (.const (.bool true)) (.tmp 136)),
  none⟩, ⟨(some 138), (.mv (.tmp 137)), none⟩, ⟨(some 139), (.mv (.tmp 19)), (some (138, false))⟩, ⟨(some 140), (.bin .neq (.tmp 139) (.const (.int .i64 0))), (some (138, false))⟩,
   ⟨(some 141), (.pick (.tmp 138) (.const (.bool true)) (.tmp 140)), none⟩, ⟨(some 142), (.mv (.tmp 141)), none⟩, ⟨(some 143), (.mv (.tmp 21)), (some (142, false))⟩, ⟨(some 144),
  (.bin .neq (.tmp 143) (.const (.int .i64 0))), (some (142, false))⟩, ⟨(some 145), (.pick (.tmp 142) (.const (.bool true)) (.tmp 144)), none⟩, ⟨(some 146), (.mv (.tmp 145)),
  none⟩, ⟨(some 147), (.load (some 2) (.tmp 3)), (some (146, false))⟩, ⟨(some 148), (.mv (.tmp 14)), (some (146, false))⟩, ⟨(some 149), (.call (.func 21) [(.tmp 147), (.tmp 148)]),
   (some (146, false))⟩, ⟨(some 150), (.bin .neq (.tmp 149) (.const (.int .i64 0))), (some (146, false))⟩, ⟨(some 151), (.pick (.tmp 146) (.const (.bool true)) (.tmp 150)), none⟩,
  ⟨(some 152), (.mv (.tmp 151)), none⟩, ⟨(some 153), (.load (some 2) (.tmp 3)), (some (152, false))⟩, ⟨(some 154), (.mv (.tmp 14)), (some (152, false))⟩, ⟨(some 155), (.call
  (.func 22) [(.tmp 153), (.tmp 154)]), (some (152, false))⟩, ⟨(some 156), (.bin .neq (.tmp 155) (.const (.int .i64 0))), (some (152, false))⟩, ⟨(some 157), (.pick (.tmp 152)
  (.const (.bool true)) (.tmp 156)), none⟩, ⟨(some 158), (.mv (.tmp 157)), none⟩, ⟨(some 159), (.mv (.tmp 14)), (some (158, false))⟩, ⟨(some 160), (.mv (.tmp 7)), (some (158,
  false))⟩, ⟨(some 161), (.iaddrS 1 (.tmp 159) (.tmp 160)), (some (158, false))⟩, ⟨(some 162), (.load none (.tmp 161)), (some (158, false))⟩, ⟨(some 163), (.mv (.tmp 13)), (some
  (158, false))⟩, ⟨(some 164), (.bin .neq (.tmp 162) (.tmp 163)), (some (158, false))⟩, ⟨(some 165), (.pick (.tmp 158) (.const (.bool true)) (.tmp 164)), none⟩, ⟨(some 166), (.mv
  (.tmp 165)), none⟩, ⟨(some 167), (.mv (.tmp 18)), (some (166, false))⟩, ⟨(some 168), (.mv (.tmp 13)), (some (166, false))⟩, ⟨(some 169), (.bin .neq (.tmp 167) (.tmp 168)), (some
  (166, false))⟩, ⟨(some 170), (.pick (.tmp 166) (.const (.bool true)) (.tmp 169)), none⟩, ⟨(some 171), (.mv (.tmp 170)), none⟩, ⟨(some 172), (.mv (.tmp 20)), (some (171, false))⟩,
   ⟨(some 173), (.mv (.tmp 13)), (some (171, false))⟩, ⟨(some 174), (.bin .neq (.tmp 172) (.tmp 173)), (some (171, false))⟩, ⟨(some 175), (.pick (.tmp 171) (.const (.bool true))
  (.tmp 174)), none⟩]) (.cond (.tmp 175) (.seq (.region [⟨(some 6), (.mv (.const (.bool false))), none⟩]) .ret) .skip))))))))) (.region [⟨(some 90), (.mv (.tmp 12)), none⟩, ⟨(some
  91), (.bin .add (.tmp 90) (.const (.int .i64 1))), none⟩, ⟨(some 12), (.mv (.tmp 91)), none⟩])))))) (.seq (.region [⟨(some 176), (.call (.func 16) []), none⟩, ⟨(some 6), (.mv
  (.tmp 176)), none⟩]) .ret)))))))))⟩
def af8 : AFn := ⟨121, [(.tmp 6)], (.seq (.region [⟨(some 3), (.box (.tmp 0)), none⟩, ⟨(some 6), (.mv (.const (.bool false))), none⟩]) (.seq (.seq (.region [⟨(some 17), (.load (some 2) (.tmp 3)),
  none⟩, ⟨(some 18), (.call (.func 37) [(.tmp 17)]), none⟩, ⟨(some 19), (.un .not (.tmp 18)), none⟩, ⟨(some 20), (.mv (.tmp 19)), none⟩, ⟨(some 21), (.mv (.tmp 2)), (some (20,
  false))⟩, ⟨(some 22), (.len (.tmp 21)), (some (20, false))⟩, ⟨(some 23), (.bin .gtr (.tmp 22) (.const (.int .i64 60))), (some (20, false))⟩, ⟨(some 24), (.pick (.tmp 20) (.const
  (.bool true)) (.tmp 23)), none⟩]) (.cond (.tmp 24) (.seq (.region [⟨(some 25), (.call (.func 16) []), none⟩, ⟨(some 6), (.mv (.tmp 25)), none⟩]) .ret) .skip)) (.seq (.region
  [⟨(some 27), (.load (some 2) (.tmp 3)), none⟩, ⟨(some 28), (.call (.func 23) [(.tmp 27)]), none⟩, ⟨(some 26), (.mv (.tmp 28)), none⟩, ⟨(some 29), (.ext (.tmp 26) 0), none⟩,
  ⟨(some 30), (.ext (.tmp 26) 1), none⟩, ⟨(some 7), (.mv (.tmp 29)), none⟩, ⟨(some 8), (.mv (.tmp 30)), none⟩]) (.seq (.region [⟨(some 32), (.load (some 2) (.tmp 3)), none⟩,
  ⟨(some 33), (.call (.func 32) [(.tmp 32)]), none⟩, ⟨(some 31), (.mv (.tmp 33)), none⟩, ⟨(some 34), (.ext (.tmp 31) 0), none⟩, ⟨(some 35), (.ext (.tmp 31) 1), none⟩, ⟨(some 9),
  (.mv (.tmp 34)), none⟩, ⟨(some 10), (.mv (.tmp 35)), none⟩]) (.seq (.seq (.region [⟨(some 36), (.mv (.tmp 8)), none⟩, ⟨(some 37), (.bin .eql (.tmp 36) (.const (.int .i64 0))),
  none⟩]) (.cond (.tmp 37) (.seq (.draw [⟨(some 39), (.load (some 2) (.tmp 3)), none⟩, ⟨(some 40), (.load (some 2) (.tmp 3)), none⟩, ⟨(some 41), (.mv (.tmp 1)), none⟩, ⟨(some 42),
  (.call (.func 39) [(.tmp 40), (.tmp 41)]), none⟩, ⟨(some 43), (.call (.func 17) [(.tmp 39), (.tmp 42)]), none⟩, ⟨(some 38), (.mv (.tmp 43)), none⟩, ⟨(some 44), (.ext (.tmp 38)
  0), none⟩, ⟨(some 45), (.ext (.tmp 38) 1), none⟩, ⟨(some 11), (.mv (.tmp 44)), none⟩, ⟨(some 12), (.mv (.tmp 45)), none⟩] [(0, 3)]) (.seq (.region [⟨(some 46), (.load (some 2)
  (.tmp 3)), none⟩, ⟨(some 47), (.mv (.tmp 7)), none⟩, ⟨(some 48), (.call (.func 21) [(.tmp 46), (.tmp 47)]), none⟩, ⟨(some 49), (.bin .eql (.tmp 48) (.const (.int .i64 0))),
  none⟩, ⟨(some 50), (.mv (.tmp 49)), none⟩, ⟨(some 51), (.load (some 2) (.tmp 3)), (some (50, true))⟩, ⟨(some 52), (.mv (.tmp 7)), (some (50, true))⟩, ⟨(some 53), (.call (.func
  22) [(.tmp 51), (.tmp 52)]), (some (50, true))⟩, ⟨(some 54), (.bin .eql (.tmp 53) (.const (.int .i64 0))), (some (50, true))⟩, ⟨(some 55), (.pick (.tmp 50) (.tmp 54) (.const
  (.bool false))), none⟩, ⟨(some 56), (.mv (.tmp 55)), none⟩, ⟨(some 57), (.mv (.tmp 10)), (some (56, true))⟩, ⟨(some 58), (.bin .eql (.tmp 57) (.const (.int .i64 5))), (some (56,
  true))⟩, ⟨(some 59), (.pick (.tmp 56) (.tmp 58) (.const (.bool false))), none⟩, ⟨(some 60), (.mv (.tmp 59)), none⟩, ⟨(some 61), (.mv (.tmp 9)), (some (60, true))⟩, ⟨(some 62),
  (.len (.tmp 61)), (some (60, true))⟩, ⟨(some 63), (.bin .eql (.tmp 62) (.const (.int .i64 0))), (some (60, true))⟩, ⟨(some 64), (.pick (.tmp 60) (.tmp 63) (.const (.bool
  false))), none⟩, ⟨(some 65), (.mv (.tmp 64)), none⟩, ⟨(some 66), (.mv (.tmp 12)), (some (65, true))⟩, ⟨(some 67), (.bin .eql (.tmp 66) (.const (.int .i64 5))), (some (65,
  true))⟩, ⟨(some 68), (.pick (.tmp 65) (.tmp 67) (.const (.bool false))), none⟩, ⟨(some 69), (.mv (.tmp 68)), none⟩, ⟨(some 70), (.call (.func 16) []), (some (69, true))⟩, ⟨(some
  71), (.pick (.tmp 69) (.tmp 70) (.const (.bool false))), none⟩, ⟨(some 6), (.mv (.tmp 71)), none⟩]) .ret)) .skip)) (.seq (.region [⟨(some 73), (.load (some 2) (.tmp 3)), none⟩,
  ⟨(some 74), (.mv (.tmp 9)), none⟩, ⟨(some 75), (.call (.func 17) [(.tmp 73), (.tmp 74)]), none⟩, ⟨(some 72), (.mv (.tmp 75)), none⟩, ⟨(some 76), (.ext (.tmp 72) 0), none⟩,
  ⟨(some 77), (.ext (.tmp 72) 1), none⟩, ⟨(some 13), (.mv (.tmp 76)), none⟩, ⟨(some 14), (.mv (.tmp 77)), none⟩]) (.seq (.region [⟨(some 79), (.load (some 2) (.tmp 3)), none⟩,
  ⟨(some 80), (.mv (.tmp 9)), none⟩, ⟨(some 81), (.call (.func 18) [(.tmp 79), (.tmp 80)]), none⟩, ⟨(some 78), (.mv (.tmp 81)), none⟩, ⟨(some 82), (.ext (.tmp 78) 0), none⟩,
  ⟨(some 83), (.ext (.tmp 78) 1), none⟩, ⟨(some 15), (.mv (.tmp 82)), none⟩, ⟨(some 16), (.mv (.tmp 83)), none⟩]) (.seq (.region [⟨(some 84), (.mv (.tmp 8)), none⟩, ⟨(some 85),
  (.bin .eql (.tmp 84) (.const (.int .i64 21))), none⟩, ⟨(some 86), (.mv (.tmp 85)), none⟩, ⟨(some 87), (.mv (.tmp 7)), (some (86, true))⟩, ⟨(some 88), (.len (.tmp 87)), (some (86,
   true))⟩, ⟨(some 89), (.bin .eql (.tmp 88) (.const (.int .i64 0))), (some (86, true))⟩, ⟨(some 90), (.pick (.tmp 86) (.tmp 89) (.const (.bool false))), none⟩, ⟨(some 91), (.mv
  (.tmp 90)), none⟩, ⟨(some 92), (.mv (.tmp 10)), (some (91, true))⟩, ⟨(some 93), (.bin .eql (.tmp 92) (.const (.int .i64 0))), (some (91, true))⟩, ⟨(some 94), (.pick (.tmp 91)
  (.tmp 93) (.const (.bool false))), none⟩, ⟨(some 95), (.mv (.tmp 94)), none⟩, ⟨(some 96), (.mv (.tmp 14)), (some (95, true))⟩, ⟨(some 97), (.bin .eql (.tmp 96) (.const (.int
  .i64 0))), (some (95, true))⟩, ⟨(some 98), (.pick (.tmp 95) (.tmp 97) (.const (.bool false))), none⟩, ⟨(some 99), (.mv (.tmp 98)), none⟩, ⟨(some 100), (.mv (.tmp 16)), (some (99,
   true))⟩, ⟨(some 101), (.bin .eql (.tmp 100) (.const (.int .i64 0))), (some (99, true))⟩, ⟨(some 102), (.pick (.tmp 99) (.tmp 101) (.const (.bool false))), none⟩, ⟨(some 103),
  (.mv (.tmp 102)), none⟩, ⟨(some 104), (.mv (.tmp 13)), (some (103, true))⟩, ⟨(some 105), (.bin .gtr (.tmp 104) (.const (.int .i64 0))), (some (103, true))⟩, ⟨(some 106), (.pick
  (.tmp 103) (.tmp 105) (.const (.bool false))), none⟩, ⟨(some 107), (.mv (.tmp 106)), none⟩, ⟨(some 108), (.mv (.tmp 13)), (some (107, true))⟩, ⟨(some 109), (.mv (.tmp 15)),
  (some (107, true))⟩, ⟨(some 110), (.bin .eql (.tmp 108) (.tmp 109)), (some (107, true))⟩, ⟨(some 111), (.pick (.tmp 107) (.tmp 110) (.const (.bool false))), none⟩, ⟨(some 112),
  (.mv (.tmp 111)), none⟩, ⟨(some 113), (.load (some 2) (.tmp 3)), (some (112, true))⟩, ⟨(some 114), (.mv (.tmp 2)), (some (112, true))⟩, ⟨(some 115), (.call (.func 21) [(.tmp
  113), (.tmp 114)]), (some (112, true))⟩, ⟨(some 116), (.bin .neq (.tmp 115) (.const (.int .i64 0))), (some (112, true))⟩, ⟨(some 117), (.pick (.tmp 112) (.tmp 116) (.const
  (.bool false))), none⟩, ⟨(some 118), (.mv (.tmp 117)), none⟩, ⟨(some 119), (.call (.func 16) []), (some (118, true))⟩, ⟨(some 120), (.pick (.tmp 118) (.tmp 119) (.const (.bool
  false))), none⟩, ⟨(some 6), (.mv (.tmp 120)), none⟩]) .ret))))))))⟩
def af9 : AFn := ⟨105, [(.tmp 8)], (.seq (.region [⟨(some 4), (.box (.tmp 0)), none⟩, ⟨(some 8), (.mv (.const (.bool false))), none⟩]) (.seq (.seq (.region [⟨(some 18), (.load (some 2) (.tmp 4)),
  none⟩, ⟨(some 19), (.call (.func 37) [(.tmp 18)]), none⟩, ⟨(some 20), (.un .not (.tmp 19)), none⟩, ⟨(some 21), (.mv (.tmp 20)), none⟩, ⟨(some 22), (.mv (.tmp 1)), (some (21,
  false))⟩, ⟨(some 23), (.len (.tmp 22)), (some (21, false))⟩, ⟨(some 24), (.bin .gtr (.tmp 23) (.const (.int .i64 60))), (some (21, false))⟩, ⟨(some 25), (.pick (.tmp 21) (.const
  (.bool true)) (.tmp 24)), none⟩, ⟨(some 26), (.mv (.tmp 25)), none⟩, ⟨(some 27), (.faddr 1 (.tmp 4)), (some (26, false))⟩, ⟨(some 28), (.load none (.tmp 27)), (some (26,
  false))⟩, ⟨(some 29), (.len (.tmp 28)), (some (26, false))⟩, ⟨(some 30), (.bin .eql (.tmp 29) (.const (.int .i64 0))), (some (26, false))⟩, ⟨(some 31), (.pick (.tmp 26) (.const
  (.bool true)) (.tmp 30)), none⟩]) (.cond (.tmp 31) (.seq (.region [⟨(some 32), (.call (.func 16) []), none⟩, ⟨(some 8), (.mv (.tmp 32)), none⟩]) .ret) .skip)) (.seq (.region
  [⟨(some 33), (.mv (.tmp 3)), none⟩, ⟨(some 34), (.conv .i64 (.tmp 33)), none⟩, ⟨(some 35), (.faddr 1 (.tmp 4)), none⟩, ⟨(some 36), (.load none (.tmp 35)), none⟩, ⟨(some 37),
  (.len (.tmp 36)), none⟩, ⟨(some 38), (.bin .rem (.tmp 34) (.tmp 37)), none⟩, ⟨(some 9), (.mv (.tmp 38)), none⟩]) (.seq (.region [⟨(some 39), (.faddr 1 (.tmp 4)), none⟩, ⟨(some
  40), (.load none (.tmp 39)), none⟩, ⟨(some 41), (.mv (.tmp 9)), none⟩, ⟨(some 42), (.iaddrS 4 (.tmp 40) (.tmp 41)), none⟩, ⟨(some 43), (.load (some 4) (.tmp 42)), none⟩, ⟨(some
  10), (.alloc [(.int .i64 0), (.int .i64 0), (.int .i64 0), (.int .i64 0)]), none⟩, ⟨none, (.store 4 (.tmp 10) (.tmp 43)), none⟩]) (.seq (.region [⟨(some 44), (.mv (.tmp 2)),
  none⟩, ⟨(some 45), (.faddr 0 (.tmp 10)), none⟩, ⟨(some 46), (.load none (.tmp 45)), none⟩, ⟨(some 47), (.bin .shl (.const (.int .u16 1)) (.tmp 46)), none⟩, ⟨(some 48), (.bin .or
  (.tmp 44) (.tmp 47)), none⟩, ⟨(some 2), (.mv (.tmp 48)), none⟩]) (.seq (.region [⟨(some 49), (.mv (.tmp 2)), none⟩, ⟨(some 50), (.faddr 1 (.tmp 10)), none⟩, ⟨(some 51), (.load
  none (.tmp 50)), none⟩, ⟨(some 52), (.bin .shl (.const (.int .u16 1)) (.tmp 51)), none⟩, ⟨(some 53), (.bin .sub (.const (.int .u16 65535)) (.tmp 52)), none⟩, ⟨(some 54), (.bin
  .and (.tmp 49) (.tmp 53)), none⟩, ⟨(some 2), (.mv (.tmp 54)), none⟩]) (.seq (.region [⟨(some 55), (.load (some 2) (.tmp 4)), none⟩, ⟨(some 56), (.mv (.tmp 2)), none⟩, ⟨(some 57),
   (.call (.func 39) [(.tmp 55), (.tmp 56)]), none⟩, ⟨(some 11), (.mv (.tmp 57)), none⟩]) (.seq (.region [⟨(some 59), (.load (some 2) (.tmp 4)), none⟩, ⟨(some 60), (.mv (.tmp 9)),
  none⟩, ⟨(some 61), (.mv (.tmp 11)), none⟩, ⟨(some 62), (.call (.func 28) [(.tmp 59), (.tmp 60), (.const (.bool false)), (.tmp 61)]), none⟩, ⟨(some 58), (.mv (.tmp 62)), none⟩,
  ⟨(some 63), (.ext (.tmp 58) 0), none⟩, ⟨(some 64), (.ext (.tmp 58) 1), none⟩, ⟨(some 12), (.mv (.tmp 63)), none⟩, ⟨(some 13), (.mv (.tmp 64)), none⟩]) (.seq (.region [⟨(some 66),
   (.load (some 2) (.tmp 4)), none⟩, ⟨(some 67), (.mv (.tmp 9)), none⟩, ⟨(some 68), (.mv (.tmp 11)), none⟩, ⟨(some 69), (.call (.func 28) [(.tmp 66), (.tmp 67), (.const (.bool
  true)), (.tmp 68)]), none⟩, ⟨(some 65), (.mv (.tmp 69)), none⟩, ⟨(some 70), (.ext (.tmp 65) 0), none⟩, ⟨(some 71), (.ext (.tmp 65) 1), none⟩, ⟨(some 14), (.mv (.tmp 70)), none⟩,
  ⟨(some 15), (.mv (.tmp 71)), none⟩]) (.seq (.seq (.region [⟨(some 72), (.mv (.tmp 13)), none⟩, ⟨(some 73), (.bin .neq (.tmp 72) (.const (.int .i64 0))), none⟩, ⟨(some 74), (.mv
  (.tmp 73)), none⟩, ⟨(some 75), (.mv (.tmp 15)), (some (74, false))⟩, ⟨(some 76), (.bin .neq (.tmp 75) (.const (.int .i64 0))), (some (74, false))⟩, ⟨(some 77), (.pick (.tmp 74)
  (.const (.bool true)) (.tmp 76)), none⟩]) (.cond (.tmp 77) (.seq (.region [⟨(some 8), (.mv (.const (.bool false))), none⟩]) .ret) .skip)) (.seq (.region [⟨(some 79), (.load
  (some 2) (.tmp 4)), none⟩, ⟨(some 80), (.mv (.tmp 1)), none⟩, ⟨(some 81), (.call (.func 38) [(.tmp 79), (.tmp 80)]), none⟩, ⟨(some 78), (.mv (.tmp 81)), none⟩, ⟨(some 82), (.ext
  (.tmp 78) 0), none⟩, ⟨(some 83), (.ext (.tmp 78) 1), none⟩, ⟨(some 16), (.mv (.tmp 82)), none⟩, ⟨(some 17), (.mv (.tmp 83)), none⟩]) (.seq (.region [⟨(some 84), (.mv (.tmp 17)),
  none⟩, ⟨(some 85), (.un .not (.tmp 84)), none⟩, ⟨(some 86), (.mv (.tmp 85)), none⟩, ⟨(some 87), (.mv (.tmp 16)), (some (86, false))⟩, ⟨(some 88), (.mv (.tmp 9)), (some (86,
  false))⟩, ⟨(some 89), (.iaddrS 1 (.tmp 87) (.tmp 88)), (some (86, false))⟩, ⟨(some 90), (.load none (.tmp 89)), (some (86, false))⟩, ⟨(some 91), (.mv (.tmp 12)), (some (86,
  false))⟩, ⟨(some 92), (.bin .geq (.tmp 90) (.tmp 91)), (some (86, false))⟩, ⟨(some 93), (.mv (.tmp 92)), (some (86, false))⟩, ⟨(some 94), (.mv (.tmp 16)), (some (93, true))⟩,
  ⟨(some 95), (.mv (.tmp 9)), (some (93, true))⟩, ⟨(some 96), (.iaddrS 1 (.tmp 94) (.tmp 95)), (some (93, true))⟩, ⟨(some 97), (.load none (.tmp 96)), (some (93, true))⟩, ⟨(some
  98), (.mv (.tmp 14)), (some (93, true))⟩, ⟨(some 99), (.bin .leq (.tmp 97) (.tmp 98)), (some (93, true))⟩, ⟨(some 100), (.pick (.tmp 93) (.tmp 99) (.const (.bool false))), (some
  (86, false))⟩, ⟨(some 101), (.pick (.tmp 86) (.const (.bool true)) (.tmp 100)), none⟩, ⟨(some 102), (.mv (.tmp 101)), none⟩, ⟨(some 103), (.call (.func 16) []), (some (102,
  true))⟩, ⟨(some 104), (.pick (.tmp 102) (.tmp 103) (.const (.bool false))), none⟩, ⟨(some 8), (.mv (.tmp 104)), none⟩]) .ret))))))))))))⟩
def af10 : AFn := ⟨213, [(.tmp 10)], (.seq (.region [⟨(some 5), (.box (.tmp 0)), none⟩, ⟨(some 7), (.box (.tmp 2)), none⟩, ⟨(some 10), (.mv (.const (.bool false))), none⟩]) (.seq (.seq (.region
  [⟨(some 24), (.load (some 2) (.tmp 5)), none⟩, ⟨(some 25), (.call (.func 37) [(.tmp 24)]), none⟩, ⟨(some 26), (.un .not (.tmp 25)), none⟩, ⟨(some 27), (.mv (.tmp 26)), none⟩,
  ⟨(some 28), (.faddr 1 (.tmp 5)), (some (27, false))⟩, ⟨(some 29), (.load none (.tmp 28)), (some (27, false))⟩, ⟨(some 30), (.len (.tmp 29)), (some (27, false))⟩, ⟨(some 31),
  (.bin .eql (.tmp 30) (.const (.int .i64 0))), (some (27, false))⟩, ⟨(some 32), (.pick (.tmp 27) (.const (.bool true)) (.tmp 31)), none⟩]) (.cond (.tmp 32) (.seq (.region [⟨(some
  33), (.call (.func 16) []), none⟩, ⟨(some 10), (.mv (.tmp 33)), none⟩]) .ret) .skip)) (.seq (.draw [⟨(some 34), (.mv (.tmp 1)), none⟩, ⟨(some 35), (.conv .i64 (.tmp 34)), none⟩,
  ⟨(some 36), (.faddr 1 (.tmp 5)), none⟩, ⟨(some 37), (.load none (.tmp 36)), none⟩, ⟨(some 38), (.len (.tmp 37)), none⟩, ⟨(some 39), (.bin .rem (.tmp 35) (.tmp 38)), none⟩,
  ⟨(some 40), (.mv (.tmp 3)), none⟩, ⟨(some 41), (.conv .i64 (.tmp 40)), none⟩, ⟨(some 42), (.faddr 1 (.tmp 5)), none⟩, ⟨(some 43), (.load none (.tmp 42)), none⟩, ⟨(some 44),
  (.len (.tmp 43)), none⟩, ⟨(some 45), (.bin .rem (.tmp 41) (.tmp 44)), none⟩, ⟨(some 11), (.mv (.tmp 39)), none⟩, ⟨(some 12), (.mv (.tmp 45)), none⟩] []) (.seq (.region [⟨(some
  47), (.load (some 2) (.tmp 5)), none⟩, ⟨(some 48), (.mv (.tmp 12)), none⟩, ⟨(some 49), (.call (.func 25) [(.tmp 47), (.tmp 48)]), none⟩, ⟨(some 46), (.mv (.tmp 49)), none⟩,
  ⟨(some 50), (.ext (.tmp 46) 0), none⟩, ⟨(some 51), (.ext (.tmp 46) 1), none⟩, ⟨(some 13), (.alloc [(.int .i64 0), (.int .i64 0)]), none⟩, ⟨none, (.store 2 (.tmp 13) (.tmp 50)),
  none⟩, ⟨(some 14), (.mv (.tmp 51)), none⟩]) (.seq (.region [⟨(some 53), (.load (some 2) (.tmp 5)), none⟩, ⟨(some 54), (.call (.func 24) [(.tmp 53)]), none⟩, ⟨(some 52), (.mv
  (.tmp 54)), none⟩, ⟨(some 55), (.ext (.tmp 52) 0), none⟩, ⟨(some 56), (.ext (.tmp 52) 1), none⟩, ⟨(some 15), (.mv (.tmp 55)), none⟩, ⟨(some 16), (.mv (.tmp 56)), none⟩]) (.seq
  (.seq (.region [⟨(some 57), (.mv (.tmp 16)), none⟩, ⟨(some 58), (.un .not (.tmp 57)), none⟩]) (.cond (.tmp 58) (.seq (.region [⟨(some 59), (.mv (.tmp 14)), none⟩, ⟨(some 60),
  (.bin .eql (.tmp 59) (.const (.int .i64 21))), none⟩, ⟨(some 61), (.mv (.tmp 60)), none⟩, ⟨(some 62), (.call (.func 16) []), (some (61, true))⟩, ⟨(some 63), (.pick (.tmp 61)
  (.tmp 62) (.const (.bool false))), none⟩, ⟨(some 10), (.mv (.tmp 63)), none⟩]) .ret) .skip)) (.seq (.seq (.region [⟨(some 64), (.mv (.tmp 14)), none⟩, ⟨(some 65), (.bin .neq
  (.tmp 64) (.const (.int .i64 0))), none⟩, ⟨(some 66), (.mv (.tmp 65)), none⟩, ⟨(some 67), (.faddr 0 (.tmp 13)), (some (66, false))⟩, ⟨(some 68), (.load none (.tmp 67)), (some
  (66, false))⟩, ⟨(some 69), (.faddr 1 (.tmp 13)), (some (66, false))⟩, ⟨(some 70), (.load none (.tmp 69)), (some (66, false))⟩, ⟨(some 71), (.bin .gtr (.tmp 68) (.tmp 70)), (some
  (66, false))⟩, ⟨(some 72), (.pick (.tmp 66) (.const (.bool true)) (.tmp 71)), none⟩]) (.cond (.tmp 72) (.seq (.region [⟨(some 10), (.mv (.const (.bool false))), none⟩]) .ret)
  .skip)) (.seq (.draw [⟨(some 73), (.load (some 2) (.tmp 5)), none⟩, ⟨(some 74), (.load (some 2) (.tmp 5)), none⟩, ⟨(some 17), (.alloc [(.int .i64 0), (.slc none 0 0 true 0)]),
  none⟩, ⟨(some 18), (.alloc [(.int .i64 0), (.slc none 0 0 true 0)]), none⟩, ⟨none, (.store 2 (.tmp 17) (.tmp 73)), none⟩, ⟨none, (.store 2 (.tmp 18) (.tmp 74)), none⟩] [(0, 2),
  (1, 2), (0, 3), (1, 3), (2, 3), (1, 4)]) (.seq (.region [⟨(some 75), (.bslice [] 0 4 []), none⟩, ⟨(some 76), (.faddr 1 (.tmp 5)), none⟩, ⟨(some 77), (.load none (.tmp 76)),
  none⟩, ⟨(some 78), (.app 4 32 (.tmp 75) (.tmp 77)), none⟩, ⟨(some 79), (.faddr 1 (.tmp 17)), none⟩, ⟨none, (.store 1 (.tmp 79) (.tmp 78)), none⟩]) (.seq (.region [⟨(some 80),
  (.bslice [] 0 4 []), none⟩, ⟨(some 81), (.faddr 1 (.tmp 5)), none⟩, ⟨(some 82), (.load none (.tmp 81)), none⟩, ⟨(some 83), (.app 4 32 (.tmp 80) (.tmp 82)), none⟩, ⟨(some 84),
  (.faddr 1 (.tmp 18)), none⟩, ⟨none, (.store 1 (.tmp 84) (.tmp 83)), none⟩]) (.seq (.region [⟨(some 85), (.faddr 1 (.tmp 17)), none⟩, ⟨(some 86), (.load none (.tmp 85)), none⟩,
  ⟨(some 87), (.mv (.tmp 11)), none⟩, ⟨(some 88), (.iaddrS 4 (.tmp 86) (.tmp 87)), none⟩, ⟨(some 89), (.faddr 2 (.tmp 88)), none⟩, ⟨(some 19), (.mv (.tmp 89)), none⟩]) (.seq
  (.draw [⟨(some 90), (.mv (.tmp 19)), none⟩, ⟨(some 91), (.mv (.tmp 19)), none⟩, ⟨(some 92), (.nilchk (.tmp 91)), none⟩, ⟨(some 93), (.faddr 1 (.tmp 92)), none⟩, ⟨(some 94),
  (.load none (.tmp 93)), none⟩, ⟨(some 95), (.mv (.tmp 19)), none⟩, ⟨(some 96), (.nilchk (.tmp 95)), none⟩, ⟨(some 97), (.faddr 0 (.tmp 96)), none⟩, ⟨(some 98), (.load none (.tmp
  97)), none⟩, ⟨(some 99), (.iaddrA 2 1 (.tmp 7) (.const (.int .i64 0))), none⟩, ⟨(some 100), (.load none (.tmp 99)), none⟩, ⟨(some 101), (.conv .i64 (.tmp 100)), none⟩, ⟨(some
  102), (.bin .add (.tmp 98) (.tmp 101)), none⟩, ⟨(some 103), (.mnx false [(.tmp 94), (.tmp 102)]), none⟩, ⟨(some 104), (.nilchk (.tmp 90)), none⟩, ⟨(some 105), (.faddr 0 (.tmp
  104)), none⟩, ⟨none, (.store 1 (.tmp 105) (.tmp 103)), none⟩] []) (.seq (.draw [⟨(some 106), (.mv (.tmp 19)), none⟩, ⟨(some 107), (.mv (.tmp 19)), none⟩, ⟨(some 108), (.nilchk
  (.tmp 107)), none⟩, ⟨(some 109), (.faddr 0 (.tmp 108)), none⟩, ⟨(some 110), (.load none (.tmp 109)), none⟩, ⟨(some 111), (.mv (.tmp 19)), none⟩, ⟨(some 112), (.nilchk (.tmp
  111)), none⟩, ⟨(some 113), (.faddr 1 (.tmp 112)), none⟩, ⟨(some 114), (.load none (.tmp 113)), none⟩, ⟨(some 115), (.iaddrA 2 1 (.tmp 7) (.const (.int .i64 1))), none⟩, ⟨(some
  116), (.load none (.tmp 115)), none⟩, ⟨(some 117), (.conv .i64 (.tmp 116)), none⟩, ⟨(some 118), (.bin .sub (.tmp 114) (.tmp 117)), none⟩, ⟨(some 119), (.mnx true [(.tmp 110),
  (.tmp 118)]), none⟩, ⟨(some 120), (.nilchk (.tmp 106)), none⟩, ⟨(some 121), (.faddr 1 (.tmp 120)), none⟩, ⟨none, (.store 1 (.tmp 121) (.tmp 119)), none⟩] []) (.seq (.region
  [⟨(some 123), (.load (some 2) (.tmp 17)), none⟩, ⟨(some 124), (.mv (.tmp 12)), none⟩, ⟨(some 125), (.call (.func 25) [(.tmp 123), (.tmp 124)]), none⟩, ⟨(some 122), (.mv (.tmp
  125)), none⟩, ⟨(some 126), (.ext (.tmp 122) 0), none⟩, ⟨(some 127), (.ext (.tmp 122) 1), none⟩, ⟨(some 20), (.alloc [(.int .i64 0), (.int .i64 0)]), none⟩, ⟨none, (.store 2
  (.tmp 20) (.tmp 126)), none⟩, ⟨(some 14), (.mv (.tmp 127)), none⟩]) (.seq (.seq (.region [⟨(some 128), (.mv (.tmp 14)), none⟩, ⟨(some 129), (.bin .eql (.tmp 128) (.const (.int
  .i64 0))), none⟩, ⟨(some 130), (.mv (.tmp 129)), none⟩, ⟨(some 131), (.faddr 0 (.tmp 20)), (some (130, true))⟩, ⟨(some 132), (.load none (.tmp 131)), (some (130, true))⟩, ⟨(some
  133), (.faddr 0 (.tmp 13)), (some (130, true))⟩, ⟨(some 134), (.load none (.tmp 133)), (some (130, true))⟩, ⟨(some 135), (.bin .lss (.tmp 132) (.tmp 134)), (some (130, true))⟩,
  ⟨(some 136), (.mv (.tmp 135)), (some (130, true))⟩, ⟨(some 137), (.faddr 1 (.tmp 20)), (some (136, false))⟩, ⟨(some 138), (.load none (.tmp 137)), (some (136, false))⟩, ⟨(some
  139), (.faddr 1 (.tmp 13)), (some (136, false))⟩, ⟨(some 140), (.load none (.tmp 139)), (some (136, false))⟩, ⟨(some 141), (.bin .gtr (.tmp 138) (.tmp 140)), (some (136,
  false))⟩, ⟨(some 142), (.pick (.tmp 136) (.const (.bool true)) (.tmp 141)), (some (130, true))⟩, ⟨(some 143), (.pick (.tmp 130) (.tmp 142) (.const (.bool false))), none⟩, ⟨(some
  144), (.mv (.tmp 143)), none⟩, ⟨(some 145), (.mv (.tmp 14)), (some (144, false))⟩, ⟨(some 146), (.bin .neq (.tmp 145) (.const (.int .i64 0))), (some (144, false))⟩, ⟨(some 147),
  (.mv (.tmp 146)), (some (144, false))⟩, ⟨(some 148), (.mv (.tmp 14)), (some (147, true))⟩, ⟨(some 149), (.bin .neq (.tmp 148) (.const (.int .i64 21))), (some (147, true))⟩,
  ⟨(some 150), (.pick (.tmp 147) (.tmp 149) (.const (.bool false))), (some (144, false))⟩, ⟨(some 151), (.pick (.tmp 144) (.const (.bool true)) (.tmp 150)), none⟩]) (.cond (.tmp
  151) (.seq (.region [⟨(some 10), (.mv (.const (.bool false))), none⟩]) .ret) .skip)) (.seq (.draw [⟨(some 152), (.faddr 0 (.tmp 13)), none⟩, ⟨(some 153), (.load none (.tmp 152)),
   none⟩, ⟨(some 154), (.mv (.tmp 4)), none⟩, ⟨(some 155), (.conv .i64 (.tmp 154)), none⟩, ⟨(some 156), (.faddr 1 (.tmp 13)), none⟩, ⟨(some 157), (.load none (.tmp 156)), none⟩,
  ⟨(some 158), (.faddr 0 (.tmp 13)), none⟩, ⟨(some 159), (.load none (.tmp 158)), none⟩, ⟨(some 160), (.bin .sub (.tmp 157) (.tmp 159)), none⟩, ⟨(some 161), (.bin .add (.tmp 160)
  (.const (.int .i64 1))), none⟩, ⟨(some 162), (.bin .rem (.tmp 155) (.tmp 161)), none⟩, ⟨(some 163), (.bin .add (.tmp 153) (.tmp 162)), none⟩, ⟨(some 21), (.mv (.tmp 163)),
  none⟩] []) (.seq (.draw [⟨(some 164), (.faddr 1 (.tmp 18)), none⟩, ⟨(some 165), (.load none (.tmp 164)), none⟩, ⟨(some 166), (.mv (.tmp 12)), none⟩, ⟨(some 167), (.mv (.tmp 21)),
   none⟩, ⟨(some 168), (.mv (.tmp 21)), none⟩, ⟨(some 169), (.call (.func 40) [(.tmp 167), (.tmp 168)]), none⟩, ⟨(some 170), (.iaddrS 4 (.tmp 165) (.tmp 166)), none⟩, ⟨(some 171),
  (.faddr 2 (.tmp 170)), none⟩, ⟨none, (.store 2 (.tmp 171) (.tmp 169)), none⟩] [(1, 5)]) (.seq (.region [⟨(some 173), (.load (some 2) (.tmp 18)), none⟩, ⟨(some 174), (.mv (.tmp
  12)), none⟩, ⟨(some 175), (.call (.func 25) [(.tmp 173), (.tmp 174)]), none⟩, ⟨(some 172), (.mv (.tmp 175)), none⟩, ⟨(some 176), (.ext (.tmp 172) 0), none⟩, ⟨(some 177), (.ext
  (.tmp 172) 1), none⟩, ⟨none, (.store 2 (.tmp 20) (.tmp 176)), none⟩, ⟨(some 14), (.mv (.tmp 177)), none⟩]) (.seq (.region [⟨(some 179), (.load (some 2) (.tmp 18)), none⟩, ⟨(some
  180), (.call (.func 23) [(.tmp 179)]), none⟩, ⟨(some 178), (.mv (.tmp 180)), none⟩, ⟨(some 181), (.ext (.tmp 178) 0), none⟩, ⟨(some 182), (.ext (.tmp 178) 1), none⟩, ⟨(some 22),
  (.mv (.tmp 181)), none⟩, ⟨(some 23), (.mv (.tmp 182)), none⟩]) (.seq (.draw [⟨(some 183), (.mv (.tmp 14)), none⟩, ⟨(some 184), (.bin .eql (.tmp 183) (.const (.int .i64 0))),
  none⟩, ⟨(some 185), (.mv (.tmp 184)), none⟩, ⟨(some 186), (.load (some 2) (.tmp 20)), (some (185, true))⟩, ⟨(some 187), (.mv (.tmp 21)), (some (185, true))⟩, ⟨(some 188), (.mv
  (.tmp 21)), (some (185, true))⟩, ⟨(some 189), (.call (.func 40) [(.tmp 187), (.tmp 188)]), (some (185, true))⟩, ⟨(some 190), (.eqf false true [.int, .int] (.tmp 186) (.tmp 189)),
   (some (185, true))⟩, ⟨(some 191), (.pick (.tmp 185) (.tmp 190) (.const (.bool false))), none⟩, ⟨(some 192), (.mv (.tmp 191)), none⟩, ⟨(some 193), (.mv (.tmp 23)), (some (192,
  true))⟩, ⟨(some 194), (.bin .eql (.tmp 193) (.const (.int .i64 0))), (some (192, true))⟩, ⟨(some 195), (.pick (.tmp 192) (.tmp 194) (.const (.bool false))), none⟩, ⟨(some 196),
  (.mv (.tmp 195)), none⟩, ⟨(some 197), (.load (some 2) (.tmp 5)), (some (196, true))⟩, ⟨(some 198), (.mv (.tmp 22)), (some (196, true))⟩, ⟨(some 199), (.call (.func 22) [(.tmp
  197), (.tmp 198)]), (some (196, true))⟩, ⟨(some 200), (.bin .eql (.tmp 199) (.const (.int .i64 0))), (some (196, true))⟩, ⟨(some 201), (.pick (.tmp 196) (.tmp 200) (.const
  (.bool false))), none⟩, ⟨(some 202), (.mv (.tmp 201)), none⟩, ⟨(some 203), (.mv (.tmp 22)), (some (202, true))⟩, ⟨(some 204), (.mv (.tmp 12)), (some (202, true))⟩, ⟨(some 205),
  (.iaddrS 1 (.tmp 203) (.tmp 204)), (some (202, true))⟩, ⟨(some 206), (.load none (.tmp 205)), (some (202, true))⟩, ⟨(some 207), (.mv (.tmp 21)), (some (202, true))⟩, ⟨(some 208),
   (.bin .eql (.tmp 206) (.tmp 207)), (some (202, true))⟩, ⟨(some 209), (.pick (.tmp 202) (.tmp 208) (.const (.bool false))), none⟩, ⟨(some 210), (.mv (.tmp 209)), none⟩, ⟨(some
  211), (.call (.func 16) []), (some (210, true))⟩, ⟨(some 212), (.pick (.tmp 210) (.tmp 211) (.const (.bool false))), none⟩, ⟨(some 10), (.mv (.tmp 212)), none⟩] [(3, 6)])
  .ret))))))))))))))))))))⟩
def af11 : AFn := ⟨166, [(.tmp 8)], (.seq (.region [⟨(some 4), (.box (.tmp 0)), none⟩, ⟨(some 8), (.mv (.const (.bool false))), none⟩]) (.seq (.seq (.region [⟨(some 23), (.load (some 2) (.tmp 4)),
  none⟩, ⟨(some 24), (.call (.func 37) [(.tmp 23)]), none⟩, ⟨(some 25), (.un .not (.tmp 24)), none⟩, ⟨(some 26), (.mv (.tmp 25)), none⟩, ⟨(some 27), (.mv (.tmp 1)), (some (26,
  false))⟩, ⟨(some 28), (.len (.tmp 27)), (some (26, false))⟩, ⟨(some 29), (.bin .gtr (.tmp 28) (.const (.int .i64 60))), (some (26, false))⟩, ⟨(some 30), (.pick (.tmp 26) (.const
  (.bool true)) (.tmp 29)), none⟩, ⟨(some 31), (.mv (.tmp 30)), none⟩, ⟨(some 32), (.faddr 1 (.tmp 4)), (some (31, false))⟩, ⟨(some 33), (.load none (.tmp 32)), (some (31,
  false))⟩, ⟨(some 34), (.len (.tmp 33)), (some (31, false))⟩, ⟨(some 35), (.bin .eql (.tmp 34) (.const (.int .i64 0))), (some (31, false))⟩, ⟨(some 36), (.pick (.tmp 31) (.const
  (.bool true)) (.tmp 35)), none⟩]) (.cond (.tmp 36) (.seq (.region [⟨(some 37), (.call (.func 16) []), none⟩, ⟨(some 8), (.mv (.tmp 37)), none⟩]) .ret) .skip)) (.seq (.region
  [⟨(some 38), (.mv (.tmp 3)), none⟩, ⟨(some 39), (.conv .i64 (.tmp 38)), none⟩, ⟨(some 40), (.faddr 1 (.tmp 4)), none⟩, ⟨(some 41), (.load none (.tmp 40)), none⟩, ⟨(some 42),
  (.len (.tmp 41)), none⟩, ⟨(some 43), (.bin .rem (.tmp 39) (.tmp 42)), none⟩, ⟨(some 9), (.mv (.tmp 43)), none⟩]) (.seq (.draw [⟨(some 44), (.faddr 0 (.tmp 4)), none⟩, ⟨(some 45),
   (.load none (.tmp 44)), none⟩, ⟨(some 46), (.build [(.int .i64 0), (.slc none 0 0 true 0)] [(0, (1, (.tmp 45)))]), none⟩, ⟨(some 47), (.faddr 0 (.tmp 4)), none⟩, ⟨(some 48),
  (.load none (.tmp 47)), none⟩, ⟨(some 49), (.build [(.int .i64 0), (.slc none 0 0 true 0)] [(0, (1, (.tmp 48)))]), none⟩, ⟨(some 10), (.alloc [(.int .i64 0), (.slc none 0 0 true
  0)]), none⟩, ⟨(some 11), (.alloc [(.int .i64 0), (.slc none 0 0 true 0)]), none⟩, ⟨none, (.store 2 (.tmp 10) (.tmp 46)), none⟩, ⟨none, (.store 2 (.tmp 11) (.tmp 49)), none⟩] [(1,
   6), (4, 6), (1, 7), (4, 7), (6, 7), (4, 8)]) (.seq (.region [⟨(some 50), (.faddr 0 (.tmp 4)), none⟩, ⟨(some 51), (.load none (.tmp 50)), none⟩, ⟨(some 52), (.bin .add (.tmp 51)
  (.const (.int .i64 1))), none⟩, ⟨(some 12), (.mv (.tmp 52)), none⟩]) (.seq (.seq (.region [⟨(some 13), (.mv (.const (.int .i64 0))), none⟩]) (.block 0 (.loop (.seq (.seq
  (.region [⟨(some 53), (.mv (.tmp 13)), none⟩, ⟨(some 54), (.faddr 1 (.tmp 4)), none⟩, ⟨(some 55), (.load none (.tmp 54)), none⟩, ⟨(some 56), (.len (.tmp 55)), none⟩, ⟨(some 57),
  (.bin .lss (.tmp 53) (.tmp 56)), none⟩]) (.cond (.tmp 57) .skip (.exit 0))) (.seq (.block 1 (.seq (.region [⟨(some 60), (.faddr 1 (.tmp 4)), none⟩, ⟨(some 61), (.load none (.tmp
  60)), none⟩, ⟨(some 62), (.mv (.tmp 13)), none⟩, ⟨(some 63), (.iaddrS 4 (.tmp 61) (.tmp 62)), none⟩, ⟨(some 64), (.load (some 4) (.tmp 63)), none⟩, ⟨(some 14), (.alloc [(.int
  .i64 0), (.int .i64 0), (.int .i64 0), (.int .i64 0)]), none⟩, ⟨none, (.store 4 (.tmp 14) (.tmp 64)), none⟩]) (.seq (.region [⟨(some 65), (.faddr 1 (.tmp 10)), none⟩, ⟨(some 66),
   (.load none (.tmp 65)), none⟩, ⟨(some 67), (.faddr 1 (.tmp 14)), none⟩, ⟨(some 68), (.load none (.tmp 67)), none⟩, ⟨(some 69), (.faddr 0 (.tmp 14)), none⟩, ⟨(some 70), (.load
  none (.tmp 69)), none⟩, ⟨(some 71), (.faddr 2 (.tmp 14)), none⟩, ⟨(some 72), (.load (some 2) (.tmp 71)), none⟩, ⟨(some 73), (.build [(.int .i64 0), (.int .i64 0), (.int .i64 0),
  (.int .i64 0)] [(0, (1, (.tmp 68))), (1, (1, (.tmp 70))), (2, (2, (.tmp 72)))]), none⟩, ⟨(some 74), (.bslice [(.int .i64 0), (.int .i64 0), (.int .i64 0), (.int .i64 0)] 1 4 [(0,
   (4, (.tmp 73)))]), none⟩, ⟨(some 75), (.app 4 32 (.tmp 66) (.tmp 74)), none⟩, ⟨(some 76), (.faddr 1 (.tmp 10)), none⟩, ⟨none, (.store 1 (.tmp 76) (.tmp 75)), none⟩]) (.draw
  [⟨(some 77), (.faddr 1 (.tmp 11)), none⟩, ⟨(some 78), (.load none (.tmp 77)), none⟩, ⟨(some 79), (.faddr 0 (.tmp 14)), none⟩, ⟨(some 80), (.load none (.tmp 79)), none⟩, ⟨(some
  81), (.mv (.tmp 2)), none⟩, ⟨(some 82), (.conv .i64 (.tmp 81)), none⟩, ⟨(some 83), (.bin .add (.tmp 80) (.tmp 82)), none⟩, ⟨(some 84), (.mv (.tmp 12)), none⟩, ⟨(some 85), (.bin
  .rem (.tmp 83) (.tmp 84)), none⟩, ⟨(some 86), (.faddr 1 (.tmp 14)), none⟩, ⟨(some 87), (.load none (.tmp 86)), none⟩, ⟨(some 88), (.mv (.tmp 2)), none⟩, ⟨(some 89), (.conv .i64
  (.tmp 88)), none⟩, ⟨(some 90), (.bin .add (.tmp 87) (.tmp 89)), none⟩, ⟨(some 91), (.mv (.tmp 12)), none⟩, ⟨(some 92), (.bin .rem (.tmp 90) (.tmp 91)), none⟩, ⟨(some 93),
  (.faddr 2 (.tmp 14)), none⟩, ⟨(some 94), (.load (some 2) (.tmp 93)), none⟩, ⟨(some 95), (.build [(.int .i64 0), (.int .i64 0), (.int .i64 0), (.int .i64 0)] [(0, (1, (.tmp 85))),
   (1, (1, (.tmp 92))), (2, (2, (.tmp 94)))]), none⟩, ⟨(some 96), (.bslice [(.int .i64 0), (.int .i64 0), (.int .i64 0), (.int .i64 0)] 1 4 [(0, (4, (.tmp 95)))]), none⟩, ⟨(some
  97), (.app 4 32 (.tmp 78) (.tmp 96)), none⟩, ⟨(some 98), (.faddr 1 (.tmp 11)), none⟩, ⟨none, (.store 1 (.tmp 98) (.tmp 97)), none⟩] [(1, 19)])))) (.region [⟨(some 58), (.mv
  (.tmp 13)), none⟩, ⟨(some 59), (.bin .add (.tmp 58) (.const (.int .i64 1))), none⟩, ⟨(some 13), (.mv (.tmp 59)), none⟩])))))) (.seq (.region [⟨(some 100), (.load (some 2) (.tmp
  4)), none⟩, ⟨(some 101), (.mv (.tmp 9)), none⟩, ⟨(some 102), (.call (.func 25) [(.tmp 100), (.tmp 101)]), none⟩, ⟨(some 99), (.mv (.tmp 102)), none⟩, ⟨(some 103), (.ext (.tmp
  99) 0), none⟩, ⟨(some 104), (.ext (.tmp 99) 1), none⟩, ⟨(some 15), (.alloc [(.int .i64 0), (.int .i64 0)]), none⟩, ⟨none, (.store 2 (.tmp 15) (.tmp 103)), none⟩, ⟨(some 16),
  (.mv (.tmp 104)), none⟩]) (.seq (.region [⟨(some 106), (.load (some 2) (.tmp 10)), none⟩, ⟨(some 107), (.mv (.tmp 9)), none⟩, ⟨(some 108), (.call (.func 25) [(.tmp 106), (.tmp
  107)]), none⟩, ⟨(some 105), (.mv (.tmp 108)), none⟩, ⟨(some 109), (.ext (.tmp 105) 0), none⟩, ⟨(some 110), (.ext (.tmp 105) 1), none⟩, ⟨(some 17), (.alloc [(.int .i64 0), (.int
  .i64 0)]), none⟩, ⟨none, (.store 2 (.tmp 17) (.tmp 109)), none⟩, ⟨(some 18), (.mv (.tmp 110)), none⟩]) (.seq (.region [⟨(some 112), (.load (some 2) (.tmp 11)), none⟩, ⟨(some
  113), (.mv (.tmp 9)), none⟩, ⟨(some 114), (.call (.func 25) [(.tmp 112), (.tmp 113)]), none⟩, ⟨(some 111), (.mv (.tmp 114)), none⟩, ⟨(some 115), (.ext (.tmp 111) 0), none⟩,
  ⟨(some 116), (.ext (.tmp 111) 1), none⟩, ⟨(some 19), (.alloc [(.int .i64 0), (.int .i64 0)]), none⟩, ⟨none, (.store 2 (.tmp 19) (.tmp 115)), none⟩, ⟨(some 20), (.mv (.tmp 116)),
  none⟩]) (.seq (.seq (.region [⟨(some 117), (.mv (.tmp 16)), none⟩, ⟨(some 118), (.mv (.tmp 18)), none⟩, ⟨(some 119), (.bin .neq (.tmp 117) (.tmp 118)), none⟩, ⟨(some 120), (.mv
  (.tmp 119)), none⟩, ⟨(some 121), (.mv (.tmp 16)), (some (120, false))⟩, ⟨(some 122), (.mv (.tmp 20)), (some (120, false))⟩, ⟨(some 123), (.bin .neq (.tmp 121) (.tmp 122)), (some
  (120, false))⟩, ⟨(some 124), (.pick (.tmp 120) (.const (.bool true)) (.tmp 123)), none⟩, ⟨(some 125), (.mv (.tmp 124)), none⟩, ⟨(some 126), (.load (some 2) (.tmp 15)), (some
  (125, false))⟩, ⟨(some 127), (.load (some 2) (.tmp 17)), (some (125, false))⟩, ⟨(some 128), (.eqf true true [.int, .int] (.tmp 126) (.tmp 127)), (some (125, false))⟩, ⟨(some
  129), (.pick (.tmp 125) (.const (.bool true)) (.tmp 128)), none⟩, ⟨(some 130), (.mv (.tmp 129)), none⟩, ⟨(some 131), (.load (some 2) (.tmp 15)), (some (130, false))⟩, ⟨(some
  132), (.load (some 2) (.tmp 19)), (some (130, false))⟩, ⟨(some 133), (.eqf true true [.int, .int] (.tmp 131) (.tmp 132)), (some (130, false))⟩, ⟨(some 134), (.pick (.tmp 130)
  (.const (.bool true)) (.tmp 133)), none⟩, ⟨(some 135), (.mv (.tmp 134)), none⟩, ⟨(some 136), (.mv (.tmp 16)), (some (135, false))⟩, ⟨(some 137), (.bin .neq (.tmp 136) (.const
  (.int .i64 0))), (some (135, false))⟩, ⟨(some 138), (.mv (.tmp 137)), (some (135, false))⟩, ⟨(some 139), (.mv (.tmp 16)), (some (138, true))⟩, ⟨(some 140), (.bin .neq (.tmp 139)
  (.const (.int .i64 21))), (some (138, true))⟩, ⟨(some 141), (.pick (.tmp 138) (.tmp 140) (.const (.bool false))), (some (135, false))⟩, ⟨(some 142), (.pick (.tmp 135) (.const
  (.bool true)) (.tmp 141)), none⟩]) (.cond (.tmp 142) (.seq (.region [⟨(some 8), (.mv (.const (.bool false))), none⟩]) .ret) .skip)) (.seq (.region [⟨(some 144), (.load (some 2)
  (.tmp 4)), none⟩, ⟨(some 145), (.mv (.tmp 1)), none⟩, ⟨(some 146), (.call (.func 38) [(.tmp 144), (.tmp 145)]), none⟩, ⟨(some 143), (.mv (.tmp 146)), none⟩, ⟨(some 147), (.ext
  (.tmp 143) 0), none⟩, ⟨(some 148), (.ext (.tmp 143) 1), none⟩, ⟨(some 21), (.mv (.tmp 147)), none⟩, ⟨(some 22), (.mv (.tmp 148)), none⟩]) (.seq (.region [⟨(some 149), (.mv (.tmp
  22)), none⟩, ⟨(some 150), (.un .not (.tmp 149)), none⟩, ⟨(some 151), (.mv (.tmp 150)), none⟩, ⟨(some 152), (.load (some 2) (.tmp 10)), (some (151, false))⟩, ⟨(some 153), (.mv
  (.tmp 21)), (some (151, false))⟩, ⟨(some 154), (.call (.func 21) [(.tmp 152), (.tmp 153)]), (some (151, false))⟩, ⟨(some 155), (.bin .eql (.tmp 154) (.const (.int .i64 0))),
  (some (151, false))⟩, ⟨(some 156), (.mv (.tmp 155)), (some (151, false))⟩, ⟨(some 157), (.load (some 2) (.tmp 11)), (some (156, true))⟩, ⟨(some 158), (.mv (.tmp 21)), (some (156,
   true))⟩, ⟨(some 159), (.call (.func 21) [(.tmp 157), (.tmp 158)]), (some (156, true))⟩, ⟨(some 160), (.bin .eql (.tmp 159) (.const (.int .i64 0))), (some (156, true))⟩, ⟨(some
  161), (.pick (.tmp 156) (.tmp 160) (.const (.bool false))), (some (151, false))⟩, ⟨(some 162), (.pick (.tmp 151) (.const (.bool true)) (.tmp 161)), none⟩, ⟨(some 163), (.mv
  (.tmp 162)), none⟩, ⟨(some 164), (.call (.func 16) []), (some (163, true))⟩, ⟨(some 165), (.pick (.tmp 163) (.tmp 164) (.const (.bool false))), none⟩, ⟨(some 8), (.mv (.tmp
  165)), none⟩]) .ret))))))))))))⟩
def af12 : AFn := ⟨217, [(.tmp 6)], (.seq (.region [⟨(some 3), (.box (.tmp 0)), none⟩, ⟨(some 4), (.box (.tmp 1)), none⟩, ⟨(some 6), (.mv (.const (.bool false))), none⟩]) (.seq (.seq (.region
  [⟨(some 19), (.load (some 2) (.tmp 3)), none⟩, ⟨(some 20), (.call (.func 37) [(.tmp 19)]), none⟩, ⟨(some 21), (.un .not (.tmp 20)), none⟩, ⟨(some 22), (.mv (.tmp 21)), none⟩,
  ⟨(some 23), (.load (some 2) (.tmp 4)), (some (22, false))⟩, ⟨(some 24), (.call (.func 37) [(.tmp 23)]), (some (22, false))⟩, ⟨(some 25), (.un .not (.tmp 24)), (some (22,
  false))⟩, ⟨(some 26), (.pick (.tmp 22) (.const (.bool true)) (.tmp 25)), none⟩, ⟨(some 27), (.mv (.tmp 26)), none⟩, ⟨(some 28), (.faddr 0 (.tmp 3)), (some (27, false))⟩, ⟨(some
  29), (.load none (.tmp 28)), (some (27, false))⟩, ⟨(some 30), (.faddr 0 (.tmp 4)), (some (27, false))⟩, ⟨(some 31), (.load none (.tmp 30)), (some (27, false))⟩, ⟨(some 32),
  (.bin .add (.tmp 29) (.tmp 31)), (some (27, false))⟩, ⟨(some 33), (.bin .gtr (.tmp 32) (.const (.int .i64 12))), (some (27, false))⟩, ⟨(some 34), (.pick (.tmp 27) (.const (.bool
  true)) (.tmp 33)), none⟩, ⟨(some 35), (.mv (.tmp 34)), none⟩, ⟨(some 36), (.faddr 1 (.tmp 3)), (some (35, false))⟩, ⟨(some 37), (.load none (.tmp 36)), (some (35, false))⟩,
  ⟨(some 38), (.len (.tmp 37)), (some (35, false))⟩, ⟨(some 39), (.faddr 1 (.tmp 4)), (some (35, false))⟩, ⟨(some 40), (.load none (.tmp 39)), (some (35, false))⟩, ⟨(some 41),
  (.len (.tmp 40)), (some (35, false))⟩, ⟨(some 42), (.bin .add (.tmp 38) (.tmp 41)), (some (35, false))⟩, ⟨(some 43), (.bin .gtr (.tmp 42) (.const (.int .i64 40))), (some (35,
  false))⟩, ⟨(some 44), (.pick (.tmp 35) (.const (.bool true)) (.tmp 43)), none⟩]) (.cond (.tmp 44) (.seq (.region [⟨(some 45), (.call (.func 16) []), none⟩, ⟨(some 6), (.mv (.tmp
  45)), none⟩]) .ret) .skip)) (.seq (.draw [⟨(some 46), (.faddr 0 (.tmp 3)), none⟩, ⟨(some 47), (.load none (.tmp 46)), none⟩, ⟨(some 48), (.faddr 0 (.tmp 4)), none⟩, ⟨(some 49),
  (.load none (.tmp 48)), none⟩, ⟨(some 50), (.bin .add (.tmp 47) (.tmp 49)), none⟩, ⟨(some 51), (.bslice [] 0 4 []), none⟩, ⟨(some 52), (.faddr 1 (.tmp 3)), none⟩, ⟨(some 53),
  (.load none (.tmp 52)), none⟩, ⟨(some 54), (.app 4 32 (.tmp 51) (.tmp 53)), none⟩, ⟨(some 55), (.build [(.int .i64 0), (.slc none 0 0 true 0)] [(0, (1, (.tmp 50))), (1, (1,
  (.tmp 54)))]), none⟩, ⟨(some 7), (.alloc [(.int .i64 0), (.slc none 0 0 true 0)]), none⟩, ⟨none, (.store 2 (.tmp 7) (.tmp 55)), none⟩] [(1, 5), (3, 5), (5, 7), (1, 8), (3, 8),
  (1, 10), (3, 10), (5, 10), (7, 10), (8, 10)]) (.seq (.seq (.region [⟨(some 8), (.mv (.const (.int .i64 0))), none⟩]) (.block 0 (.loop (.seq (.seq (.region [⟨(some 56), (.mv
  (.tmp 8)), none⟩, ⟨(some 57), (.faddr 1 (.tmp 4)), none⟩, ⟨(some 58), (.load none (.tmp 57)), none⟩, ⟨(some 59), (.len (.tmp 58)), none⟩, ⟨(some 60), (.bin .lss (.tmp 56) (.tmp
  59)), none⟩]) (.cond (.tmp 60) .skip (.exit 0))) (.seq (.block 1 (.seq (.region [⟨(some 63), (.faddr 1 (.tmp 4)), none⟩, ⟨(some 64), (.load none (.tmp 63)), none⟩, ⟨(some 65),
  (.mv (.tmp 8)), none⟩, ⟨(some 66), (.iaddrS 4 (.tmp 64) (.tmp 65)), none⟩, ⟨(some 67), (.load (some 4) (.tmp 66)), none⟩, ⟨(some 9), (.alloc [(.int .i64 0), (.int .i64 0), (.int
  .i64 0), (.int .i64 0)]), none⟩, ⟨none, (.store 4 (.tmp 9) (.tmp 67)), none⟩]) (.seq (.seq (.region [⟨(some 68), (.faddr 0 (.tmp 9)), none⟩, ⟨(some 69), (.load none (.tmp 68)),
  none⟩, ⟨(some 70), (.bin .gtr (.tmp 69) (.const (.int .i64 0))), none⟩]) (.cond (.tmp 70) (.region [⟨(some 71), (.faddr 0 (.tmp 9)), none⟩, ⟨(some 72), (.load none (.tmp 71)),
  none⟩, ⟨(some 73), (.faddr 0 (.tmp 3)), none⟩, ⟨(some 74), (.load none (.tmp 73)), none⟩, ⟨(some 75), (.bin .add (.tmp 72) (.tmp 74)), none⟩, ⟨(some 76), (.faddr 0 (.tmp 9)),
  none⟩, ⟨none, (.store 1 (.tmp 76) (.tmp 75)), none⟩]) .skip)) (.seq (.seq (.region [⟨(some 77), (.faddr 1 (.tmp 9)), none⟩, ⟨(some 78), (.load none (.tmp 77)), none⟩, ⟨(some 79),
   (.bin .gtr (.tmp 78) (.const (.int .i64 0))), none⟩]) (.cond (.tmp 79) (.region [⟨(some 80), (.faddr 1 (.tmp 9)), none⟩, ⟨(some 81), (.load none (.tmp 80)), none⟩, ⟨(some 82),
  (.faddr 0 (.tmp 3)), none⟩, ⟨(some 83), (.load none (.tmp 82)), none⟩, ⟨(some 84), (.bin .add (.tmp 81) (.tmp 83)), none⟩, ⟨(some 85), (.faddr 1 (.tmp 9)), none⟩, ⟨none, (.store
  1 (.tmp 85) (.tmp 84)), none⟩]) .skip)) (.region [⟨(some 86), (.faddr 1 (.tmp 7)), none⟩, ⟨(some 87), (.load none (.tmp 86)), none⟩, ⟨(some 88), (.load (some 4) (.tmp 9)), none⟩,
   ⟨(some 89), (.bslice [(.int .i64 0), (.int .i64 0), (.int .i64 0), (.int .i64 0)] 1 4 [(0, (4, (.tmp 88)))]), none⟩, ⟨(some 90), (.app 4 32 (.tmp 87) (.tmp 89)), none⟩, ⟨(some
  91), (.faddr 1 (.tmp 7)), none⟩, ⟨none, (.store 1 (.tmp 91) (.tmp 90)), none⟩]))))) (.region [⟨(some 61), (.mv (.tmp 8)), none⟩, ⟨(some 62), (.bin .add (.tmp 61) (.const (.int
  .i64 1))), none⟩, ⟨(some 8), (.mv (.tmp 62)), none⟩])))))) (.seq (.region [⟨(some 93), (.load (some 2) (.tmp 3)), none⟩, ⟨(some 94), (.call (.func 23) [(.tmp 93)]), none⟩,
  ⟨(some 92), (.mv (.tmp 94)), none⟩, ⟨(some 95), (.ext (.tmp 92) 0), none⟩, ⟨(some 96), (.ext (.tmp 92) 1), none⟩, ⟨(some 10), (.mv (.tmp 95)), none⟩, ⟨(some 11), (.mv (.tmp 96)),
   none⟩]) (.seq (.region [⟨(some 98), (.load (some 2) (.tmp 4)), none⟩, ⟨(some 99), (.call (.func 23) [(.tmp 98)]), none⟩, ⟨(some 97), (.mv (.tmp 99)), none⟩, ⟨(some 100), (.ext
  (.tmp 97) 0), none⟩, ⟨(some 101), (.ext (.tmp 97) 1), none⟩, ⟨(some 12), (.mv (.tmp 100)), none⟩, ⟨(some 13), (.mv (.tmp 101)), none⟩]) (.seq (.region [⟨(some 103), (.load (some
  2) (.tmp 7)), none⟩, ⟨(some 104), (.call (.func 23) [(.tmp 103)]), none⟩, ⟨(some 102), (.mv (.tmp 104)), none⟩, ⟨(some 105), (.ext (.tmp 102) 0), none⟩, ⟨(some 106), (.ext (.tmp
  102) 1), none⟩, ⟨(some 14), (.mv (.tmp 105)), none⟩, ⟨(some 15), (.mv (.tmp 106)), none⟩]) (.seq (.seq (.region [⟨(some 107), (.mv (.tmp 15)), none⟩, ⟨(some 108), (.bin .eql
  (.tmp 107) (.const (.int .i64 0))), none⟩, ⟨(some 109), (.mv (.tmp 11)), none⟩, ⟨(some 110), (.bin .eql (.tmp 109) (.const (.int .i64 0))), none⟩, ⟨(some 111), (.mv (.tmp 110)),
  none⟩, ⟨(some 112), (.mv (.tmp 13)), (some (111, true))⟩, ⟨(some 113), (.bin .eql (.tmp 112) (.const (.int .i64 0))), (some (111, true))⟩, ⟨(some 114), (.pick (.tmp 111) (.tmp
  113) (.const (.bool false))), none⟩, ⟨(some 115), (.eqf true false [.bool] (.tmp 108) (.tmp 114)), none⟩, ⟨(some 116), (.mv (.tmp 115)), none⟩, ⟨(some 117), (.mv (.tmp 15)),
  (some (116, false))⟩, ⟨(some 118), (.bin .neq (.tmp 117) (.const (.int .i64 0))), (some (116, false))⟩, ⟨(some 119), (.mv (.tmp 118)), (some (116, false))⟩, ⟨(some 120), (.mv
  (.tmp 15)), (some (119, true))⟩, ⟨(some 121), (.bin .neq (.tmp 120) (.const (.int .i64 21))), (some (119, true))⟩, ⟨(some 122), (.pick (.tmp 119) (.tmp 121) (.const (.bool
  false))), (some (116, false))⟩, ⟨(some 123), (.pick (.tmp 116) (.const (.bool true)) (.tmp 122)), none⟩]) (.cond (.tmp 123) (.seq (.region [⟨(some 6), (.mv (.const (.bool
  false))), none⟩]) .ret) .skip)) (.seq (.seq (.region [⟨(some 124), (.mv (.tmp 15)), none⟩, ⟨(some 125), (.bin .neq (.tmp 124) (.const (.int .i64 0))), none⟩, ⟨(some 126), (.mv
  (.tmp 125)), none⟩, ⟨(some 127), (.faddr 1 (.tmp 7)), (some (126, false))⟩, ⟨(some 128), (.load none (.tmp 127)), (some (126, false))⟩, ⟨(some 129), (.len (.tmp 128)), (some
  (126, false))⟩, ⟨(some 130), (.bin .eql (.tmp 129) (.const (.int .i64 0))), (some (126, false))⟩, ⟨(some 131), (.pick (.tmp 126) (.const (.bool true)) (.tmp 130)), none⟩])
  (.cond (.tmp 131) (.seq (.region [⟨(some 132), (.call (.func 16) []), none⟩, ⟨(some 6), (.mv (.tmp 132)), none⟩]) .ret) .skip)) (.seq (.seq (.draw [⟨(some 133), (.mv (.tmp 14)),
  none⟩, ⟨(some 134), (.len (.tmp 133)), none⟩, ⟨(some 135), (.faddr 1 (.tmp 7)), none⟩, ⟨(some 136), (.load none (.tmp 135)), none⟩, ⟨(some 137), (.len (.tmp 136)), none⟩, ⟨(some
  138), (.bin .neq (.tmp 134) (.tmp 137)), none⟩, ⟨(some 139), (.mv (.tmp 138)), none⟩, ⟨(some 140), (.load (some 2) (.tmp 7)), (some (139, false))⟩, ⟨(some 141), (.bslice [] 0 1
  []), (some (139, false))⟩, ⟨(some 142), (.mv (.tmp 10)), (some (139, false))⟩, ⟨(some 143), (.app 1 8 (.tmp 141) (.tmp 142)), (some (139, false))⟩, ⟨(some 144), (.mv (.tmp 12)),
  (some (139, false))⟩, ⟨(some 145), (.app 1 8 (.tmp 143) (.tmp 144)), (some (139, false))⟩, ⟨(some 146), (.call (.func 21) [(.tmp 140), (.tmp 145)]), (some (139, false))⟩, ⟨(some
  147), (.bin .neq (.tmp 146) (.const (.int .i64 0))), (some (139, false))⟩, ⟨(some 148), (.pick (.tmp 139) (.const (.bool true)) (.tmp 147)), none⟩, ⟨(some 149), (.mv (.tmp 148)),
   none⟩, ⟨(some 150), (.load (some 2) (.tmp 3)), (some (149, false))⟩, ⟨(some 151), (.mv (.tmp 14)), (some (149, false))⟩, ⟨(some 152), (.faddr 1 (.tmp 3)), (some (149, false))⟩,
  ⟨(some 153), (.load none (.tmp 152)), (some (149, false))⟩, ⟨(some 154), (.len (.tmp 153)), (some (149, false))⟩, ⟨(some 155), (.slc 1 (.tmp 151) none (some (.tmp 154)) none),
  (some (149, false))⟩, ⟨(some 156), (.call (.func 21) [(.tmp 150), (.tmp 155)]), (some (149, false))⟩, ⟨(some 157), (.bin .neq (.tmp 156) (.const (.int .i64 0))), (some (149,
  false))⟩, ⟨(some 158), (.pick (.tmp 149) (.const (.bool true)) (.tmp 157)), none⟩, ⟨(some 159), (.mv (.tmp 158)), none⟩, ⟨(some 160), (.load (some 2) (.tmp 4)), (some (159,
  false))⟩, ⟨(some 161), (.mv (.tmp 14)), (some (159, false))⟩, ⟨(some 162), (.faddr 1 (.tmp 3)), (some (159, false))⟩, ⟨(some 163), (.load none (.tmp 162)), (some (159, false))⟩,
  ⟨(some 164), (.len (.tmp 163)), (some (159, false))⟩, ⟨(some 165), (.slc 1 (.tmp 161) (some (.tmp 164)) none none), (some (159, false))⟩, ⟨(some 166), (.call (.func 21) [(.tmp
  160), (.tmp 165)]), (some (159, false))⟩, ⟨(some 167), (.bin .neq (.tmp 166) (.const (.int .i64 0))), (some (159, false))⟩, ⟨(some 168), (.pick (.tmp 159) (.const (.bool true))
  (.tmp 167)), none⟩] [(7, 8), (7, 10), (7, 12)]) (.cond (.tmp 168) (.seq (.region [⟨(some 6), (.mv (.const (.bool false))), none⟩]) .ret) .skip)) (.seq (.region [⟨(some 169),
  (.mv (.tmp 2)), none⟩, ⟨(some 170), (.conv .i64 (.tmp 169)), none⟩, ⟨(some 171), (.faddr 1 (.tmp 7)), none⟩, ⟨(some 172), (.load none (.tmp 171)), none⟩, ⟨(some 173), (.len
  (.tmp 172)), none⟩, ⟨(some 174), (.bin .rem (.tmp 170) (.tmp 173)), none⟩, ⟨(some 16), (.mv (.tmp 174)), none⟩]) (.seq (.region [⟨(some 176), (.load (some 2) (.tmp 7)), none⟩,
  ⟨(some 177), (.mv (.tmp 16)), none⟩, ⟨(some 178), (.call (.func 25) [(.tmp 176), (.tmp 177)]), none⟩, ⟨(some 175), (.mv (.tmp 178)), none⟩, ⟨(some 179), (.ext (.tmp 175) 0),
  none⟩, ⟨(some 180), (.ext (.tmp 175) 1), none⟩, ⟨(some 17), (.alloc [(.int .i64 0), (.int .i64 0)]), none⟩, ⟨none, (.store 2 (.tmp 17) (.tmp 179)), none⟩, ⟨(some 11), (.mv (.tmp
  180)), none⟩]) (.seq (.region [⟨(some 181), (.load (some 2) (.tmp 17)), none⟩, ⟨(some 18), (.alloc [(.int .i64 0), (.int .i64 0)]), none⟩, ⟨none, (.store 2 (.tmp 18) (.tmp 181)),
   none⟩, ⟨(some 13), (.mv (.const (.int .i64 0))), none⟩]) (.seq (.seq (.region [⟨(some 182), (.mv (.tmp 16)), none⟩, ⟨(some 183), (.faddr 1 (.tmp 3)), none⟩, ⟨(some 184), (.load
  none (.tmp 183)), none⟩, ⟨(some 185), (.len (.tmp 184)), none⟩, ⟨(some 186), (.bin .lss (.tmp 182) (.tmp 185)), none⟩]) (.cond (.tmp 186) (.region [⟨(some 188), (.load (some 2)
  (.tmp 3)), none⟩, ⟨(some 189), (.mv (.tmp 16)), none⟩, ⟨(some 190), (.call (.func 25) [(.tmp 188), (.tmp 189)]), none⟩, ⟨(some 187), (.mv (.tmp 190)), none⟩, ⟨(some 191), (.ext
  (.tmp 187) 0), none⟩, ⟨(some 192), (.ext (.tmp 187) 1), none⟩, ⟨none, (.store 2 (.tmp 18) (.tmp 191)), none⟩, ⟨(some 13), (.mv (.tmp 192)), none⟩]) (.region [⟨(some 194), (.load
  (some 2) (.tmp 4)), none⟩, ⟨(some 195), (.mv (.tmp 16)), none⟩, ⟨(some 196), (.faddr 1 (.tmp 3)), none⟩, ⟨(some 197), (.load none (.tmp 196)), none⟩, ⟨(some 198), (.len (.tmp
  197)), none⟩, ⟨(some 199), (.bin .sub (.tmp 195) (.tmp 198)), none⟩, ⟨(some 200), (.call (.func 25) [(.tmp 194), (.tmp 199)]), none⟩, ⟨(some 193), (.mv (.tmp 200)), none⟩,
  ⟨(some 201), (.ext (.tmp 193) 0), none⟩, ⟨(some 202), (.ext (.tmp 193) 1), none⟩, ⟨none, (.store 2 (.tmp 18) (.tmp 201)), none⟩, ⟨(some 13), (.mv (.tmp 202)), none⟩]))) (.seq
  (.region [⟨(some 203), (.mv (.tmp 11)), none⟩, ⟨(some 204), (.bin .eql (.tmp 203) (.const (.int .i64 0))), none⟩, ⟨(some 205), (.mv (.tmp 204)), none⟩, ⟨(some 206), (.mv (.tmp
  13)), (some (205, true))⟩, ⟨(some 207), (.bin .eql (.tmp 206) (.const (.int .i64 0))), (some (205, true))⟩, ⟨(some 208), (.pick (.tmp 205) (.tmp 207) (.const (.bool false))),
  none⟩, ⟨(some 209), (.mv (.tmp 208)), none⟩, ⟨(some 210), (.load (some 2) (.tmp 17)), (some (209, true))⟩, ⟨(some 211), (.load (some 2) (.tmp 18)), (some (209, true))⟩, ⟨(some
  212), (.eqf false true [.int, .int] (.tmp 210) (.tmp 211)), (some (209, true))⟩, ⟨(some 213), (.pick (.tmp 209) (.tmp 212) (.const (.bool false))), none⟩, ⟨(some 214), (.mv
  (.tmp 213)), none⟩, ⟨(some 215), (.call (.func 16) []), (some (214, true))⟩, ⟨(some 216), (.pick (.tmp 214) (.tmp 215) (.const (.bool false))), none⟩, ⟨(some 6), (.mv (.tmp
  216)), none⟩]) .ret)))))))))))))))⟩
def af13 : AFn := ⟨235, [(.tmp 10)], (.seq (.region [⟨(some 8), (.box (.tmp 3)), none⟩, ⟨(some 9), (.box (.tmp 4)), none⟩, ⟨(some 10), (.mv (.const (.bool false))), none⟩]) (.seq (.seq (.region
  [⟨(some 32), (.mv (.tmp 0)), none⟩, ⟨(some 33), (.len (.tmp 32)), none⟩, ⟨(some 34), (.bin .gtr (.tmp 33) (.const (.int .i64 20))), none⟩]) (.cond (.tmp 34) (.seq (.region
  [⟨(some 35), (.call (.func 16) []), none⟩, ⟨(some 10), (.mv (.tmp 35)), none⟩]) .ret) .skip)) (.seq (.region [⟨(some 37), (.mv (.tmp 0)), none⟩, ⟨(some 38), (.call (.func 35)
  [(.tmp 37)]), none⟩, ⟨(some 36), (.mv (.tmp 38)), none⟩, ⟨(some 39), (.ext (.tmp 36) 0), none⟩, ⟨(some 40), (.ext (.tmp 36) 1), none⟩, ⟨(some 11), (.alloc [(.int .i64 0), (.int
  .i64 0)]), none⟩, ⟨none, (.store 2 (.tmp 11) (.tmp 39)), none⟩, ⟨(some 12), (.mv (.tmp 40)), none⟩]) (.seq (.region [⟨(some 42), (.mv (.tmp 0)), none⟩, ⟨(some 43), (.call (.func
  36) [(.tmp 42)]), none⟩, ⟨(some 41), (.mv (.tmp 43)), none⟩, ⟨(some 44), (.ext (.tmp 41) 0), none⟩, ⟨(some 45), (.ext (.tmp 41) 1), none⟩, ⟨(some 13), (.alloc [(.int .i64 0),
  (.int .i64 0)]), none⟩, ⟨none, (.store 2 (.tmp 13) (.tmp 44)), none⟩, ⟨(some 14), (.mv (.tmp 45)), none⟩]) (.seq (.seq (.region [⟨(some 46), (.mv (.tmp 12)), none⟩, ⟨(some 47),
  (.mv (.tmp 14)), none⟩, ⟨(some 48), (.bin .neq (.tmp 46) (.tmp 47)), none⟩]) (.cond (.tmp 48) (.seq (.region [⟨(some 10), (.mv (.const (.bool false))), none⟩]) .ret) .skip))
  (.seq (.seq (.region [⟨(some 15), (.mv (.const (.int .i64 0))), none⟩]) (.block 0 (.loop (.seq (.seq (.region [⟨(some 49), (.mv (.tmp 15)), none⟩, ⟨(some 50), (.mv (.tmp 0)),
  none⟩, ⟨(some 51), (.len (.tmp 50)), none⟩, ⟨(some 52), (.bin .lss (.tmp 49) (.tmp 51)), none⟩, ⟨(some 53), (.mv (.tmp 52)), none⟩, ⟨(some 54), (.mv (.tmp 12)), (some (53,
  true))⟩, ⟨(some 55), (.bin .eql (.tmp 54) (.const (.int .i64 0))), (some (53, true))⟩, ⟨(some 56), (.pick (.tmp 53) (.tmp 55) (.const (.bool false))), none⟩]) (.cond (.tmp 56)
  .skip (.exit 0))) (.seq (.block 1 (.seq (.draw [⟨(some 60), (.mv (.tmp 0)), none⟩, ⟨(some 61), (.mv (.tmp 15)), none⟩, ⟨(some 62), (.iaddrS 2 (.tmp 60) (.tmp 61)), none⟩, ⟨(some
  63), (.faddr 0 (.tmp 62)), none⟩, ⟨(some 64), (.load none (.tmp 63)), none⟩, ⟨(some 65), (.load (some 2) (.tmp 11)), none⟩, ⟨(some 66), (.call (.func 33) [(.tmp 64), (.tmp 65)]),
   none⟩, ⟨(some 59), (.mv (.tmp 66)), none⟩, ⟨(some 67), (.ext (.tmp 59) 0), none⟩, ⟨(some 68), (.ext (.tmp 59) 1), none⟩, ⟨(some 16), (.alloc [(.int .i64 0), (.int .i64 0)]),
  none⟩, ⟨none, (.store 2 (.tmp 16) (.tmp 67)), none⟩, ⟨(some 17), (.mv (.tmp 68)), none⟩] [(4, 10), (5, 10), (6, 10)]) (.seq (.region [⟨(some 70), (.mv (.tmp 0)), none⟩, ⟨(some
  71), (.mv (.tmp 15)), none⟩, ⟨(some 72), (.bin .add (.tmp 71) (.const (.int .i64 1))), none⟩, ⟨(some 73), (.slc 2 (.tmp 70) none (some (.tmp 72)) none), none⟩, ⟨(some 74),
  (.call (.func 35) [(.tmp 73)]), none⟩, ⟨(some 69), (.mv (.tmp 74)), none⟩, ⟨(some 75), (.ext (.tmp 69) 0), none⟩, ⟨(some 76), (.ext (.tmp 69) 1), none⟩, ⟨(some 18), (.alloc
  [(.int .i64 0), (.int .i64 0)]), none⟩, ⟨none, (.store 2 (.tmp 18) (.tmp 75)), none⟩, ⟨(some 19), (.mv (.tmp 76)), none⟩]) (.seq (.draw [⟨(some 77), (.mv (.tmp 17)), none⟩,
  ⟨(some 78), (.bin .neq (.tmp 77) (.const (.int .i64 0))), none⟩, ⟨(some 79), (.mv (.tmp 78)), none⟩, ⟨(some 80), (.mv (.tmp 19)), (some (79, false))⟩, ⟨(some 81), (.bin .neq
  (.tmp 80) (.const (.int .i64 0))), (some (79, false))⟩, ⟨(some 82), (.pick (.tmp 79) (.const (.bool true)) (.tmp 81)), none⟩, ⟨(some 83), (.mv (.tmp 82)), none⟩, ⟨(some 84),
  (.mv (.tmp 0)), (some (83, false))⟩, ⟨(some 85), (.mv (.tmp 15)), (some (83, false))⟩, ⟨(some 86), (.iaddrS 2 (.tmp 84) (.tmp 85)), (some (83, false))⟩, ⟨(some 87), (.faddr 1
  (.tmp 86)), (some (83, false))⟩, ⟨(some 88), (.load none (.tmp 87)), (some (83, false))⟩, ⟨(some 89), (.faddr 0 (.tmp 16)), (some (83, false))⟩, ⟨(some 90), (.load none (.tmp
  89)), (some (83, false))⟩, ⟨(some 91), (.bin .lss (.tmp 88) (.tmp 90)), (some (83, false))⟩, ⟨(some 92), (.pick (.tmp 83) (.const (.bool true)) (.tmp 91)), none⟩, ⟨(some 93),
  (.mv (.tmp 92)), none⟩, ⟨(some 94), (.mv (.tmp 0)), (some (93, false))⟩, ⟨(some 95), (.mv (.tmp 15)), (some (93, false))⟩, ⟨(some 96), (.iaddrS 2 (.tmp 94) (.tmp 95)), (some (93,
   false))⟩, ⟨(some 97), (.faddr 1 (.tmp 96)), (some (93, false))⟩, ⟨(some 98), (.load none (.tmp 97)), (some (93, false))⟩, ⟨(some 99), (.faddr 1 (.tmp 16)), (some (93, false))⟩,
  ⟨(some 100), (.load none (.tmp 99)), (some (93, false))⟩, ⟨(some 101), (.bin .gtr (.tmp 98) (.tmp 100)), (some (93, false))⟩, ⟨(some 102), (.pick (.tmp 93) (.const (.bool true))
  (.tmp 101)), none⟩, ⟨(some 103), (.mv (.tmp 102)), none⟩, ⟨(some 104), (.faddr 0 (.tmp 18)), (some (103, false))⟩, ⟨(some 105), (.load none (.tmp 104)), (some (103, false))⟩,
  ⟨(some 106), (.faddr 0 (.tmp 11)), (some (103, false))⟩, ⟨(some 107), (.load none (.tmp 106)), (some (103, false))⟩, ⟨(some 108), (.bin .lss (.tmp 105) (.tmp 107)), (some (103,
  false))⟩, ⟨(some 109), (.pick (.tmp 103) (.const (.bool true)) (.tmp 108)), none⟩, ⟨(some 110), (.mv (.tmp 109)), none⟩, ⟨(some 111), (.faddr 1 (.tmp 18)), (some (110, false))⟩,
  ⟨(some 112), (.load none (.tmp 111)), (some (110, false))⟩, ⟨(some 113), (.faddr 1 (.tmp 11)), (some (110, false))⟩, ⟨(some 114), (.load none (.tmp 113)), (some (110, false))⟩,
  ⟨(some 115), (.bin .gtr (.tmp 112) (.tmp 114)), (some (110, false))⟩, ⟨(some 116), (.pick (.tmp 110) (.const (.bool true)) (.tmp 115)), none⟩] []) (.cond (.tmp 116) (.seq
  (.region [⟨(some 10), (.mv (.const (.bool false))), none⟩]) .ret) .skip))))) (.region [⟨(some 57), (.mv (.tmp 15)), none⟩, ⟨(some 58), (.bin .add (.tmp 57) (.const (.int .i64
  1))), none⟩, ⟨(some 15), (.mv (.tmp 58)), none⟩])))))) (.seq (.region [⟨(some 117), (.mv (.tmp 1)), none⟩, ⟨(some 118), (.conv .i64 (.tmp 117)), none⟩, ⟨(some 119), (.bin .rem
  (.tmp 118) (.const (.int .i64 100001))), none⟩, ⟨(some 20), (.mv (.tmp 119)), none⟩]) (.seq (.region [⟨(some 120), (.mv (.tmp 20)), none⟩, ⟨(some 121), (.mv (.tmp 2)), none⟩,
  ⟨(some 122), (.conv .i64 (.tmp 121)), none⟩, ⟨(some 123), (.bin .add (.tmp 120) (.tmp 122)), none⟩, ⟨(some 124), (.mnx false [(.const (.int .i64 100000)), (.tmp 123)]), none⟩,
  ⟨(some 21), (.mv (.tmp 124)), none⟩]) (.seq (.region [⟨(some 125), (.iaddrA 2 1 (.tmp 8) (.const (.int .i64 0))), none⟩, ⟨(some 126), (.load none (.tmp 125)), none⟩, ⟨(some 127),
   (.conv .i64 (.tmp 126)), none⟩, ⟨(some 128), (.bin .rem (.tmp 127) (.const (.int .i64 201))), none⟩, ⟨(some 129), (.bin .sub (.tmp 128) (.const (.int .i64 100))), none⟩, ⟨(some
  130), (.call (.func 40) [(.tmp 129), (.const (.int .i64 0))]), none⟩, ⟨(some 22), (.alloc [(.int .i64 0), (.int .i64 0)]), none⟩, ⟨none, (.store 2 (.tmp 22) (.tmp 130)), none⟩])
  (.seq (.region [⟨(some 131), (.faddr 0 (.tmp 22)), none⟩, ⟨(some 132), (.load none (.tmp 131)), none⟩, ⟨(some 133), (.iaddrA 2 1 (.tmp 8) (.const (.int .i64 1))), none⟩, ⟨(some
  134), (.load none (.tmp 133)), none⟩, ⟨(some 135), (.conv .i64 (.tmp 134)), none⟩, ⟨(some 136), (.bin .add (.tmp 132) (.tmp 135)), none⟩, ⟨(some 137), (.mnx false [(.const (.int
  .i64 100)), (.tmp 136)]), none⟩, ⟨(some 138), (.faddr 1 (.tmp 22)), none⟩, ⟨none, (.store 1 (.tmp 138) (.tmp 137)), none⟩]) (.seq (.region [⟨(some 139), (.faddr 0 (.tmp 22)),
  none⟩, ⟨(some 140), (.load none (.tmp 139)), none⟩, ⟨(some 141), (.iaddrA 2 1 (.tmp 9) (.const (.int .i64 0))), none⟩, ⟨(some 142), (.load none (.tmp 141)), none⟩, ⟨(some 143),
  (.conv .i64 (.tmp 142)), none⟩, ⟨(some 144), (.bin .sub (.tmp 140) (.tmp 143)), none⟩, ⟨(some 145), (.mnx true [(.const (.int .i64 (-100))), (.tmp 144)]), none⟩, ⟨(some 146),
  (.faddr 1 (.tmp 22)), none⟩, ⟨(some 147), (.load none (.tmp 146)), none⟩, ⟨(some 148), (.iaddrA 2 1 (.tmp 9) (.const (.int .i64 1))), none⟩, ⟨(some 149), (.load none (.tmp 148)),
   none⟩, ⟨(some 150), (.conv .i64 (.tmp 149)), none⟩, ⟨(some 151), (.bin .add (.tmp 147) (.tmp 150)), none⟩, ⟨(some 152), (.mnx false [(.const (.int .i64 100)), (.tmp 151)]),
  none⟩, ⟨(some 153), (.call (.func 40) [(.tmp 145), (.tmp 152)]), none⟩, ⟨(some 23), (.alloc [(.int .i64 0), (.int .i64 0)]), none⟩, ⟨none, (.store 2 (.tmp 23) (.tmp 153)),
  none⟩]) (.seq (.region [⟨(some 155), (.mv (.tmp 20)), none⟩, ⟨(some 156), (.load (some 2) (.tmp 22)), none⟩, ⟨(some 157), (.call (.func 33) [(.tmp 155), (.tmp 156)]), none⟩,
  ⟨(some 154), (.mv (.tmp 157)), none⟩, ⟨(some 158), (.ext (.tmp 154) 0), none⟩, ⟨(some 159), (.ext (.tmp 154) 1), none⟩, ⟨(some 24), (.alloc [(.int .i64 0), (.int .i64 0)]),
  none⟩, ⟨none, (.store 2 (.tmp 24) (.tmp 158)), none⟩, ⟨(some 25), (.mv (.tmp 159)), none⟩]) (.seq (.region [⟨(some 161), (.mv (.tmp 21)), none⟩, ⟨(some 162), (.load (some 2)
  (.tmp 22)), none⟩, ⟨(some 163), (.call (.func 33) [(.tmp 161), (.tmp 162)]), none⟩, ⟨(some 160), (.mv (.tmp 163)), none⟩, ⟨(some 164), (.ext (.tmp 160) 0), none⟩, ⟨(some 165),
  (.ext (.tmp 160) 1), none⟩, ⟨(some 26), (.alloc [(.int .i64 0), (.int .i64 0)]), none⟩, ⟨none, (.store 2 (.tmp 26) (.tmp 164)), none⟩, ⟨(some 27), (.mv (.tmp 165)), none⟩])
  (.seq (.region [⟨(some 167), (.mv (.tmp 20)), none⟩, ⟨(some 168), (.load (some 2) (.tmp 23)), none⟩, ⟨(some 169), (.call (.func 33) [(.tmp 167), (.tmp 168)]), none⟩, ⟨(some 166),
   (.mv (.tmp 169)), none⟩, ⟨(some 170), (.ext (.tmp 166) 0), none⟩, ⟨(some 171), (.ext (.tmp 166) 1), none⟩, ⟨(some 28), (.alloc [(.int .i64 0), (.int .i64 0)]), none⟩, ⟨none,
  (.store 2 (.tmp 28) (.tmp 170)), none⟩, ⟨(some 29), (.mv (.tmp 171)), none⟩]) (.seq (.region [⟨(some 173), (.mv (.tmp 20)), none⟩, ⟨(some 174), (.call (.func 40) [(.const (.int
  .i64 0)), (.const (.int .i64 0))]), none⟩, ⟨(some 175), (.call (.func 33) [(.tmp 173), (.tmp 174)]), none⟩, ⟨(some 172), (.mv (.tmp 175)), none⟩, ⟨(some 176), (.ext (.tmp 172)
  0), none⟩, ⟨(some 177), (.ext (.tmp 172) 1), none⟩, ⟨(some 30), (.alloc [(.int .i64 0), (.int .i64 0)]), none⟩, ⟨none, (.store 2 (.tmp 30) (.tmp 176)), none⟩, ⟨(some 31), (.mv
  (.tmp 177)), none⟩]) (.seq (.seq (.draw [⟨(some 178), (.mv (.tmp 31)), none⟩, ⟨(some 179), (.bin .neq (.tmp 178) (.const (.int .i64 0))), none⟩, ⟨(some 180), (.mv (.tmp 179)),
  none⟩, ⟨(some 181), (.load (some 2) (.tmp 30)), (some (180, false))⟩, ⟨(some 182), (.mv (.tmp 20)), (some (180, false))⟩, ⟨(some 183), (.mv (.tmp 20)), (some (180, false))⟩,
  ⟨(some 184), (.call (.func 40) [(.tmp 182), (.tmp 183)]), (some (180, false))⟩, ⟨(some 185), (.eqf true true [.int, .int] (.tmp 181) (.tmp 184)), (some (180, false))⟩, ⟨(some
  186), (.pick (.tmp 180) (.const (.bool true)) (.tmp 185)), none⟩, ⟨(some 187), (.mv (.tmp 186)), none⟩, ⟨(some 188), (.mv (.tmp 25)), (some (187, false))⟩, ⟨(some 189), (.bin
  .neq (.tmp 188) (.const (.int .i64 0))), (some (187, false))⟩, ⟨(some 190), (.mv (.tmp 189)), (some (187, false))⟩, ⟨(some 191), (.mv (.tmp 25)), (some (190, true))⟩, ⟨(some
  192), (.bin .neq (.tmp 191) (.const (.int .i64 5))), (some (190, true))⟩, ⟨(some 193), (.pick (.tmp 190) (.tmp 192) (.const (.bool false))), (some (187, false))⟩, ⟨(some 194),
  (.pick (.tmp 187) (.const (.bool true)) (.tmp 193)), none⟩] [(3, 6)]) (.cond (.tmp 194) (.seq (.region [⟨(some 10), (.mv (.const (.bool false))), none⟩]) .ret) .skip)) (.seq
  (.seq (.region [⟨(some 195), (.mv (.tmp 25)), none⟩, ⟨(some 196), (.bin .neq (.tmp 195) (.const (.int .i64 0))), none⟩]) (.cond (.tmp 196) (.seq (.region [⟨(some 197), (.call
  (.func 16) []), none⟩, ⟨(some 10), (.mv (.tmp 197)), none⟩]) .ret) .skip)) (.seq (.region [⟨(some 198), (.mv (.tmp 29)), none⟩, ⟨(some 199), (.bin .eql (.tmp 198) (.const (.int
  .i64 0))), none⟩, ⟨(some 200), (.mv (.tmp 199)), none⟩, ⟨(some 201), (.faddr 0 (.tmp 28)), (some (200, true))⟩, ⟨(some 202), (.load none (.tmp 201)), (some (200, true))⟩, ⟨(some
  203), (.faddr 0 (.tmp 24)), (some (200, true))⟩, ⟨(some 204), (.load none (.tmp 203)), (some (200, true))⟩, ⟨(some 205), (.bin .leq (.tmp 202) (.tmp 204)), (some (200, true))⟩,
  ⟨(some 206), (.pick (.tmp 200) (.tmp 205) (.const (.bool false))), none⟩, ⟨(some 207), (.mv (.tmp 206)), none⟩, ⟨(some 208), (.faddr 1 (.tmp 28)), (some (207, true))⟩, ⟨(some
  209), (.load none (.tmp 208)), (some (207, true))⟩, ⟨(some 210), (.faddr 1 (.tmp 24)), (some (207, true))⟩, ⟨(some 211), (.load none (.tmp 210)), (some (207, true))⟩, ⟨(some
  212), (.bin .geq (.tmp 209) (.tmp 211)), (some (207, true))⟩, ⟨(some 213), (.pick (.tmp 207) (.tmp 212) (.const (.bool false))), none⟩, ⟨(some 214), (.mv (.tmp 213)), none⟩,
  ⟨(some 215), (.mv (.tmp 27)), (some (214, true))⟩, ⟨(some 216), (.bin .neq (.tmp 215) (.const (.int .i64 0))), (some (214, true))⟩, ⟨(some 217), (.mv (.tmp 216)), (some (214,
  true))⟩, ⟨(some 218), (.faddr 0 (.tmp 26)), (some (217, false))⟩, ⟨(some 219), (.load none (.tmp 218)), (some (217, false))⟩, ⟨(some 220), (.faddr 0 (.tmp 24)), (some (217,
  false))⟩, ⟨(some 221), (.load none (.tmp 220)), (some (217, false))⟩, ⟨(some 222), (.bin .geq (.tmp 219) (.tmp 221)), (some (217, false))⟩, ⟨(some 223), (.mv (.tmp 222)), (some
  (217, false))⟩, ⟨(some 224), (.faddr 1 (.tmp 26)), (some (223, true))⟩, ⟨(some 225), (.load none (.tmp 224)), (some (223, true))⟩, ⟨(some 226), (.faddr 1 (.tmp 24)), (some (223,
  true))⟩, ⟨(some 227), (.load none (.tmp 226)), (some (223, true))⟩, ⟨(some 228), (.bin .geq (.tmp 225) (.tmp 227)), (some (223, true))⟩, ⟨(some 229), (.pick (.tmp 223) (.tmp
  228) (.const (.bool false))), (some (217, false))⟩, ⟨(some 230), (.pick (.tmp 217) (.const (.bool true)) (.tmp 229)), (some (214, true))⟩, ⟨(some 231), (.pick (.tmp 214) (.tmp
  230) (.const (.bool false))), none⟩, ⟨(some 232), (.mv (.tmp 231)), none⟩, ⟨(some 233), (.call (.func 16) []), (some (232, true))⟩, ⟨(some 234), (.pick (.tmp 232) (.tmp 233)
  (.const (.bool false))), none⟩, ⟨(some 10), (.mv (.tmp 234)), none⟩]) .ret))))))))))))))))))⟩
def af14 : AFn := ⟨128, [(.tmp 0)], (.seq (.region [⟨(some 0), (.mv (.const (.bool false))), none⟩]) (.seq (.region [⟨(some 16), (.call (.func 41) []), none⟩, ⟨(some 1), (.alloc [(.int .i64 0),
  (.slc none 0 0 true 0)]), none⟩, ⟨none, (.store 2 (.tmp 1) (.tmp 16)), none⟩]) (.seq (.region [⟨(some 2), (.mv (.const (.slc none 0 0 true 0))), none⟩]) (.seq (.seq (.region
  [⟨(some 3), (.mv (.const (.int .i64 0))), none⟩]) (.block 0 (.loop (.seq (.seq (.region [⟨(some 17), (.mv (.tmp 3)), none⟩, ⟨(some 18), (.bin .lss (.tmp 17) (.const (.int .i64
  4))), none⟩]) (.cond (.tmp 18) .skip (.exit 0))) (.seq (.block 1 (.seq (.region [⟨(some 22), (.load (some 2) (.tmp 1)), none⟩, ⟨(some 23), (.mv (.tmp 3)), none⟩, ⟨(some 24),
  (.call (.func 25) [(.tmp 22), (.tmp 23)]), none⟩, ⟨(some 21), (.mv (.tmp 24)), none⟩, ⟨(some 25), (.ext (.tmp 21) 0), none⟩, ⟨(some 26), (.ext (.tmp 21) 1), none⟩, ⟨(some 4),
  (.alloc [(.int .i64 0), (.int .i64 0)]), none⟩, ⟨none, (.store 2 (.tmp 4) (.tmp 25)), none⟩, ⟨(some 5), (.mv (.tmp 26)), none⟩]) (.seq (.seq (.region [⟨(some 27), (.mv (.tmp 5)),
   none⟩, ⟨(some 28), (.bin .neq (.tmp 27) (.const (.int .i64 0))), none⟩]) (.cond (.tmp 28) (.seq (.region [⟨(some 0), (.mv (.const (.bool false))), none⟩]) .ret) .skip))
  (.region [⟨(some 29), (.mv (.tmp 2)), none⟩, ⟨(some 30), (.load (some 2) (.tmp 4)), none⟩, ⟨(some 31), (.bslice [(.int .i64 0), (.int .i64 0)] 1 2 [(0, (2, (.tmp 30)))]), none⟩,
  ⟨(some 32), (.app 2 16 (.tmp 29) (.tmp 31)), none⟩, ⟨(some 2), (.mv (.tmp 32)), none⟩])))) (.region [⟨(some 19), (.mv (.tmp 3)), none⟩, ⟨(some 20), (.bin .add (.tmp 19) (.const
  (.int .i64 1))), none⟩, ⟨(some 3), (.mv (.tmp 20)), none⟩])))))) (.seq (.region [⟨(some 34), (.load (some 2) (.tmp 1)), none⟩, ⟨(some 35), (.bslice [(.int .i64 0)] 1 1 [(0, (1,
  (.const (.int .i64 1))))]), none⟩, ⟨(some 36), (.call (.func 28) [(.tmp 34), (.const (.int .i64 2)), (.const (.bool false)), (.tmp 35)]), none⟩, ⟨(some 33), (.mv (.tmp 36)),
  none⟩, ⟨(some 37), (.ext (.tmp 33) 0), none⟩, ⟨(some 38), (.ext (.tmp 33) 1), none⟩, ⟨(some 6), (.mv (.tmp 37)), none⟩, ⟨(some 7), (.mv (.tmp 38)), none⟩]) (.seq (.region
  [⟨(some 40), (.load (some 2) (.tmp 1)), none⟩, ⟨(some 41), (.bslice [(.int .i64 0), (.int .i64 0)] 2 1 [(0, (1, (.const (.int .i64 1)))), (1, (1, (.const (.int .i64 2))))]),
  none⟩, ⟨(some 42), (.call (.func 28) [(.tmp 40), (.const (.int .i64 2)), (.const (.bool false)), (.tmp 41)]), none⟩, ⟨(some 39), (.mv (.tmp 42)), none⟩, ⟨(some 43), (.ext (.tmp
  39) 0), none⟩, ⟨(some 44), (.ext (.tmp 39) 1), none⟩, ⟨(some 8), (.mv (.tmp 43)), none⟩, ⟨(some 9), (.mv (.tmp 44)), none⟩]) (.seq (.region [⟨(some 46), (.call (.func 42) []),
  none⟩, ⟨(some 47), (.bslice [(.int .i64 0), (.int .i64 0)] 2 1 [(0, (1, (.const (.int .i64 1)))), (1, (1, (.const (.int .i64 2))))]), none⟩, ⟨(some 48), (.call (.func 17) [(.tmp
  46), (.tmp 47)]), none⟩, ⟨(some 45), (.mv (.tmp 48)), none⟩, ⟨(some 49), (.ext (.tmp 45) 0), none⟩, ⟨(some 50), (.ext (.tmp 45) 1), none⟩, ⟨(some 10), (.mv (.tmp 49)), none⟩,
  ⟨(some 11), (.mv (.tmp 50)), none⟩]) (.seq (.region [⟨(some 52), (.call (.func 40) [(.const (.int .i64 0)), (.const (.int .i64 0))]), none⟩, ⟨(some 53), (.call (.func 33)
  [(.const (.int .i64 7)), (.tmp 52)]), none⟩, ⟨(some 51), (.mv (.tmp 53)), none⟩, ⟨(some 54), (.ext (.tmp 51) 0), none⟩, ⟨(some 55), (.ext (.tmp 51) 1), none⟩, ⟨(some 12),
  (.alloc [(.int .i64 0), (.int .i64 0)]), none⟩, ⟨none, (.store 2 (.tmp 12) (.tmp 54)), none⟩, ⟨(some 13), (.mv (.tmp 55)), none⟩]) (.seq (.region [⟨(some 57), (.call (.func 40)
  [(.const (.int .i64 (-100))), (.const (.int .i64 (-99)))]), none⟩, ⟨(some 58), (.call (.func 33) [(.const (.int .i64 9)), (.tmp 57)]), none⟩, ⟨(some 56), (.mv (.tmp 58)), none⟩,
  ⟨(some 59), (.ext (.tmp 56) 0), none⟩, ⟨(some 60), (.ext (.tmp 56) 1), none⟩, ⟨(some 14), (.alloc [(.int .i64 0), (.int .i64 0)]), none⟩, ⟨none, (.store 2 (.tmp 14) (.tmp 59)),
  none⟩, ⟨(some 15), (.mv (.tmp 60)), none⟩]) (.seq (.draw [⟨(some 61), (.mv (.tmp 7)), none⟩, ⟨(some 62), (.bin .eql (.tmp 61) (.const (.int .i64 0))), none⟩, ⟨(some 63), (.mv
  (.tmp 62)), none⟩, ⟨(some 64), (.mv (.tmp 9)), (some (63, true))⟩, ⟨(some 65), (.bin .eql (.tmp 64) (.const (.int .i64 0))), (some (63, true))⟩, ⟨(some 66), (.pick (.tmp 63)
  (.tmp 65) (.const (.bool false))), none⟩, ⟨(some 67), (.mv (.tmp 66)), none⟩, ⟨(some 68), (.mv (.tmp 11)), (some (67, true))⟩, ⟨(some 69), (.bin .eql (.tmp 68) (.const (.int
  .i64 5))), (some (67, true))⟩, ⟨(some 70), (.pick (.tmp 67) (.tmp 69) (.const (.bool false))), none⟩, ⟨(some 71), (.mv (.tmp 70)), none⟩, ⟨(some 72), (.mv (.tmp 13)), (some (71,
  true))⟩, ⟨(some 73), (.bin .eql (.tmp 72) (.const (.int .i64 0))), (some (71, true))⟩, ⟨(some 74), (.pick (.tmp 71) (.tmp 73) (.const (.bool false))), none⟩, ⟨(some 75), (.mv
  (.tmp 74)), none⟩, ⟨(some 76), (.mv (.tmp 15)), (some (75, true))⟩, ⟨(some 77), (.bin .eql (.tmp 76) (.const (.int .i64 0))), (some (75, true))⟩, ⟨(some 78), (.pick (.tmp 75)
  (.tmp 77) (.const (.bool false))), none⟩, ⟨(some 79), (.mv (.tmp 78)), none⟩, ⟨(some 80), (.mv (.tmp 6)), (some (79, true))⟩, ⟨(some 81), (.bin .eql (.tmp 80) (.const (.int .i64
  50))), (some (79, true))⟩, ⟨(some 82), (.pick (.tmp 79) (.tmp 81) (.const (.bool false))), none⟩, ⟨(some 83), (.mv (.tmp 82)), none⟩, ⟨(some 84), (.mv (.tmp 8)), (some (83,
  true))⟩, ⟨(some 85), (.bin .eql (.tmp 84) (.const (.int .i64 30))), (some (83, true))⟩, ⟨(some 86), (.pick (.tmp 83) (.tmp 85) (.const (.bool false))), none⟩, ⟨(some 87), (.mv
  (.tmp 86)), none⟩, ⟨(some 88), (.load (some 2) (.tmp 12)), (some (87, true))⟩, ⟨(some 89), (.call (.func 40) [(.const (.int .i64 7)), (.const (.int .i64 7))]), (some (87,
  true))⟩, ⟨(some 90), (.eqf false true [.int, .int] (.tmp 88) (.tmp 89)), (some (87, true))⟩, ⟨(some 91), (.pick (.tmp 87) (.tmp 90) (.const (.bool false))), none⟩, ⟨(some 92),
  (.mv (.tmp 91)), none⟩, ⟨(some 93), (.load (some 2) (.tmp 14)), (some (92, true))⟩, ⟨(some 94), (.call (.func 40) [(.const (.int .i64 10)), (.const (.int .i64 10))]), (some (92,
  true))⟩, ⟨(some 95), (.eqf false true [.int, .int] (.tmp 93) (.tmp 94)), (some (92, true))⟩, ⟨(some 96), (.pick (.tmp 92) (.tmp 95) (.const (.bool false))), none⟩, ⟨(some 97),
  (.mv (.tmp 96)), none⟩, ⟨(some 98), (.mv (.tmp 2)), (some (97, true))⟩, ⟨(some 99), (.iaddrS 2 (.tmp 98) (.const (.int .i64 0))), (some (97, true))⟩, ⟨(some 100), (.load (some
  2) (.tmp 99)), (some (97, true))⟩, ⟨(some 101), (.call (.func 40) [(.const (.int .i64 100)), (.const (.int .i64 110))]), (some (97, true))⟩, ⟨(some 102), (.eqf false true [.int,
  .int] (.tmp 100) (.tmp 101)), (some (97, true))⟩, ⟨(some 103), (.pick (.tmp 97) (.tmp 102) (.const (.bool false))), none⟩, ⟨(some 104), (.mv (.tmp 103)), none⟩, ⟨(some 105),
  (.mv (.tmp 2)), (some (104, true))⟩, ⟨(some 106), (.iaddrS 2 (.tmp 105) (.const (.int .i64 1))), (some (104, true))⟩, ⟨(some 107), (.load (some 2) (.tmp 106)), (some (104,
  true))⟩, ⟨(some 108), (.call (.func 40) [(.const (.int .i64 45)), (.const (.int .i64 50))]), (some (104, true))⟩, ⟨(some 109), (.eqf false true [.int, .int] (.tmp 107) (.tmp
  108)), (some (104, true))⟩, ⟨(some 110), (.pick (.tmp 104) (.tmp 109) (.const (.bool false))), none⟩, ⟨(some 111), (.mv (.tmp 110)), none⟩, ⟨(some 112), (.mv (.tmp 2)), (some
  (111, true))⟩, ⟨(some 113), (.iaddrS 2 (.tmp 112) (.const (.int .i64 2))), (some (111, true))⟩, ⟨(some 114), (.load (some 2) (.tmp 113)), (some (111, true))⟩, ⟨(some 115),
  (.call (.func 40) [(.const (.int .i64 50)), (.const (.int .i64 60))]), (some (111, true))⟩, ⟨(some 116), (.eqf false true [.int, .int] (.tmp 114) (.tmp 115)), (some (111,
  true))⟩, ⟨(some 117), (.pick (.tmp 111) (.tmp 116) (.const (.bool false))), none⟩, ⟨(some 118), (.mv (.tmp 117)), none⟩, ⟨(some 119), (.mv (.tmp 2)), (some (118, true))⟩, ⟨(some
  120), (.iaddrS 2 (.tmp 119) (.const (.int .i64 3))), (some (118, true))⟩, ⟨(some 121), (.load (some 2) (.tmp 120)), (some (118, true))⟩, ⟨(some 122), (.call (.func 40) [(.const
  (.int .i64 45)), (.const (.int .i64 50))]), (some (118, true))⟩, ⟨(some 123), (.eqf false true [.int, .int] (.tmp 121) (.tmp 122)), (some (118, true))⟩, ⟨(some 124), (.pick
  (.tmp 118) (.tmp 123) (.const (.bool false))), none⟩, ⟨(some 125), (.mv (.tmp 124)), none⟩, ⟨(some 126), (.call (.func 16) []), (some (125, true))⟩, ⟨(some 127), (.pick (.tmp
  125) (.tmp 126) (.const (.bool false))), none⟩, ⟨(some 0), (.mv (.tmp 127)), none⟩] [(27, 28), (32, 33), (39, 40), (46, 47), (53, 54), (60, 61)]) .ret))))))))))⟩
def af15 : AFn := ⟨7, [(.tmp 2)], (.seq (.region [⟨(some 1), (.box (.tmp 0)), none⟩, ⟨(some 2), (.mv (.const (.bool false))), none⟩]) (.seq (.region [⟨(some 3), (.faddr 1 (.tmp 1)), none⟩, ⟨(some
  4), (.load none (.tmp 3)), none⟩, ⟨(some 5), (.len (.tmp 4)), none⟩, ⟨(some 6), (.bin .gtr (.tmp 5) (.const (.int .i64 50))), none⟩, ⟨(some 2), (.mv (.tmp 6)), none⟩]) .ret))⟩
def af16 : AFn := ⟨185, [(.tmp 0)], (.seq (.region [⟨(some 0), (.mv (.const (.bool false))), none⟩]) (.seq (.region [⟨(some 26), (.call (.func 41) []), none⟩, ⟨(some 1), (.alloc [(.int .i64 0),
  (.slc none 0 0 true 0)]), none⟩, ⟨none, (.store 2 (.tmp 1) (.tmp 26)), none⟩]) (.seq (.region [⟨(some 27), (.load (some 2) (.tmp 1)), none⟩, ⟨(some 28), (.bslice [(.int .i64 0),
  (.int .i64 0), (.int .i64 0), (.int .i64 0)] 4 1 [(0, (1, (.const (.int .i64 105)))), (1, (1, (.const (.int .i64 50)))), (2, (1, (.const (.int .i64 55)))), (3, (1, (.const (.int
  .i64 50))))]), none⟩, ⟨(some 29), (.call (.func 21) [(.tmp 27), (.tmp 28)]), none⟩, ⟨(some 2), (.mv (.tmp 29)), none⟩]) (.seq (.region [⟨(some 30), (.load (some 2) (.tmp 1)),
  none⟩, ⟨(some 31), (.bslice [(.int .i64 0), (.int .i64 0), (.int .i64 0), (.int .i64 0)] 4 1 [(0, (1, (.const (.int .i64 105)))), (1, (1, (.const (.int .i64 45)))), (2, (1,
  (.const (.int .i64 55)))), (3, (1, (.const (.int .i64 45))))]), none⟩, ⟨(some 32), (.call (.func 21) [(.tmp 30), (.tmp 31)]), none⟩, ⟨(some 3), (.mv (.tmp 32)), none⟩]) (.seq
  (.region [⟨(some 34), (.load (some 2) (.tmp 1)), none⟩, ⟨(some 35), (.call (.func 25) [(.tmp 34), (.const (.int .i64 2))]), none⟩, ⟨(some 33), (.mv (.tmp 35)), none⟩, ⟨(some 36),
   (.ext (.tmp 33) 0), none⟩, ⟨(some 37), (.ext (.tmp 33) 1), none⟩, ⟨(some 4), (.alloc [(.int .i64 0), (.int .i64 0)]), none⟩, ⟨none, (.store 2 (.tmp 4) (.tmp 36)), none⟩, ⟨(some
  5), (.mv (.tmp 37)), none⟩]) (.seq (.region [⟨(some 39), (.load (some 2) (.tmp 1)), none⟩, ⟨(some 40), (.call (.func 30) [(.tmp 39), (.const (.int .i64 2)), (.const (.bool
  false))]), none⟩, ⟨(some 38), (.mv (.tmp 40)), none⟩, ⟨(some 41), (.ext (.tmp 38) 0), none⟩, ⟨(some 42), (.ext (.tmp 38) 1), none⟩, ⟨(some 6), (.mv (.tmp 41)), none⟩, ⟨(some 7),
  (.mv (.tmp 42)), none⟩]) (.seq (.region [⟨(some 44), (.load (some 2) (.tmp 1)), none⟩, ⟨(some 45), (.bslice [(.int .i64 0)] 1 1 [(0, (1, (.const (.int .i64 2))))]), none⟩,
  ⟨(some 46), (.call (.func 28) [(.tmp 44), (.const (.int .i64 3)), (.const (.bool true)), (.tmp 45)]), none⟩, ⟨(some 43), (.mv (.tmp 46)), none⟩, ⟨(some 47), (.ext (.tmp 43) 0),
  none⟩, ⟨(some 48), (.ext (.tmp 43) 1), none⟩, ⟨(some 8), (.mv (.tmp 47)), none⟩, ⟨(some 9), (.mv (.tmp 48)), none⟩]) (.seq (.region [⟨(some 50), (.call (.func 42) []), none⟩,
  ⟨(some 51), (.bslice [(.int .i64 0)] 1 1 [(0, (1, (.const (.int .i64 2))))]), none⟩, ⟨(some 52), (.call (.func 17) [(.tmp 50), (.tmp 51)]), none⟩, ⟨(some 49), (.mv (.tmp 52)),
  none⟩, ⟨(some 53), (.ext (.tmp 49) 0), none⟩, ⟨(some 54), (.ext (.tmp 49) 1), none⟩, ⟨(some 10), (.mv (.tmp 53)), none⟩, ⟨(some 11), (.mv (.tmp 54)), none⟩]) (.seq (.region
  [⟨(some 56), (.call (.func 42) []), none⟩, ⟨(some 57), (.call (.func 32) [(.tmp 56)]), none⟩, ⟨(some 55), (.mv (.tmp 57)), none⟩, ⟨(some 58), (.ext (.tmp 55) 0), none⟩, ⟨(some
  59), (.ext (.tmp 55) 1), none⟩, ⟨(some 12), (.mv (.tmp 58)), none⟩, ⟨(some 13), (.mv (.tmp 59)), none⟩]) (.seq (.region [⟨(some 61), (.call (.func 42) []), none⟩, ⟨(some 62),
  (.call (.func 23) [(.tmp 61)]), none⟩, ⟨(some 60), (.mv (.tmp 62)), none⟩, ⟨(some 63), (.ext (.tmp 60) 0), none⟩, ⟨(some 64), (.ext (.tmp 60) 1), none⟩, ⟨(some 14), (.mv (.tmp
  63)), none⟩, ⟨(some 15), (.mv (.tmp 64)), none⟩]) (.seq (.region [⟨(some 66), (.load (some 2) (.tmp 1)), none⟩, ⟨(some 67), (.call (.func 27) [(.tmp 66), (.const (.int .i64 1)),
  (.const (.bool false))]), none⟩, ⟨(some 65), (.mv (.tmp 67)), none⟩, ⟨(some 68), (.ext (.tmp 65) 0), none⟩, ⟨(some 69), (.ext (.tmp 65) 1), none⟩, ⟨(some 16), (.mv (.tmp 68)),
  none⟩, ⟨(some 17), (.mv (.tmp 69)), none⟩]) (.seq (.region [⟨(some 71), (.call (.func 40) [(.const (.int .i64 (-5))), (.const (.int .i64 5))]), none⟩, ⟨(some 72), (.call (.func
  33) [(.const (.int .i64 1000)), (.tmp 71)]), none⟩, ⟨(some 70), (.mv (.tmp 72)), none⟩, ⟨(some 73), (.ext (.tmp 70) 0), none⟩, ⟨(some 74), (.ext (.tmp 70) 1), none⟩, ⟨(some 18),
  (.alloc [(.int .i64 0), (.int .i64 0)]), none⟩, ⟨none, (.store 2 (.tmp 18) (.tmp 73)), none⟩, ⟨(some 19), (.mv (.tmp 74)), none⟩]) (.seq (.region [⟨(some 76), (.build [(.int
  .i64 0), (.int .i64 0)] [(0, (1, (.const (.int .i64 1003)))), (1, (1, (.const (.int .i64 1000))))]), none⟩, ⟨(some 77), (.build [(.int .i64 0), (.int .i64 0)] [(0, (1, (.const
  (.int .i64 498)))), (1, (1, (.const (.int .i64 500))))]), none⟩, ⟨(some 78), (.bslice [(.int .i64 0), (.int .i64 0), (.int .i64 0), (.int .i64 0)] 2 2 [(0, (2, (.tmp 76))), (2,
  (2, (.tmp 77)))]), none⟩, ⟨(some 79), (.call (.func 35) [(.tmp 78)]), none⟩, ⟨(some 75), (.mv (.tmp 79)), none⟩, ⟨(some 80), (.ext (.tmp 75) 0), none⟩, ⟨(some 81), (.ext (.tmp
  75) 1), none⟩, ⟨(some 20), (.alloc [(.int .i64 0), (.int .i64 0)]), none⟩, ⟨none, (.store 2 (.tmp 20) (.tmp 80)), none⟩, ⟨(some 21), (.mv (.tmp 81)), none⟩]) (.seq (.seq
  (.region [⟨(some 82), (.mv (.tmp 2)), none⟩, ⟨(some 83), (.bin .neq (.tmp 82) (.const (.int .i64 0))), none⟩, ⟨(some 84), (.mv (.tmp 83)), none⟩, ⟨(some 85), (.mv (.tmp 3)),
  (some (84, false))⟩, ⟨(some 86), (.bin .neq (.tmp 85) (.const (.int .i64 14))), (some (84, false))⟩, ⟨(some 87), (.pick (.tmp 84) (.const (.bool true)) (.tmp 86)), none⟩, ⟨(some
  88), (.mv (.tmp 87)), none⟩, ⟨(some 89), (.mv (.tmp 5)), (some (88, false))⟩, ⟨(some 90), (.bin .neq (.tmp 89) (.const (.int .i64 0))), (some (88, false))⟩, ⟨(some 91), (.pick
  (.tmp 88) (.const (.bool true)) (.tmp 90)), none⟩, ⟨(some 92), (.mv (.tmp 91)), none⟩, ⟨(some 93), (.mv (.tmp 7)), (some (92, false))⟩, ⟨(some 94), (.bin .neq (.tmp 93) (.const
  (.int .i64 0))), (some (92, false))⟩, ⟨(some 95), (.pick (.tmp 92) (.const (.bool true)) (.tmp 94)), none⟩, ⟨(some 96), (.mv (.tmp 95)), none⟩, ⟨(some 97), (.mv (.tmp 9)), (some
  (96, false))⟩, ⟨(some 98), (.bin .neq (.tmp 97) (.const (.int .i64 0))), (some (96, false))⟩, ⟨(some 99), (.pick (.tmp 96) (.const (.bool true)) (.tmp 98)), none⟩, ⟨(some 100),
  (.mv (.tmp 99)), none⟩, ⟨(some 101), (.mv (.tmp 11)), (some (100, false))⟩, ⟨(some 102), (.bin .neq (.tmp 101) (.const (.int .i64 0))), (some (100, false))⟩, ⟨(some 103), (.pick
  (.tmp 100) (.const (.bool true)) (.tmp 102)), none⟩, ⟨(some 104), (.mv (.tmp 103)), none⟩, ⟨(some 105), (.mv (.tmp 13)), (some (104, false))⟩, ⟨(some 106), (.bin .neq (.tmp 105)
  (.const (.int .i64 0))), (some (104, false))⟩, ⟨(some 107), (.pick (.tmp 104) (.const (.bool true)) (.tmp 106)), none⟩, ⟨(some 108), (.mv (.tmp 107)), none⟩, ⟨(some 109), (.mv
  (.tmp 15)), (some (108, false))⟩, ⟨(some 110), (.bin .neq (.tmp 109) (.const (.int .i64 21))), (some (108, false))⟩, ⟨(some 111), (.pick (.tmp 108) (.const (.bool true)) (.tmp
  110)), none⟩, ⟨(some 112), (.mv (.tmp 111)), none⟩, ⟨(some 113), (.mv (.tmp 17)), (some (112, false))⟩, ⟨(some 114), (.bin .neq (.tmp 113) (.const (.int .i64 0))), (some (112,
  false))⟩, ⟨(some 115), (.pick (.tmp 112) (.const (.bool true)) (.tmp 114)), none⟩, ⟨(some 116), (.mv (.tmp 115)), none⟩, ⟨(some 117), (.mv (.tmp 19)), (some (116, false))⟩,
  ⟨(some 118), (.bin .neq (.tmp 117) (.const (.int .i64 0))), (some (116, false))⟩, ⟨(some 119), (.pick (.tmp 116) (.const (.bool true)) (.tmp 118)), none⟩, ⟨(some 120), (.mv
  (.tmp 119)), none⟩, ⟨(some 121), (.mv (.tmp 21)), (some (120, false))⟩, ⟨(some 122), (.bin .neq (.tmp 121) (.const (.int .i64 0))), (some (120, false))⟩, ⟨(some 123), (.pick
  (.tmp 120) (.const (.bool true)) (.tmp 122)), none⟩]) (.cond (.tmp 123) (.seq (.region [⟨(some 0), (.mv (.const (.bool false))), none⟩]) .ret) .skip)) (.seq (.region [⟨(some
  125), (.load (some 2) (.tmp 1)), none⟩, ⟨(some 126), (.mv (.tmp 6)), none⟩, ⟨(some 127), (.call (.func 29) [(.tmp 125), (.const (.int .i64 2)), (.const (.bool false)), (.tmp
  126)]), none⟩, ⟨(some 124), (.mv (.tmp 127)), none⟩, ⟨(some 128), (.ext (.tmp 124) 0), none⟩, ⟨(some 129), (.ext (.tmp 124) 1), none⟩, ⟨(some 22), (.mv (.tmp 128)), none⟩,
  ⟨(some 23), (.mv (.tmp 129)), none⟩]) (.seq (.region [⟨(some 131), (.call (.func 42) []), none⟩, ⟨(some 132), (.mv (.tmp 12)), none⟩, ⟨(some 133), (.call (.func 18) [(.tmp 131),
  (.tmp 132)]), none⟩, ⟨(some 130), (.mv (.tmp 133)), none⟩, ⟨(some 134), (.ext (.tmp 130) 0), none⟩, ⟨(some 135), (.ext (.tmp 130) 1), none⟩, ⟨(some 24), (.mv (.tmp 134)), none⟩,
  ⟨(some 25), (.mv (.tmp 135)), none⟩]) (.seq (.draw [⟨(some 136), (.mv (.tmp 23)), none⟩, ⟨(some 137), (.bin .eql (.tmp 136) (.const (.int .i64 0))), none⟩, ⟨(some 138), (.mv
  (.tmp 137)), none⟩, ⟨(some 139), (.mv (.tmp 25)), (some (138, true))⟩, ⟨(some 140), (.bin .eql (.tmp 139) (.const (.int .i64 0))), (some (138, true))⟩, ⟨(some 141), (.pick (.tmp
  138) (.tmp 140) (.const (.bool false))), none⟩, ⟨(some 142), (.mv (.tmp 141)), none⟩, ⟨(some 143), (.mv (.tmp 22)), (some (142, true))⟩, ⟨(some 144), (.bin .eql (.tmp 143)
  (.const (.int .i64 50))), (some (142, true))⟩, ⟨(some 145), (.pick (.tmp 142) (.tmp 144) (.const (.bool false))), none⟩, ⟨(some 146), (.mv (.tmp 145)), none⟩, ⟨(some 147), (.mv
  (.tmp 24)), (some (146, true))⟩, ⟨(some 148), (.bin .gtr (.tmp 147) (.const (.int .i64 0))), (some (146, true))⟩, ⟨(some 149), (.pick (.tmp 146) (.tmp 148) (.const (.bool
  false))), none⟩, ⟨(some 150), (.mv (.tmp 149)), none⟩, ⟨(some 151), (.load (some 2) (.tmp 4)), (some (150, true))⟩, ⟨(some 152), (.call (.func 40) [(.const (.int .i64 50)),
  (.const (.int .i64 60))]), (some (150, true))⟩, ⟨(some 153), (.eqf false true [.int, .int] (.tmp 151) (.tmp 152)), (some (150, true))⟩, ⟨(some 154), (.pick (.tmp 150) (.tmp 153)
  (.const (.bool false))), none⟩, ⟨(some 155), (.mv (.tmp 154)), none⟩, ⟨(some 156), (.mv (.tmp 8)), (some (155, true))⟩, ⟨(some 157), (.bin .eql (.tmp 156) (.const (.int .i64
  50))), (some (155, true))⟩, ⟨(some 158), (.pick (.tmp 155) (.tmp 157) (.const (.bool false))), none⟩, ⟨(some 159), (.mv (.tmp 158)), none⟩, ⟨(some 160), (.mv (.tmp 10)), (some
  (159, true))⟩, ⟨(some 161), (.bin .eql (.tmp 160) (.const (.int .i64 15))), (some (159, true))⟩, ⟨(some 162), (.pick (.tmp 159) (.tmp 161) (.const (.bool false))), none⟩, ⟨(some
  163), (.mv (.tmp 162)), none⟩, ⟨(some 164), (.load (some 2) (.tmp 1)), (some (163, true))⟩, ⟨(some 165), (.mv (.tmp 16)), (some (163, true))⟩, ⟨(some 166), (.call (.func 22)
  [(.tmp 164), (.tmp 165)]), (some (163, true))⟩, ⟨(some 167), (.bin .eql (.tmp 166) (.const (.int .i64 0))), (some (163, true))⟩, ⟨(some 168), (.pick (.tmp 163) (.tmp 167)
  (.const (.bool false))), none⟩, ⟨(some 169), (.mv (.tmp 168)), none⟩, ⟨(some 170), (.mv (.tmp 16)), (some (169, true))⟩, ⟨(some 171), (.iaddrS 1 (.tmp 170) (.const (.int .i64
  1))), (some (169, true))⟩, ⟨(some 172), (.load none (.tmp 171)), (some (169, true))⟩, ⟨(some 173), (.bin .eql (.tmp 172) (.const (.int .i64 45))), (some (169, true))⟩, ⟨(some
  174), (.pick (.tmp 169) (.tmp 173) (.const (.bool false))), none⟩, ⟨(some 175), (.mv (.tmp 174)), none⟩, ⟨(some 176), (.load (some 2) (.tmp 18)), (some (175, true))⟩, ⟨(some
  177), (.call (.func 40) [(.const (.int .i64 996)), (.const (.int .i64 1005))]), (some (175, true))⟩, ⟨(some 178), (.eqf false true [.int, .int] (.tmp 176) (.tmp 177)), (some
  (175, true))⟩, ⟨(some 179), (.pick (.tmp 175) (.tmp 178) (.const (.bool false))), none⟩, ⟨(some 180), (.mv (.tmp 179)), none⟩, ⟨(some 181), (.load (some 2) (.tmp 20)), (some
  (180, true))⟩, ⟨(some 182), (.call (.func 40) [(.const (.int .i64 (-4))), (.const (.int .i64 3))]), (some (180, true))⟩, ⟨(some 183), (.eqf false true [.int, .int] (.tmp 181)
  (.tmp 182)), (some (180, true))⟩, ⟨(some 184), (.pick (.tmp 180) (.tmp 183) (.const (.bool false))), none⟩, ⟨(some 0), (.mv (.tmp 184)), none⟩] [(15, 16), (40, 41), (45, 46)])
  .ret)))))))))))))))))⟩
def af17 : AFn := ⟨48, [(.tmp 4), (.tmp 5)], (.seq (.region [⟨(some 2), (.box (.tmp 0)), none⟩, ⟨(some 4), (.mv (.const (.int .i64 0))), none⟩, ⟨(some 5), (.mv (.const (.int .i64 0))), none⟩])
  (.seq (.region [⟨(some 12), (.load (some 2) (.tmp 2)), none⟩, ⟨(some 13), (.call (.func 19) [(.tmp 12)]), none⟩, ⟨(some 6), (.mv (.tmp 13)), none⟩]) (.seq (.block 0 (.seq
  (.region [⟨(some 15), (.mv (.tmp 6)), none⟩, ⟨(some 16), (.bin .neq (.tmp 15) (.const (.int .i64 0))), none⟩, ⟨(some 14), (.mv (.tmp 16)), none⟩]) (.cond (.tmp 14) (.seq
  (.region [⟨(some 17), (.mv (.tmp 6)), none⟩, ⟨(some 4), (.mv (.const (.int .i64 0))), none⟩, ⟨(some 5), (.mv (.tmp 17)), none⟩]) .ret) (.seq (.region [⟨(some 19), (.mv (.tmp 1)),
   none⟩, ⟨(some 20), (.faddr 0 (.tmp 2)), none⟩, ⟨(some 21), (.load none (.tmp 20)), none⟩, ⟨(some 22), (.call (.func 43) [(.tmp 19), (.tmp 21)]), none⟩, ⟨(some 23), (.un .not
  (.tmp 22)), none⟩, ⟨(some 18), (.mv (.tmp 23)), none⟩]) (.cond (.tmp 18) (.seq (.region [⟨(some 4), (.mv (.const (.int .i64 0))), none⟩, ⟨(some 5), (.mv (.const (.int .i64 3))),
  none⟩]) .ret) .skip))))) (.seq (.region [⟨(some 7), (.alloc [(.int .i64 0)]), none⟩, ⟨none, (.store 1 (.tmp 7) (.const (.int .i64 0))), none⟩]) (.seq (.seq (.region [⟨(some 24),
  (.load (some 2) (.tmp 2)), none⟩, ⟨(some 25), (.mv (.tmp 1)), none⟩, ⟨(some 26), (.call (.func 44) [(.tmp 24), (.tmp 25)]), none⟩]) (.block 1 (.rangeF (.tmp 26) [27, 28]
  (.region [⟨(some 9), (.alloc [(.int .i64 0), (.int .i64 0), (.int .i64 0), (.int .i64 0)]), none⟩, ⟨none, (.store 4 (.tmp 9) (.tmp 28)), none⟩]) (.block 2 (.region [⟨(some 29),
  (.load none (.tmp 7)), none⟩, ⟨(some 30), (.faddr 2 (.tmp 9)), none⟩, ⟨(some 31), (.faddr 0 (.tmp 30)), none⟩, ⟨(some 32), (.load none (.tmp 31)), none⟩, ⟨(some 33), (.bin .add
  (.tmp 29) (.tmp 32)), none⟩, ⟨none, (.store 1 (.tmp 7) (.tmp 33)), none⟩]))))) (.seq (.seq (.region [⟨(some 34), (.load (some 2) (.tmp 2)), none⟩, ⟨(some 35), (.call (.func 45)
  [(.tmp 34)]), none⟩, ⟨(some 36), (.mv (.tmp 1)), none⟩, ⟨(some 37), (.call (.func 44) [(.tmp 35), (.tmp 36)]), none⟩]) (.block 3 (.rangeF (.tmp 37) [38, 39] (.region [⟨(some 11),
   (.alloc [(.int .i64 0), (.int .i64 0), (.int .i64 0), (.int .i64 0)]), none⟩, ⟨none, (.store 4 (.tmp 11) (.tmp 39)), none⟩]) (.block 4 (.region [⟨(some 40), (.load none (.tmp
  7)), none⟩, ⟨(some 41), (.faddr 2 (.tmp 11)), none⟩, ⟨(some 42), (.faddr 1 (.tmp 41)), none⟩, ⟨(some 43), (.load none (.tmp 42)), none⟩, ⟨(some 44), (.bin .sub (.tmp 40) (.tmp
  43)), none⟩, ⟨none, (.store 1 (.tmp 7) (.tmp 44)), none⟩]))))) (.seq (.seq (.region [⟨(some 45), (.load none (.tmp 7)), none⟩, ⟨(some 46), (.bin .leq (.tmp 45) (.const (.int
  .i64 0))), none⟩]) (.cond (.tmp 46) (.seq (.region [⟨(some 4), (.mv (.const (.int .i64 0))), none⟩, ⟨(some 5), (.mv (.const (.int .i64 5))), none⟩]) .ret) .skip)) (.seq (.region
  [⟨(some 47), (.load none (.tmp 7)), none⟩, ⟨(some 4), (.mv (.tmp 47)), none⟩, ⟨(some 5), (.mv (.const (.int .i64 0))), none⟩]) .ret))))))))⟩
def af18 : AFn := ⟨66, [(.tmp 4), (.tmp 5)], (.seq (.region [⟨(some 2), (.box (.tmp 0)), none⟩, ⟨(some 4), (.mv (.const (.int .i64 0))), none⟩, ⟨(some 5), (.mv (.const (.int .i64 0))), none⟩])
  (.seq (.seq (.region [⟨(some 9), (.load (some 2) (.tmp 2)), none⟩, ⟨(some 10), (.call (.func 20) [(.tmp 9)]), none⟩, ⟨(some 11), (.bin .neq (.tmp 10) (.const (.int .i64 0))),
  none⟩]) (.cond (.tmp 11) (.seq (.region [⟨(some 12), (.load (some 2) (.tmp 2)), none⟩, ⟨(some 13), (.call (.func 20) [(.tmp 12)]), none⟩, ⟨(some 4), (.mv (.const (.int .i64 0))),
   none⟩, ⟨(some 5), (.mv (.tmp 13)), none⟩]) .ret) .skip)) (.seq (.seq (.region [⟨(some 14), (.mv (.tmp 1)), none⟩, ⟨(some 15), (.faddr 0 (.tmp 2)), none⟩, ⟨(some 16), (.load
  none (.tmp 15)), none⟩, ⟨(some 17), (.call (.func 46) [(.tmp 14), (.tmp 16)]), none⟩, ⟨(some 18), (.un .not (.tmp 17)), none⟩]) (.cond (.tmp 18) (.seq (.region [⟨(some 4), (.mv
  (.const (.int .i64 0))), none⟩, ⟨(some 5), (.mv (.const (.int .i64 3))), none⟩]) .ret) .skip)) (.seq (.region [⟨(some 6), (.mv (.const (.int .i64 0))), none⟩]) (.seq (.seq
  (.region [⟨(some 7), (.mv (.const (.int .i64 0))), none⟩]) (.block 0 (.loop (.seq (.seq (.region [⟨(some 19), (.mv (.tmp 7)), none⟩, ⟨(some 20), (.faddr 1 (.tmp 2)), none⟩,
  ⟨(some 21), (.load none (.tmp 20)), none⟩, ⟨(some 22), (.len (.tmp 21)), none⟩, ⟨(some 23), (.bin .lss (.tmp 19) (.tmp 22)), none⟩]) (.cond (.tmp 23) .skip (.exit 0))) (.seq
  (.block 1 (.seq (.region [⟨(some 26), (.faddr 1 (.tmp 2)), none⟩, ⟨(some 27), (.load none (.tmp 26)), none⟩, ⟨(some 28), (.mv (.tmp 7)), none⟩, ⟨(some 29), (.iaddrS 4 (.tmp 27)
  (.tmp 28)), none⟩, ⟨(some 30), (.load (some 4) (.tmp 29)), none⟩, ⟨(some 8), (.alloc [(.int .i64 0), (.int .i64 0), (.int .i64 0), (.int .i64 0)]), none⟩, ⟨none, (.store 4 (.tmp
  8) (.tmp 30)), none⟩]) (.seq (.seq (.region [⟨(some 31), (.mv (.tmp 1)), none⟩, ⟨(some 32), (.faddr 0 (.tmp 8)), none⟩, ⟨(some 33), (.load none (.tmp 32)), none⟩, ⟨(some 34),
  (.call (.func 47) [(.tmp 31), (.tmp 33)]), none⟩, ⟨(some 35), (.mv (.tmp 34)), none⟩, ⟨(some 36), (.mv (.tmp 1)), (some (35, true))⟩, ⟨(some 37), (.faddr 1 (.tmp 8)), (some (35,
  true))⟩, ⟨(some 38), (.load none (.tmp 37)), (some (35, true))⟩, ⟨(some 39), (.call (.func 47) [(.tmp 36), (.tmp 38)]), (some (35, true))⟩, ⟨(some 40), (.un .not (.tmp 39)),
  (some (35, true))⟩, ⟨(some 41), (.pick (.tmp 35) (.tmp 40) (.const (.bool false))), none⟩]) (.cond (.tmp 41) (.region [⟨(some 42), (.mv (.tmp 6)), none⟩, ⟨(some 43), (.faddr 2
  (.tmp 8)), none⟩, ⟨(some 44), (.faddr 0 (.tmp 43)), none⟩, ⟨(some 45), (.load none (.tmp 44)), none⟩, ⟨(some 46), (.bin .add (.tmp 42) (.tmp 45)), none⟩, ⟨(some 6), (.mv (.tmp
  46)), none⟩]) .skip)) (.seq (.region [⟨(some 47), (.mv (.tmp 1)), none⟩, ⟨(some 48), (.faddr 0 (.tmp 8)), none⟩, ⟨(some 49), (.load none (.tmp 48)), none⟩, ⟨(some 50), (.call
  (.func 47) [(.tmp 47), (.tmp 49)]), none⟩, ⟨(some 51), (.un .not (.tmp 50)), none⟩, ⟨(some 52), (.mv (.tmp 51)), none⟩, ⟨(some 53), (.mv (.tmp 1)), (some (52, true))⟩, ⟨(some
  54), (.faddr 1 (.tmp 8)), (some (52, true))⟩, ⟨(some 55), (.load none (.tmp 54)), (some (52, true))⟩, ⟨(some 56), (.call (.func 47) [(.tmp 53), (.tmp 55)]), (some (52, true))⟩,
  ⟨(some 57), (.pick (.tmp 52) (.tmp 56) (.const (.bool false))), none⟩]) (.cond (.tmp 57) (.region [⟨(some 58), (.mv (.tmp 6)), none⟩, ⟨(some 59), (.faddr 2 (.tmp 8)), none⟩,
  ⟨(some 60), (.faddr 1 (.tmp 59)), none⟩, ⟨(some 61), (.load none (.tmp 60)), none⟩, ⟨(some 62), (.bin .sub (.tmp 58) (.tmp 61)), none⟩, ⟨(some 6), (.mv (.tmp 62)), none⟩])
  .skip))))) (.region [⟨(some 24), (.mv (.tmp 7)), none⟩, ⟨(some 25), (.bin .add (.tmp 24) (.const (.int .i64 1))), none⟩, ⟨(some 7), (.mv (.tmp 25)), none⟩])))))) (.seq (.seq
  (.region [⟨(some 63), (.mv (.tmp 6)), none⟩, ⟨(some 64), (.bin .leq (.tmp 63) (.const (.int .i64 0))), none⟩]) (.cond (.tmp 64) (.seq (.region [⟨(some 4), (.mv (.const (.int
  .i64 0))), none⟩, ⟨(some 5), (.mv (.const (.int .i64 5))), none⟩]) .ret) .skip)) (.seq (.region [⟨(some 65), (.mv (.tmp 6)), none⟩, ⟨(some 4), (.mv (.tmp 65)), none⟩, ⟨(some 5),
  (.mv (.const (.int .i64 0))), none⟩]) .ret)))))))⟩
def af19 : AFn := ⟨24, [(.tmp 2)], (.seq (.region [⟨(some 1), (.box (.tmp 0)), none⟩, ⟨(some 2), (.mv (.const (.int .i64 0))), none⟩]) (.seq (.region [⟨(some 4), (.mkfn 48 [] [(.tmp 1)]), none⟩,
  ⟨(some 3), (.alloc [.nilfn]), none⟩, ⟨none, (.store 1 (.tmp 3) (.tmp 4)), none⟩]) (.seq (.block 0 (.seq (.region [⟨(some 6), (.faddr 0 (.tmp 1)), none⟩, ⟨(some 7), (.load none
  (.tmp 6)), none⟩, ⟨(some 8), (.bin .lss (.tmp 7) (.const (.int .i64 1))), none⟩, ⟨(some 9), (.mv (.tmp 8)), none⟩, ⟨(some 10), (.faddr 0 (.tmp 1)), (some (9, false))⟩, ⟨(some
  11), (.load none (.tmp 10)), (some (9, false))⟩, ⟨(some 12), (.bin .gtr (.tmp 11) (.const (.int .i64 12))), (some (9, false))⟩, ⟨(some 13), (.pick (.tmp 9) (.const (.bool true))
  (.tmp 12)), none⟩, ⟨(some 5), (.mv (.tmp 13)), none⟩]) (.cond (.tmp 5) (.seq (.region [⟨(some 2), (.mv (.const (.int .i64 2))), none⟩]) .ret) (.seq (.region [⟨(some 15), (.faddr
  1 (.tmp 1)), none⟩, ⟨(some 16), (.load none (.tmp 15)), none⟩, ⟨(some 17), (.len (.tmp 16)), none⟩, ⟨(some 18), (.bin .gtr (.tmp 17) (.const (.int .i64 40))), none⟩, ⟨(some 14),
  (.mv (.tmp 18)), none⟩]) (.cond (.tmp 14) (.seq (.region [⟨(some 2), (.mv (.const (.int .i64 6))), none⟩]) .ret) (.seq (.region [⟨(some 20), (.faddr 1 (.tmp 1)), none⟩, ⟨(some
  21), (.load none (.tmp 20)), none⟩, ⟨(some 22), (.mkfn 50 [] [(.tmp 3)]), none⟩, ⟨(some 23), (.call (.func 49) [(.tmp 21), (.tmp 22)]), none⟩, ⟨(some 19), (.mv (.tmp 23)),
  none⟩]) (.cond (.tmp 19) (.seq (.region [⟨(some 2), (.mv (.const (.int .i64 3))), none⟩]) .ret) .skip))))))) (.seq (.region [⟨(some 2), (.mv (.const (.int .i64 0))), none⟩])
  .ret))))⟩
def af20 : AFn := ⟨64, [(.tmp 2)], (.seq (.region [⟨(some 1), (.box (.tmp 0)), none⟩, ⟨(some 2), (.mv (.const (.int .i64 0))), none⟩]) (.seq (.seq (.region [⟨(some 5), (.faddr 0 (.tmp 1)), none⟩,
  ⟨(some 6), (.load none (.tmp 5)), none⟩, ⟨(some 7), (.bin .lss (.tmp 6) (.const (.int .i64 1))), none⟩, ⟨(some 8), (.mv (.tmp 7)), none⟩, ⟨(some 9), (.faddr 0 (.tmp 1)), (some
  (8, false))⟩, ⟨(some 10), (.load none (.tmp 9)), (some (8, false))⟩, ⟨(some 11), (.bin .gtr (.tmp 10) (.const (.int .i64 12))), (some (8, false))⟩, ⟨(some 12), (.pick (.tmp 8)
  (.const (.bool true)) (.tmp 11)), none⟩]) (.cond (.tmp 12) (.seq (.region [⟨(some 2), (.mv (.const (.int .i64 2))), none⟩]) .ret) .skip)) (.seq (.seq (.region [⟨(some 13),
  (.faddr 1 (.tmp 1)), none⟩, ⟨(some 14), (.load none (.tmp 13)), none⟩, ⟨(some 15), (.len (.tmp 14)), none⟩, ⟨(some 16), (.bin .gtr (.tmp 15) (.const (.int .i64 40))), none⟩])
  (.cond (.tmp 16) (.seq (.region [⟨(some 2), (.mv (.const (.int .i64 6))), none⟩]) .ret) .skip)) (.seq (.seq (.region [⟨(some 3), (.mv (.const (.int .i64 0))), none⟩]) (.block 0
  (.loop (.seq (.seq (.region [⟨(some 17), (.mv (.tmp 3)), none⟩, ⟨(some 18), (.faddr 1 (.tmp 1)), none⟩, ⟨(some 19), (.load none (.tmp 18)), none⟩, ⟨(some 20), (.len (.tmp 19)),
  none⟩, ⟨(some 21), (.bin .lss (.tmp 17) (.tmp 20)), none⟩]) (.cond (.tmp 21) .skip (.exit 0))) (.seq (.block 1 (.seq (.region [⟨(some 24), (.faddr 1 (.tmp 1)), none⟩, ⟨(some 25),
   (.load none (.tmp 24)), none⟩, ⟨(some 26), (.mv (.tmp 3)), none⟩, ⟨(some 27), (.iaddrS 4 (.tmp 25) (.tmp 26)), none⟩, ⟨(some 28), (.load (some 4) (.tmp 27)), none⟩, ⟨(some 4),
  (.alloc [(.int .i64 0), (.int .i64 0), (.int .i64 0), (.int .i64 0)]), none⟩, ⟨none, (.store 4 (.tmp 4) (.tmp 28)), none⟩]) (.seq (.region [⟨(some 29), (.faddr 0 (.tmp 4)),
  none⟩, ⟨(some 30), (.load none (.tmp 29)), none⟩, ⟨(some 31), (.bin .lss (.tmp 30) (.const (.int .i64 0))), none⟩, ⟨(some 32), (.mv (.tmp 31)), none⟩, ⟨(some 33), (.faddr 0
  (.tmp 4)), (some (32, false))⟩, ⟨(some 34), (.load none (.tmp 33)), (some (32, false))⟩, ⟨(some 35), (.faddr 0 (.tmp 1)), (some (32, false))⟩, ⟨(some 36), (.load none (.tmp 35)),
   (some (32, false))⟩, ⟨(some 37), (.bin .gtr (.tmp 34) (.tmp 36)), (some (32, false))⟩, ⟨(some 38), (.pick (.tmp 32) (.const (.bool true)) (.tmp 37)), none⟩, ⟨(some 39), (.mv
  (.tmp 38)), none⟩, ⟨(some 40), (.faddr 1 (.tmp 4)), (some (39, false))⟩, ⟨(some 41), (.load none (.tmp 40)), (some (39, false))⟩, ⟨(some 42), (.bin .lss (.tmp 41) (.const (.int
  .i64 0))), (some (39, false))⟩, ⟨(some 43), (.pick (.tmp 39) (.const (.bool true)) (.tmp 42)), none⟩, ⟨(some 44), (.mv (.tmp 43)), none⟩, ⟨(some 45), (.faddr 1 (.tmp 4)), (some
  (44, false))⟩, ⟨(some 46), (.load none (.tmp 45)), (some (44, false))⟩, ⟨(some 47), (.faddr 0 (.tmp 1)), (some (44, false))⟩, ⟨(some 48), (.load none (.tmp 47)), (some (44,
  false))⟩, ⟨(some 49), (.bin .gtr (.tmp 46) (.tmp 48)), (some (44, false))⟩, ⟨(some 50), (.pick (.tmp 44) (.const (.bool true)) (.tmp 49)), none⟩, ⟨(some 51), (.mv (.tmp 50)),
  none⟩, ⟨(some 52), (.faddr 0 (.tmp 4)), (some (51, false))⟩, ⟨(some 53), (.load none (.tmp 52)), (some (51, false))⟩, ⟨(some 54), (.faddr 1 (.tmp 4)), (some (51, false))⟩,
  ⟨(some 55), (.load none (.tmp 54)), (some (51, false))⟩, ⟨(some 56), (.bin .eql (.tmp 53) (.tmp 55)), (some (51, false))⟩, ⟨(some 57), (.pick (.tmp 51) (.const (.bool true))
  (.tmp 56)), none⟩, ⟨(some 58), (.mv (.tmp 57)), none⟩, ⟨(some 59), (.faddr 2 (.tmp 4)), (some (58, false))⟩, ⟨(some 60), (.load (some 2) (.tmp 59)), (some (58, false))⟩, ⟨(some
  61), (.call (.func 52) [(.tmp 60), (.const (.int .i64 0)), (.const (.int .i64 100000))]), (some (58, false))⟩, ⟨(some 62), (.un .not (.tmp 61)), (some (58, false))⟩, ⟨(some 63),
  (.pick (.tmp 58) (.const (.bool true)) (.tmp 62)), none⟩]) (.cond (.tmp 63) (.seq (.region [⟨(some 2), (.mv (.const (.int .i64 3))), none⟩]) .ret) .skip)))) (.region [⟨(some 22),
   (.mv (.tmp 3)), none⟩, ⟨(some 23), (.bin .add (.tmp 22) (.const (.int .i64 1))), none⟩, ⟨(some 3), (.mv (.tmp 23)), none⟩])))))) (.seq (.region [⟨(some 2), (.mv (.const (.int
  .i64 0))), none⟩]) .ret)))))⟩
def af21 : AFn := ⟨65, [(.tmp 4)], (.seq (.region [⟨(some 2), (.box (.tmp 0)), none⟩, ⟨(some 4), (.mv (.const (.int .i64 0))), none⟩]) (.seq (.seq (.region [⟨(some 9), (.load (some 2) (.tmp 2)),
  none⟩, ⟨(some 10), (.call (.func 19) [(.tmp 9)]), none⟩, ⟨(some 5), (.mv (.tmp 10)), none⟩]) (.seq (.region [⟨(some 11), (.mv (.tmp 5)), none⟩, ⟨(some 12), (.bin .neq (.tmp 11)
  (.const (.int .i64 0))), none⟩]) (.cond (.tmp 12) (.seq (.region [⟨(some 13), (.mv (.tmp 5)), none⟩, ⟨(some 4), (.mv (.tmp 13)), none⟩]) .ret) .skip))) (.seq (.seq (.region
  [⟨(some 14), (.mv (.tmp 1)), none⟩, ⟨(some 15), (.len (.tmp 14)), none⟩, ⟨(some 16), (.faddr 1 (.tmp 2)), none⟩, ⟨(some 17), (.load none (.tmp 16)), none⟩, ⟨(some 18), (.len
  (.tmp 17)), none⟩, ⟨(some 19), (.bin .neq (.tmp 15) (.tmp 18)), none⟩]) (.cond (.tmp 19) (.seq (.region [⟨(some 4), (.mv (.const (.int .i64 15))), none⟩]) .ret) .skip)) (.seq
  (.region [⟨(some 6), (.alloc [(.int .i64 0), (.int .i64 0), (.int .i64 0), (.int .i64 0), (.int .i64 0), (.int .i64 0), (.int .i64 0), (.int .i64 0), (.int .i64 0), (.int .i64
  0), (.int .i64 0), (.int .i64 0), (.int .i64 0)]), none⟩]) (.seq (.seq (.region [⟨(some 20), (.faddr 1 (.tmp 2)), none⟩, ⟨(some 21), (.load none (.tmp 20)), none⟩, ⟨(some 22),
  (.len (.tmp 21)), none⟩, ⟨(some 23), (.mv (.const (.int .i64 0))), none⟩]) (.block 0 (.loop (.seq (.region [⟨(some 24), (.bin .lss (.tmp 23) (.tmp 22)), none⟩]) (.seq (.cond
  (.tmp 24) .skip (.exit 0)) (.seq (.block 1 (.seq (.region [⟨(some 25), (.mv (.tmp 23)), none⟩, ⟨(some 26), (.iaddrS 4 (.tmp 21) (.tmp 23)), none⟩, ⟨(some 27), (.load (some 4)
  (.tmp 26)), none⟩, ⟨(some 8), (.alloc [(.int .i64 0), (.int .i64 0), (.int .i64 0), (.int .i64 0)]), none⟩, ⟨(some 7), (.mv (.tmp 25)), none⟩, ⟨none, (.store 4 (.tmp 8) (.tmp
  27)), none⟩]) (.seq (.seq (.draw [⟨(some 28), (.faddr 2 (.tmp 8)), none⟩, ⟨(some 29), (.faddr 0 (.tmp 28)), none⟩, ⟨(some 30), (.load none (.tmp 29)), none⟩, ⟨(some 31), (.faddr
  2 (.tmp 8)), none⟩, ⟨(some 32), (.faddr 1 (.tmp 31)), none⟩, ⟨(some 33), (.load none (.tmp 32)), none⟩, ⟨(some 34), (.mv (.tmp 1)), none⟩, ⟨(some 35), (.mv (.tmp 7)), none⟩,
  ⟨(some 36), (.iaddrS 1 (.tmp 34) (.tmp 35)), none⟩, ⟨(some 37), (.load none (.tmp 36)), none⟩, ⟨(some 38), (.bslice [(.int .i64 0)] 1 1 [(0, (1, (.tmp 37)))]), none⟩, ⟨(some 39),
   (.call (.func 53) [(.tmp 30), (.tmp 33), (.tmp 38)]), none⟩, ⟨(some 40), (.un .not (.tmp 39)), none⟩] [(2, 10), (5, 10)]) (.cond (.tmp 40) (.seq (.region [⟨(some 4), (.mv
  (.const (.int .i64 3))), none⟩]) .ret) .skip)) (.seq (.draw [⟨(some 41), (.faddr 1 (.tmp 8)), none⟩, ⟨(some 42), (.load none (.tmp 41)), none⟩, ⟨(some 43), (.iaddrA 13 1 (.tmp
  6) (.tmp 42)), none⟩, ⟨(some 44), (.load none (.tmp 43)), none⟩, ⟨(some 45), (.mv (.tmp 1)), none⟩, ⟨(some 46), (.mv (.tmp 7)), none⟩, ⟨(some 47), (.iaddrS 1 (.tmp 45) (.tmp
  46)), none⟩, ⟨(some 48), (.load none (.tmp 47)), none⟩, ⟨(some 49), (.bin .add (.tmp 44) (.tmp 48)), none⟩, ⟨(some 50), (.iaddrA 13 1 (.tmp 6) (.tmp 42)), none⟩, ⟨none, (.store
  1 (.tmp 50) (.tmp 49)), none⟩] []) (.draw [⟨(some 51), (.faddr 0 (.tmp 8)), none⟩, ⟨(some 52), (.load none (.tmp 51)), none⟩, ⟨(some 53), (.iaddrA 13 1 (.tmp 6) (.tmp 52)),
  none⟩, ⟨(some 54), (.load none (.tmp 53)), none⟩, ⟨(some 55), (.mv (.tmp 1)), none⟩, ⟨(some 56), (.mv (.tmp 7)), none⟩, ⟨(some 57), (.iaddrS 1 (.tmp 55) (.tmp 56)), none⟩,
  ⟨(some 58), (.load none (.tmp 57)), none⟩, ⟨(some 59), (.bin .sub (.tmp 54) (.tmp 58)), none⟩, ⟨(some 60), (.iaddrA 13 1 (.tmp 6) (.tmp 52)), none⟩, ⟨none, (.store 1 (.tmp 60)
  (.tmp 59)), none⟩] []))))) (.region [⟨(some 61), (.bin .add (.tmp 23) (.const (.int .i64 1))), none⟩, ⟨(some 23), (.mv (.tmp 61)), none⟩]))))))) (.seq (.seq (.region [⟨(some 62),
   (.load (some 13) (.tmp 6)), none⟩, ⟨(some 63), (.build [(.int .i64 0), (.int .i64 0), (.int .i64 0), (.int .i64 0), (.int .i64 0), (.int .i64 0), (.int .i64 0), (.int .i64 0),
  (.int .i64 0), (.int .i64 0), (.int .i64 0), (.int .i64 0), (.int .i64 0)] []), none⟩, ⟨(some 64), (.eqf true true [.int, .int, .int, .int, .int, .int, .int, .int, .int, .int,
  .int, .int, .int] (.tmp 62) (.tmp 63)), none⟩]) (.cond (.tmp 64) (.seq (.region [⟨(some 4), (.mv (.const (.int .i64 14))), none⟩]) .ret) .skip)) (.seq (.region [⟨(some 4), (.mv
  (.const (.int .i64 0))), none⟩]) .ret)))))))⟩
def af22 : AFn := ⟨65, [(.tmp 4)], (.seq (.region [⟨(some 2), (.box (.tmp 0)), none⟩, ⟨(some 4), (.mv (.const (.int .i64 0))), none⟩]) (.seq (.seq (.region [⟨(some 8), (.load (some 2) (.tmp 2)),
  none⟩, ⟨(some 9), (.call (.func 20) [(.tmp 8)]), none⟩, ⟨(some 10), (.bin .neq (.tmp 9) (.const (.int .i64 0))), none⟩]) (.cond (.tmp 10) (.seq (.region [⟨(some 11), (.load
  (some 2) (.tmp 2)), none⟩, ⟨(some 12), (.call (.func 20) [(.tmp 11)]), none⟩, ⟨(some 4), (.mv (.tmp 12)), none⟩]) .ret) .skip)) (.seq (.seq (.region [⟨(some 13), (.mv (.tmp 1)),
  none⟩, ⟨(some 14), (.len (.tmp 13)), none⟩, ⟨(some 15), (.faddr 1 (.tmp 2)), none⟩, ⟨(some 16), (.load none (.tmp 15)), none⟩, ⟨(some 17), (.len (.tmp 16)), none⟩, ⟨(some 18),
  (.bin .neq (.tmp 14) (.tmp 17)), none⟩]) (.cond (.tmp 18) (.seq (.region [⟨(some 4), (.mv (.const (.int .i64 15))), none⟩]) .ret) .skip)) (.seq (.seq (.region [⟨(some 5), (.mv
  (.const (.int .i64 0))), none⟩]) (.block 0 (.loop (.seq (.seq (.region [⟨(some 19), (.mv (.tmp 5)), none⟩, ⟨(some 20), (.mv (.tmp 1)), none⟩, ⟨(some 21), (.len (.tmp 20)), none⟩,
   ⟨(some 22), (.bin .lss (.tmp 19) (.tmp 21)), none⟩]) (.cond (.tmp 22) .skip (.exit 0))) (.seq (.block 1 (.seq (.draw [⟨(some 25), (.mv (.tmp 1)), none⟩, ⟨(some 26), (.mv (.tmp
  5)), none⟩, ⟨(some 27), (.iaddrS 1 (.tmp 25) (.tmp 26)), none⟩, ⟨(some 28), (.load none (.tmp 27)), none⟩, ⟨(some 29), (.faddr 1 (.tmp 2)), none⟩, ⟨(some 30), (.load none (.tmp
  29)), none⟩, ⟨(some 31), (.mv (.tmp 5)), none⟩, ⟨(some 32), (.iaddrS 4 (.tmp 30) (.tmp 31)), none⟩, ⟨(some 33), (.faddr 2 (.tmp 32)), none⟩, ⟨(some 34), (.faddr 0 (.tmp 33)),
  none⟩, ⟨(some 35), (.load none (.tmp 34)), none⟩, ⟨(some 36), (.bin .lss (.tmp 28) (.tmp 35)), none⟩, ⟨(some 37), (.mv (.tmp 36)), none⟩, ⟨(some 38), (.mv (.tmp 1)), (some (37,
  false))⟩, ⟨(some 39), (.mv (.tmp 5)), (some (37, false))⟩, ⟨(some 40), (.iaddrS 1 (.tmp 38) (.tmp 39)), (some (37, false))⟩, ⟨(some 41), (.load none (.tmp 40)), (some (37,
  false))⟩, ⟨(some 42), (.faddr 1 (.tmp 2)), (some (37, false))⟩, ⟨(some 43), (.load none (.tmp 42)), (some (37, false))⟩, ⟨(some 44), (.mv (.tmp 5)), (some (37, false))⟩, ⟨(some
  45), (.iaddrS 4 (.tmp 43) (.tmp 44)), (some (37, false))⟩, ⟨(some 46), (.faddr 2 (.tmp 45)), (some (37, false))⟩, ⟨(some 47), (.faddr 1 (.tmp 46)), (some (37, false))⟩, ⟨(some
  48), (.load none (.tmp 47)), (some (37, false))⟩, ⟨(some 49), (.bin .gtr (.tmp 41) (.tmp 48)), (some (37, false))⟩, ⟨(some 50), (.pick (.tmp 37) (.const (.bool true)) (.tmp 49)),
   none⟩] []) (.cond (.tmp 50) (.seq (.region [⟨(some 4), (.mv (.const (.int .i64 3))), none⟩]) .ret) .skip))) (.region [⟨(some 23), (.mv (.tmp 5)), none⟩, ⟨(some 24), (.bin .add
  (.tmp 23) (.const (.int .i64 1))), none⟩, ⟨(some 5), (.mv (.tmp 24)), none⟩])))))) (.seq (.region [⟨(some 51), (.load (some 2) (.tmp 2)), none⟩, ⟨(some 52), (.mv (.tmp 1)),
  none⟩, ⟨(some 53), (.call (.func 54) [(.tmp 51), (.tmp 52)]), none⟩, ⟨(some 6), (.mv (.tmp 53)), none⟩]) (.seq (.seq (.region [⟨(some 7), (.mv (.const (.int .i64 0))), none⟩])
  (.block 2 (.loop (.seq (.seq (.region [⟨(some 54), (.mv (.tmp 7)), none⟩, ⟨(some 55), (.mv (.tmp 6)), none⟩, ⟨(some 56), (.len (.tmp 55)), none⟩, ⟨(some 57), (.bin .lss (.tmp
  54) (.tmp 56)), none⟩]) (.cond (.tmp 57) .skip (.exit 2))) (.seq (.block 3 (.seq (.region [⟨(some 60), (.mv (.tmp 6)), none⟩, ⟨(some 61), (.mv (.tmp 7)), none⟩, ⟨(some 62),
  (.iaddrS 1 (.tmp 60) (.tmp 61)), none⟩, ⟨(some 63), (.load none (.tmp 62)), none⟩, ⟨(some 64), (.bin .neq (.tmp 63) (.const (.int .i64 0))), none⟩]) (.cond (.tmp 64) (.seq
  (.region [⟨(some 4), (.mv (.const (.int .i64 14))), none⟩]) .ret) .skip))) (.region [⟨(some 58), (.mv (.tmp 7)), none⟩, ⟨(some 59), (.bin .add (.tmp 58) (.const (.int .i64 1))),
  none⟩, ⟨(some 7), (.mv (.tmp 59)), none⟩])))))) (.seq (.region [⟨(some 4), (.mv (.const (.int .i64 0))), none⟩]) .ret)))))))⟩
def af23 : AFn := ⟨19, [(.tmp 2), (.tmp 3)], (.seq (.region [⟨(some 1), (.box (.tmp 0)), none⟩, ⟨(some 2), (.mv (.const (.slc none 0 0 true 0))), none⟩, ⟨(some 3), (.mv (.const (.int .i64 0))),
  none⟩]) (.seq (.seq (.region [⟨(some 6), (.load (some 2) (.tmp 1)), none⟩, ⟨(some 7), (.call (.func 19) [(.tmp 6)]), none⟩, ⟨(some 4), (.mv (.tmp 7)), none⟩]) (.seq (.region
  [⟨(some 8), (.mv (.tmp 4)), none⟩, ⟨(some 9), (.bin .neq (.tmp 8) (.const (.int .i64 0))), none⟩]) (.cond (.tmp 9) (.seq (.region [⟨(some 10), (.mv (.tmp 4)), none⟩, ⟨(some 2),
  (.mv (.const (.slc none 0 0 true 0))), none⟩, ⟨(some 3), (.mv (.tmp 10)), none⟩]) .ret) .skip))) (.seq (.region [⟨(some 11), (.load (some 2) (.tmp 1)), none⟩, ⟨(some 12), (.call
  (.func 55) [(.tmp 11)]), none⟩, ⟨(some 5), (.mv (.tmp 12)), none⟩]) (.seq (.seq (.region [⟨(some 13), (.mv (.tmp 5)), none⟩, ⟨(some 14), (.call (.func 56) [(.tmp 13)]), none⟩,
  ⟨(some 15), (.len (.tmp 14)), none⟩, ⟨(some 16), (.bin .gtr (.tmp 15) (.const (.int .i64 0))), none⟩]) (.cond (.tmp 16) (.seq (.region [⟨(some 2), (.mv (.const (.slc none 0 0
  true 0))), none⟩, ⟨(some 3), (.mv (.const (.int .i64 21))), none⟩]) .ret) .skip)) (.seq (.region [⟨(some 17), (.mv (.tmp 5)), none⟩, ⟨(some 18), (.call (.func 57) [(.tmp 17)]),
  none⟩, ⟨(some 2), (.mv (.tmp 18)), none⟩, ⟨(some 3), (.mv (.const (.int .i64 0))), none⟩]) .ret)))))⟩
def af24 : AFn := ⟨89, [(.tmp 2), (.tmp 3)], (.seq (.region [⟨(some 1), (.box (.tmp 0)), none⟩, ⟨(some 2), (.mv (.const (.slc none 0 0 true 0))), none⟩, ⟨(some 3), (.mv (.const (.bool false))),
  none⟩]) (.seq (.region [⟨(some 4), (.mv (.const (.slc none 0 0 true 0))), none⟩]) (.seq (.seq (.region [⟨(some 5), (.mv (.const (.int .i64 0))), none⟩]) (.block 0 (.loop (.seq
  (.seq (.region [⟨(some 11), (.mv (.tmp 5)), none⟩, ⟨(some 12), (.faddr 1 (.tmp 1)), none⟩, ⟨(some 13), (.load none (.tmp 12)), none⟩, ⟨(some 14), (.len (.tmp 13)), none⟩, ⟨(some
  15), (.bin .lss (.tmp 11) (.tmp 14)), none⟩]) (.cond (.tmp 15) .skip (.exit 0))) (.seq (.block 1 (.region [⟨(some 18), (.mv (.tmp 4)), none⟩, ⟨(some 19), (.faddr 1 (.tmp 1)),
  none⟩, ⟨(some 20), (.load none (.tmp 19)), none⟩, ⟨(some 21), (.mv (.tmp 5)), none⟩, ⟨(some 22), (.iaddrS 4 (.tmp 20) (.tmp 21)), none⟩, ⟨(some 23), (.faddr 2 (.tmp 22)), none⟩,
  ⟨(some 24), (.faddr 0 (.tmp 23)), none⟩, ⟨(some 25), (.load none (.tmp 24)), none⟩, ⟨(some 26), (.bslice [(.int .i64 0)] 1 1 [(0, (1, (.tmp 25)))]), none⟩, ⟨(some 27), (.app 1 8
  (.tmp 18) (.tmp 26)), none⟩, ⟨(some 4), (.mv (.tmp 27)), none⟩])) (.region [⟨(some 16), (.mv (.tmp 5)), none⟩, ⟨(some 17), (.bin .add (.tmp 16) (.const (.int .i64 1))), none⟩,
  ⟨(some 5), (.mv (.tmp 17)), none⟩])))))) (.block 2 (.loop (.block 3 (.seq (.region [⟨(some 28), (.load (some 2) (.tmp 1)), none⟩, ⟨(some 29), (.mv (.tmp 4)), none⟩, ⟨(some 30),
  (.call (.func 54) [(.tmp 28), (.tmp 29)]), none⟩, ⟨(some 6), (.mv (.tmp 30)), none⟩]) (.seq (.region [⟨(some 7), (.mv (.const (.bool true))), none⟩]) (.seq (.region [⟨(some 8),
  (.mv (.const (.int .i64 0))), none⟩]) (.seq (.seq (.region [⟨(some 9), (.mv (.const (.int .i64 0))), none⟩]) (.block 4 (.loop (.seq (.seq (.region [⟨(some 31), (.mv (.tmp 9)),
  none⟩, ⟨(some 32), (.mv (.tmp 6)), none⟩, ⟨(some 33), (.len (.tmp 32)), none⟩, ⟨(some 34), (.bin .lss (.tmp 31) (.tmp 33)), none⟩]) (.cond (.tmp 34) .skip (.exit 4))) (.seq
  (.block 5 (.seq (.region [⟨(some 10), (.mv (.const (.int .i64 0))), none⟩]) (.block 6 (.loop (.seq (.seq (.region [⟨(some 37), (.mv (.tmp 10)), none⟩, ⟨(some 38), (.mv (.tmp 6)),
   none⟩, ⟨(some 39), (.len (.tmp 38)), none⟩, ⟨(some 40), (.bin .lss (.tmp 37) (.tmp 39)), none⟩]) (.cond (.tmp 40) .skip (.exit 6))) (.seq (.block 7 (.seq (.region [⟨(some 43),
  (.mv (.tmp 7)), none⟩, ⟨(some 44), (.mv (.tmp 43)), none⟩, ⟨(some 45), (.mv (.tmp 6)), (some (44, true))⟩, ⟨(some 46), (.mv (.tmp 9)), (some (44, true))⟩, ⟨(some 47), (.iaddrS 1
  (.tmp 45) (.tmp 46)), (some (44, true))⟩, ⟨(some 48), (.load none (.tmp 47)), (some (44, true))⟩, ⟨(some 49), (.bin .eql (.tmp 48) (.const (.int .i64 0))), (some (44, true))⟩,
  ⟨(some 50), (.pick (.tmp 44) (.tmp 49) (.const (.bool false))), none⟩, ⟨(some 7), (.mv (.tmp 50)), none⟩]) (.seq (.region [⟨(some 51), (.mv (.tmp 6)), none⟩, ⟨(some 52), (.mv
  (.tmp 9)), none⟩, ⟨(some 53), (.iaddrS 1 (.tmp 51) (.tmp 52)), none⟩, ⟨(some 54), (.load none (.tmp 53)), none⟩, ⟨(some 55), (.bin .gtr (.tmp 54) (.const (.int .i64 0))), none⟩,
  ⟨(some 56), (.mv (.tmp 55)), none⟩, ⟨(some 57), (.mv (.tmp 6)), (some (56, true))⟩, ⟨(some 58), (.mv (.tmp 10)), (some (56, true))⟩, ⟨(some 59), (.iaddrS 1 (.tmp 57) (.tmp 58)),
  (some (56, true))⟩, ⟨(some 60), (.load none (.tmp 59)), (some (56, true))⟩, ⟨(some 61), (.bin .lss (.tmp 60) (.const (.int .i64 0))), (some (56, true))⟩, ⟨(some 62), (.pick
  (.tmp 56) (.tmp 61) (.const (.bool false))), none⟩, ⟨(some 63), (.mv (.tmp 62)), none⟩, ⟨(some 64), (.mv (.tmp 8)), (some (63, true))⟩, ⟨(some 65), (.bin .eql (.tmp 64) (.const
  (.int .i64 0))), (some (63, true))⟩, ⟨(some 66), (.pick (.tmp 63) (.tmp 65) (.const (.bool false))), none⟩]) (.cond (.tmp 66) (.draw [⟨(some 68), (.load (some 2) (.tmp 1)),
  none⟩, ⟨(some 69), (.mv (.tmp 4)), none⟩, ⟨(some 70), (.mv (.tmp 9)), none⟩, ⟨(some 71), (.mv (.tmp 10)), none⟩, ⟨(some 72), (.mv (.tmp 6)), none⟩, ⟨(some 73), (.mv (.tmp 9)),
  none⟩, ⟨(some 74), (.iaddrS 1 (.tmp 72) (.tmp 73)), none⟩, ⟨(some 75), (.load none (.tmp 74)), none⟩, ⟨(some 76), (.mv (.tmp 6)), none⟩, ⟨(some 77), (.mv (.tmp 10)), none⟩,
  ⟨(some 78), (.iaddrS 1 (.tmp 76) (.tmp 77)), none⟩, ⟨(some 79), (.load none (.tmp 78)), none⟩, ⟨(some 80), (.un .neg (.tmp 79)), none⟩, ⟨(some 81), (.mnx false [(.tmp 75), (.tmp
  80)]), none⟩, ⟨(some 82), (.call (.func 58) [(.tmp 68), (.tmp 69), (.tmp 70), (.tmp 71), (.const (.int .i64 (-1))), (.tmp 81)]), none⟩, ⟨(some 67), (.mv (.tmp 82)), none⟩,
  ⟨(some 83), (.ext (.tmp 67) 0), none⟩, ⟨(some 84), (.ext (.tmp 67) 1), none⟩, ⟨(some 4), (.mv (.tmp 83)), none⟩, ⟨(some 8), (.mv (.tmp 84)), none⟩] []) .skip)))) (.region
  [⟨(some 41), (.mv (.tmp 10)), none⟩, ⟨(some 42), (.bin .add (.tmp 41) (.const (.int .i64 1))), none⟩, ⟨(some 10), (.mv (.tmp 42)), none⟩]))))))) (.region [⟨(some 35), (.mv (.tmp
  9)), none⟩, ⟨(some 36), (.bin .add (.tmp 35) (.const (.int .i64 1))), none⟩, ⟨(some 9), (.mv (.tmp 36)), none⟩])))))) (.seq (.seq (.region [⟨(some 85), (.mv (.tmp 7)), none⟩])
  (.cond (.tmp 85) (.seq (.region [⟨(some 86), (.mv (.tmp 4)), none⟩, ⟨(some 2), (.mv (.tmp 86)), none⟩, ⟨(some 3), (.mv (.const (.bool true))), none⟩]) .ret) .skip)) (.seq
  (.region [⟨(some 87), (.mv (.tmp 8)), none⟩, ⟨(some 88), (.bin .eql (.tmp 87) (.const (.int .i64 0))), none⟩]) (.cond (.tmp 88) (.seq (.region [⟨(some 2), (.mv (.const (.slc
  none 0 0 true 0))), none⟩, ⟨(some 3), (.mv (.const (.bool false))), none⟩]) .ret) .skip)))))))))))))⟩
def af25 : AFn := ⟨41, [(.cell 4 (some 2)), (.tmp 5)], (.seq (.region [⟨(some 2), (.box (.tmp 0)), none⟩, ⟨(some 4), (.alloc [(.int .i64 0), (.int .i64 0)]), none⟩, ⟨(some 5), (.mv (.const (.int
  .i64 0))), none⟩]) (.seq (.region [⟨(some 10), (.load (some 2) (.tmp 2)), none⟩, ⟨(some 11), (.mv (.tmp 1)), none⟩, ⟨(some 12), (.call (.func 59) [(.tmp 10), (.tmp 11)]), none⟩,
  ⟨(some 9), (.mv (.tmp 12)), none⟩, ⟨(some 13), (.ext (.tmp 9) 0), none⟩, ⟨(some 14), (.ext (.tmp 9) 1), none⟩, ⟨(some 6), (.mv (.tmp 13)), none⟩, ⟨(some 7), (.mv (.tmp 14)),
  none⟩]) (.seq (.seq (.region [⟨(some 15), (.mv (.tmp 7)), none⟩, ⟨(some 16), (.bin .neq (.tmp 15) (.const (.int .i64 0))), none⟩]) (.cond (.tmp 16) (.seq (.region [⟨(some 17),
  (.build [(.int .i64 0), (.int .i64 0)] []), none⟩, ⟨(some 18), (.mv (.tmp 7)), none⟩, ⟨none, (.store 2 (.tmp 4) (.tmp 17)), none⟩, ⟨(some 5), (.mv (.tmp 18)), none⟩]) .ret)
  .skip)) (.seq (.region [⟨(some 19), (.mv (.tmp 6)), none⟩, ⟨(some 20), (.mv (.tmp 1)), none⟩, ⟨(some 21), (.call (.func 60) [(.tmp 19), (.tmp 20), (.const (.bool false))]),
  none⟩]) (.seq (.region [⟨(some 22), (.mv (.tmp 6)), none⟩, ⟨(some 23), (.nilchk (.tmp 22)), none⟩, ⟨(some 24), (.faddr 2 (.tmp 23)), none⟩, ⟨(some 25), (.load none (.tmp 24)),
  none⟩, ⟨(some 26), (.mv (.tmp 1)), none⟩, ⟨(some 27), (.iaddrS 1 (.tmp 25) (.tmp 26)), none⟩, ⟨(some 28), (.load none (.tmp 27)), none⟩, ⟨(some 8), (.mv (.tmp 28)), none⟩])
  (.seq (.region [⟨(some 29), (.mv (.tmp 6)), none⟩, ⟨(some 30), (.mv (.tmp 1)), none⟩, ⟨(some 31), (.call (.func 60) [(.tmp 29), (.tmp 30), (.const (.bool true))]), none⟩]) (.seq
  (.region [⟨(some 32), (.mv (.tmp 8)), none⟩, ⟨(some 33), (.mv (.tmp 6)), none⟩, ⟨(some 34), (.nilchk (.tmp 33)), none⟩, ⟨(some 35), (.faddr 2 (.tmp 34)), none⟩, ⟨(some 36),
  (.load none (.tmp 35)), none⟩, ⟨(some 37), (.mv (.tmp 1)), none⟩, ⟨(some 38), (.iaddrS 1 (.tmp 36) (.tmp 37)), none⟩, ⟨(some 39), (.load none (.tmp 38)), none⟩, ⟨(some 40),
  (.build [(.int .i64 0), (.int .i64 0)] [(0, (1, (.tmp 32))), (1, (1, (.tmp 39)))]), none⟩, ⟨none, (.store 2 (.tmp 4) (.tmp 40)), none⟩, ⟨(some 5), (.mv (.const (.int .i64 0))),
  none⟩]) .ret)))))))⟩
def af26 : AFn := ⟨27, [(.cell 4 (some 2)), (.tmp 5)], (.seq (.region [⟨(some 2), (.box (.tmp 0)), none⟩, ⟨(some 4), (.alloc [(.int .i64 0), (.int .i64 0)]), none⟩, ⟨(some 5), (.mv (.const (.int
  .i64 0))), none⟩]) (.seq (.seq (.region [⟨(some 6), (.load (some 2) (.tmp 2)), none⟩, ⟨(some 7), (.mv (.tmp 1)), none⟩, ⟨(some 8), (.call (.func 31) [(.tmp 6), (.tmp 7)]), none⟩,
   ⟨(some 9), (.bin .neq (.tmp 8) (.const (.int .i64 0))), none⟩]) (.cond (.tmp 9) (.seq (.region [⟨(some 10), (.build [(.int .i64 0), (.int .i64 0)] []), none⟩, ⟨(some 11),
  (.load (some 2) (.tmp 2)), none⟩, ⟨(some 12), (.mv (.tmp 1)), none⟩, ⟨(some 13), (.call (.func 31) [(.tmp 11), (.tmp 12)]), none⟩, ⟨none, (.store 2 (.tmp 4) (.tmp 10)), none⟩,
  ⟨(some 5), (.mv (.tmp 13)), none⟩]) .ret) .skip)) (.seq (.draw [⟨(some 14), (.load (some 2) (.tmp 2)), none⟩, ⟨(some 15), (.mv (.tmp 1)), none⟩, ⟨(some 16), (.call (.func 61)
  [(.tmp 14), (.tmp 15), (.const (.bool false))]), none⟩, ⟨(some 17), (.mv (.tmp 1)), none⟩, ⟨(some 18), (.iaddrS 1 (.tmp 16) (.tmp 17)), none⟩, ⟨(some 19), (.load none (.tmp 18)),
   none⟩, ⟨(some 20), (.load (some 2) (.tmp 2)), none⟩, ⟨(some 21), (.mv (.tmp 1)), none⟩, ⟨(some 22), (.call (.func 61) [(.tmp 20), (.tmp 21), (.const (.bool true))]), none⟩,
  ⟨(some 23), (.mv (.tmp 1)), none⟩, ⟨(some 24), (.iaddrS 1 (.tmp 22) (.tmp 23)), none⟩, ⟨(some 25), (.load none (.tmp 24)), none⟩, ⟨(some 26), (.build [(.int .i64 0), (.int .i64
  0)] [(0, (1, (.tmp 19))), (1, (1, (.tmp 25)))]), none⟩, ⟨none, (.store 2 (.tmp 4) (.tmp 26)), none⟩, ⟨(some 5), (.mv (.const (.int .i64 0))), none⟩] [(2, 6), (5, 8)]) .ret)))⟩
def af27 : AFn := ⟨25, [(.tmp 6), (.tmp 7)], (.seq (.region [⟨(some 3), (.box (.tmp 0)), none⟩, ⟨(some 6), (.mv (.const (.slc none 0 0 true 0))), none⟩, ⟨(some 7), (.mv (.const (.int .i64 0))),
  none⟩]) (.seq (.region [⟨(some 11), (.load (some 2) (.tmp 3)), none⟩, ⟨(some 12), (.mv (.tmp 1)), none⟩, ⟨(some 13), (.call (.func 59) [(.tmp 11), (.tmp 12)]), none⟩, ⟨(some 10),
   (.mv (.tmp 13)), none⟩, ⟨(some 14), (.ext (.tmp 10) 0), none⟩, ⟨(some 15), (.ext (.tmp 10) 1), none⟩, ⟨(some 8), (.mv (.tmp 14)), none⟩, ⟨(some 9), (.mv (.tmp 15)), none⟩])
  (.seq (.seq (.region [⟨(some 16), (.mv (.tmp 9)), none⟩, ⟨(some 17), (.bin .neq (.tmp 16) (.const (.int .i64 0))), none⟩]) (.cond (.tmp 17) (.seq (.region [⟨(some 18), (.mv
  (.tmp 9)), none⟩, ⟨(some 6), (.mv (.const (.slc none 0 0 true 0))), none⟩, ⟨(some 7), (.mv (.tmp 18)), none⟩]) .ret) .skip)) (.seq (.region [⟨(some 19), (.mv (.tmp 8)), none⟩,
  ⟨(some 20), (.mv (.tmp 1)), none⟩, ⟨(some 21), (.mv (.tmp 2)), none⟩, ⟨(some 22), (.call (.func 60) [(.tmp 19), (.tmp 20), (.tmp 21)]), none⟩]) (.seq (.region [⟨(some 23), (.mv
  (.tmp 8)), none⟩, ⟨(some 24), (.call (.func 57) [(.tmp 23)]), none⟩, ⟨(some 6), (.mv (.tmp 24)), none⟩, ⟨(some 7), (.mv (.const (.int .i64 0))), none⟩]) .ret)))))⟩
def af28 : AFn := ⟨94, [(.tmp 8), (.tmp 9)], (.seq (.region [⟨(some 4), (.box (.tmp 0)), none⟩, ⟨(some 8), (.mv (.const (.int .i64 0))), none⟩, ⟨(some 9), (.mv (.const (.int .i64 0))), none⟩])
  (.seq (.region [⟨(some 19), (.load (some 2) (.tmp 4)), none⟩, ⟨(some 20), (.call (.func 19) [(.tmp 19)]), none⟩, ⟨(some 10), (.mv (.tmp 20)), none⟩]) (.seq (.block 0 (.seq
  (.region [⟨(some 22), (.mv (.tmp 10)), none⟩, ⟨(some 23), (.bin .neq (.tmp 22) (.const (.int .i64 0))), none⟩, ⟨(some 21), (.mv (.tmp 23)), none⟩]) (.cond (.tmp 21) (.seq
  (.region [⟨(some 24), (.mv (.tmp 10)), none⟩, ⟨(some 8), (.mv (.const (.int .i64 0))), none⟩, ⟨(some 9), (.mv (.tmp 24)), none⟩]) .ret) (.seq (.region [⟨(some 26), (.mv (.tmp
  1)), none⟩, ⟨(some 27), (.bin .lss (.tmp 26) (.const (.int .i64 0))), none⟩, ⟨(some 28), (.mv (.tmp 27)), none⟩, ⟨(some 29), (.mv (.tmp 1)), (some (28, false))⟩, ⟨(some 30),
  (.faddr 1 (.tmp 4)), (some (28, false))⟩, ⟨(some 31), (.load none (.tmp 30)), (some (28, false))⟩, ⟨(some 32), (.len (.tmp 31)), (some (28, false))⟩, ⟨(some 33), (.bin .geq
  (.tmp 29) (.tmp 32)), (some (28, false))⟩, ⟨(some 34), (.pick (.tmp 28) (.const (.bool true)) (.tmp 33)), none⟩, ⟨(some 35), (.mv (.tmp 34)), none⟩, ⟨(some 36), (.mv (.tmp 3)),
  (some (35, false))⟩, ⟨(some 37), (.faddr 0 (.tmp 4)), (some (35, false))⟩, ⟨(some 38), (.load none (.tmp 37)), (some (35, false))⟩, ⟨(some 39), (.call (.func 43) [(.tmp 36),
  (.tmp 38)]), (some (35, false))⟩, ⟨(some 40), (.un .not (.tmp 39)), (some (35, false))⟩, ⟨(some 41), (.pick (.tmp 35) (.const (.bool true)) (.tmp 40)), none⟩, ⟨(some 25), (.mv
  (.tmp 41)), none⟩]) (.cond (.tmp 25) (.seq (.region [⟨(some 8), (.mv (.const (.int .i64 0))), none⟩, ⟨(some 9), (.mv (.const (.int .i64 3))), none⟩]) .ret) .skip))))) (.seq
  (.region [⟨(some 42), (.faddr 1 (.tmp 4)), none⟩, ⟨(some 43), (.load none (.tmp 42)), none⟩, ⟨(some 44), (.mv (.tmp 1)), none⟩, ⟨(some 45), (.iaddrS 4 (.tmp 43) (.tmp 44)),
  none⟩, ⟨(some 46), (.load (some 4) (.tmp 45)), none⟩, ⟨(some 11), (.alloc [(.int .i64 0), (.int .i64 0), (.int .i64 0), (.int .i64 0)]), none⟩, ⟨none, (.store 4 (.tmp 11) (.tmp
  46)), none⟩]) (.seq (.region [⟨(some 12), (.alloc [.nilfn]), none⟩, ⟨none, (.store 1 (.tmp 12) (.func 62)), none⟩]) (.seq (.region [⟨(some 13), (.alloc [.nilfn]), none⟩, ⟨none,
  (.store 1 (.tmp 13) (.func 63)), none⟩]) (.seq (.seq (.region [⟨(some 47), (.mv (.tmp 2)), none⟩]) (.cond (.tmp 47) (.region [⟨(some 48), (.load none (.tmp 13)), none⟩, ⟨(some
  49), (.load none (.tmp 12)), none⟩, ⟨none, (.store 1 (.tmp 12) (.tmp 48)), none⟩, ⟨none, (.store 1 (.tmp 13) (.tmp 49)), none⟩]) .skip)) (.seq (.block 1 (.seq (.region [⟨(some
  51), (.mv (.tmp 3)), none⟩, ⟨(some 52), (.len (.tmp 51)), none⟩, ⟨(some 53), (.bin .eql (.tmp 52) (.const (.int .i64 0))), none⟩, ⟨(some 50), (.mv (.tmp 53)), none⟩]) (.cond
  (.tmp 50) (.seq (.region [⟨(some 54), (.load none (.tmp 12)), none⟩, ⟨(some 55), (.load (some 4) (.tmp 11)), none⟩, ⟨(some 56), (.call (.tmp 54) [(.tmp 55)]), none⟩, ⟨(some 8),
  (.mv (.tmp 56)), none⟩, ⟨(some 9), (.mv (.const (.int .i64 0))), none⟩]) .ret) (.seq (.region [⟨(some 58), (.mv (.tmp 3)), none⟩, ⟨(some 59), (.faddr 0 (.tmp 11)), none⟩, ⟨(some
  60), (.load none (.tmp 59)), none⟩, ⟨(some 61), (.call (.func 64) [(.tmp 58), (.tmp 60)]), none⟩, ⟨(some 62), (.un .not (.tmp 61)), none⟩, ⟨(some 63), (.mv (.tmp 62)), none⟩,
  ⟨(some 64), (.mv (.tmp 3)), (some (63, false))⟩, ⟨(some 65), (.faddr 1 (.tmp 11)), (some (63, false))⟩, ⟨(some 66), (.load none (.tmp 65)), (some (63, false))⟩, ⟨(some 67),
  (.call (.func 64) [(.tmp 64), (.tmp 66)]), (some (63, false))⟩, ⟨(some 68), (.pick (.tmp 63) (.const (.bool true)) (.tmp 67)), none⟩, ⟨(some 57), (.mv (.tmp 68)), none⟩]) (.cond
  (.tmp 57) (.seq (.region [⟨(some 8), (.mv (.const (.int .i64 0))), none⟩, ⟨(some 9), (.mv (.const (.int .i64 16))), none⟩]) .ret) .skip))))) (.seq (.region [⟨(some 69), (.load
  none (.tmp 13)), none⟩, ⟨(some 70), (.load (some 4) (.tmp 11)), none⟩, ⟨(some 71), (.call (.tmp 69) [(.tmp 70)]), none⟩, ⟨(some 14), (.alloc [(.int .i64 0)]), none⟩, ⟨none,
  (.store 1 (.tmp 14) (.tmp 71)), none⟩]) (.seq (.seq (.region [⟨(some 72), (.load (some 2) (.tmp 4)), none⟩, ⟨(some 73), (.call (.func 45) [(.tmp 72)]), none⟩, ⟨(some 74), (.mv
  (.tmp 3)), none⟩, ⟨(some 75), (.call (.func 44) [(.tmp 73), (.tmp 74)]), none⟩]) (.block 2 (.rangeF (.tmp 75) [76, 77] (.region [⟨(some 16), (.alloc [(.int .i64 0), (.int .i64
  0), (.int .i64 0), (.int .i64 0)]), none⟩, ⟨none, (.store 4 (.tmp 16) (.tmp 77)), none⟩]) (.block 3 (.draw [⟨(some 78), (.load none (.tmp 14)), none⟩, ⟨(some 79), (.load none
  (.tmp 12)), none⟩, ⟨(some 80), (.load (some 4) (.tmp 16)), none⟩, ⟨(some 81), (.call (.tmp 79) [(.tmp 80)]), none⟩, ⟨(some 82), (.bin .add (.tmp 78) (.tmp 81)), none⟩, ⟨none,
  (.store 1 (.tmp 14) (.tmp 82)), none⟩] [(0, 3)]))))) (.seq (.seq (.region [⟨(some 83), (.load (some 2) (.tmp 4)), none⟩, ⟨(some 84), (.mv (.tmp 3)), none⟩, ⟨(some 85), (.call
  (.func 44) [(.tmp 83), (.tmp 84)]), none⟩]) (.block 4 (.rangeF (.tmp 85) [86, 87] (.region [⟨(some 18), (.alloc [(.int .i64 0), (.int .i64 0), (.int .i64 0), (.int .i64 0)]),
  none⟩, ⟨none, (.store 4 (.tmp 18) (.tmp 87)), none⟩]) (.block 5 (.draw [⟨(some 88), (.load none (.tmp 14)), none⟩, ⟨(some 89), (.load none (.tmp 13)), none⟩, ⟨(some 90), (.load
  (some 4) (.tmp 18)), none⟩, ⟨(some 91), (.call (.tmp 89) [(.tmp 90)]), none⟩, ⟨(some 92), (.bin .sub (.tmp 88) (.tmp 91)), none⟩, ⟨none, (.store 1 (.tmp 14) (.tmp 92)), none⟩]
  [(0, 3)]))))) (.seq (.region [⟨(some 93), (.load none (.tmp 14)), none⟩, ⟨(some 8), (.mv (.tmp 93)), none⟩, ⟨(some 9), (.mv (.const (.int .i64 0))), none⟩]) .ret))))))))))))⟩
def af29 : AFn := ⟨134, [(.tmp 8), (.tmp 9)], (.seq (.region [⟨(some 4), (.box (.tmp 0)), none⟩, ⟨(some 8), (.mv (.const (.int .i64 0))), none⟩, ⟨(some 9), (.mv (.const (.int .i64 0))), none⟩])
  (.seq (.seq (.region [⟨(some 16), (.load (some 2) (.tmp 4)), none⟩, ⟨(some 17), (.call (.func 20) [(.tmp 16)]), none⟩, ⟨(some 18), (.bin .neq (.tmp 17) (.const (.int .i64 0))),
  none⟩]) (.cond (.tmp 18) (.seq (.region [⟨(some 19), (.load (some 2) (.tmp 4)), none⟩, ⟨(some 20), (.call (.func 20) [(.tmp 19)]), none⟩, ⟨(some 8), (.mv (.const (.int .i64 0))),
   none⟩, ⟨(some 9), (.mv (.tmp 20)), none⟩]) .ret) .skip)) (.seq (.seq (.region [⟨(some 21), (.mv (.tmp 1)), none⟩, ⟨(some 22), (.bin .lss (.tmp 21) (.const (.int .i64 0))),
  none⟩, ⟨(some 23), (.mv (.tmp 22)), none⟩, ⟨(some 24), (.mv (.tmp 1)), (some (23, false))⟩, ⟨(some 25), (.faddr 1 (.tmp 4)), (some (23, false))⟩, ⟨(some 26), (.load none (.tmp
  25)), (some (23, false))⟩, ⟨(some 27), (.len (.tmp 26)), (some (23, false))⟩, ⟨(some 28), (.bin .geq (.tmp 24) (.tmp 27)), (some (23, false))⟩, ⟨(some 29), (.pick (.tmp 23)
  (.const (.bool true)) (.tmp 28)), none⟩, ⟨(some 30), (.mv (.tmp 29)), none⟩, ⟨(some 31), (.mv (.tmp 3)), (some (30, false))⟩, ⟨(some 32), (.faddr 0 (.tmp 4)), (some (30,
  false))⟩, ⟨(some 33), (.load none (.tmp 32)), (some (30, false))⟩, ⟨(some 34), (.call (.func 46) [(.tmp 31), (.tmp 33)]), (some (30, false))⟩, ⟨(some 35), (.un .not (.tmp 34)),
  (some (30, false))⟩, ⟨(some 36), (.pick (.tmp 30) (.const (.bool true)) (.tmp 35)), none⟩]) (.cond (.tmp 36) (.seq (.region [⟨(some 8), (.mv (.const (.int .i64 0))), none⟩,
  ⟨(some 9), (.mv (.const (.int .i64 3))), none⟩]) .ret) .skip)) (.seq (.region [⟨(some 37), (.faddr 1 (.tmp 4)), none⟩, ⟨(some 38), (.load none (.tmp 37)), none⟩, ⟨(some 39),
  (.mv (.tmp 1)), none⟩, ⟨(some 40), (.iaddrS 4 (.tmp 38) (.tmp 39)), none⟩, ⟨(some 41), (.faddr 2 (.tmp 40)), none⟩, ⟨(some 42), (.load (some 2) (.tmp 41)), none⟩, ⟨(some 10),
  (.alloc [(.int .i64 0), (.int .i64 0)]), none⟩, ⟨none, (.store 2 (.tmp 10) (.tmp 42)), none⟩]) (.seq (.seq (.region [⟨(some 43), (.mv (.tmp 3)), none⟩, ⟨(some 44), (.len (.tmp
  43)), none⟩, ⟨(some 45), (.bin .eql (.tmp 44) (.const (.int .i64 0))), none⟩, ⟨(some 46), (.mv (.tmp 45)), none⟩, ⟨(some 47), (.mv (.tmp 2)), (some (46, true))⟩, ⟨(some 48),
  (.pick (.tmp 46) (.tmp 47) (.const (.bool false))), none⟩]) (.cond (.tmp 48) (.seq (.region [⟨(some 49), (.faddr 1 (.tmp 10)), none⟩, ⟨(some 50), (.load none (.tmp 49)), none⟩,
  ⟨(some 8), (.mv (.tmp 50)), none⟩, ⟨(some 9), (.mv (.const (.int .i64 0))), none⟩]) .ret) .skip)) (.seq (.seq (.region [⟨(some 51), (.mv (.tmp 3)), none⟩, ⟨(some 52), (.len
  (.tmp 51)), none⟩, ⟨(some 53), (.bin .eql (.tmp 52) (.const (.int .i64 0))), none⟩]) (.cond (.tmp 53) (.seq (.region [⟨(some 54), (.faddr 0 (.tmp 10)), none⟩, ⟨(some 55), (.load
  none (.tmp 54)), none⟩, ⟨(some 8), (.mv (.tmp 55)), none⟩, ⟨(some 9), (.mv (.const (.int .i64 0))), none⟩]) .ret) .skip)) (.seq (.seq (.region [⟨(some 56), (.mv (.tmp 3)), none⟩,
   ⟨(some 57), (.faddr 1 (.tmp 4)), none⟩, ⟨(some 58), (.load none (.tmp 57)), none⟩, ⟨(some 59), (.mv (.tmp 1)), none⟩, ⟨(some 60), (.iaddrS 4 (.tmp 58) (.tmp 59)), none⟩, ⟨(some
  61), (.faddr 0 (.tmp 60)), none⟩, ⟨(some 62), (.load none (.tmp 61)), none⟩, ⟨(some 63), (.call (.func 47) [(.tmp 56), (.tmp 62)]), none⟩, ⟨(some 64), (.un .not (.tmp 63)),
  none⟩, ⟨(some 65), (.mv (.tmp 64)), none⟩, ⟨(some 66), (.mv (.tmp 3)), (some (65, false))⟩, ⟨(some 67), (.faddr 1 (.tmp 4)), (some (65, false))⟩, ⟨(some 68), (.load none (.tmp
  67)), (some (65, false))⟩, ⟨(some 69), (.mv (.tmp 1)), (some (65, false))⟩, ⟨(some 70), (.iaddrS 4 (.tmp 68) (.tmp 69)), (some (65, false))⟩, ⟨(some 71), (.faddr 1 (.tmp 70)),
  (some (65, false))⟩, ⟨(some 72), (.load none (.tmp 71)), (some (65, false))⟩, ⟨(some 73), (.call (.func 47) [(.tmp 66), (.tmp 72)]), (some (65, false))⟩, ⟨(some 74), (.pick
  (.tmp 65) (.const (.bool true)) (.tmp 73)), none⟩]) (.cond (.tmp 74) (.seq (.region [⟨(some 8), (.mv (.const (.int .i64 0))), none⟩, ⟨(some 9), (.mv (.const (.int .i64 16))),
  none⟩]) .ret) .skip)) (.seq (.region [⟨(some 11), (.mv (.const (.int .i64 0))), none⟩]) (.seq (.seq (.region [⟨(some 12), (.mv (.const (.int .i64 0))), none⟩]) (.block 0 (.loop
  (.seq (.seq (.region [⟨(some 75), (.mv (.tmp 12)), none⟩, ⟨(some 76), (.faddr 1 (.tmp 4)), none⟩, ⟨(some 77), (.load none (.tmp 76)), none⟩, ⟨(some 78), (.len (.tmp 77)), none⟩,
  ⟨(some 79), (.bin .lss (.tmp 75) (.tmp 78)), none⟩]) (.cond (.tmp 79) .skip (.exit 0))) (.seq (.block 1 (.seq (.region [⟨(some 82), (.faddr 1 (.tmp 4)), none⟩, ⟨(some 83),
  (.load none (.tmp 82)), none⟩, ⟨(some 84), (.mv (.tmp 12)), none⟩, ⟨(some 85), (.iaddrS 4 (.tmp 83) (.tmp 84)), none⟩, ⟨(some 86), (.load (some 4) (.tmp 85)), none⟩, ⟨(some 13),
  (.alloc [(.int .i64 0), (.int .i64 0), (.int .i64 0), (.int .i64 0)]), none⟩, ⟨none, (.store 4 (.tmp 13) (.tmp 86)), none⟩]) (.seq (.draw [⟨(some 87), (.faddr 2 (.tmp 13)),
  none⟩, ⟨(some 88), (.faddr 0 (.tmp 87)), none⟩, ⟨(some 89), (.load none (.tmp 88)), none⟩, ⟨(some 90), (.faddr 2 (.tmp 13)), none⟩, ⟨(some 91), (.faddr 1 (.tmp 90)), none⟩,
  ⟨(some 92), (.load none (.tmp 91)), none⟩, ⟨(some 14), (.mv (.tmp 89)), none⟩, ⟨(some 15), (.mv (.tmp 92)), none⟩] []) (.seq (.seq (.region [⟨(some 93), (.mv (.tmp 2)), none⟩])
  (.cond (.tmp 93) (.draw [⟨(some 94), (.faddr 2 (.tmp 13)), none⟩, ⟨(some 95), (.faddr 1 (.tmp 94)), none⟩, ⟨(some 96), (.load none (.tmp 95)), none⟩, ⟨(some 97), (.faddr 2 (.tmp
  13)), none⟩, ⟨(some 98), (.faddr 0 (.tmp 97)), none⟩, ⟨(some 99), (.load none (.tmp 98)), none⟩, ⟨(some 14), (.mv (.tmp 96)), none⟩, ⟨(some 15), (.mv (.tmp 99)), none⟩] [])
  .skip)) (.seq (.seq (.region [⟨(some 100), (.mv (.tmp 3)), none⟩, ⟨(some 101), (.faddr 0 (.tmp 13)), none⟩, ⟨(some 102), (.load none (.tmp 101)), none⟩, ⟨(some 103), (.call
  (.func 47) [(.tmp 100), (.tmp 102)]), none⟩, ⟨(some 104), (.un .not (.tmp 103)), none⟩, ⟨(some 105), (.mv (.tmp 104)), none⟩, ⟨(some 106), (.mv (.tmp 3)), (some (105, true))⟩,
  ⟨(some 107), (.faddr 1 (.tmp 13)), (some (105, true))⟩, ⟨(some 108), (.load none (.tmp 107)), (some (105, true))⟩, ⟨(some 109), (.call (.func 47) [(.tmp 106), (.tmp 108)]),
  (some (105, true))⟩, ⟨(some 110), (.pick (.tmp 105) (.tmp 109) (.const (.bool false))), none⟩]) (.cond (.tmp 110) (.region [⟨(some 111), (.mv (.tmp 11)), none⟩, ⟨(some 112),
  (.mv (.tmp 14)), none⟩, ⟨(some 113), (.bin .add (.tmp 111) (.tmp 112)), none⟩, ⟨(some 11), (.mv (.tmp 113)), none⟩]) .skip)) (.seq (.region [⟨(some 114), (.mv (.tmp 12)), none⟩,
  ⟨(some 115), (.mv (.tmp 1)), none⟩, ⟨(some 116), (.bin .neq (.tmp 114) (.tmp 115)), none⟩, ⟨(some 117), (.mv (.tmp 116)), none⟩, ⟨(some 118), (.mv (.tmp 3)), (some (117, true))⟩,
   ⟨(some 119), (.faddr 0 (.tmp 13)), (some (117, true))⟩, ⟨(some 120), (.load none (.tmp 119)), (some (117, true))⟩, ⟨(some 121), (.call (.func 47) [(.tmp 118), (.tmp 120)]),
  (some (117, true))⟩, ⟨(some 122), (.pick (.tmp 117) (.tmp 121) (.const (.bool false))), none⟩, ⟨(some 123), (.mv (.tmp 122)), none⟩, ⟨(some 124), (.mv (.tmp 3)), (some (123,
  true))⟩, ⟨(some 125), (.faddr 1 (.tmp 13)), (some (123, true))⟩, ⟨(some 126), (.load none (.tmp 125)), (some (123, true))⟩, ⟨(some 127), (.call (.func 47) [(.tmp 124), (.tmp
  126)]), (some (123, true))⟩, ⟨(some 128), (.un .not (.tmp 127)), (some (123, true))⟩, ⟨(some 129), (.pick (.tmp 123) (.tmp 128) (.const (.bool false))), none⟩]) (.cond (.tmp
  129) (.region [⟨(some 130), (.mv (.tmp 11)), none⟩, ⟨(some 131), (.mv (.tmp 15)), none⟩, ⟨(some 132), (.bin .sub (.tmp 130) (.tmp 131)), none⟩, ⟨(some 11), (.mv (.tmp 132)),
  none⟩]) .skip))))))) (.region [⟨(some 80), (.mv (.tmp 12)), none⟩, ⟨(some 81), (.bin .add (.tmp 80) (.const (.int .i64 1))), none⟩, ⟨(some 12), (.mv (.tmp 81)), none⟩]))))))
  (.seq (.region [⟨(some 133), (.mv (.tmp 11)), none⟩, ⟨(some 8), (.mv (.tmp 133)), none⟩, ⟨(some 9), (.mv (.const (.int .i64 0))), none⟩]) .ret))))))))))⟩
def af30 : AFn := ⟨32, [(.tmp 6), (.tmp 7)], (.seq (.region [⟨(some 3), (.box (.tmp 0)), none⟩, ⟨(some 6), (.mv (.const (.slc none 0 0 true 0))), none⟩, ⟨(some 7), (.mv (.const (.int .i64 0))),
  none⟩]) (.seq (.region [⟨(some 13), (.load (some 2) (.tmp 3)), none⟩, ⟨(some 14), (.mv (.tmp 1)), none⟩, ⟨(some 15), (.call (.func 59) [(.tmp 13), (.tmp 14)]), none⟩, ⟨(some 12),
   (.mv (.tmp 15)), none⟩, ⟨(some 16), (.ext (.tmp 12) 0), none⟩, ⟨(some 17), (.ext (.tmp 12) 1), none⟩, ⟨(some 8), (.mv (.tmp 16)), none⟩, ⟨(some 9), (.mv (.tmp 17)), none⟩])
  (.seq (.seq (.region [⟨(some 18), (.mv (.tmp 9)), none⟩, ⟨(some 19), (.bin .neq (.tmp 18) (.const (.int .i64 0))), none⟩]) (.cond (.tmp 19) (.seq (.region [⟨(some 20), (.mv
  (.tmp 9)), none⟩, ⟨(some 6), (.mv (.const (.slc none 0 0 true 0))), none⟩, ⟨(some 7), (.mv (.tmp 20)), none⟩]) .ret) .skip)) (.seq (.region [⟨(some 21), (.mv (.tmp 8)), none⟩,
  ⟨(some 22), (.mv (.tmp 1)), none⟩, ⟨(some 23), (.mv (.tmp 2)), none⟩, ⟨(some 24), (.call (.func 60) [(.tmp 21), (.tmp 22), (.tmp 23)]), none⟩, ⟨(some 10), (.mv (.tmp 24)),
  none⟩]) (.seq (.region [⟨(some 25), (.mv (.tmp 10)), none⟩, ⟨(some 26), (.len (.tmp 25)), none⟩, ⟨(some 27), (.mkslc [(.int .i64 0)] 8 (.tmp 26) (.tmp 26)), none⟩, ⟨(some 11),
  (.mv (.tmp 27)), none⟩]) (.seq (.region [⟨(some 28), (.mv (.tmp 11)), none⟩, ⟨(some 29), (.mv (.tmp 10)), none⟩, ⟨(some 30), (.copy 1 (.tmp 28) (.tmp 29)), none⟩]) (.seq
  (.region [⟨(some 31), (.mv (.tmp 11)), none⟩, ⟨(some 6), (.mv (.tmp 31)), none⟩, ⟨(some 7), (.mv (.const (.int .i64 0))), none⟩]) .ret)))))))⟩
def af31 : AFn := ⟨28, [(.tmp 4)], (.seq (.region [⟨(some 2), (.box (.tmp 0)), none⟩, ⟨(some 4), (.mv (.const (.int .i64 0))), none⟩]) (.seq (.seq (.region [⟨(some 7), (.load (some 2) (.tmp 2)),
  none⟩, ⟨(some 8), (.call (.func 20) [(.tmp 7)]), none⟩, ⟨(some 9), (.bin .neq (.tmp 8) (.const (.int .i64 0))), none⟩]) (.cond (.tmp 9) (.seq (.region [⟨(some 10), (.load (some
  2) (.tmp 2)), none⟩, ⟨(some 11), (.call (.func 20) [(.tmp 10)]), none⟩, ⟨(some 4), (.mv (.tmp 11)), none⟩]) .ret) .skip)) (.seq (.seq (.region [⟨(some 12), (.mv (.tmp 1)), none⟩,
   ⟨(some 13), (.bin .lss (.tmp 12) (.const (.int .i64 0))), none⟩, ⟨(some 14), (.mv (.tmp 13)), none⟩, ⟨(some 15), (.mv (.tmp 1)), (some (14, false))⟩, ⟨(some 16), (.faddr 1
  (.tmp 2)), (some (14, false))⟩, ⟨(some 17), (.load none (.tmp 16)), (some (14, false))⟩, ⟨(some 18), (.len (.tmp 17)), (some (14, false))⟩, ⟨(some 19), (.bin .geq (.tmp 15)
  (.tmp 18)), (some (14, false))⟩, ⟨(some 20), (.pick (.tmp 14) (.const (.bool true)) (.tmp 19)), none⟩]) (.cond (.tmp 20) (.seq (.region [⟨(some 4), (.mv (.const (.int .i64 3))),
  none⟩]) .ret) .skip)) (.seq (.region [⟨(some 22), (.load (some 2) (.tmp 2)), none⟩, ⟨(some 23), (.call (.func 24) [(.tmp 22)]), none⟩, ⟨(some 21), (.mv (.tmp 23)), none⟩, ⟨(some
  24), (.ext (.tmp 21) 0), none⟩, ⟨(some 25), (.ext (.tmp 21) 1), none⟩, ⟨(some 5), (.mv (.tmp 24)), none⟩, ⟨(some 6), (.mv (.tmp 25)), none⟩]) (.seq (.seq (.region [⟨(some 26),
  (.mv (.tmp 6)), none⟩, ⟨(some 27), (.un .not (.tmp 26)), none⟩]) (.cond (.tmp 27) (.seq (.region [⟨(some 4), (.mv (.const (.int .i64 21))), none⟩]) .ret) .skip)) (.seq (.region
  [⟨(some 4), (.mv (.const (.int .i64 0))), none⟩]) .ret))))))⟩
def af32 : AFn := ⟨18, [(.tmp 2), (.tmp 3)], (.seq (.region [⟨(some 1), (.box (.tmp 0)), none⟩, ⟨(some 2), (.mv (.const (.slc none 0 0 true 0))), none⟩, ⟨(some 3), (.mv (.const (.int .i64 0))),
  none⟩]) (.seq (.seq (.region [⟨(some 6), (.load (some 2) (.tmp 1)), none⟩, ⟨(some 7), (.call (.func 19) [(.tmp 6)]), none⟩, ⟨(some 4), (.mv (.tmp 7)), none⟩]) (.seq (.region
  [⟨(some 8), (.mv (.tmp 4)), none⟩, ⟨(some 9), (.bin .neq (.tmp 8) (.const (.int .i64 0))), none⟩]) (.cond (.tmp 9) (.seq (.region [⟨(some 10), (.mv (.tmp 4)), none⟩, ⟨(some 2),
  (.mv (.const (.slc none 0 0 true 0))), none⟩, ⟨(some 3), (.mv (.tmp 10)), none⟩]) .ret) .skip))) (.seq (.region [⟨(some 11), (.load (some 2) (.tmp 1)), none⟩, ⟨(some 12), (.call
  (.func 55) [(.tmp 11)]), none⟩, ⟨(some 13), (.call (.func 56) [(.tmp 12)]), none⟩, ⟨(some 5), (.mv (.tmp 13)), none⟩]) (.seq (.seq (.region [⟨(some 14), (.mv (.tmp 5)), none⟩,
  ⟨(some 15), (.len (.tmp 14)), none⟩, ⟨(some 16), (.bin .eql (.tmp 15) (.const (.int .i64 0))), none⟩]) (.cond (.tmp 16) (.seq (.region [⟨(some 2), (.mv (.const (.slc none 0 0
  true 0))), none⟩, ⟨(some 3), (.mv (.const (.int .i64 5))), none⟩]) .ret) .skip)) (.seq (.region [⟨(some 17), (.mv (.tmp 5)), none⟩, ⟨(some 2), (.mv (.tmp 17)), none⟩, ⟨(some 3),
  (.mv (.const (.int .i64 0))), none⟩]) .ret)))))⟩
def af33 : AFn := ⟨38, [(.cell 4 (some 2)), (.tmp 5)], (.seq (.region [⟨(some 3), (.box (.tmp 1)), none⟩, ⟨(some 4), (.alloc [(.int .i64 0), (.int .i64 0)]), none⟩, ⟨(some 5), (.mv (.const (.int
  .i64 0))), none⟩]) (.seq (.block 0 (.seq (.region [⟨(some 8), (.mv (.tmp 0)), none⟩, ⟨(some 9), (.bslice [(.int .i64 0)] 1 1 [(0, (1, (.tmp 8)))]), none⟩, ⟨(some 10), (.call
  (.func 53) [(.const (.int .i64 0)), (.const (.int .i64 100000)), (.tmp 9)]), none⟩, ⟨(some 11), (.un .not (.tmp 10)), none⟩, ⟨(some 7), (.mv (.tmp 11)), none⟩]) (.cond (.tmp 7)
  (.seq (.region [⟨(some 12), (.build [(.int .i64 0), (.int .i64 0)] []), none⟩, ⟨none, (.store 2 (.tmp 4) (.tmp 12)), none⟩, ⟨(some 5), (.mv (.const (.int .i64 3))), none⟩])
  .ret) (.seq (.region [⟨(some 14), (.load (some 2) (.tmp 3)), none⟩, ⟨(some 15), (.call (.func 51) [(.tmp 14), (.const (.int .i64 (-100))), (.const (.int .i64 100))]), none⟩,
  ⟨(some 16), (.un .not (.tmp 15)), none⟩, ⟨(some 13), (.mv (.tmp 16)), none⟩]) (.cond (.tmp 13) (.seq (.region [⟨(some 17), (.build [(.int .i64 0), (.int .i64 0)] []), none⟩,
  ⟨none, (.store 2 (.tmp 4) (.tmp 17)), none⟩, ⟨(some 5), (.mv (.const (.int .i64 2))), none⟩]) .ret) .skip))))) (.seq (.draw [⟨(some 18), (.mv (.tmp 0)), none⟩, ⟨(some 19), (.bin
  .mul (.const (.int .i64 1000)) (.tmp 18)), none⟩, ⟨(some 20), (.faddr 1 (.tmp 3)), none⟩, ⟨(some 21), (.load none (.tmp 20)), none⟩, ⟨(some 22), (.bin .add (.const (.int .i64
  1000)) (.tmp 21)), none⟩, ⟨(some 23), (.call (.func 65) [(.tmp 19), (.tmp 22)]), none⟩, ⟨(some 24), (.mv (.tmp 0)), none⟩, ⟨(some 25), (.bin .mul (.const (.int .i64 1000)) (.tmp
  24)), none⟩, ⟨(some 26), (.faddr 0 (.tmp 3)), none⟩, ⟨(some 27), (.load none (.tmp 26)), none⟩, ⟨(some 28), (.bin .add (.const (.int .i64 1000)) (.tmp 27)), none⟩, ⟨(some 29),
  (.bin .quo (.tmp 25) (.tmp 28)), none⟩, ⟨(some 30), (.build [(.int .i64 0), (.int .i64 0)] [(0, (1, (.tmp 23))), (1, (1, (.tmp 29)))]), none⟩, ⟨(some 6), (.alloc [(.int .i64 0),
  (.int .i64 0)]), none⟩, ⟨none, (.store 2 (.tmp 6) (.tmp 30)), none⟩] [(5, 9), (3, 13), (5, 13), (9, 13)]) (.seq (.seq (.region [⟨(some 31), (.faddr 0 (.tmp 6)), none⟩, ⟨(some
  32), (.load none (.tmp 31)), none⟩, ⟨(some 33), (.faddr 1 (.tmp 6)), none⟩, ⟨(some 34), (.load none (.tmp 33)), none⟩, ⟨(some 35), (.bin .gtr (.tmp 32) (.tmp 34)), none⟩])
  (.cond (.tmp 35) (.seq (.region [⟨(some 36), (.build [(.int .i64 0), (.int .i64 0)] []), none⟩, ⟨none, (.store 2 (.tmp 4) (.tmp 36)), none⟩, ⟨(some 5), (.mv (.const (.int .i64
  5))), none⟩]) .ret) .skip)) (.seq (.region [⟨(some 37), (.load (some 2) (.tmp 6)), none⟩, ⟨none, (.store 2 (.tmp 4) (.tmp 37)), none⟩, ⟨(some 5), (.mv (.const (.int .i64 0))),
  none⟩]) .ret)))))⟩
def af34 : AFn := ⟨59, [(.cell 4 (some 2)), (.tmp 5)], (.seq (.region [⟨(some 3), (.box (.tmp 1)), none⟩, ⟨(some 4), (.alloc [(.int .i64 0), (.int .i64 0)]), none⟩, ⟨(some 5), (.mv (.const (.int
  .i64 0))), none⟩]) (.seq (.seq (.region [⟨(some 9), (.mv (.tmp 0)), none⟩, ⟨(some 10), (.bin .lss (.tmp 9) (.const (.int .i64 0))), none⟩, ⟨(some 11), (.mv (.tmp 10)), none⟩,
  ⟨(some 12), (.mv (.tmp 0)), (some (11, false))⟩, ⟨(some 13), (.bin .gtr (.tmp 12) (.const (.int .i64 100000))), (some (11, false))⟩, ⟨(some 14), (.pick (.tmp 11) (.const (.bool
  true)) (.tmp 13)), none⟩]) (.cond (.tmp 14) (.seq (.region [⟨(some 15), (.build [(.int .i64 0), (.int .i64 0)] []), none⟩, ⟨none, (.store 2 (.tmp 4) (.tmp 15)), none⟩, ⟨(some 5),
   (.mv (.const (.int .i64 3))), none⟩]) .ret) .skip)) (.seq (.seq (.region [⟨(some 16), (.load (some 2) (.tmp 3)), none⟩, ⟨(some 17), (.call (.func 52) [(.tmp 16), (.const (.int
  .i64 (-100))), (.const (.int .i64 100))]), none⟩, ⟨(some 18), (.un .not (.tmp 17)), none⟩]) (.cond (.tmp 18) (.seq (.region [⟨(some 19), (.build [(.int .i64 0), (.int .i64 0)]
  []), none⟩, ⟨none, (.store 2 (.tmp 4) (.tmp 19)), none⟩, ⟨(some 5), (.mv (.const (.int .i64 2))), none⟩]) .ret) .skip)) (.seq (.region [⟨(some 6), (.mv (.const (.bool false))),
  none⟩]) (.seq (.region [⟨(some 7), (.alloc [(.int .i64 0), (.int .i64 0)]), none⟩]) (.seq (.seq (.region [⟨(some 20), (.mv (.tmp 0)), none⟩, ⟨(some 21), (.bin .mul (.tmp 20)
  (.const (.int .i64 9))), none⟩, ⟨(some 22), (.bin .quo (.tmp 21) (.const (.int .i64 10))), none⟩, ⟨(some 8), (.mv (.tmp 22)), none⟩]) (.block 0 (.loop (.seq (.seq (.region
  [⟨(some 23), (.mv (.tmp 8)), none⟩, ⟨(some 24), (.mv (.tmp 0)), none⟩, ⟨(some 25), (.bin .mul (.tmp 24) (.const (.int .i64 12))), none⟩, ⟨(some 26), (.bin .quo (.tmp 25) (.const
  (.int .i64 10))), none⟩, ⟨(some 27), (.bin .add (.tmp 26) (.const (.int .i64 1))), none⟩, ⟨(some 28), (.bin .leq (.tmp 23) (.tmp 27)), none⟩]) (.cond (.tmp 28) .skip (.exit 0)))
  (.seq (.block 1 (.seq (.region [⟨(some 31), (.mv (.tmp 8)), none⟩, ⟨(some 32), (.faddr 0 (.tmp 3)), none⟩, ⟨(some 33), (.load none (.tmp 32)), none⟩, ⟨(some 34), (.bin .add
  (.const (.int .i64 1000)) (.tmp 33)), none⟩, ⟨(some 35), (.bin .mul (.tmp 31) (.tmp 34)), none⟩, ⟨(some 36), (.mv (.tmp 0)), none⟩, ⟨(some 37), (.bin .mul (.const (.int .i64
  1000)) (.tmp 36)), none⟩, ⟨(some 38), (.bin .leq (.tmp 35) (.tmp 37)), none⟩, ⟨(some 39), (.mv (.tmp 38)), none⟩, ⟨(some 40), (.mv (.tmp 8)), (some (39, true))⟩, ⟨(some 41),
  (.faddr 1 (.tmp 3)), (some (39, true))⟩, ⟨(some 42), (.load none (.tmp 41)), (some (39, true))⟩, ⟨(some 43), (.bin .add (.const (.int .i64 1000)) (.tmp 42)), (some (39, true))⟩,
  ⟨(some 44), (.bin .mul (.tmp 40) (.tmp 43)), (some (39, true))⟩, ⟨(some 45), (.mv (.tmp 0)), (some (39, true))⟩, ⟨(some 46), (.bin .mul (.const (.int .i64 1000)) (.tmp 45)),
  (some (39, true))⟩, ⟨(some 47), (.bin .geq (.tmp 44) (.tmp 46)), (some (39, true))⟩, ⟨(some 48), (.pick (.tmp 39) (.tmp 47) (.const (.bool false))), none⟩]) (.cond (.tmp 48)
  (.seq (.seq (.region [⟨(some 49), (.mv (.tmp 6)), none⟩, ⟨(some 50), (.un .not (.tmp 49)), none⟩]) (.cond (.tmp 50) (.region [⟨(some 51), (.mv (.tmp 8)), none⟩, ⟨(some 52),
  (.faddr 0 (.tmp 7)), none⟩, ⟨none, (.store 1 (.tmp 52) (.tmp 51)), none⟩]) .skip)) (.seq (.region [⟨(some 6), (.mv (.const (.bool true))), none⟩]) (.region [⟨(some 53), (.mv
  (.tmp 8)), none⟩, ⟨(some 54), (.faddr 1 (.tmp 7)), none⟩, ⟨none, (.store 1 (.tmp 54) (.tmp 53)), none⟩]))) .skip))) (.region [⟨(some 29), (.mv (.tmp 8)), none⟩, ⟨(some 30),
  (.bin .add (.tmp 29) (.const (.int .i64 1))), none⟩, ⟨(some 8), (.mv (.tmp 30)), none⟩])))))) (.seq (.seq (.region [⟨(some 55), (.mv (.tmp 6)), none⟩, ⟨(some 56), (.un .not
  (.tmp 55)), none⟩]) (.cond (.tmp 56) (.seq (.region [⟨(some 57), (.build [(.int .i64 0), (.int .i64 0)] []), none⟩, ⟨none, (.store 2 (.tmp 4) (.tmp 57)), none⟩, ⟨(some 5), (.mv
  (.const (.int .i64 5))), none⟩]) .ret) .skip)) (.seq (.region [⟨(some 58), (.load (some 2) (.tmp 7)), none⟩, ⟨none, (.store 2 (.tmp 4) (.tmp 58)), none⟩, ⟨(some 5), (.mv (.const
  (.int .i64 0))), none⟩]) .ret))))))))⟩
def af35 : AFn := ⟨65, [(.cell 2 (some 2)), (.tmp 3)], (.seq (.region [⟨(some 2), (.alloc [(.int .i64 0), (.int .i64 0)]), none⟩, ⟨(some 3), (.mv (.const (.int .i64 0))), none⟩]) (.seq (.region
  [⟨(some 4), (.mv (.func 66)), none⟩]) (.seq (.block 0 (.seq (.region [⟨(some 10), (.mv (.tmp 0)), none⟩, ⟨(some 11), (.len (.tmp 10)), none⟩, ⟨(some 12), (.bin .eql (.tmp 11)
  (.const (.int .i64 0))), none⟩, ⟨(some 13), (.mv (.tmp 12)), none⟩, ⟨(some 14), (.mv (.tmp 0)), (some (13, false))⟩, ⟨(some 15), (.len (.tmp 14)), (some (13, false))⟩, ⟨(some
  16), (.bin .gtr (.tmp 15) (.const (.int .i64 20))), (some (13, false))⟩, ⟨(some 17), (.pick (.tmp 13) (.const (.bool true)) (.tmp 16)), none⟩, ⟨(some 9), (.mv (.tmp 17)),
  none⟩]) (.cond (.tmp 9) (.seq (.region [⟨(some 18), (.build [(.int .i64 0), (.int .i64 0)] []), none⟩, ⟨none, (.store 2 (.tmp 2) (.tmp 18)), none⟩, ⟨(some 3), (.mv (.const (.int
  .i64 6))), none⟩]) .ret) (.seq (.region [⟨(some 20), (.mv (.tmp 0)), none⟩, ⟨(some 21), (.mv (.tmp 4)), none⟩, ⟨(some 22), (.call (.func 67) [(.tmp 20), (.tmp 21)]), none⟩,
  ⟨(some 19), (.mv (.tmp 22)), none⟩]) (.cond (.tmp 19) (.seq (.region [⟨(some 23), (.build [(.int .i64 0), (.int .i64 0)] []), none⟩, ⟨none, (.store 2 (.tmp 2) (.tmp 23)), none⟩,
  ⟨(some 3), (.mv (.const (.int .i64 3))), none⟩]) .ret) .skip))))) (.seq (.region [⟨(some 24), (.build [(.int .i64 0), (.int .i64 0)] [(0, (1, (.const (.int .i64 100)))), (1, (1,
  (.const (.int .i64 (-100)))))]), none⟩, ⟨(some 5), (.alloc [(.int .i64 0), (.int .i64 0)]), none⟩, ⟨none, (.store 2 (.tmp 5) (.tmp 24)), none⟩]) (.seq (.seq (.region [⟨(some 25),
   (.mv (.tmp 0)), none⟩, ⟨(some 26), (.len (.tmp 25)), none⟩, ⟨(some 27), (.mv (.const (.int .i64 0))), none⟩]) (.block 1 (.loop (.seq (.region [⟨(some 28), (.bin .lss (.tmp 27)
  (.tmp 26)), none⟩]) (.seq (.cond (.tmp 28) .skip (.exit 1)) (.seq (.block 2 (.seq (.region [⟨(some 29), (.iaddrS 2 (.tmp 25) (.tmp 27)), none⟩, ⟨(some 30), (.load (some 2) (.tmp
  29)), none⟩, ⟨(some 7), (.alloc [(.int .i64 0), (.int .i64 0)]), none⟩, ⟨none, (.store 2 (.tmp 7) (.tmp 30)), none⟩]) (.seq (.region [⟨(some 31), (.faddr 0 (.tmp 7)), none⟩,
  ⟨(some 32), (.load none (.tmp 31)), none⟩, ⟨(some 33), (.faddr 1 (.tmp 7)), none⟩, ⟨(some 34), (.load none (.tmp 33)), none⟩, ⟨(some 35), (.bin .sub (.tmp 32) (.tmp 34)), none⟩,
  ⟨(some 36), (.bin .mul (.const (.int .i64 1000)) (.tmp 35)), none⟩, ⟨(some 8), (.mv (.tmp 36)), none⟩]) (.draw [⟨(some 37), (.faddr 0 (.tmp 5)), none⟩, ⟨(some 38), (.load none
  (.tmp 37)), none⟩, ⟨(some 39), (.mv (.tmp 8)), none⟩, ⟨(some 40), (.faddr 1 (.tmp 7)), none⟩, ⟨(some 41), (.load none (.tmp 40)), none⟩, ⟨(some 42), (.call (.func 68) [(.tmp 39),
   (.tmp 41)]), none⟩, ⟨(some 43), (.mnx false [(.tmp 38), (.tmp 42)]), none⟩, ⟨(some 44), (.faddr 1 (.tmp 5)), none⟩, ⟨(some 45), (.load none (.tmp 44)), none⟩, ⟨(some 46), (.mv
  (.tmp 8)), none⟩, ⟨(some 47), (.un .neg (.tmp 46)), none⟩, ⟨(some 48), (.faddr 1 (.tmp 7)), none⟩, ⟨(some 49), (.load none (.tmp 48)), none⟩, ⟨(some 50), (.call (.func 68)
  [(.tmp 47), (.tmp 49)]), none⟩, ⟨(some 51), (.un .neg (.tmp 50)), none⟩, ⟨(some 52), (.mnx true [(.tmp 45), (.tmp 51)]), none⟩, ⟨(some 53), (.faddr 0 (.tmp 5)), none⟩, ⟨none,
  (.store 1 (.tmp 53) (.tmp 43)), none⟩, ⟨(some 54), (.faddr 1 (.tmp 5)), none⟩, ⟨none, (.store 1 (.tmp 54) (.tmp 52)), none⟩] [(1, 5), (5, 8), (5, 12), (1, 13), (8, 13)]))))
  (.region [⟨(some 55), (.bin .add (.tmp 27) (.const (.int .i64 1))), none⟩, ⟨(some 27), (.mv (.tmp 55)), none⟩]))))))) (.seq (.seq (.region [⟨(some 56), (.faddr 0 (.tmp 5)),
  none⟩, ⟨(some 57), (.load none (.tmp 56)), none⟩, ⟨(some 58), (.faddr 1 (.tmp 5)), none⟩, ⟨(some 59), (.load none (.tmp 58)), none⟩, ⟨(some 60), (.bslice [(.int .i64 0), (.int
  .i64 0)] 2 1 [(0, (1, (.tmp 57))), (1, (1, (.tmp 59)))]), none⟩, ⟨(some 61), (.call (.func 53) [(.const (.int .i64 (-100))), (.const (.int .i64 100)), (.tmp 60)]), none⟩, ⟨(some
  62), (.un .not (.tmp 61)), none⟩]) (.cond (.tmp 62) (.seq (.region [⟨(some 63), (.build [(.int .i64 0), (.int .i64 0)] []), none⟩, ⟨none, (.store 2 (.tmp 2) (.tmp 63)), none⟩,
  ⟨(some 3), (.mv (.const (.int .i64 2))), none⟩]) .ret) .skip)) (.seq (.region [⟨(some 64), (.load (some 2) (.tmp 5)), none⟩, ⟨none, (.store 2 (.tmp 2) (.tmp 64)), none⟩, ⟨(some
  3), (.mv (.const (.int .i64 0))), none⟩]) .ret)))))))⟩
def af36 : AFn := ⟨125, [(.cell 2 (some 2)), (.tmp 3)], (.seq (.region [⟨(some 2), (.alloc [(.int .i64 0), (.int .i64 0)]), none⟩, ⟨(some 3), (.mv (.const (.int .i64 0))), none⟩]) (.seq (.seq
  (.region [⟨(some 11), (.mv (.tmp 0)), none⟩, ⟨(some 12), (.len (.tmp 11)), none⟩, ⟨(some 13), (.bin .lss (.tmp 12) (.const (.int .i64 1))), none⟩, ⟨(some 14), (.mv (.tmp 13)),
  none⟩, ⟨(some 15), (.mv (.tmp 0)), (some (14, false))⟩, ⟨(some 16), (.len (.tmp 15)), (some (14, false))⟩, ⟨(some 17), (.bin .gtr (.tmp 16) (.const (.int .i64 20))), (some (14,
  false))⟩, ⟨(some 18), (.pick (.tmp 14) (.const (.bool true)) (.tmp 17)), none⟩]) (.cond (.tmp 18) (.seq (.region [⟨(some 19), (.build [(.int .i64 0), (.int .i64 0)] []), none⟩,
  ⟨none, (.store 2 (.tmp 2) (.tmp 19)), none⟩, ⟨(some 3), (.mv (.const (.int .i64 6))), none⟩]) .ret) .skip)) (.seq (.seq (.region [⟨(some 4), (.mv (.const (.int .i64 0))),
  none⟩]) (.block 0 (.loop (.seq (.seq (.region [⟨(some 20), (.mv (.tmp 4)), none⟩, ⟨(some 21), (.mv (.tmp 0)), none⟩, ⟨(some 22), (.len (.tmp 21)), none⟩, ⟨(some 23), (.bin .lss
  (.tmp 20) (.tmp 22)), none⟩]) (.cond (.tmp 23) .skip (.exit 0))) (.seq (.block 1 (.seq (.region [⟨(some 26), (.mv (.tmp 0)), none⟩, ⟨(some 27), (.mv (.tmp 4)), none⟩, ⟨(some 28),
   (.iaddrS 2 (.tmp 26) (.tmp 27)), none⟩, ⟨(some 29), (.faddr 0 (.tmp 28)), none⟩, ⟨(some 30), (.load none (.tmp 29)), none⟩, ⟨(some 31), (.bin .lss (.tmp 30) (.const (.int .i64
  0))), none⟩, ⟨(some 32), (.mv (.tmp 31)), none⟩, ⟨(some 33), (.mv (.tmp 0)), (some (32, false))⟩, ⟨(some 34), (.mv (.tmp 4)), (some (32, false))⟩, ⟨(some 35), (.iaddrS 2 (.tmp
  33) (.tmp 34)), (some (32, false))⟩, ⟨(some 36), (.faddr 0 (.tmp 35)), (some (32, false))⟩, ⟨(some 37), (.load none (.tmp 36)), (some (32, false))⟩, ⟨(some 38), (.bin .gtr (.tmp
  37) (.const (.int .i64 100000))), (some (32, false))⟩, ⟨(some 39), (.pick (.tmp 32) (.const (.bool true)) (.tmp 38)), none⟩, ⟨(some 40), (.mv (.tmp 39)), none⟩, ⟨(some 41), (.mv
  (.tmp 0)), (some (40, false))⟩, ⟨(some 42), (.mv (.tmp 4)), (some (40, false))⟩, ⟨(some 43), (.iaddrS 2 (.tmp 41) (.tmp 42)), (some (40, false))⟩, ⟨(some 44), (.faddr 1 (.tmp
  43)), (some (40, false))⟩, ⟨(some 45), (.load none (.tmp 44)), (some (40, false))⟩, ⟨(some 46), (.bin .lss (.tmp 45) (.const (.int .i64 1))), (some (40, false))⟩, ⟨(some 47),
  (.pick (.tmp 40) (.const (.bool true)) (.tmp 46)), none⟩, ⟨(some 48), (.mv (.tmp 47)), none⟩, ⟨(some 49), (.mv (.tmp 0)), (some (48, false))⟩, ⟨(some 50), (.mv (.tmp 4)), (some
  (48, false))⟩, ⟨(some 51), (.iaddrS 2 (.tmp 49) (.tmp 50)), (some (48, false))⟩, ⟨(some 52), (.faddr 1 (.tmp 51)), (some (48, false))⟩, ⟨(some 53), (.load none (.tmp 52)), (some
  (48, false))⟩, ⟨(some 54), (.bin .gtr (.tmp 53) (.const (.int .i64 100000))), (some (48, false))⟩, ⟨(some 55), (.pick (.tmp 48) (.const (.bool true)) (.tmp 54)), none⟩]) (.cond
  (.tmp 55) (.seq (.region [⟨(some 56), (.build [(.int .i64 0), (.int .i64 0)] []), none⟩, ⟨none, (.store 2 (.tmp 2) (.tmp 56)), none⟩, ⟨(some 3), (.mv (.const (.int .i64 3))),
  none⟩]) .ret) .skip))) (.region [⟨(some 24), (.mv (.tmp 4)), none⟩, ⟨(some 25), (.bin .add (.tmp 24) (.const (.int .i64 1))), none⟩, ⟨(some 4), (.mv (.tmp 25)), none⟩]))))))
  (.seq (.region [⟨(some 57), (.build [(.int .i64 0), (.int .i64 0)] [(0, (1, (.const (.int .i64 (-101))))), (1, (1, (.const (.int .i64 101))))]), none⟩, ⟨(some 5), (.alloc [(.int
  .i64 0), (.int .i64 0)]), none⟩, ⟨none, (.store 2 (.tmp 5) (.tmp 57)), none⟩]) (.seq (.seq (.region [⟨(some 6), (.mv (.const (.int .i64 (-100)))), none⟩]) (.block 2 (.loop (.seq
  (.seq (.region [⟨(some 58), (.mv (.tmp 6)), none⟩, ⟨(some 59), (.bin .leq (.tmp 58) (.const (.int .i64 100))), none⟩]) (.cond (.tmp 59) .skip (.exit 2))) (.seq (.block 3 (.seq
  (.region [⟨(some 7), (.mv (.const (.bool true))), none⟩, ⟨(some 8), (.mv (.const (.bool true))), none⟩]) (.seq (.seq (.region [⟨(some 9), (.mv (.const (.int .i64 0))), none⟩])
  (.block 4 (.loop (.seq (.seq (.region [⟨(some 62), (.mv (.tmp 9)), none⟩, ⟨(some 63), (.mv (.tmp 0)), none⟩, ⟨(some 64), (.len (.tmp 63)), none⟩, ⟨(some 65), (.bin .lss (.tmp
  62) (.tmp 64)), none⟩]) (.cond (.tmp 65) .skip (.exit 4))) (.seq (.block 5 (.seq (.draw [⟨(some 68), (.mv (.tmp 0)), none⟩, ⟨(some 69), (.mv (.tmp 9)), none⟩, ⟨(some 70),
  (.iaddrS 2 (.tmp 68) (.tmp 69)), none⟩, ⟨(some 71), (.faddr 0 (.tmp 70)), none⟩, ⟨(some 72), (.load none (.tmp 71)), none⟩, ⟨(some 73), (.mv (.tmp 0)), none⟩, ⟨(some 74), (.mv
  (.tmp 9)), none⟩, ⟨(some 75), (.iaddrS 2 (.tmp 73) (.tmp 74)), none⟩, ⟨(some 76), (.faddr 1 (.tmp 75)), none⟩, ⟨(some 77), (.load none (.tmp 76)), none⟩, ⟨(some 78), (.bin .sub
  (.tmp 72) (.tmp 77)), none⟩, ⟨(some 79), (.bin .mul (.const (.int .i64 1000)) (.tmp 78)), none⟩, ⟨(some 10), (.mv (.tmp 79)), none⟩] []) (.seq (.region [⟨(some 80), (.mv (.tmp
  7)), none⟩, ⟨(some 81), (.mv (.tmp 80)), none⟩, ⟨(some 82), (.mv (.tmp 6)), (some (81, true))⟩, ⟨(some 83), (.mv (.tmp 0)), (some (81, true))⟩, ⟨(some 84), (.mv (.tmp 9)), (some
  (81, true))⟩, ⟨(some 85), (.iaddrS 2 (.tmp 83) (.tmp 84)), (some (81, true))⟩, ⟨(some 86), (.faddr 1 (.tmp 85)), (some (81, true))⟩, ⟨(some 87), (.load none (.tmp 86)), (some
  (81, true))⟩, ⟨(some 88), (.bin .mul (.tmp 82) (.tmp 87)), (some (81, true))⟩, ⟨(some 89), (.mv (.tmp 10)), (some (81, true))⟩, ⟨(some 90), (.bin .leq (.tmp 88) (.tmp 89)),
  (some (81, true))⟩, ⟨(some 91), (.pick (.tmp 81) (.tmp 90) (.const (.bool false))), none⟩, ⟨(some 7), (.mv (.tmp 91)), none⟩]) (.region [⟨(some 92), (.mv (.tmp 8)), none⟩,
  ⟨(some 93), (.mv (.tmp 92)), none⟩, ⟨(some 94), (.mv (.tmp 6)), (some (93, true))⟩, ⟨(some 95), (.mv (.tmp 0)), (some (93, true))⟩, ⟨(some 96), (.mv (.tmp 9)), (some (93,
  true))⟩, ⟨(some 97), (.iaddrS 2 (.tmp 95) (.tmp 96)), (some (93, true))⟩, ⟨(some 98), (.faddr 1 (.tmp 97)), (some (93, true))⟩, ⟨(some 99), (.load none (.tmp 98)), (some (93,
  true))⟩, ⟨(some 100), (.bin .mul (.tmp 94) (.tmp 99)), (some (93, true))⟩, ⟨(some 101), (.mv (.tmp 10)), (some (93, true))⟩, ⟨(some 102), (.bin .geq (.tmp 100) (.tmp 101)),
  (some (93, true))⟩, ⟨(some 103), (.pick (.tmp 93) (.tmp 102) (.const (.bool false))), none⟩, ⟨(some 8), (.mv (.tmp 103)), none⟩])))) (.region [⟨(some 66), (.mv (.tmp 9)), none⟩,
  ⟨(some 67), (.bin .add (.tmp 66) (.const (.int .i64 1))), none⟩, ⟨(some 9), (.mv (.tmp 67)), none⟩])))))) (.seq (.seq (.region [⟨(some 104), (.mv (.tmp 7)), none⟩]) (.cond (.tmp
  104) (.region [⟨(some 105), (.mv (.tmp 6)), none⟩, ⟨(some 106), (.faddr 0 (.tmp 5)), none⟩, ⟨none, (.store 1 (.tmp 106) (.tmp 105)), none⟩]) .skip)) (.seq (.region [⟨(some 107),
  (.mv (.tmp 8)), none⟩, ⟨(some 108), (.mv (.tmp 107)), none⟩, ⟨(some 109), (.faddr 1 (.tmp 5)), (some (108, true))⟩, ⟨(some 110), (.load none (.tmp 109)), (some (108, true))⟩,
  ⟨(some 111), (.bin .eql (.tmp 110) (.const (.int .i64 101))), (some (108, true))⟩, ⟨(some 112), (.pick (.tmp 108) (.tmp 111) (.const (.bool false))), none⟩]) (.cond (.tmp 112)
  (.region [⟨(some 113), (.mv (.tmp 6)), none⟩, ⟨(some 114), (.faddr 1 (.tmp 5)), none⟩, ⟨none, (.store 1 (.tmp 114) (.tmp 113)), none⟩]) .skip)))))) (.region [⟨(some 60), (.mv
  (.tmp 6)), none⟩, ⟨(some 61), (.bin .add (.tmp 60) (.const (.int .i64 1))), none⟩, ⟨(some 6), (.mv (.tmp 61)), none⟩])))))) (.seq (.seq (.region [⟨(some 115), (.faddr 0 (.tmp
  5)), none⟩, ⟨(some 116), (.load none (.tmp 115)), none⟩, ⟨(some 117), (.bin .eql (.tmp 116) (.const (.int .i64 (-101)))), none⟩, ⟨(some 118), (.mv (.tmp 117)), none⟩, ⟨(some
  119), (.faddr 1 (.tmp 5)), (some (118, false))⟩, ⟨(some 120), (.load none (.tmp 119)), (some (118, false))⟩, ⟨(some 121), (.bin .eql (.tmp 120) (.const (.int .i64 101))), (some
  (118, false))⟩, ⟨(some 122), (.pick (.tmp 118) (.const (.bool true)) (.tmp 121)), none⟩]) (.cond (.tmp 122) (.seq (.region [⟨(some 123), (.build [(.int .i64 0), (.int .i64 0)]
  []), none⟩, ⟨none, (.store 2 (.tmp 2) (.tmp 123)), none⟩, ⟨(some 3), (.mv (.const (.int .i64 2))), none⟩]) .ret) .skip)) (.seq (.region [⟨(some 124), (.load (some 2) (.tmp 5)),
  none⟩, ⟨none, (.store 2 (.tmp 2) (.tmp 124)), none⟩, ⟨(some 3), (.mv (.const (.int .i64 0))), none⟩]) .ret)))))))⟩
def af37 : AFn := ⟨11, [(.tmp 2)], (.seq (.region [⟨(some 1), (.box (.tmp 0)), none⟩, ⟨(some 2), (.mv (.const (.bool false))), none⟩]) (.seq (.region [⟨(some 3), (.load (some 2) (.tmp 1)), none⟩,
  ⟨(some 4), (.call (.func 15) [(.tmp 3)]), none⟩, ⟨(some 5), (.un .not (.tmp 4)), none⟩, ⟨(some 6), (.mv (.tmp 5)), none⟩, ⟨(some 7), (.load (some 2) (.tmp 1)), (some (6, true))⟩,
   ⟨(some 8), (.call (.func 20) [(.tmp 7)]), (some (6, true))⟩, ⟨(some 9), (.bin .eql (.tmp 8) (.const (.int .i64 0))), (some (6, true))⟩, ⟨(some 10), (.pick (.tmp 6) (.tmp 9)
  (.const (.bool false))), none⟩, ⟨(some 2), (.mv (.tmp 10)), none⟩]) .ret))⟩
def af38 : AFn := ⟨120, [(.tmp 4), (.tmp 5)], (.seq (.region [⟨(some 2), (.box (.tmp 0)), none⟩, ⟨(some 4), (.mv (.const (.slc none 0 0 true 0))), none⟩, ⟨(some 5), (.mv (.const (.bool false))),
  none⟩]) (.seq (.region [⟨(some 13), (.load (some 2) (.tmp 2)), none⟩, ⟨(some 14), (.call (.func 24) [(.tmp 13)]), none⟩, ⟨(some 12), (.mv (.tmp 14)), none⟩, ⟨(some 15), (.ext
  (.tmp 12) 0), none⟩, ⟨(some 16), (.ext (.tmp 12) 1), none⟩, ⟨(some 6), (.mv (.tmp 15)), none⟩, ⟨(some 7), (.mv (.tmp 16)), none⟩]) (.seq (.seq (.region [⟨(some 17), (.mv (.tmp
  7)), none⟩, ⟨(some 18), (.un .not (.tmp 17)), none⟩, ⟨(some 19), (.mv (.tmp 18)), none⟩, ⟨(some 20), (.faddr 1 (.tmp 2)), (some (19, false))⟩, ⟨(some 21), (.load none (.tmp 20)),
   (some (19, false))⟩, ⟨(some 22), (.len (.tmp 21)), (some (19, false))⟩, ⟨(some 23), (.bin .eql (.tmp 22) (.const (.int .i64 0))), (some (19, false))⟩, ⟨(some 24), (.pick (.tmp
  19) (.const (.bool true)) (.tmp 23)), none⟩]) (.cond (.tmp 24) (.seq (.region [⟨(some 25), (.mv (.tmp 6)), none⟩, ⟨(some 26), (.mv (.tmp 7)), none⟩, ⟨(some 4), (.mv (.tmp 25)),
  none⟩, ⟨(some 5), (.mv (.tmp 26)), none⟩]) .ret) .skip)) (.seq (.seq (.region [⟨(some 8), (.mv (.const (.int .i64 0))), none⟩]) (.block 0 (.loop (.seq (.seq (.region [⟨(some 27),
   (.mv (.tmp 8)), none⟩, ⟨(some 28), (.mv (.tmp 1)), none⟩, ⟨(some 29), (.len (.tmp 28)), none⟩, ⟨(some 30), (.bin .lss (.tmp 27) (.tmp 29)), none⟩]) (.cond (.tmp 30) .skip
  (.exit 0))) (.seq (.block 1 (.seq (.draw [⟨(some 33), (.mv (.tmp 1)), none⟩, ⟨(some 34), (.mv (.tmp 8)), none⟩, ⟨(some 35), (.iaddrS 1 (.tmp 33) (.tmp 34)), none⟩, ⟨(some 36),
  (.load none (.tmp 35)), none⟩, ⟨(some 37), (.faddr 1 (.tmp 2)), none⟩, ⟨(some 38), (.load none (.tmp 37)), none⟩, ⟨(some 39), (.len (.tmp 38)), none⟩, ⟨(some 40), (.conv .u32
  (.tmp 39)), none⟩, ⟨(some 41), (.bin .rem (.tmp 36) (.tmp 40)), none⟩, ⟨(some 42), (.conv .i64 (.tmp 41)), none⟩, ⟨(some 9), (.mv (.tmp 42)), none⟩] []) (.seq (.region [⟨(some
  43), (.faddr 1 (.tmp 2)), none⟩, ⟨(some 44), (.load none (.tmp 43)), none⟩, ⟨(some 45), (.mv (.tmp 9)), none⟩, ⟨(some 46), (.iaddrS 4 (.tmp 44) (.tmp 45)), none⟩, ⟨(some 47),
  (.load (some 4) (.tmp 46)), none⟩, ⟨(some 10), (.alloc [(.int .i64 0), (.int .i64 0), (.int .i64 0), (.int .i64 0)]), none⟩, ⟨none, (.store 4 (.tmp 10) (.tmp 47)), none⟩]) (.seq
  (.region [⟨(some 48), (.mv (.tmp 1)), none⟩, ⟨(some 49), (.mv (.tmp 8)), none⟩, ⟨(some 50), (.iaddrS 1 (.tmp 48) (.tmp 49)), none⟩, ⟨(some 51), (.load none (.tmp 50)), none⟩,
  ⟨(some 52), (.bin .quo (.tmp 51) (.const (.int .u32 64))), none⟩, ⟨(some 53), (.bin .rem (.tmp 52) (.const (.int .u32 1000))), none⟩, ⟨(some 54), (.conv .i64 (.tmp 53)), none⟩,
  ⟨(some 11), (.mv (.tmp 54)), none⟩]) (.seq (.region [⟨(some 55), (.mv (.tmp 1)), none⟩, ⟨(some 56), (.mv (.tmp 8)), none⟩, ⟨(some 57), (.iaddrS 1 (.tmp 55) (.tmp 56)), none⟩,
  ⟨(some 58), (.load none (.tmp 57)), none⟩, ⟨(some 59), (.bin .rem (.tmp 58) (.const (.int .u32 2))), none⟩, ⟨(some 60), (.bin .eql (.tmp 59) (.const (.int .u32 0))), none⟩])
  (.cond (.tmp 60) (.seq (.draw [⟨(some 61), (.mv (.tmp 11)), none⟩, ⟨(some 62), (.faddr 2 (.tmp 10)), none⟩, ⟨(some 63), (.faddr 1 (.tmp 62)), none⟩, ⟨(some 64), (.load none
  (.tmp 63)), none⟩, ⟨(some 65), (.mv (.tmp 6)), none⟩, ⟨(some 66), (.mv (.tmp 9)), none⟩, ⟨(some 67), (.iaddrS 1 (.tmp 65) (.tmp 66)), none⟩, ⟨(some 68), (.load none (.tmp 67)),
  none⟩, ⟨(some 69), (.bin .sub (.tmp 64) (.tmp 68)), none⟩, ⟨(some 70), (.mnx false [(.tmp 61), (.tmp 69)]), none⟩, ⟨(some 11), (.mv (.tmp 70)), none⟩] []) (.seq (.region [⟨(some
  72), (.load (some 2) (.tmp 2)), none⟩, ⟨(some 73), (.mv (.tmp 6)), none⟩, ⟨(some 74), (.faddr 1 (.tmp 10)), none⟩, ⟨(some 75), (.load none (.tmp 74)), none⟩, ⟨(some 76), (.faddr
  0 (.tmp 10)), none⟩, ⟨(some 77), (.load none (.tmp 76)), none⟩, ⟨(some 78), (.mv (.tmp 9)), none⟩, ⟨(some 79), (.mv (.tmp 11)), none⟩, ⟨(some 80), (.call (.func 58) [(.tmp 72),
  (.tmp 73), (.tmp 75), (.tmp 77), (.tmp 78), (.tmp 79)]), none⟩, ⟨(some 71), (.mv (.tmp 80)), none⟩, ⟨(some 81), (.ext (.tmp 71) 0), none⟩, ⟨(some 82), (.ext (.tmp 71) 1), none⟩,
  ⟨(some 6), (.mv (.tmp 81)), none⟩, ⟨(some 11), (.mv (.tmp 82)), none⟩]) (.region [⟨(some 83), (.mv (.tmp 6)), none⟩, ⟨(some 84), (.mv (.tmp 9)), none⟩, ⟨(some 85), (.iaddrS 1
  (.tmp 83) (.tmp 84)), none⟩, ⟨(some 86), (.load none (.tmp 85)), none⟩, ⟨(some 87), (.mv (.tmp 11)), none⟩, ⟨(some 88), (.bin .add (.tmp 86) (.tmp 87)), none⟩, ⟨(some 89),
  (.iaddrS 1 (.tmp 83) (.tmp 84)), none⟩, ⟨none, (.store 1 (.tmp 89) (.tmp 88)), none⟩]))) (.seq (.draw [⟨(some 90), (.mv (.tmp 11)), none⟩, ⟨(some 91), (.mv (.tmp 6)), none⟩,
  ⟨(some 92), (.mv (.tmp 9)), none⟩, ⟨(some 93), (.iaddrS 1 (.tmp 91) (.tmp 92)), none⟩, ⟨(some 94), (.load none (.tmp 93)), none⟩, ⟨(some 95), (.faddr 2 (.tmp 10)), none⟩, ⟨(some
  96), (.faddr 0 (.tmp 95)), none⟩, ⟨(some 97), (.load none (.tmp 96)), none⟩, ⟨(some 98), (.bin .sub (.tmp 94) (.tmp 97)), none⟩, ⟨(some 99), (.mnx false [(.tmp 90), (.tmp 98)]),
  none⟩, ⟨(some 11), (.mv (.tmp 99)), none⟩] []) (.seq (.region [⟨(some 101), (.load (some 2) (.tmp 2)), none⟩, ⟨(some 102), (.mv (.tmp 6)), none⟩, ⟨(some 103), (.faddr 0 (.tmp
  10)), none⟩, ⟨(some 104), (.load none (.tmp 103)), none⟩, ⟨(some 105), (.faddr 1 (.tmp 10)), none⟩, ⟨(some 106), (.load none (.tmp 105)), none⟩, ⟨(some 107), (.mv (.tmp 9)),
  none⟩, ⟨(some 108), (.mv (.tmp 11)), none⟩, ⟨(some 109), (.call (.func 58) [(.tmp 101), (.tmp 102), (.tmp 104), (.tmp 106), (.tmp 107), (.tmp 108)]), none⟩, ⟨(some 100), (.mv
  (.tmp 109)), none⟩, ⟨(some 110), (.ext (.tmp 100) 0), none⟩, ⟨(some 111), (.ext (.tmp 100) 1), none⟩, ⟨(some 6), (.mv (.tmp 110)), none⟩, ⟨(some 11), (.mv (.tmp 111)), none⟩])
  (.region [⟨(some 112), (.mv (.tmp 6)), none⟩, ⟨(some 113), (.mv (.tmp 9)), none⟩, ⟨(some 114), (.iaddrS 1 (.tmp 112) (.tmp 113)), none⟩, ⟨(some 115), (.load none (.tmp 114)),
  none⟩, ⟨(some 116), (.mv (.tmp 11)), none⟩, ⟨(some 117), (.bin .sub (.tmp 115) (.tmp 116)), none⟩, ⟨(some 118), (.iaddrS 1 (.tmp 112) (.tmp 113)), none⟩, ⟨none, (.store 1 (.tmp
  118) (.tmp 117)), none⟩]))))))))) (.region [⟨(some 31), (.mv (.tmp 8)), none⟩, ⟨(some 32), (.bin .add (.tmp 31) (.const (.int .i64 1))), none⟩, ⟨(some 8), (.mv (.tmp 32)),
  none⟩])))))) (.seq (.region [⟨(some 119), (.mv (.tmp 6)), none⟩, ⟨(some 4), (.mv (.tmp 119)), none⟩, ⟨(some 5), (.mv (.const (.bool true))), none⟩]) .ret)))))⟩
def af39 : AFn := ⟨23, [(.tmp 4)], (.seq (.region [⟨(some 2), (.box (.tmp 0)), none⟩, ⟨(some 4), (.mv (.const (.slc none 0 0 true 0))), none⟩]) (.seq (.region [⟨(some 5), (.mv (.const (.slc none 0
  0 true 0))), none⟩]) (.seq (.seq (.region [⟨(some 6), (.mv (.const (.int .i64 0))), none⟩]) (.block 0 (.loop (.seq (.seq (.region [⟨(some 7), (.mv (.tmp 6)), none⟩, ⟨(some 8),
  (.faddr 0 (.tmp 2)), none⟩, ⟨(some 9), (.load none (.tmp 8)), none⟩, ⟨(some 10), (.bin .leq (.tmp 7) (.tmp 9)), none⟩]) (.cond (.tmp 10) .skip (.exit 0))) (.seq (.block 1 (.seq
  (.region [⟨(some 13), (.mv (.tmp 1)), none⟩, ⟨(some 14), (.mv (.tmp 6)), none⟩, ⟨(some 15), (.bin .shr (.tmp 13) (.tmp 14)), none⟩, ⟨(some 16), (.bin .and (.tmp 15) (.const
  (.int .u16 1))), none⟩, ⟨(some 17), (.bin .eql (.tmp 16) (.const (.int .u16 1))), none⟩]) (.cond (.tmp 17) (.region [⟨(some 18), (.mv (.tmp 5)), none⟩, ⟨(some 19), (.mv (.tmp
  6)), none⟩, ⟨(some 20), (.bslice [(.int .i64 0)] 1 1 [(0, (1, (.tmp 19)))]), none⟩, ⟨(some 21), (.app 1 8 (.tmp 18) (.tmp 20)), none⟩, ⟨(some 5), (.mv (.tmp 21)), none⟩])
  .skip))) (.region [⟨(some 11), (.mv (.tmp 6)), none⟩, ⟨(some 12), (.bin .add (.tmp 11) (.const (.int .i64 1))), none⟩, ⟨(some 6), (.mv (.tmp 12)), none⟩])))))) (.seq (.region
  [⟨(some 22), (.mv (.tmp 5)), none⟩, ⟨(some 4), (.mv (.tmp 22)), none⟩]) .ret))))⟩
def af40 : AFn := ⟨8, [(.cell 4 (some 2))], (.seq (.region [⟨(some 4), (.alloc [(.int .i64 0), (.int .i64 0)]), none⟩]) (.seq (.region [⟨(some 5), (.mv (.tmp 0)), none⟩, ⟨(some 6), (.mv (.tmp 1)),
  none⟩, ⟨(some 7), (.build [(.int .i64 0), (.int .i64 0)] [(0, (1, (.tmp 5))), (1, (1, (.tmp 6)))]), none⟩, ⟨none, (.store 2 (.tmp 4) (.tmp 7)), none⟩]) .ret))⟩
def af41 : AFn := ⟨7, [(.cell 0 (some 2))], (.seq (.region [⟨(some 0), (.alloc [(.int .i64 0), (.slc none 0 0 true 0)]), none⟩]) (.seq (.region [⟨(some 1), (.call (.func 69) [(.const (.int .i64 0)),
   (.const (.int .i64 1)), (.const (.int .i64 100)), (.const (.int .i64 110))]), none⟩, ⟨(some 2), (.call (.func 69) [(.const (.int .i64 1)), (.const (.int .i64 2)), (.const (.int
  .i64 30)), (.const (.int .i64 50))]), none⟩, ⟨(some 3), (.call (.func 69) [(.const (.int .i64 1)), (.const (.int .i64 0)), (.const (.int .i64 40)), (.const (.int .i64 60))]),
  none⟩, ⟨(some 4), (.call (.func 69) [(.const (.int .i64 2)), (.const (.int .i64 0)), (.const (.int .i64 45)), (.const (.int .i64 70))]), none⟩, ⟨(some 5), (.bslice [(.int .i64
  0), (.int .i64 0), (.int .i64 0), (.int .i64 0), (.int .i64 0), (.int .i64 0), (.int .i64 0), (.int .i64 0), (.int .i64 0), (.int .i64 0), (.int .i64 0), (.int .i64 0), (.int
  .i64 0), (.int .i64 0), (.int .i64 0), (.int .i64 0)] 4 4 [(0, (4, (.tmp 1))), (4, (4, (.tmp 2))), (8, (4, (.tmp 3))), (12, (4, (.tmp 4)))]), none⟩, ⟨(some 6), (.build [(.int
  .i64 0), (.slc none 0 0 true 0)] [(0, (1, (.const (.int .i64 2)))), (1, (1, (.tmp 5)))]), none⟩, ⟨none, (.store 2 (.tmp 0) (.tmp 6)), none⟩]) .ret))⟩
def af42 : AFn := ⟨8, [(.cell 0 (some 2))], (.seq (.region [⟨(some 0), (.alloc [(.int .i64 0), (.slc none 0 0 true 0)]), none⟩]) (.seq (.region [⟨(some 2), (.call (.func 41) []), none⟩, ⟨(some 1),
  (.alloc [(.int .i64 0), (.slc none 0 0 true 0)]), none⟩, ⟨none, (.store 2 (.tmp 1) (.tmp 2)), none⟩]) (.seq (.draw [⟨(some 3), (.faddr 1 (.tmp 1)), none⟩, ⟨(some 4), (.load none
  (.tmp 3)), none⟩, ⟨(some 5), (.call (.func 69) [(.const (.int .i64 1)), (.const (.int .i64 2)), (.const (.int .i64 0)), (.const (.int .i64 30))]), none⟩, ⟨(some 6), (.iaddrS 4
  (.tmp 4) (.const (.int .i64 1))), none⟩, ⟨none, (.store 4 (.tmp 6) (.tmp 5)), none⟩] [(1, 2)]) (.seq (.region [⟨(some 7), (.load (some 2) (.tmp 1)), none⟩, ⟨none, (.store 2
  (.tmp 0) (.tmp 7)), none⟩]) .ret))))⟩
def af43 : AFn := ⟨24, [(.tmp 4)], (.seq (.region [⟨(some 4), (.mv (.const (.bool false))), none⟩]) (.seq (.region [⟨(some 5), (.mv (.const (.int .i64 (-1)))), none⟩]) (.seq (.seq (.region [⟨(some
  8), (.mv (.tmp 0)), none⟩, ⟨(some 9), (.len (.tmp 8)), none⟩, ⟨(some 10), (.mv (.const (.int .i64 0))), none⟩]) (.block 0 (.loop (.seq (.region [⟨(some 11), (.bin .lss (.tmp 10)
  (.tmp 9)), none⟩]) (.seq (.cond (.tmp 11) .skip (.exit 0)) (.seq (.block 1 (.seq (.region [⟨(some 12), (.iaddrS 1 (.tmp 8) (.tmp 10)), none⟩, ⟨(some 13), (.load none (.tmp 12)),
  none⟩, ⟨(some 7), (.mv (.tmp 13)), none⟩]) (.seq (.seq (.region [⟨(some 14), (.mv (.tmp 7)), none⟩, ⟨(some 15), (.mv (.tmp 5)), none⟩, ⟨(some 16), (.bin .leq (.tmp 14) (.tmp
  15)), none⟩, ⟨(some 17), (.mv (.tmp 16)), none⟩, ⟨(some 18), (.mv (.tmp 7)), (some (17, false))⟩, ⟨(some 19), (.mv (.tmp 1)), (some (17, false))⟩, ⟨(some 20), (.bin .gtr (.tmp
  18) (.tmp 19)), (some (17, false))⟩, ⟨(some 21), (.pick (.tmp 17) (.const (.bool true)) (.tmp 20)), none⟩]) (.cond (.tmp 21) (.seq (.region [⟨(some 4), (.mv (.const (.bool
  false))), none⟩]) .ret) .skip)) (.region [⟨(some 22), (.mv (.tmp 7)), none⟩, ⟨(some 5), (.mv (.tmp 22)), none⟩])))) (.region [⟨(some 23), (.bin .add (.tmp 10) (.const (.int .i64
  1))), none⟩, ⟨(some 10), (.mv (.tmp 23)), none⟩]))))))) (.seq (.region [⟨(some 4), (.mv (.const (.bool true))), none⟩]) .ret))))⟩
def af44 : AFn := ⟨8, [(.tmp 4)], (.seq (.region [⟨(some 2), (.box (.tmp 0)), none⟩, ⟨(some 3), (.box (.tmp 1)), none⟩, ⟨(some 4), (.mv (.const .nilfn)), none⟩]) (.seq (.region [⟨(some 6), (.build
  [(.int .i64 0), (.int .i64 0), (.int .i64 0), (.int .i64 0)] []), none⟩, ⟨(some 5), (.alloc [(.int .i64 0), (.int .i64 0), (.int .i64 0), (.int .i64 0)]), none⟩, ⟨none, (.store
  4 (.tmp 5) (.tmp 6)), none⟩]) (.seq (.region [⟨(some 7), (.mkfn 70 [] [(.tmp 2), (.tmp 5), (.tmp 3)]), none⟩, ⟨(some 4), (.mv (.tmp 7)), none⟩]) .ret)))⟩
def af45 : AFn := ⟨30, [(.cell 2 (some 2))], (.seq (.region [⟨(some 1), (.box (.tmp 0)), none⟩, ⟨(some 2), (.alloc [(.int .i64 0), (.slc none 0 0 true 0)]), none⟩]) (.seq (.region [⟨(some 6),
  (.faddr 0 (.tmp 1)), none⟩, ⟨(some 7), (.load none (.tmp 6)), none⟩, ⟨(some 8), (.build [(.int .i64 0), (.slc none 0 0 true 0)] [(0, (1, (.tmp 7)))]), none⟩, ⟨(some 3), (.alloc
  [(.int .i64 0), (.slc none 0 0 true 0)]), none⟩, ⟨none, (.store 2 (.tmp 3) (.tmp 8)), none⟩]) (.seq (.seq (.region [⟨(some 9), (.faddr 1 (.tmp 1)), none⟩, ⟨(some 10), (.load
  none (.tmp 9)), none⟩, ⟨(some 11), (.len (.tmp 10)), none⟩, ⟨(some 12), (.mv (.const (.int .i64 0))), none⟩]) (.block 0 (.loop (.seq (.region [⟨(some 13), (.bin .lss (.tmp 12)
  (.tmp 11)), none⟩]) (.seq (.cond (.tmp 13) .skip (.exit 0)) (.seq (.block 1 (.seq (.region [⟨(some 14), (.iaddrS 4 (.tmp 10) (.tmp 12)), none⟩, ⟨(some 15), (.load (some 4) (.tmp
  14)), none⟩, ⟨(some 5), (.alloc [(.int .i64 0), (.int .i64 0), (.int .i64 0), (.int .i64 0)]), none⟩, ⟨none, (.store 4 (.tmp 5) (.tmp 15)), none⟩]) (.region [⟨(some 16), (.faddr
  1 (.tmp 3)), none⟩, ⟨(some 17), (.load none (.tmp 16)), none⟩, ⟨(some 18), (.faddr 1 (.tmp 5)), none⟩, ⟨(some 19), (.load none (.tmp 18)), none⟩, ⟨(some 20), (.faddr 0 (.tmp 5)),
   none⟩, ⟨(some 21), (.load none (.tmp 20)), none⟩, ⟨(some 22), (.faddr 2 (.tmp 5)), none⟩, ⟨(some 23), (.load (some 2) (.tmp 22)), none⟩, ⟨(some 24), (.build [(.int .i64 0),
  (.int .i64 0), (.int .i64 0), (.int .i64 0)] [(0, (1, (.tmp 19))), (1, (1, (.tmp 21))), (2, (2, (.tmp 23)))]), none⟩, ⟨(some 25), (.bslice [(.int .i64 0), (.int .i64 0), (.int
  .i64 0), (.int .i64 0)] 1 4 [(0, (4, (.tmp 24)))]), none⟩, ⟨(some 26), (.app 4 32 (.tmp 17) (.tmp 25)), none⟩, ⟨(some 27), (.faddr 1 (.tmp 3)), none⟩, ⟨none, (.store 1 (.tmp 27)
  (.tmp 26)), none⟩]))) (.region [⟨(some 28), (.bin .add (.tmp 12) (.const (.int .i64 1))), none⟩, ⟨(some 12), (.mv (.tmp 28)), none⟩]))))))) (.seq (.region [⟨(some 29), (.load
  (some 2) (.tmp 3)), none⟩, ⟨none, (.store 2 (.tmp 2) (.tmp 29)), none⟩]) .ret))))⟩
def af46 : AFn := ⟨41, [(.tmp 4)], (.seq (.region [⟨(some 4), (.mv (.const (.bool false))), none⟩]) (.seq (.seq (.region [⟨(some 5), (.mv (.const (.int .i64 0))), none⟩]) (.block 0 (.loop (.seq
  (.seq (.region [⟨(some 6), (.mv (.tmp 5)), none⟩, ⟨(some 7), (.mv (.tmp 0)), none⟩, ⟨(some 8), (.len (.tmp 7)), none⟩, ⟨(some 9), (.bin .lss (.tmp 6) (.tmp 8)), none⟩]) (.cond
  (.tmp 9) .skip (.exit 0))) (.seq (.block 1 (.seq (.draw [⟨(some 12), (.mv (.tmp 0)), none⟩, ⟨(some 13), (.mv (.tmp 5)), none⟩, ⟨(some 14), (.iaddrS 1 (.tmp 12) (.tmp 13)), none⟩,
   ⟨(some 15), (.load none (.tmp 14)), none⟩, ⟨(some 16), (.bin .lss (.tmp 15) (.const (.int .i64 0))), none⟩, ⟨(some 17), (.mv (.tmp 16)), none⟩, ⟨(some 18), (.mv (.tmp 0)),
  (some (17, false))⟩, ⟨(some 19), (.mv (.tmp 5)), (some (17, false))⟩, ⟨(some 20), (.iaddrS 1 (.tmp 18) (.tmp 19)), (some (17, false))⟩, ⟨(some 21), (.load none (.tmp 20)), (some
  (17, false))⟩, ⟨(some 22), (.mv (.tmp 1)), (some (17, false))⟩, ⟨(some 23), (.bin .gtr (.tmp 21) (.tmp 22)), (some (17, false))⟩, ⟨(some 24), (.pick (.tmp 17) (.const (.bool
  true)) (.tmp 23)), none⟩, ⟨(some 25), (.mv (.tmp 24)), none⟩, ⟨(some 26), (.mv (.tmp 5)), (some (25, false))⟩, ⟨(some 27), (.bin .gtr (.tmp 26) (.const (.int .i64 0))), (some
  (25, false))⟩, ⟨(some 28), (.mv (.tmp 27)), (some (25, false))⟩, ⟨(some 29), (.mv (.tmp 0)), (some (28, true))⟩, ⟨(some 30), (.mv (.tmp 5)), (some (28, true))⟩, ⟨(some 31),
  (.iaddrS 1 (.tmp 29) (.tmp 30)), (some (28, true))⟩, ⟨(some 32), (.load none (.tmp 31)), (some (28, true))⟩, ⟨(some 33), (.mv (.tmp 0)), (some (28, true))⟩, ⟨(some 34), (.mv
  (.tmp 5)), (some (28, true))⟩, ⟨(some 35), (.bin .sub (.tmp 34) (.const (.int .i64 1))), (some (28, true))⟩, ⟨(some 36), (.iaddrS 1 (.tmp 33) (.tmp 35)), (some (28, true))⟩,
  ⟨(some 37), (.load none (.tmp 36)), (some (28, true))⟩, ⟨(some 38), (.bin .leq (.tmp 32) (.tmp 37)), (some (28, true))⟩, ⟨(some 39), (.pick (.tmp 28) (.tmp 38) (.const (.bool
  false))), (some (25, false))⟩, ⟨(some 40), (.pick (.tmp 25) (.const (.bool true)) (.tmp 39)), none⟩] []) (.cond (.tmp 40) (.seq (.region [⟨(some 4), (.mv (.const (.bool false))),
   none⟩]) .ret) .skip))) (.region [⟨(some 10), (.mv (.tmp 5)), none⟩, ⟨(some 11), (.bin .add (.tmp 10) (.const (.int .i64 1))), none⟩, ⟨(some 5), (.mv (.tmp 11)), none⟩]))))))
  (.seq (.region [⟨(some 4), (.mv (.const (.bool true))), none⟩]) .ret)))⟩
def af47 : AFn := ⟨18, [(.tmp 4)], (.seq (.region [⟨(some 4), (.mv (.const (.bool false))), none⟩]) (.seq (.seq (.region [⟨(some 5), (.mv (.const (.int .i64 0))), none⟩]) (.block 0 (.loop (.seq
  (.seq (.region [⟨(some 6), (.mv (.tmp 5)), none⟩, ⟨(some 7), (.mv (.tmp 0)), none⟩, ⟨(some 8), (.len (.tmp 7)), none⟩, ⟨(some 9), (.bin .lss (.tmp 6) (.tmp 8)), none⟩]) (.cond
  (.tmp 9) .skip (.exit 0))) (.seq (.block 1 (.seq (.region [⟨(some 12), (.mv (.tmp 0)), none⟩, ⟨(some 13), (.mv (.tmp 5)), none⟩, ⟨(some 14), (.iaddrS 1 (.tmp 12) (.tmp 13)),
  none⟩, ⟨(some 15), (.load none (.tmp 14)), none⟩, ⟨(some 16), (.mv (.tmp 1)), none⟩, ⟨(some 17), (.bin .eql (.tmp 15) (.tmp 16)), none⟩]) (.cond (.tmp 17) (.seq (.region [⟨(some
  4), (.mv (.const (.bool true))), none⟩]) .ret) .skip))) (.region [⟨(some 10), (.mv (.tmp 5)), none⟩, ⟨(some 11), (.bin .add (.tmp 10) (.const (.int .i64 1))), none⟩, ⟨(some 5),
  (.mv (.tmp 11)), none⟩])))))) (.seq (.region [⟨(some 4), (.mv (.const (.bool false))), none⟩]) .ret)))⟩
def af48 : AFn := ⟨12, [(.tmp 3)], (.seq (.region [⟨(some 3), (.mv (.const (.bool false))), none⟩]) (.seq (.region [⟨(some 4), (.mv (.tmp 0)), none⟩, ⟨(some 5), (.bin .geq (.tmp 4) (.const (.int
  .i64 0))), none⟩, ⟨(some 6), (.mv (.tmp 5)), none⟩, ⟨(some 7), (.mv (.tmp 0)), (some (6, true))⟩, ⟨(some 8), (.faddr 0 (.tmp 1)), (some (6, true))⟩, ⟨(some 9), (.load none (.tmp
  8)), (some (6, true))⟩, ⟨(some 10), (.bin .leq (.tmp 7) (.tmp 9)), (some (6, true))⟩, ⟨(some 11), (.pick (.tmp 6) (.tmp 10) (.const (.bool false))), none⟩, ⟨(some 3), (.mv (.tmp
  11)), none⟩]) .ret))⟩
def af49 : AFn := ⟨9, [(.tmp 4)], (.seq (.region [⟨(some 4), (.mv (.const (.bool false))), none⟩]) (.seq (.region [⟨(some 5), (.mv (.tmp 0)), none⟩, ⟨(some 6), (.mv (.tmp 1)), none⟩, ⟨(some 7),
  (.call (.func 71) [(.tmp 5), (.tmp 6)]), none⟩, ⟨(some 8), (.bin .geq (.tmp 7) (.const (.int .i64 0))), none⟩, ⟨(some 4), (.mv (.tmp 8)), none⟩]) .ret))⟩
def af50 : AFn := ⟨29, [(.tmp 3)], (.seq (.region [⟨(some 2), (.box (.tmp 0)), none⟩, ⟨(some 3), (.mv (.const (.bool false))), none⟩]) (.seq (.region [⟨(some 4), (.load none (.tmp 1)), none⟩,
  ⟨(some 5), (.faddr 0 (.tmp 2)), none⟩, ⟨(some 6), (.load none (.tmp 5)), none⟩, ⟨(some 7), (.call (.tmp 4) [(.tmp 6)]), none⟩, ⟨(some 8), (.un .not (.tmp 7)), none⟩, ⟨(some 9),
  (.mv (.tmp 8)), none⟩, ⟨(some 10), (.load none (.tmp 1)), (some (9, false))⟩, ⟨(some 11), (.faddr 1 (.tmp 2)), (some (9, false))⟩, ⟨(some 12), (.load none (.tmp 11)), (some (9,
  false))⟩, ⟨(some 13), (.call (.tmp 10) [(.tmp 12)]), (some (9, false))⟩, ⟨(some 14), (.un .not (.tmp 13)), (some (9, false))⟩, ⟨(some 15), (.pick (.tmp 9) (.const (.bool true))
  (.tmp 14)), none⟩, ⟨(some 16), (.mv (.tmp 15)), none⟩, ⟨(some 17), (.faddr 0 (.tmp 2)), (some (16, false))⟩, ⟨(some 18), (.load none (.tmp 17)), (some (16, false))⟩, ⟨(some 19),
  (.faddr 1 (.tmp 2)), (some (16, false))⟩, ⟨(some 20), (.load none (.tmp 19)), (some (16, false))⟩, ⟨(some 21), (.bin .eql (.tmp 18) (.tmp 20)), (some (16, false))⟩, ⟨(some 22),
  (.pick (.tmp 16) (.const (.bool true)) (.tmp 21)), none⟩, ⟨(some 23), (.mv (.tmp 22)), none⟩, ⟨(some 24), (.faddr 2 (.tmp 2)), (some (23, false))⟩, ⟨(some 25), (.load (some 2)
  (.tmp 24)), (some (23, false))⟩, ⟨(some 26), (.call (.func 51) [(.tmp 25), (.const (.int .i64 0)), (.const (.int .i64 100000))]), (some (23, false))⟩, ⟨(some 27), (.un .not
  (.tmp 26)), (some (23, false))⟩, ⟨(some 28), (.pick (.tmp 23) (.const (.bool true)) (.tmp 27)), none⟩, ⟨(some 3), (.mv (.tmp 28)), none⟩]) .ret))⟩
def af51 : AFn := ⟨22, [(.tmp 6)], (.seq (.region [⟨(some 3), (.box (.tmp 0)), none⟩, ⟨(some 6), (.mv (.const (.bool false))), none⟩]) (.seq (.region [⟨(some 7), (.faddr 0 (.tmp 3)), none⟩, ⟨(some
  8), (.load none (.tmp 7)), none⟩, ⟨(some 9), (.faddr 1 (.tmp 3)), none⟩, ⟨(some 10), (.load none (.tmp 9)), none⟩, ⟨(some 11), (.bin .leq (.tmp 8) (.tmp 10)), none⟩, ⟨(some 12),
  (.mv (.tmp 11)), none⟩, ⟨(some 13), (.mv (.tmp 1)), (some (12, true))⟩, ⟨(some 14), (.mv (.tmp 2)), (some (12, true))⟩, ⟨(some 15), (.faddr 0 (.tmp 3)), (some (12, true))⟩,
  ⟨(some 16), (.load none (.tmp 15)), (some (12, true))⟩, ⟨(some 17), (.faddr 1 (.tmp 3)), (some (12, true))⟩, ⟨(some 18), (.load none (.tmp 17)), (some (12, true))⟩, ⟨(some 19),
  (.bslice [(.int .i64 0), (.int .i64 0)] 2 1 [(0, (1, (.tmp 16))), (1, (1, (.tmp 18)))]), (some (12, true))⟩, ⟨(some 20), (.call (.func 53) [(.tmp 13), (.tmp 14), (.tmp 19)]),
  (some (12, true))⟩, ⟨(some 21), (.pick (.tmp 12) (.tmp 20) (.const (.bool false))), none⟩, ⟨(some 6), (.mv (.tmp 21)), none⟩]) .ret))⟩
def af52 : AFn := ⟨24, [(.tmp 6)], (.seq (.region [⟨(some 3), (.box (.tmp 0)), none⟩, ⟨(some 6), (.mv (.const (.bool false))), none⟩]) (.seq (.region [⟨(some 7), (.faddr 0 (.tmp 3)), none⟩, ⟨(some
  8), (.load none (.tmp 7)), none⟩, ⟨(some 9), (.mv (.tmp 1)), none⟩, ⟨(some 10), (.bin .geq (.tmp 8) (.tmp 9)), none⟩, ⟨(some 11), (.mv (.tmp 10)), none⟩, ⟨(some 12), (.faddr 0
  (.tmp 3)), (some (11, true))⟩, ⟨(some 13), (.load none (.tmp 12)), (some (11, true))⟩, ⟨(some 14), (.faddr 1 (.tmp 3)), (some (11, true))⟩, ⟨(some 15), (.load none (.tmp 14)),
  (some (11, true))⟩, ⟨(some 16), (.bin .leq (.tmp 13) (.tmp 15)), (some (11, true))⟩, ⟨(some 17), (.pick (.tmp 11) (.tmp 16) (.const (.bool false))), none⟩, ⟨(some 18), (.mv
  (.tmp 17)), none⟩, ⟨(some 19), (.faddr 1 (.tmp 3)), (some (18, true))⟩, ⟨(some 20), (.load none (.tmp 19)), (some (18, true))⟩, ⟨(some 21), (.mv (.tmp 2)), (some (18, true))⟩,
  ⟨(some 22), (.bin .leq (.tmp 20) (.tmp 21)), (some (18, true))⟩, ⟨(some 23), (.pick (.tmp 18) (.tmp 22) (.const (.bool false))), none⟩, ⟨(some 6), (.mv (.tmp 23)), none⟩])
  .ret))⟩
def af53 : AFn := ⟨11, [(.tmp 6)], (.seq (.region [⟨(some 3), (.box (.tmp 0)), none⟩, ⟨(some 4), (.box (.tmp 1)), none⟩, ⟨(some 6), (.mv (.const (.bool false))), none⟩]) (.seq (.region [⟨(some 7),
  (.mv (.tmp 2)), none⟩, ⟨(some 8), (.mkfn 73 [] [(.tmp 3), (.tmp 4)]), none⟩, ⟨(some 9), (.call (.func 72) [(.tmp 7), (.tmp 8)]), none⟩, ⟨(some 10), (.un .not (.tmp 9)), none⟩,
  ⟨(some 6), (.mv (.tmp 10)), none⟩]) .ret))⟩
def af54 : AFn := ⟨48, [(.tmp 4)], (.seq (.region [⟨(some 2), (.box (.tmp 0)), none⟩, ⟨(some 4), (.mv (.const (.slc none 0 0 true 0))), none⟩]) (.seq (.region [⟨(some 7), (.faddr 0 (.tmp 2)), none⟩,
   ⟨(some 8), (.load none (.tmp 7)), none⟩, ⟨(some 9), (.bin .add (.tmp 8) (.const (.int .i64 1))), none⟩, ⟨(some 10), (.mkslc [(.int .i64 0)] 8 (.tmp 9) (.tmp 9)), none⟩, ⟨(some
  5), (.mv (.tmp 10)), none⟩]) (.seq (.seq (.region [⟨(some 6), (.mv (.const (.int .i64 0))), none⟩]) (.block 0 (.loop (.seq (.seq (.region [⟨(some 11), (.mv (.tmp 6)), none⟩,
  ⟨(some 12), (.mv (.tmp 1)), none⟩, ⟨(some 13), (.len (.tmp 12)), none⟩, ⟨(some 14), (.bin .lss (.tmp 11) (.tmp 13)), none⟩]) (.cond (.tmp 14) .skip (.exit 0))) (.seq (.block 1
  (.seq (.draw [⟨(some 17), (.mv (.tmp 5)), none⟩, ⟨(some 18), (.faddr 1 (.tmp 2)), none⟩, ⟨(some 19), (.load none (.tmp 18)), none⟩, ⟨(some 20), (.mv (.tmp 6)), none⟩, ⟨(some 21),
   (.iaddrS 4 (.tmp 19) (.tmp 20)), none⟩, ⟨(some 22), (.faddr 1 (.tmp 21)), none⟩, ⟨(some 23), (.load none (.tmp 22)), none⟩, ⟨(some 24), (.iaddrS 1 (.tmp 17) (.tmp 23)), none⟩,
  ⟨(some 25), (.load none (.tmp 24)), none⟩, ⟨(some 26), (.mv (.tmp 1)), none⟩, ⟨(some 27), (.mv (.tmp 6)), none⟩, ⟨(some 28), (.iaddrS 1 (.tmp 26) (.tmp 27)), none⟩, ⟨(some 29),
  (.load none (.tmp 28)), none⟩, ⟨(some 30), (.bin .add (.tmp 25) (.tmp 29)), none⟩, ⟨(some 31), (.iaddrS 1 (.tmp 17) (.tmp 23)), none⟩, ⟨none, (.store 1 (.tmp 31) (.tmp 30)),
  none⟩] []) (.draw [⟨(some 32), (.mv (.tmp 5)), none⟩, ⟨(some 33), (.faddr 1 (.tmp 2)), none⟩, ⟨(some 34), (.load none (.tmp 33)), none⟩, ⟨(some 35), (.mv (.tmp 6)), none⟩,
  ⟨(some 36), (.iaddrS 4 (.tmp 34) (.tmp 35)), none⟩, ⟨(some 37), (.faddr 0 (.tmp 36)), none⟩, ⟨(some 38), (.load none (.tmp 37)), none⟩, ⟨(some 39), (.iaddrS 1 (.tmp 32) (.tmp
  38)), none⟩, ⟨(some 40), (.load none (.tmp 39)), none⟩, ⟨(some 41), (.mv (.tmp 1)), none⟩, ⟨(some 42), (.mv (.tmp 6)), none⟩, ⟨(some 43), (.iaddrS 1 (.tmp 41) (.tmp 42)), none⟩,
  ⟨(some 44), (.load none (.tmp 43)), none⟩, ⟨(some 45), (.bin .sub (.tmp 40) (.tmp 44)), none⟩, ⟨(some 46), (.iaddrS 1 (.tmp 32) (.tmp 38)), none⟩, ⟨none, (.store 1 (.tmp 46)
  (.tmp 45)), none⟩] []))) (.region [⟨(some 15), (.mv (.tmp 6)), none⟩, ⟨(some 16), (.bin .add (.tmp 15) (.const (.int .i64 1))), none⟩, ⟨(some 6), (.mv (.tmp 16)), none⟩]))))))
  (.seq (.region [⟨(some 47), (.mv (.tmp 5)), none⟩, ⟨(some 4), (.mv (.tmp 47)), none⟩]) .ret))))⟩
def af55 : AFn := ⟨30, [(.tmp 2)], (.seq (.region [⟨(some 1), (.box (.tmp 0)), none⟩, ⟨(some 2), (.mv (.const (.ptr none))), none⟩]) (.seq (.region [⟨(some 6), (.load (some 2) (.tmp 1)), none⟩,
  ⟨(some 7), (.build [(.int .i64 0), (.slc none 0 0 true 0), (.slc none 0 0 true 0), (.int .i64 0), (.int .i64 0), (.int .i64 0), (.int .i64 0), (.int .i64 0), (.int .i64 0),
  (.int .i64 0), (.int .i64 0), (.int .i64 0), (.int .i64 0), (.int .i64 0), (.int .i64 0), (.int .i64 0)] [(0, (2, (.tmp 6)))]), none⟩, ⟨(some 8), (.box (.tmp 7)), none⟩, ⟨(some
  3), (.mv (.tmp 8)), none⟩]) (.seq (.seq (.region [⟨(some 9), (.faddr 1 (.tmp 1)), none⟩, ⟨(some 10), (.load none (.tmp 9)), none⟩, ⟨(some 11), (.len (.tmp 10)), none⟩, ⟨(some
  12), (.mv (.const (.int .i64 0))), none⟩]) (.block 0 (.loop (.seq (.region [⟨(some 13), (.bin .lss (.tmp 12) (.tmp 11)), none⟩]) (.seq (.cond (.tmp 13) .skip (.exit 0)) (.seq
  (.block 1 (.seq (.region [⟨(some 14), (.iaddrS 4 (.tmp 10) (.tmp 12)), none⟩, ⟨(some 15), (.load (some 4) (.tmp 14)), none⟩, ⟨(some 5), (.alloc [(.int .i64 0), (.int .i64 0),
  (.int .i64 0), (.int .i64 0)]), none⟩, ⟨none, (.store 4 (.tmp 5) (.tmp 15)), none⟩]) (.draw [⟨(some 16), (.mv (.tmp 3)), none⟩, ⟨(some 17), (.mv (.tmp 3)), none⟩, ⟨(some 18),
  (.nilchk (.tmp 17)), none⟩, ⟨(some 19), (.faddr 2 (.tmp 18)), none⟩, ⟨(some 20), (.load none (.tmp 19)), none⟩, ⟨(some 21), (.faddr 2 (.tmp 5)), none⟩, ⟨(some 22), (.faddr 0
  (.tmp 21)), none⟩, ⟨(some 23), (.load none (.tmp 22)), none⟩, ⟨(some 24), (.bslice [(.int .i64 0)] 1 1 [(0, (1, (.tmp 23)))]), none⟩, ⟨(some 25), (.app 1 8 (.tmp 20) (.tmp 24)),
  none⟩, ⟨(some 26), (.nilchk (.tmp 16)), none⟩, ⟨(some 27), (.faddr 2 (.tmp 26)), none⟩, ⟨none, (.store 1 (.tmp 27) (.tmp 25)), none⟩] [(4, 8)]))) (.region [⟨(some 28), (.bin
  .add (.tmp 12) (.const (.int .i64 1))), none⟩, ⟨(some 12), (.mv (.tmp 28)), none⟩]))))))) (.seq (.region [⟨(some 29), (.mv (.tmp 3)), none⟩, ⟨(some 2), (.mv (.tmp 29)), none⟩])
  .ret))))⟩
def af56 : AFn := ⟨46, [(.tmp 2)], (.seq (.region [⟨(some 2), (.mv (.const (.slc none 0 0 true 0))), none⟩]) (.block 0 (.loop (.block 1 (.seq (.region [⟨(some 11), (.mv (.tmp 0)), none⟩, ⟨(some 12),
   (.call (.func 74) [(.tmp 11)]), none⟩, ⟨(some 3), (.alloc [(.int .i64 0), (.int .i64 0), (.int .i64 0), (.int .i64 0), (.int .i64 0), (.int .i64 0), (.int .i64 0), (.int .i64
  0), (.int .i64 0), (.int .i64 0), (.int .i64 0), (.int .i64 0), (.int .i64 0)]), none⟩, ⟨none, (.store 13 (.tmp 3) (.tmp 12)), none⟩]) (.seq (.region [⟨(some 13), (.slcA 13 1
  (.tmp 3) none none none), none⟩, ⟨(some 14), (.call (.func 75) [(.tmp 13), (.func 76)]), none⟩, ⟨(some 4), (.mv (.tmp 14)), none⟩]) (.seq (.seq (.region [⟨(some 15), (.mv (.tmp
  4)), none⟩, ⟨(some 16), (.bin .lss (.tmp 15) (.const (.int .i64 0))), none⟩]) (.cond (.tmp 16) (.seq (.region [⟨(some 2), (.mv (.const (.slc none 0 0 true 0))), none⟩]) .ret)
  .skip)) (.seq (.region [⟨(some 17), (.mkfn 77 [] [(.tmp 3)]), none⟩, ⟨(some 5), (.mv (.tmp 17)), none⟩]) (.seq (.region [⟨(some 18), (.mv (.tmp 4)), none⟩, ⟨(some 19), (.iaddrA
  13 1 (.tmp 3) (.tmp 18)), none⟩, ⟨(some 20), (.load none (.tmp 19)), none⟩, ⟨(some 6), (.mv (.tmp 20)), none⟩]) (.seq (.seq (.region [⟨(some 21), (.load (some 13) (.tmp 3)),
  none⟩, ⟨(some 22), (.mv (.const (.int .i64 0))), none⟩]) (.block 2 (.loop (.seq (.region [⟨(some 23), (.bin .lss (.tmp 22) (.const (.int .i64 13))), none⟩]) (.seq (.cond (.tmp
  23) .skip (.exit 2)) (.seq (.block 3 (.seq (.region [⟨(some 24), (.idxA 13 1 none (.tmp 21) (.tmp 22)), none⟩, ⟨(some 8), (.mv (.tmp 24)), none⟩]) (.seq (.region [⟨(some 25),
  (.mv (.tmp 8)), none⟩, ⟨(some 26), (.bin .lss (.tmp 25) (.const (.int .i64 0))), none⟩]) (.cond (.tmp 26) (.region [⟨(some 27), (.mv (.tmp 6)), none⟩, ⟨(some 28), (.mv (.tmp 8)),
   none⟩, ⟨(some 29), (.un .neg (.tmp 28)), none⟩, ⟨(some 30), (.mnx false [(.tmp 27), (.tmp 29)]), none⟩, ⟨(some 6), (.mv (.tmp 30)), none⟩]) .skip)))) (.region [⟨(some 31),
  (.bin .add (.tmp 22) (.const (.int .i64 1))), none⟩, ⟨(some 22), (.mv (.tmp 31)), none⟩]))))))) (.seq (.seq (.region [⟨(some 33), (.mv (.tmp 0)), none⟩, ⟨(some 34), (.mv (.tmp
  4)), none⟩, ⟨(some 35), (.mv (.tmp 6)), none⟩, ⟨(some 36), (.mv (.tmp 5)), none⟩, ⟨(some 37), (.call (.func 78) [(.tmp 33), (.tmp 34), (.const (.int .i64 (-1))), (.tmp 35),
  (.tmp 36)]), none⟩, ⟨(some 32), (.mv (.tmp 37)), none⟩, ⟨(some 38), (.ext (.tmp 32) 0), none⟩, ⟨(some 39), (.ext (.tmp 32) 1), none⟩, ⟨(some 9), (.mv (.tmp 38)), none⟩, ⟨(some
  10), (.mv (.tmp 39)), none⟩]) (.seq (.region [⟨(some 40), (.mv (.tmp 9)), none⟩, ⟨(some 41), (.bin .gtr (.tmp 40) (.const (.int .i64 0))), none⟩]) (.cond (.tmp 41) (.exit 1)
  .skip))) (.seq (.region [⟨(some 42), (.mv (.tmp 0)), none⟩, ⟨(some 43), (.mv (.tmp 0)), none⟩, ⟨(some 44), (.call (.func 80) [(.tmp 43)]), none⟩, ⟨(some 45), (.call (.func 79)
  [(.tmp 42), (.tmp 44)]), none⟩, ⟨(some 2), (.mv (.tmp 45)), none⟩]) .ret))))))))))))⟩
def af57 : AFn := ⟨8, [(.tmp 2)], (.seq (.region [⟨(some 2), (.mv (.const (.slc none 0 0 true 0))), none⟩]) (.seq (.region [⟨(some 3), (.mv (.tmp 0)), none⟩, ⟨(some 4), (.nilchk (.tmp 3)), none⟩,
  ⟨(some 5), (.faddr 2 (.tmp 4)), none⟩, ⟨(some 6), (.load none (.tmp 5)), none⟩, ⟨(some 7), (.call (.func 81) [(.tmp 6)]), none⟩, ⟨(some 2), (.mv (.tmp 7)), none⟩]) .ret))⟩
def af58 : AFn := ⟨264, [(.tmp 12), (.tmp 13)], (.seq (.region [⟨(some 6), (.box (.tmp 0)), none⟩, ⟨(some 12), (.mv (.const (.slc none 0 0 true 0))), none⟩, ⟨(some 13), (.mv (.const (.int .i64 0))),
   none⟩]) (.seq (.region [⟨(some 24), (.faddr 0 (.tmp 6)), none⟩, ⟨(some 25), (.load none (.tmp 24)), none⟩, ⟨(some 26), (.bin .add (.tmp 25) (.const (.int .i64 1))), none⟩,
  ⟨(some 27), (.mkslc [(.int .i64 0)] 8 (.tmp 26) (.tmp 26)), none⟩, ⟨(some 14), (.mv (.tmp 27)), none⟩]) (.seq (.region [⟨(some 28), (.mv (.tmp 14)), none⟩, ⟨(some 29), (.mv
  (.tmp 2)), none⟩, ⟨(some 30), (.faddr 1 (.tmp 6)), none⟩, ⟨(some 31), (.load none (.tmp 30)), none⟩, ⟨(some 32), (.len (.tmp 31)), none⟩, ⟨(some 33), (.bin .add (.tmp 32)
  (.const (.int .i64 1))), none⟩, ⟨(some 34), (.iaddrS 1 (.tmp 28) (.tmp 29)), none⟩, ⟨none, (.store 1 (.tmp 34) (.tmp 33)), none⟩]) (.seq (.region [⟨(some 35), (.mv (.tmp 2)),
  none⟩, ⟨(some 36), (.bslice [(.int .i64 0)] 1 1 [(0, (1, (.tmp 35)))]), none⟩, ⟨(some 15), (.mv (.tmp 36)), none⟩]) (.seq (.block 0 (.loop (.seq (.seq (.region [⟨(some 37), (.mv
  (.tmp 15)), none⟩, ⟨(some 38), (.len (.tmp 37)), none⟩, ⟨(some 39), (.bin .gtr (.tmp 38) (.const (.int .i64 0))), none⟩, ⟨(some 40), (.mv (.tmp 39)), none⟩, ⟨(some 41), (.mv
  (.tmp 14)), (some (40, true))⟩, ⟨(some 42), (.mv (.tmp 3)), (some (40, true))⟩, ⟨(some 43), (.iaddrS 1 (.tmp 41) (.tmp 42)), (some (40, true))⟩, ⟨(some 44), (.load none (.tmp
  43)), (some (40, true))⟩, ⟨(some 45), (.bin .eql (.tmp 44) (.const (.int .i64 0))), (some (40, true))⟩, ⟨(some 46), (.pick (.tmp 40) (.tmp 45) (.const (.bool false))), none⟩])
  (.cond (.tmp 46) .skip (.exit 0))) (.block 1 (.seq (.region [⟨(some 47), (.mv (.tmp 15)), none⟩, ⟨(some 48), (.iaddrS 1 (.tmp 47) (.const (.int .i64 0))), none⟩, ⟨(some 49),
  (.load none (.tmp 48)), none⟩, ⟨(some 16), (.mv (.tmp 49)), none⟩]) (.seq (.region [⟨(some 50), (.mv (.tmp 15)), none⟩, ⟨(some 51), (.slc 1 (.tmp 50) (some (.const (.int .i64
  1))) none none), none⟩, ⟨(some 15), (.mv (.tmp 51)), none⟩]) (.seq (.region [⟨(some 17), (.mv (.const (.int .i64 0))), none⟩]) (.block 2 (.loop (.seq (.seq (.region [⟨(some 52),
  (.mv (.tmp 17)), none⟩, ⟨(some 53), (.faddr 1 (.tmp 6)), none⟩, ⟨(some 54), (.load none (.tmp 53)), none⟩, ⟨(some 55), (.len (.tmp 54)), none⟩, ⟨(some 56), (.bin .lss (.tmp 52)
  (.tmp 55)), none⟩]) (.cond (.tmp 56) .skip (.exit 2))) (.seq (.block 3 (.seq (.region [⟨(some 59), (.faddr 1 (.tmp 6)), none⟩, ⟨(some 60), (.load none (.tmp 59)), none⟩, ⟨(some
  61), (.mv (.tmp 17)), none⟩, ⟨(some 62), (.iaddrS 4 (.tmp 60) (.tmp 61)), none⟩, ⟨(some 63), (.load (some 4) (.tmp 62)), none⟩, ⟨(some 18), (.alloc [(.int .i64 0), (.int .i64 0),
   (.int .i64 0), (.int .i64 0)]), none⟩, ⟨none, (.store 4 (.tmp 18) (.tmp 63)), none⟩]) (.seq (.seq (.region [⟨(some 64), (.mv (.tmp 17)), none⟩, ⟨(some 65), (.mv (.tmp 4)),
  none⟩, ⟨(some 66), (.bin .eql (.tmp 64) (.tmp 65)), none⟩]) (.cond (.tmp 66) (.exit 3) .skip)) (.seq (.seq (.draw [⟨(some 67), (.faddr 0 (.tmp 18)), none⟩, ⟨(some 68), (.load
  none (.tmp 67)), none⟩, ⟨(some 69), (.mv (.tmp 16)), none⟩, ⟨(some 70), (.bin .eql (.tmp 68) (.tmp 69)), none⟩, ⟨(some 71), (.mv (.tmp 70)), none⟩, ⟨(some 72), (.mv (.tmp 14)),
  (some (71, true))⟩, ⟨(some 73), (.faddr 1 (.tmp 18)), (some (71, true))⟩, ⟨(some 74), (.load none (.tmp 73)), (some (71, true))⟩, ⟨(some 75), (.iaddrS 1 (.tmp 72) (.tmp 74)),
  (some (71, true))⟩, ⟨(some 76), (.load none (.tmp 75)), (some (71, true))⟩, ⟨(some 77), (.bin .eql (.tmp 76) (.const (.int .i64 0))), (some (71, true))⟩, ⟨(some 78), (.pick
  (.tmp 71) (.tmp 77) (.const (.bool false))), none⟩, ⟨(some 79), (.mv (.tmp 78)), none⟩, ⟨(some 80), (.mv (.tmp 1)), (some (79, true))⟩, ⟨(some 81), (.mv (.tmp 17)), (some (79,
  true))⟩, ⟨(some 82), (.iaddrS 1 (.tmp 80) (.tmp 81)), (some (79, true))⟩, ⟨(some 83), (.load none (.tmp 82)), (some (79, true))⟩, ⟨(some 84), (.faddr 2 (.tmp 18)), (some (79,
  true))⟩, ⟨(some 85), (.faddr 1 (.tmp 84)), (some (79, true))⟩, ⟨(some 86), (.load none (.tmp 85)), (some (79, true))⟩, ⟨(some 87), (.bin .lss (.tmp 83) (.tmp 86)), (some (79,
  true))⟩, ⟨(some 88), (.pick (.tmp 79) (.tmp 87) (.const (.bool false))), none⟩] []) (.cond (.tmp 88) (.seq (.region [⟨(some 89), (.mv (.tmp 14)), none⟩, ⟨(some 90), (.faddr 1
  (.tmp 18)), none⟩, ⟨(some 91), (.load none (.tmp 90)), none⟩, ⟨(some 92), (.mv (.tmp 17)), none⟩, ⟨(some 93), (.bin .add (.tmp 92) (.const (.int .i64 1))), none⟩, ⟨(some 94),
  (.iaddrS 1 (.tmp 89) (.tmp 91)), none⟩, ⟨none, (.store 1 (.tmp 94) (.tmp 93)), none⟩]) (.region [⟨(some 95), (.mv (.tmp 15)), none⟩, ⟨(some 96), (.faddr 1 (.tmp 18)), none⟩,
  ⟨(some 97), (.load none (.tmp 96)), none⟩, ⟨(some 98), (.bslice [(.int .i64 0)] 1 1 [(0, (1, (.tmp 97)))]), none⟩, ⟨(some 99), (.app 1 8 (.tmp 95) (.tmp 98)), none⟩, ⟨(some 15),
  (.mv (.tmp 99)), none⟩])) .skip)) (.seq (.draw [⟨(some 100), (.faddr 1 (.tmp 18)), none⟩, ⟨(some 101), (.load none (.tmp 100)), none⟩, ⟨(some 102), (.mv (.tmp 16)), none⟩,
  ⟨(some 103), (.bin .eql (.tmp 101) (.tmp 102)), none⟩, ⟨(some 104), (.mv (.tmp 103)), none⟩, ⟨(some 105), (.mv (.tmp 14)), (some (104, true))⟩, ⟨(some 106), (.faddr 0 (.tmp 18)),
   (some (104, true))⟩, ⟨(some 107), (.load none (.tmp 106)), (some (104, true))⟩, ⟨(some 108), (.iaddrS 1 (.tmp 105) (.tmp 107)), (some (104, true))⟩, ⟨(some 109), (.load none
  (.tmp 108)), (some (104, true))⟩, ⟨(some 110), (.bin .eql (.tmp 109) (.const (.int .i64 0))), (some (104, true))⟩, ⟨(some 111), (.pick (.tmp 104) (.tmp 110) (.const (.bool
  false))), none⟩, ⟨(some 112), (.mv (.tmp 111)), none⟩, ⟨(some 113), (.mv (.tmp 1)), (some (112, true))⟩, ⟨(some 114), (.mv (.tmp 17)), (some (112, true))⟩, ⟨(some 115), (.iaddrS
  1 (.tmp 113) (.tmp 114)), (some (112, true))⟩, ⟨(some 116), (.load none (.tmp 115)), (some (112, true))⟩, ⟨(some 117), (.faddr 2 (.tmp 18)), (some (112, true))⟩, ⟨(some 118),
  (.faddr 0 (.tmp 117)), (some (112, true))⟩, ⟨(some 119), (.load none (.tmp 118)), (some (112, true))⟩, ⟨(some 120), (.bin .gtr (.tmp 116) (.tmp 119)), (some (112, true))⟩,
  ⟨(some 121), (.pick (.tmp 112) (.tmp 120) (.const (.bool false))), none⟩] []) (.cond (.tmp 121) (.seq (.region [⟨(some 122), (.mv (.tmp 14)), none⟩, ⟨(some 123), (.faddr 0 (.tmp
  18)), none⟩, ⟨(some 124), (.load none (.tmp 123)), none⟩, ⟨(some 125), (.mv (.tmp 17)), none⟩, ⟨(some 126), (.un .neg (.tmp 125)), none⟩, ⟨(some 127), (.bin .sub (.tmp 126)
  (.const (.int .i64 1))), none⟩, ⟨(some 128), (.iaddrS 1 (.tmp 122) (.tmp 124)), none⟩, ⟨none, (.store 1 (.tmp 128) (.tmp 127)), none⟩]) (.region [⟨(some 129), (.mv (.tmp 15)),
  none⟩, ⟨(some 130), (.faddr 0 (.tmp 18)), none⟩, ⟨(some 131), (.load none (.tmp 130)), none⟩, ⟨(some 132), (.bslice [(.int .i64 0)] 1 1 [(0, (1, (.tmp 131)))]), none⟩, ⟨(some
  133), (.app 1 8 (.tmp 129) (.tmp 132)), none⟩, ⟨(some 15), (.mv (.tmp 133)), none⟩])) .skip)))))) (.region [⟨(some 57), (.mv (.tmp 17)), none⟩, ⟨(some 58), (.bin .add (.tmp 57)
  (.const (.int .i64 1))), none⟩, ⟨(some 17), (.mv (.tmp 58)), none⟩])))))))))))) (.seq (.seq (.region [⟨(some 134), (.mv (.tmp 14)), none⟩, ⟨(some 135), (.mv (.tmp 3)), none⟩,
  ⟨(some 136), (.iaddrS 1 (.tmp 134) (.tmp 135)), none⟩, ⟨(some 137), (.load none (.tmp 136)), none⟩, ⟨(some 138), (.bin .eql (.tmp 137) (.const (.int .i64 0))), none⟩, ⟨(some
  139), (.mv (.tmp 138)), none⟩, ⟨(some 140), (.mv (.tmp 2)), (some (139, false))⟩, ⟨(some 141), (.mv (.tmp 3)), (some (139, false))⟩, ⟨(some 142), (.bin .eql (.tmp 140) (.tmp
  141)), (some (139, false))⟩, ⟨(some 143), (.pick (.tmp 139) (.const (.bool true)) (.tmp 142)), none⟩]) (.cond (.tmp 143) (.seq (.region [⟨(some 144), (.mv (.tmp 1)), none⟩,
  ⟨(some 12), (.mv (.tmp 144)), none⟩, ⟨(some 13), (.mv (.const (.int .i64 0))), none⟩]) .ret) .skip)) (.seq (.seq (.region [⟨(some 145), (.mv (.tmp 3)), none⟩, ⟨(some 19), (.mv
  (.tmp 145)), none⟩]) (.block 4 (.loop (.seq (.seq (.region [⟨(some 146), (.mv (.tmp 19)), none⟩, ⟨(some 147), (.mv (.tmp 2)), none⟩, ⟨(some 148), (.bin .neq (.tmp 146) (.tmp
  147)), none⟩]) (.cond (.tmp 148) .skip (.exit 4))) (.block 5 (.seq (.region [⟨(some 149), (.mv (.tmp 14)), none⟩, ⟨(some 150), (.mv (.tmp 19)), none⟩, ⟨(some 151), (.iaddrS 1
  (.tmp 149) (.tmp 150)), none⟩, ⟨(some 152), (.load none (.tmp 151)), none⟩, ⟨(some 153), (.bin .gtr (.tmp 152) (.const (.int .i64 0))), none⟩]) (.cond (.tmp 153) (.seq (.draw
  [⟨(some 154), (.faddr 1 (.tmp 6)), none⟩, ⟨(some 155), (.load none (.tmp 154)), none⟩, ⟨(some 156), (.mv (.tmp 14)), none⟩, ⟨(some 157), (.mv (.tmp 19)), none⟩, ⟨(some 158),
  (.iaddrS 1 (.tmp 156) (.tmp 157)), none⟩, ⟨(some 159), (.load none (.tmp 158)), none⟩, ⟨(some 160), (.bin .sub (.tmp 159) (.const (.int .i64 1))), none⟩, ⟨(some 161), (.iaddrS 4
  (.tmp 155) (.tmp 160)), none⟩, ⟨(some 162), (.load (some 4) (.tmp 161)), none⟩, ⟨(some 20), (.alloc [(.int .i64 0), (.int .i64 0), (.int .i64 0), (.int .i64 0)]), none⟩, ⟨none,
  (.store 4 (.tmp 20) (.tmp 162)), none⟩] [(1, 9), (5, 9), (8, 9)]) (.seq (.draw [⟨(some 163), (.mv (.tmp 5)), none⟩, ⟨(some 164), (.faddr 2 (.tmp 20)), none⟩, ⟨(some 165),
  (.faddr 1 (.tmp 164)), none⟩, ⟨(some 166), (.load none (.tmp 165)), none⟩, ⟨(some 167), (.mv (.tmp 1)), none⟩, ⟨(some 168), (.mv (.tmp 14)), none⟩, ⟨(some 169), (.mv (.tmp 19)),
  none⟩, ⟨(some 170), (.iaddrS 1 (.tmp 168) (.tmp 169)), none⟩, ⟨(some 171), (.load none (.tmp 170)), none⟩, ⟨(some 172), (.bin .sub (.tmp 171) (.const (.int .i64 1))), none⟩,
  ⟨(some 173), (.iaddrS 1 (.tmp 167) (.tmp 172)), none⟩, ⟨(some 174), (.load none (.tmp 173)), none⟩, ⟨(some 175), (.bin .sub (.tmp 166) (.tmp 174)), none⟩, ⟨(some 176), (.mnx
  false [(.tmp 163), (.tmp 175)]), none⟩, ⟨(some 5), (.mv (.tmp 176)), none⟩] []) (.region [⟨(some 177), (.faddr 0 (.tmp 20)), none⟩, ⟨(some 178), (.load none (.tmp 177)), none⟩,
  ⟨(some 19), (.mv (.tmp 178)), none⟩]))) (.seq (.draw [⟨(some 179), (.faddr 1 (.tmp 6)), none⟩, ⟨(some 180), (.load none (.tmp 179)), none⟩, ⟨(some 181), (.mv (.tmp 14)), none⟩,
  ⟨(some 182), (.mv (.tmp 19)), none⟩, ⟨(some 183), (.iaddrS 1 (.tmp 181) (.tmp 182)), none⟩, ⟨(some 184), (.load none (.tmp 183)), none⟩, ⟨(some 185), (.un .neg (.tmp 184)),
  none⟩, ⟨(some 186), (.bin .sub (.tmp 185) (.const (.int .i64 1))), none⟩, ⟨(some 187), (.iaddrS 4 (.tmp 180) (.tmp 186)), none⟩, ⟨(some 188), (.load (some 4) (.tmp 187)), none⟩,
  ⟨(some 21), (.alloc [(.int .i64 0), (.int .i64 0), (.int .i64 0), (.int .i64 0)]), none⟩, ⟨none, (.store 4 (.tmp 21) (.tmp 188)), none⟩] [(1, 10), (5, 10), (9, 10)]) (.seq
  (.draw [⟨(some 189), (.mv (.tmp 5)), none⟩, ⟨(some 190), (.mv (.tmp 1)), none⟩, ⟨(some 191), (.mv (.tmp 14)), none⟩, ⟨(some 192), (.mv (.tmp 19)), none⟩, ⟨(some 193), (.iaddrS 1
  (.tmp 191) (.tmp 192)), none⟩, ⟨(some 194), (.load none (.tmp 193)), none⟩, ⟨(some 195), (.un .neg (.tmp 194)), none⟩, ⟨(some 196), (.bin .sub (.tmp 195) (.const (.int .i64 1))),
   none⟩, ⟨(some 197), (.iaddrS 1 (.tmp 190) (.tmp 196)), none⟩, ⟨(some 198), (.load none (.tmp 197)), none⟩, ⟨(some 199), (.faddr 2 (.tmp 21)), none⟩, ⟨(some 200), (.faddr 0
  (.tmp 199)), none⟩, ⟨(some 201), (.load none (.tmp 200)), none⟩, ⟨(some 202), (.bin .sub (.tmp 198) (.tmp 201)), none⟩, ⟨(some 203), (.mnx false [(.tmp 189), (.tmp 202)]), none⟩,
   ⟨(some 5), (.mv (.tmp 203)), none⟩] []) (.region [⟨(some 204), (.faddr 1 (.tmp 21)), none⟩, ⟨(some 205), (.load none (.tmp 204)), none⟩, ⟨(some 19), (.mv (.tmp 205)),
  none⟩])))))))))) (.seq (.region [⟨(some 206), (.bslice [] 0 1 []), none⟩, ⟨(some 207), (.mv (.tmp 1)), none⟩, ⟨(some 208), (.app 1 8 (.tmp 206) (.tmp 207)), none⟩, ⟨(some 22),
  (.mv (.tmp 208)), none⟩]) (.seq (.seq (.region [⟨(some 209), (.mv (.tmp 3)), none⟩, ⟨(some 23), (.mv (.tmp 209)), none⟩]) (.block 6 (.loop (.seq (.seq (.region [⟨(some 210),
  (.mv (.tmp 23)), none⟩, ⟨(some 211), (.mv (.tmp 2)), none⟩, ⟨(some 212), (.bin .neq (.tmp 210) (.tmp 211)), none⟩]) (.cond (.tmp 212) .skip (.exit 6))) (.block 7 (.seq (.region
  [⟨(some 213), (.mv (.tmp 14)), none⟩, ⟨(some 214), (.mv (.tmp 23)), none⟩, ⟨(some 215), (.iaddrS 1 (.tmp 213) (.tmp 214)), none⟩, ⟨(some 216), (.load none (.tmp 215)), none⟩,
  ⟨(some 217), (.bin .gtr (.tmp 216) (.const (.int .i64 0))), none⟩]) (.cond (.tmp 217) (.seq (.region [⟨(some 218), (.mv (.tmp 22)), none⟩, ⟨(some 219), (.mv (.tmp 14)), none⟩,
  ⟨(some 220), (.mv (.tmp 23)), none⟩, ⟨(some 221), (.iaddrS 1 (.tmp 219) (.tmp 220)), none⟩, ⟨(some 222), (.load none (.tmp 221)), none⟩, ⟨(some 223), (.bin .sub (.tmp 222)
  (.const (.int .i64 1))), none⟩, ⟨(some 224), (.iaddrS 1 (.tmp 218) (.tmp 223)), none⟩, ⟨(some 225), (.load none (.tmp 224)), none⟩, ⟨(some 226), (.mv (.tmp 5)), none⟩, ⟨(some
  227), (.bin .add (.tmp 225) (.tmp 226)), none⟩, ⟨(some 228), (.iaddrS 1 (.tmp 218) (.tmp 223)), none⟩, ⟨none, (.store 1 (.tmp 228) (.tmp 227)), none⟩]) (.draw [⟨(some 229),
  (.faddr 1 (.tmp 6)), none⟩, ⟨(some 230), (.load none (.tmp 229)), none⟩, ⟨(some 231), (.mv (.tmp 14)), none⟩, ⟨(some 232), (.mv (.tmp 23)), none⟩, ⟨(some 233), (.iaddrS 1 (.tmp
  231) (.tmp 232)), none⟩, ⟨(some 234), (.load none (.tmp 233)), none⟩, ⟨(some 235), (.bin .sub (.tmp 234) (.const (.int .i64 1))), none⟩, ⟨(some 236), (.iaddrS 4 (.tmp 230) (.tmp
  235)), none⟩, ⟨(some 237), (.faddr 0 (.tmp 236)), none⟩, ⟨(some 238), (.load none (.tmp 237)), none⟩, ⟨(some 23), (.mv (.tmp 238)), none⟩] [])) (.seq (.region [⟨(some 239), (.mv
  (.tmp 22)), none⟩, ⟨(some 240), (.mv (.tmp 14)), none⟩, ⟨(some 241), (.mv (.tmp 23)), none⟩, ⟨(some 242), (.iaddrS 1 (.tmp 240) (.tmp 241)), none⟩, ⟨(some 243), (.load none
  (.tmp 242)), none⟩, ⟨(some 244), (.un .neg (.tmp 243)), none⟩, ⟨(some 245), (.bin .sub (.tmp 244) (.const (.int .i64 1))), none⟩, ⟨(some 246), (.iaddrS 1 (.tmp 239) (.tmp 245)),
  none⟩, ⟨(some 247), (.load none (.tmp 246)), none⟩, ⟨(some 248), (.mv (.tmp 5)), none⟩, ⟨(some 249), (.bin .sub (.tmp 247) (.tmp 248)), none⟩, ⟨(some 250), (.iaddrS 1 (.tmp 239)
  (.tmp 245)), none⟩, ⟨none, (.store 1 (.tmp 250) (.tmp 249)), none⟩]) (.draw [⟨(some 251), (.faddr 1 (.tmp 6)), none⟩, ⟨(some 252), (.load none (.tmp 251)), none⟩, ⟨(some 253),
  (.mv (.tmp 14)), none⟩, ⟨(some 254), (.mv (.tmp 23)), none⟩, ⟨(some 255), (.iaddrS 1 (.tmp 253) (.tmp 254)), none⟩, ⟨(some 256), (.load none (.tmp 255)), none⟩, ⟨(some 257),
  (.un .neg (.tmp 256)), none⟩, ⟨(some 258), (.bin .sub (.tmp 257) (.const (.int .i64 1))), none⟩, ⟨(some 259), (.iaddrS 4 (.tmp 252) (.tmp 258)), none⟩, ⟨(some 260), (.faddr 1
  (.tmp 259)), none⟩, ⟨(some 261), (.load none (.tmp 260)), none⟩, ⟨(some 23), (.mv (.tmp 261)), none⟩] []))))))))) (.seq (.region [⟨(some 262), (.mv (.tmp 22)), none⟩, ⟨(some
  263), (.mv (.tmp 5)), none⟩, ⟨(some 12), (.mv (.tmp 262)), none⟩, ⟨(some 13), (.mv (.tmp 263)), none⟩]) .ret))))))))))⟩
def af59 : AFn := ⟨31, [(.tmp 4), (.tmp 5)], (.seq (.region [⟨(some 2), (.box (.tmp 0)), none⟩, ⟨(some 4), (.mv (.const (.ptr none))), none⟩, ⟨(some 5), (.mv (.const (.int .i64 0))), none⟩]) (.seq
  (.region [⟨(some 8), (.load (some 2) (.tmp 2)), none⟩, ⟨(some 9), (.call (.func 19) [(.tmp 8)]), none⟩, ⟨(some 6), (.mv (.tmp 9)), none⟩]) (.seq (.block 0 (.seq (.region [⟨(some
  11), (.mv (.tmp 6)), none⟩, ⟨(some 12), (.bin .neq (.tmp 11) (.const (.int .i64 0))), none⟩, ⟨(some 10), (.mv (.tmp 12)), none⟩]) (.cond (.tmp 10) (.seq (.region [⟨(some 13),
  (.mv (.tmp 6)), none⟩, ⟨(some 4), (.mv (.const (.ptr none))), none⟩, ⟨(some 5), (.mv (.tmp 13)), none⟩]) .ret) (.seq (.region [⟨(some 15), (.mv (.tmp 1)), none⟩, ⟨(some 16),
  (.bin .lss (.tmp 15) (.const (.int .i64 0))), none⟩, ⟨(some 17), (.mv (.tmp 16)), none⟩, ⟨(some 18), (.mv (.tmp 1)), (some (17, false))⟩, ⟨(some 19), (.faddr 1 (.tmp 2)), (some
  (17, false))⟩, ⟨(some 20), (.load none (.tmp 19)), (some (17, false))⟩, ⟨(some 21), (.len (.tmp 20)), (some (17, false))⟩, ⟨(some 22), (.bin .geq (.tmp 18) (.tmp 21)), (some (17,
   false))⟩, ⟨(some 23), (.pick (.tmp 17) (.const (.bool true)) (.tmp 22)), none⟩, ⟨(some 14), (.mv (.tmp 23)), none⟩]) (.cond (.tmp 14) (.seq (.region [⟨(some 4), (.mv (.const
  (.ptr none))), none⟩, ⟨(some 5), (.mv (.const (.int .i64 3))), none⟩]) .ret) .skip))))) (.seq (.region [⟨(some 24), (.load (some 2) (.tmp 2)), none⟩, ⟨(some 25), (.call (.func
  55) [(.tmp 24)]), none⟩, ⟨(some 7), (.mv (.tmp 25)), none⟩]) (.seq (.seq (.region [⟨(some 26), (.mv (.tmp 7)), none⟩, ⟨(some 27), (.call (.func 56) [(.tmp 26)]), none⟩, ⟨(some
  28), (.len (.tmp 27)), none⟩, ⟨(some 29), (.bin .gtr (.tmp 28) (.const (.int .i64 0))), none⟩]) (.cond (.tmp 29) (.seq (.region [⟨(some 4), (.mv (.const (.ptr none))), none⟩,
  ⟨(some 5), (.mv (.const (.int .i64 21))), none⟩]) .ret) .skip)) (.seq (.region [⟨(some 30), (.mv (.tmp 7)), none⟩, ⟨(some 4), (.mv (.tmp 30)), none⟩, ⟨(some 5), (.mv (.const
  (.int .i64 0))), none⟩]) .ret))))))⟩
def af60 : AFn := ⟨81, [(.tmp 6)], (.seq (.region [⟨(some 6), (.mv (.const (.slc none 0 0 true 0))), none⟩]) (.seq (.region [⟨(some 15), (.mv (.tmp 0)), none⟩, ⟨(some 16), (.nilchk (.tmp 15)),
  none⟩, ⟨(some 17), (.faddr 0 (.tmp 16)), none⟩, ⟨(some 18), (.faddr 1 (.tmp 17)), none⟩, ⟨(some 19), (.load none (.tmp 18)), none⟩, ⟨(some 20), (.mv (.tmp 1)), none⟩, ⟨(some 21),
   (.iaddrS 4 (.tmp 19) (.tmp 20)), none⟩, ⟨(some 22), (.load (some 4) (.tmp 21)), none⟩, ⟨(some 7), (.alloc [(.int .i64 0), (.int .i64 0), (.int .i64 0), (.int .i64 0)]), none⟩,
  ⟨none, (.store 4 (.tmp 7) (.tmp 22)), none⟩]) (.seq (.region [⟨(some 23), (.mv (.tmp 0)), none⟩, ⟨(some 24), (.mkfn 82 [(.tmp 23)] []), none⟩, ⟨(some 8), (.mv (.tmp 24)),
  none⟩]) (.seq (.block 0 (.loop (.block 1 (.seq (.draw [⟨(some 25), (.faddr 1 (.tmp 7)), none⟩, ⟨(some 26), (.load none (.tmp 25)), none⟩, ⟨(some 27), (.faddr 0 (.tmp 7)), none⟩,
  ⟨(some 28), (.load none (.tmp 27)), none⟩, ⟨(some 10), (.alloc [(.int .i64 0)]), none⟩, ⟨(some 9), (.mv (.tmp 26)), none⟩, ⟨none, (.store 1 (.tmp 10) (.tmp 28)), none⟩] [(1, 4),
  (3, 4)]) (.seq (.seq (.region [⟨(some 29), (.mv (.tmp 2)), none⟩, ⟨(some 30), (.un .not (.tmp 29)), none⟩]) (.cond (.tmp 30) (.region [⟨(some 31), (.load none (.tmp 10)), none⟩,
  ⟨(some 32), (.mv (.tmp 9)), none⟩, ⟨(some 9), (.mv (.tmp 31)), none⟩, ⟨none, (.store 1 (.tmp 10) (.tmp 32)), none⟩]) .skip)) (.seq (.region [⟨(some 34), (.mv (.tmp 8)), none⟩,
  ⟨(some 35), (.mv (.tmp 1)), none⟩, ⟨(some 36), (.load none (.tmp 10)), none⟩, ⟨(some 37), (.call (.tmp 34) [(.tmp 35), (.tmp 36)]), none⟩, ⟨(some 33), (.mv (.tmp 37)), none⟩,
  ⟨(some 38), (.ext (.tmp 33) 0), none⟩, ⟨(some 39), (.ext (.tmp 33) 1), none⟩, ⟨(some 11), (.mv (.tmp 38)), none⟩, ⟨(some 12), (.mv (.tmp 39)), none⟩]) (.seq (.seq (.region
  [⟨(some 40), (.mv (.tmp 11)), none⟩, ⟨(some 41), (.bin .eql (.tmp 40) (.const (.int .i64 0))), none⟩]) (.cond (.tmp 41) (.seq (.region [⟨(some 6), (.mv (.const (.slc none 0 0
  true 0))), none⟩]) .ret) .skip)) (.seq (.region [⟨(some 43), (.mv (.tmp 0)), none⟩, ⟨(some 44), (.mv (.tmp 9)), none⟩, ⟨(some 45), (.mv (.tmp 1)), none⟩, ⟨(some 46), (.mv (.tmp
  11)), none⟩, ⟨(some 47), (.mkfn 83 [] [(.tmp 10)]), none⟩, ⟨(some 48), (.call (.func 78) [(.tmp 43), (.tmp 44), (.tmp 45), (.tmp 46), (.tmp 47)]), none⟩, ⟨(some 42), (.mv (.tmp
  48)), none⟩, ⟨(some 49), (.ext (.tmp 42) 0), none⟩, ⟨(some 50), (.ext (.tmp 42) 1), none⟩, ⟨(some 13), (.mv (.tmp 49)), none⟩, ⟨(some 14), (.mv (.tmp 50)), none⟩]) (.seq (.seq
  (.region [⟨(some 51), (.mv (.tmp 13)), none⟩, ⟨(some 52), (.bin .eql (.tmp 51) (.const (.int .i64 0))), none⟩]) (.cond (.tmp 52) (.exit 0) .skip)) (.seq (.region [⟨(some 53),
  (.mv (.tmp 2)), none⟩]) (.cond (.tmp 53) (.region [⟨(some 54), (.mv (.tmp 0)), none⟩, ⟨(some 55), (.nilchk (.tmp 54)), none⟩, ⟨(some 56), (.faddr 2 (.tmp 55)), none⟩, ⟨(some 57),
   (.load none (.tmp 56)), none⟩, ⟨(some 58), (.mv (.tmp 1)), none⟩, ⟨(some 59), (.iaddrS 1 (.tmp 57) (.tmp 58)), none⟩, ⟨(some 60), (.load none (.tmp 59)), none⟩, ⟨(some 61),
  (.mv (.tmp 13)), none⟩, ⟨(some 62), (.bin .add (.tmp 60) (.tmp 61)), none⟩, ⟨(some 63), (.iaddrS 1 (.tmp 57) (.tmp 58)), none⟩, ⟨none, (.store 1 (.tmp 63) (.tmp 62)), none⟩])
  (.region [⟨(some 64), (.mv (.tmp 0)), none⟩, ⟨(some 65), (.nilchk (.tmp 64)), none⟩, ⟨(some 66), (.faddr 2 (.tmp 65)), none⟩, ⟨(some 67), (.load none (.tmp 66)), none⟩, ⟨(some
  68), (.mv (.tmp 1)), none⟩, ⟨(some 69), (.iaddrS 1 (.tmp 67) (.tmp 68)), none⟩, ⟨(some 70), (.load none (.tmp 69)), none⟩, ⟨(some 71), (.mv (.tmp 13)), none⟩, ⟨(some 72), (.bin
  .sub (.tmp 70) (.tmp 71)), none⟩, ⟨(some 73), (.iaddrS 1 (.tmp 67) (.tmp 68)), none⟩, ⟨none, (.store 1 (.tmp 73) (.tmp 72)), none⟩])))))))))))) (.seq (.seq (.region [⟨(some 74),
  (.mv (.tmp 2)), none⟩]) (.cond (.tmp 74) (.seq (.region [⟨(some 75), (.mv (.tmp 0)), none⟩, ⟨(some 76), (.mv (.tmp 0)), none⟩, ⟨(some 77), (.call (.func 80) [(.tmp 76)]), none⟩,
  ⟨(some 78), (.call (.func 79) [(.tmp 75), (.tmp 77)]), none⟩, ⟨(some 6), (.mv (.tmp 78)), none⟩]) .ret) .skip)) (.seq (.region [⟨(some 79), (.mv (.tmp 0)), none⟩, ⟨(some 80),
  (.call (.func 80) [(.tmp 79)]), none⟩, ⟨(some 6), (.mv (.tmp 80)), none⟩]) .ret))))))⟩
def af61 : AFn := ⟨77, [(.tmp 6)], (.seq (.region [⟨(some 3), (.box (.tmp 0)), none⟩, ⟨(some 6), (.mv (.const (.slc none 0 0 true 0))), none⟩]) (.seq (.region [⟨(some 12), (.load (some 2) (.tmp 3)),
   none⟩, ⟨(some 13), (.call (.func 24) [(.tmp 12)]), none⟩, ⟨(some 11), (.mv (.tmp 13)), none⟩, ⟨(some 14), (.ext (.tmp 11) 0), none⟩, ⟨(some 15), (.ext (.tmp 11) 1), none⟩,
  ⟨(some 7), (.mv (.tmp 14)), none⟩, ⟨(some 8), (.mv (.tmp 15)), none⟩]) (.seq (.region [⟨(some 16), (.faddr 1 (.tmp 3)), none⟩, ⟨(some 17), (.load none (.tmp 16)), none⟩, ⟨(some
  18), (.mv (.tmp 1)), none⟩, ⟨(some 19), (.iaddrS 4 (.tmp 17) (.tmp 18)), none⟩, ⟨(some 20), (.load (some 4) (.tmp 19)), none⟩, ⟨(some 9), (.alloc [(.int .i64 0), (.int .i64 0),
  (.int .i64 0), (.int .i64 0)]), none⟩, ⟨none, (.store 4 (.tmp 9) (.tmp 20)), none⟩]) (.block 0 (.loop (.block 1 (.seq (.region [⟨(some 10), (.mv (.const (.int .i64 0))), none⟩])
  (.seq (.seq (.region [⟨(some 21), (.mv (.tmp 2)), none⟩]) (.cond (.tmp 21) (.seq (.draw [⟨(some 23), (.load (some 2) (.tmp 3)), none⟩, ⟨(some 24), (.mv (.tmp 7)), none⟩, ⟨(some
  25), (.faddr 1 (.tmp 9)), none⟩, ⟨(some 26), (.load none (.tmp 25)), none⟩, ⟨(some 27), (.faddr 0 (.tmp 9)), none⟩, ⟨(some 28), (.load none (.tmp 27)), none⟩, ⟨(some 29), (.mv
  (.tmp 1)), none⟩, ⟨(some 30), (.faddr 2 (.tmp 9)), none⟩, ⟨(some 31), (.faddr 1 (.tmp 30)), none⟩, ⟨(some 32), (.load none (.tmp 31)), none⟩, ⟨(some 33), (.mv (.tmp 7)), none⟩,
  ⟨(some 34), (.mv (.tmp 1)), none⟩, ⟨(some 35), (.iaddrS 1 (.tmp 33) (.tmp 34)), none⟩, ⟨(some 36), (.load none (.tmp 35)), none⟩, ⟨(some 37), (.bin .sub (.tmp 32) (.tmp 36)),
  none⟩, ⟨(some 38), (.call (.func 58) [(.tmp 23), (.tmp 24), (.tmp 26), (.tmp 28), (.tmp 29), (.tmp 37)]), none⟩, ⟨(some 22), (.mv (.tmp 38)), none⟩, ⟨(some 39), (.ext (.tmp 22)
  0), none⟩, ⟨(some 40), (.ext (.tmp 22) 1), none⟩, ⟨(some 7), (.mv (.tmp 39)), none⟩, ⟨(some 10), (.mv (.tmp 40)), none⟩] []) (.region [⟨(some 41), (.mv (.tmp 7)), none⟩, ⟨(some
  42), (.mv (.tmp 1)), none⟩, ⟨(some 43), (.iaddrS 1 (.tmp 41) (.tmp 42)), none⟩, ⟨(some 44), (.load none (.tmp 43)), none⟩, ⟨(some 45), (.mv (.tmp 10)), none⟩, ⟨(some 46), (.bin
  .add (.tmp 44) (.tmp 45)), none⟩, ⟨(some 47), (.iaddrS 1 (.tmp 41) (.tmp 42)), none⟩, ⟨none, (.store 1 (.tmp 47) (.tmp 46)), none⟩])) (.seq (.draw [⟨(some 49), (.load (some 2)
  (.tmp 3)), none⟩, ⟨(some 50), (.mv (.tmp 7)), none⟩, ⟨(some 51), (.faddr 0 (.tmp 9)), none⟩, ⟨(some 52), (.load none (.tmp 51)), none⟩, ⟨(some 53), (.faddr 1 (.tmp 9)), none⟩,
  ⟨(some 54), (.load none (.tmp 53)), none⟩, ⟨(some 55), (.mv (.tmp 1)), none⟩, ⟨(some 56), (.mv (.tmp 7)), none⟩, ⟨(some 57), (.mv (.tmp 1)), none⟩, ⟨(some 58), (.iaddrS 1 (.tmp
  56) (.tmp 57)), none⟩, ⟨(some 59), (.load none (.tmp 58)), none⟩, ⟨(some 60), (.faddr 2 (.tmp 9)), none⟩, ⟨(some 61), (.faddr 0 (.tmp 60)), none⟩, ⟨(some 62), (.load none (.tmp
  61)), none⟩, ⟨(some 63), (.bin .sub (.tmp 59) (.tmp 62)), none⟩, ⟨(some 64), (.call (.func 58) [(.tmp 49), (.tmp 50), (.tmp 52), (.tmp 54), (.tmp 55), (.tmp 63)]), none⟩, ⟨(some
  48), (.mv (.tmp 64)), none⟩, ⟨(some 65), (.ext (.tmp 48) 0), none⟩, ⟨(some 66), (.ext (.tmp 48) 1), none⟩, ⟨(some 7), (.mv (.tmp 65)), none⟩, ⟨(some 10), (.mv (.tmp 66)), none⟩]
  []) (.region [⟨(some 67), (.mv (.tmp 7)), none⟩, ⟨(some 68), (.mv (.tmp 1)), none⟩, ⟨(some 69), (.iaddrS 1 (.tmp 67) (.tmp 68)), none⟩, ⟨(some 70), (.load none (.tmp 69)), none⟩,
   ⟨(some 71), (.mv (.tmp 10)), none⟩, ⟨(some 72), (.bin .sub (.tmp 70) (.tmp 71)), none⟩, ⟨(some 73), (.iaddrS 1 (.tmp 67) (.tmp 68)), none⟩, ⟨none, (.store 1 (.tmp 73) (.tmp
  72)), none⟩])))) (.seq (.region [⟨(some 74), (.mv (.tmp 10)), none⟩, ⟨(some 75), (.bin .eql (.tmp 74) (.const (.int .i64 0))), none⟩]) (.cond (.tmp 75) (.seq (.region [⟨(some
  76), (.mv (.tmp 7)), none⟩, ⟨(some 6), (.mv (.tmp 76)), none⟩]) .ret) .skip))))))))))⟩
def af62 : AFn := ⟨6, [(.tmp 2)], (.seq (.region [⟨(some 1), (.box (.tmp 0)), none⟩, ⟨(some 2), (.mv (.const (.int .i64 0))), none⟩]) (.seq (.region [⟨(some 3), (.faddr 2 (.tmp 1)), none⟩, ⟨(some
  4), (.faddr 0 (.tmp 3)), none⟩, ⟨(some 5), (.load none (.tmp 4)), none⟩, ⟨(some 2), (.mv (.tmp 5)), none⟩]) .ret))⟩
def af63 : AFn := ⟨6, [(.tmp 2)], (.seq (.region [⟨(some 1), (.box (.tmp 0)), none⟩, ⟨(some 2), (.mv (.const (.int .i64 0))), none⟩]) (.seq (.region [⟨(some 3), (.faddr 2 (.tmp 1)), none⟩, ⟨(some
  4), (.faddr 1 (.tmp 3)), none⟩, ⟨(some 5), (.load none (.tmp 4)), none⟩, ⟨(some 2), (.mv (.tmp 5)), none⟩]) .ret))⟩
def af64 : AFn := ⟨9, [(.tmp 4)], (.seq (.region [⟨(some 4), (.mv (.const (.bool false))), none⟩]) (.seq (.region [⟨(some 5), (.mv (.tmp 0)), none⟩, ⟨(some 6), (.mv (.tmp 1)), none⟩, ⟨(some 7),
  (.call (.func 84) [(.tmp 5), (.tmp 6)]), none⟩, ⟨(some 8), (.bin .geq (.tmp 7) (.const (.int .i64 0))), none⟩, ⟨(some 4), (.mv (.tmp 8)), none⟩]) .ret))⟩
def af65 : AFn := ⟨11, [(.tmp 4)], (.seq (.region [⟨(some 4), (.mv (.const (.int .i64 0))), none⟩]) (.seq (.region [⟨(some 5), (.mv (.tmp 0)), none⟩, ⟨(some 6), (.mv (.tmp 1)), none⟩, ⟨(some 7),
  (.bin .add (.tmp 5) (.tmp 6)), none⟩, ⟨(some 8), (.bin .sub (.tmp 7) (.const (.int .i64 1))), none⟩, ⟨(some 9), (.mv (.tmp 1)), none⟩, ⟨(some 10), (.bin .quo (.tmp 8) (.tmp 9)),
  none⟩, ⟨(some 4), (.mv (.tmp 10)), none⟩]) .ret))⟩
def af66 : AFn := ⟨15, [(.tmp 2)], (.seq (.region [⟨(some 1), (.box (.tmp 0)), none⟩, ⟨(some 2), (.mv (.const (.bool false))), none⟩]) (.seq (.region [⟨(some 3), (.faddr 0 (.tmp 1)), none⟩, ⟨(some
  4), (.load none (.tmp 3)), none⟩, ⟨(some 5), (.bslice [(.int .i64 0)] 1 1 [(0, (1, (.tmp 4)))]), none⟩, ⟨(some 6), (.call (.func 53) [(.const (.int .i64 0)), (.const (.int .i64
  100000)), (.tmp 5)]), none⟩, ⟨(some 7), (.un .not (.tmp 6)), none⟩, ⟨(some 8), (.mv (.tmp 7)), none⟩, ⟨(some 9), (.faddr 1 (.tmp 1)), (some (8, false))⟩, ⟨(some 10), (.load none
  (.tmp 9)), (some (8, false))⟩, ⟨(some 11), (.bslice [(.int .i64 0)] 1 1 [(0, (1, (.tmp 10)))]), (some (8, false))⟩, ⟨(some 12), (.call (.func 53) [(.const (.int .i64 1)),
  (.const (.int .i64 100000)), (.tmp 11)]), (some (8, false))⟩, ⟨(some 13), (.un .not (.tmp 12)), (some (8, false))⟩, ⟨(some 14), (.pick (.tmp 8) (.const (.bool true)) (.tmp 13)),
  none⟩, ⟨(some 2), (.mv (.tmp 14)), none⟩]) .ret))⟩
def af67 : AFn := ⟨9, [(.tmp 4)], (.seq (.region [⟨(some 4), (.mv (.const (.bool false))), none⟩]) (.seq (.region [⟨(some 5), (.mv (.tmp 0)), none⟩, ⟨(some 6), (.mv (.tmp 1)), none⟩, ⟨(some 7),
  (.call (.func 85) [(.tmp 5), (.tmp 6)]), none⟩, ⟨(some 8), (.bin .geq (.tmp 7) (.const (.int .i64 0))), none⟩, ⟨(some 4), (.mv (.tmp 8)), none⟩]) .ret))⟩
def af68 : AFn := ⟨15, [(.tmp 4)], (.seq (.region [⟨(some 4), (.mv (.const (.int .i64 0))), none⟩]) (.seq (.seq (.region [⟨(some 5), (.mv (.tmp 0)), none⟩, ⟨(some 6), (.bin .lss (.tmp 5) (.const
  (.int .i64 0))), none⟩]) (.cond (.tmp 6) (.seq (.region [⟨(some 7), (.mv (.tmp 0)), none⟩, ⟨(some 8), (.un .neg (.tmp 7)), none⟩, ⟨(some 9), (.mv (.tmp 1)), none⟩, ⟨(some 10),
  (.call (.func 65) [(.tmp 8), (.tmp 9)]), none⟩, ⟨(some 11), (.un .neg (.tmp 10)), none⟩, ⟨(some 4), (.mv (.tmp 11)), none⟩]) .ret) .skip)) (.seq (.region [⟨(some 12), (.mv (.tmp
  0)), none⟩, ⟨(some 13), (.mv (.tmp 1)), none⟩, ⟨(some 14), (.bin .quo (.tmp 12) (.tmp 13)), none⟩, ⟨(some 4), (.mv (.tmp 14)), none⟩]) .ret)))⟩
def af69 : AFn := ⟨15, [(.cell 8 (some 4))], (.seq (.region [⟨(some 8), (.alloc [(.int .i64 0), (.int .i64 0), (.int .i64 0), (.int .i64 0)]), none⟩]) (.seq (.region [⟨(some 9), (.mv (.tmp 0)),
  none⟩, ⟨(some 10), (.mv (.tmp 1)), none⟩, ⟨(some 11), (.mv (.tmp 2)), none⟩, ⟨(some 12), (.mv (.tmp 3)), none⟩, ⟨(some 13), (.call (.func 40) [(.tmp 11), (.tmp 12)]), none⟩,
  ⟨(some 14), (.build [(.int .i64 0), (.int .i64 0), (.int .i64 0), (.int .i64 0)] [(0, (1, (.tmp 9))), (1, (1, (.tmp 10))), (2, (2, (.tmp 13)))]), none⟩, ⟨none, (.store 4 (.tmp
  8) (.tmp 14)), none⟩]) .ret))⟩
def af70 : AFn := ⟨39, [], (.seq (.region [⟨(some 7), (.faddr 1 (.tmp 1)), none⟩, ⟨(some 8), (.load none (.tmp 7)), none⟩, ⟨(some 9), (.len (.tmp 8)), none⟩, ⟨(some 10), (.mv (.const (.int .i64
  0))), none⟩]) (.block 0 (.loop (.seq (.region [⟨(some 11), (.bin .lss (.tmp 10) (.tmp 9)), none⟩]) (.seq (.cond (.tmp 11) .skip (.exit 0)) (.seq (.block 1 (.seq (.region [⟨(some
  12), (.mv (.tmp 10)), none⟩, ⟨(some 13), (.iaddrS 4 (.tmp 8) (.tmp 10)), none⟩, ⟨(some 14), (.load (some 4) (.tmp 13)), none⟩, ⟨(some 6), (.alloc [(.int .i64 0), (.int .i64 0),
  (.int .i64 0), (.int .i64 0)]), none⟩, ⟨(some 5), (.mv (.tmp 12)), none⟩, ⟨none, (.store 4 (.tmp 6) (.tmp 14)), none⟩]) (.seq (.region [⟨(some 15), (.load (some 4) (.tmp 6)),
  none⟩, ⟨(some 16), (.load (some 4) (.tmp 2)), none⟩, ⟨(some 17), (.eqf true true [.int, .int, .int, .int] (.tmp 15) (.tmp 16)), none⟩, ⟨(some 18), (.mv (.tmp 17)), none⟩, ⟨(some
  19), (.load none (.tmp 3)), (some (18, true))⟩, ⟨(some 20), (.faddr 0 (.tmp 6)), (some (18, true))⟩, ⟨(some 21), (.load none (.tmp 20)), (some (18, true))⟩, ⟨(some 22), (.call
  (.func 64) [(.tmp 19), (.tmp 21)]), (some (18, true))⟩, ⟨(some 23), (.pick (.tmp 18) (.tmp 22) (.const (.bool false))), none⟩, ⟨(some 24), (.mv (.tmp 23)), none⟩, ⟨(some 25),
  (.load none (.tmp 3)), (some (24, true))⟩, ⟨(some 26), (.faddr 1 (.tmp 6)), (some (24, true))⟩, ⟨(some 27), (.load none (.tmp 26)), (some (24, true))⟩, ⟨(some 28), (.call (.func
  64) [(.tmp 25), (.tmp 27)]), (some (24, true))⟩, ⟨(some 29), (.un .not (.tmp 28)), (some (24, true))⟩, ⟨(some 30), (.pick (.tmp 24) (.tmp 29) (.const (.bool false))), none⟩,
  ⟨(some 31), (.mv (.tmp 30)), none⟩, ⟨(some 32), (.mv (.tmp 0)), (some (31, true))⟩, ⟨(some 33), (.mv (.tmp 5)), (some (31, true))⟩, ⟨(some 34), (.load (some 4) (.tmp 6)), (some
  (31, true))⟩, ⟨(some 35), (.call (.tmp 32) [(.tmp 33), (.tmp 34)]), (some (31, true))⟩, ⟨(some 36), (.un .not (.tmp 35)), (some (31, true))⟩, ⟨(some 37), (.pick (.tmp 31) (.tmp
  36) (.const (.bool false))), none⟩]) (.cond (.tmp 37) .ret .skip)))) (.region [⟨(some 38), (.bin .add (.tmp 10) (.const (.int .i64 1))), none⟩, ⟨(some 10), (.mv (.tmp 38)),
  none⟩])))))))⟩
def af71 : AFn := ⟨19, [(.tmp 4)], (.seq (.region [⟨(some 4), (.mv (.const (.int .i64 0))), none⟩]) (.seq (.seq (.region [⟨(some 6), (.mv (.tmp 0)), none⟩, ⟨(some 7), (.len (.tmp 6)), none⟩, ⟨(some
  8), (.mv (.const (.int .i64 0))), none⟩]) (.block 0 (.loop (.seq (.region [⟨(some 9), (.bin .lss (.tmp 8) (.tmp 7)), none⟩]) (.seq (.cond (.tmp 9) .skip (.exit 0)) (.seq (.block
  1 (.seq (.region [⟨(some 10), (.mv (.tmp 8)), none⟩, ⟨(some 5), (.mv (.tmp 10)), none⟩]) (.seq (.region [⟨(some 11), (.mv (.tmp 1)), none⟩, ⟨(some 12), (.mv (.tmp 0)), none⟩,
  ⟨(some 13), (.mv (.tmp 5)), none⟩, ⟨(some 14), (.iaddrS 4 (.tmp 12) (.tmp 13)), none⟩, ⟨(some 15), (.load (some 4) (.tmp 14)), none⟩, ⟨(some 16), (.call (.tmp 11) [(.tmp 15)]),
  none⟩]) (.cond (.tmp 16) (.seq (.region [⟨(some 17), (.mv (.tmp 5)), none⟩, ⟨(some 4), (.mv (.tmp 17)), none⟩]) .ret) .skip)))) (.region [⟨(some 18), (.bin .add (.tmp 8) (.const
  (.int .i64 1))), none⟩, ⟨(some 8), (.mv (.tmp 18)), none⟩]))))))) (.seq (.region [⟨(some 4), (.mv (.const (.int .i64 (-1)))), none⟩]) .ret)))⟩
def af72 : AFn := ⟨9, [(.tmp 4)], (.seq (.region [⟨(some 4), (.mv (.const (.bool false))), none⟩]) (.seq (.region [⟨(some 5), (.mv (.tmp 0)), none⟩, ⟨(some 6), (.mv (.tmp 1)), none⟩, ⟨(some 7),
  (.call (.func 86) [(.tmp 5), (.tmp 6)]), none⟩, ⟨(some 8), (.bin .geq (.tmp 7) (.const (.int .i64 0))), none⟩, ⟨(some 4), (.mv (.tmp 8)), none⟩]) .ret))⟩
def af73 : AFn := ⟨13, [(.tmp 4)], (.seq (.region [⟨(some 4), (.mv (.const (.bool false))), none⟩]) (.seq (.region [⟨(some 5), (.mv (.tmp 0)), none⟩, ⟨(some 6), (.load none (.tmp 1)), none⟩, ⟨(some
  7), (.bin .lss (.tmp 5) (.tmp 6)), none⟩, ⟨(some 8), (.mv (.tmp 7)), none⟩, ⟨(some 9), (.mv (.tmp 0)), (some (8, false))⟩, ⟨(some 10), (.load none (.tmp 2)), (some (8, false))⟩,
  ⟨(some 11), (.bin .gtr (.tmp 9) (.tmp 10)), (some (8, false))⟩, ⟨(some 12), (.pick (.tmp 8) (.const (.bool true)) (.tmp 11)), none⟩, ⟨(some 4), (.mv (.tmp 12)), none⟩]) .ret))⟩
def af74 : AFn := ⟨45, [(.cell 2 (some 13))], (.seq (.region [⟨(some 2), (.alloc [(.int .i64 0), (.int .i64 0), (.int .i64 0), (.int .i64 0), (.int .i64 0), (.int .i64 0), (.int .i64 0), (.int .i64
  0), (.int .i64 0), (.int .i64 0), (.int .i64 0), (.int .i64 0), (.int .i64 0)]), none⟩]) (.seq (.region [⟨(some 3), (.alloc [(.int .i64 0), (.int .i64 0), (.int .i64 0), (.int
  .i64 0), (.int .i64 0), (.int .i64 0), (.int .i64 0), (.int .i64 0), (.int .i64 0), (.int .i64 0), (.int .i64 0), (.int .i64 0), (.int .i64 0)]), none⟩]) (.seq (.seq (.region
  [⟨(some 6), (.mv (.tmp 0)), none⟩, ⟨(some 7), (.nilchk (.tmp 6)), none⟩, ⟨(some 8), (.faddr 0 (.tmp 7)), none⟩, ⟨(some 9), (.faddr 1 (.tmp 8)), none⟩, ⟨(some 10), (.load none
  (.tmp 9)), none⟩, ⟨(some 11), (.len (.tmp 10)), none⟩, ⟨(some 12), (.mv (.const (.int .i64 0))), none⟩]) (.block 0 (.loop (.seq (.region [⟨(some 13), (.bin .lss (.tmp 12) (.tmp
  11)), none⟩]) (.seq (.cond (.tmp 13) .skip (.exit 0)) (.seq (.block 1 (.seq (.region [⟨(some 14), (.mv (.tmp 12)), none⟩, ⟨(some 15), (.iaddrS 4 (.tmp 10) (.tmp 12)), none⟩,
  ⟨(some 16), (.load (some 4) (.tmp 15)), none⟩, ⟨(some 5), (.alloc [(.int .i64 0), (.int .i64 0), (.int .i64 0), (.int .i64 0)]), none⟩, ⟨(some 4), (.mv (.tmp 14)), none⟩, ⟨none,
  (.store 4 (.tmp 5) (.tmp 16)), none⟩]) (.seq (.draw [⟨(some 17), (.faddr 1 (.tmp 5)), none⟩, ⟨(some 18), (.load none (.tmp 17)), none⟩, ⟨(some 19), (.iaddrA 13 1 (.tmp 3) (.tmp
  18)), none⟩, ⟨(some 20), (.load none (.tmp 19)), none⟩, ⟨(some 21), (.mv (.tmp 0)), none⟩, ⟨(some 22), (.nilchk (.tmp 21)), none⟩, ⟨(some 23), (.faddr 2 (.tmp 22)), none⟩,
  ⟨(some 24), (.load none (.tmp 23)), none⟩, ⟨(some 25), (.mv (.tmp 4)), none⟩, ⟨(some 26), (.iaddrS 1 (.tmp 24) (.tmp 25)), none⟩, ⟨(some 27), (.load none (.tmp 26)), none⟩,
  ⟨(some 28), (.bin .add (.tmp 20) (.tmp 27)), none⟩, ⟨(some 29), (.iaddrA 13 1 (.tmp 3) (.tmp 18)), none⟩, ⟨none, (.store 1 (.tmp 29) (.tmp 28)), none⟩] []) (.draw [⟨(some 30),
  (.faddr 0 (.tmp 5)), none⟩, ⟨(some 31), (.load none (.tmp 30)), none⟩, ⟨(some 32), (.iaddrA 13 1 (.tmp 3) (.tmp 31)), none⟩, ⟨(some 33), (.load none (.tmp 32)), none⟩, ⟨(some
  34), (.mv (.tmp 0)), none⟩, ⟨(some 35), (.nilchk (.tmp 34)), none⟩, ⟨(some 36), (.faddr 2 (.tmp 35)), none⟩, ⟨(some 37), (.load none (.tmp 36)), none⟩, ⟨(some 38), (.mv (.tmp
  4)), none⟩, ⟨(some 39), (.iaddrS 1 (.tmp 37) (.tmp 38)), none⟩, ⟨(some 40), (.load none (.tmp 39)), none⟩, ⟨(some 41), (.bin .sub (.tmp 33) (.tmp 40)), none⟩, ⟨(some 42),
  (.iaddrA 13 1 (.tmp 3) (.tmp 31)), none⟩, ⟨none, (.store 1 (.tmp 42) (.tmp 41)), none⟩] [])))) (.region [⟨(some 43), (.bin .add (.tmp 12) (.const (.int .i64 1))), none⟩, ⟨(some
  12), (.mv (.tmp 43)), none⟩]))))))) (.seq (.region [⟨(some 44), (.load (some 13) (.tmp 3)), none⟩, ⟨none, (.store 13 (.tmp 2) (.tmp 44)), none⟩]) .ret))))⟩
def af75 : AFn := ⟨19, [(.tmp 4)], (.seq (.region [⟨(some 4), (.mv (.const (.int .i64 0))), none⟩]) (.seq (.seq (.region [⟨(some 7), (.mv (.tmp 0)), none⟩, ⟨(some 8), (.len (.tmp 7)), none⟩, ⟨(some
  9), (.mv (.const (.int .i64 0))), none⟩]) (.block 0 (.loop (.seq (.region [⟨(some 10), (.bin .lss (.tmp 9) (.tmp 8)), none⟩]) (.seq (.cond (.tmp 10) .skip (.exit 0)) (.seq
  (.block 1 (.seq (.region [⟨(some 11), (.mv (.tmp 9)), none⟩, ⟨(some 12), (.iaddrS 1 (.tmp 7) (.tmp 9)), none⟩, ⟨(some 13), (.load none (.tmp 12)), none⟩, ⟨(some 5), (.mv (.tmp
  11)), none⟩, ⟨(some 6), (.mv (.tmp 13)), none⟩]) (.seq (.region [⟨(some 14), (.mv (.tmp 1)), none⟩, ⟨(some 15), (.mv (.tmp 6)), none⟩, ⟨(some 16), (.call (.tmp 14) [(.tmp 15)]),
  none⟩]) (.cond (.tmp 16) (.seq (.region [⟨(some 17), (.mv (.tmp 5)), none⟩, ⟨(some 4), (.mv (.tmp 17)), none⟩]) .ret) .skip)))) (.region [⟨(some 18), (.bin .add (.tmp 9) (.const
  (.int .i64 1))), none⟩, ⟨(some 9), (.mv (.tmp 18)), none⟩]))))))) (.seq (.region [⟨(some 4), (.mv (.const (.int .i64 (-1)))), none⟩]) .ret)))⟩
def af76 : AFn := ⟨5, [(.tmp 2)], (.seq (.region [⟨(some 2), (.mv (.const (.bool false))), none⟩]) (.seq (.region [⟨(some 3), (.mv (.tmp 0)), none⟩, ⟨(some 4), (.bin .gtr (.tmp 3) (.const (.int
  .i64 0))), none⟩, ⟨(some 2), (.mv (.tmp 4)), none⟩]) .ret))⟩
def af77 : AFn := ⟨8, [(.tmp 3)], (.seq (.region [⟨(some 3), (.mv (.const (.bool false))), none⟩]) (.seq (.region [⟨(some 4), (.mv (.tmp 0)), none⟩, ⟨(some 5), (.iaddrA 13 1 (.tmp 1) (.tmp 4)),
  none⟩, ⟨(some 6), (.load none (.tmp 5)), none⟩, ⟨(some 7), (.bin .lss (.tmp 6) (.const (.int .i64 0))), none⟩, ⟨(some 3), (.mv (.tmp 7)), none⟩]) .ret))⟩
def af78 : AFn := ⟨175, [(.tmp 10), (.tmp 11)], (.seq (.region [⟨(some 10), (.mv (.const (.int .i64 0))), none⟩, ⟨(some 11), (.mv (.const (.int .i64 0))), none⟩]) (.scope (.seq (.region [⟨(some 26),
   (.mv (.tmp 0)), none⟩, ⟨(some 27), (.nilchk (.tmp 26)), none⟩, ⟨(some 28), (.faddr 3 (.tmp 27)), none⟩, ⟨(some 29), (.slcA 13 1 (.tmp 28) none none none), none⟩, ⟨none, (.clrS
  [(.int .i64 0)] (.tmp 29)), none⟩]) (.seq (.region [⟨(some 30), .mkmap, none⟩, ⟨(some 12), (.mv (.tmp 30)), none⟩]) (.seq (.region [⟨(some 31), (.mv (.tmp 1)), none⟩, ⟨(some 32),
   (.bslice [(.int .i64 0)] 1 1 [(0, (1, (.tmp 31)))]), none⟩, ⟨(some 13), (.mv (.tmp 32)), none⟩]) (.seq (.region [⟨(some 33), (.mv (.tmp 0)), none⟩, ⟨(some 34), (.mv (.tmp 1)),
  none⟩, ⟨(some 35), (.nilchk (.tmp 33)), none⟩, ⟨(some 36), (.faddr 3 (.tmp 35)), none⟩, ⟨(some 37), (.iaddrA 13 1 (.tmp 36) (.tmp 34)), none⟩, ⟨none, (.store 1 (.tmp 37) (.const
  (.int .i64 1))), none⟩]) (.seq (.region [⟨(some 14), (.mv (.const (.int .i64 (-1)))), none⟩]) (.seq .skip (.seq (.block 0 (.loop (.seq (.seq (.region [⟨(some 38), (.mv (.tmp
  13)), none⟩, ⟨(some 39), (.len (.tmp 38)), none⟩, ⟨(some 40), (.bin .gtr (.tmp 39) (.const (.int .i64 0))), none⟩]) (.cond (.tmp 40) .skip (.exit 0))) (.block 1 (.seq (.region
  [⟨(some 41), (.mv (.tmp 13)), none⟩, ⟨(some 42), (.iaddrS 1 (.tmp 41) (.const (.int .i64 0))), none⟩, ⟨(some 43), (.load none (.tmp 42)), none⟩, ⟨(some 15), (.mv (.tmp 43)),
  none⟩]) (.seq (.region [⟨(some 44), (.mv (.tmp 13)), none⟩, ⟨(some 45), (.slc 1 (.tmp 44) (some (.const (.int .i64 1))) none none), none⟩, ⟨(some 13), (.mv (.tmp 45)), none⟩])
  (.seq (.seq (.region [⟨(some 46), (.mv (.tmp 4)), none⟩, ⟨(some 47), (.mv (.tmp 15)), none⟩, ⟨(some 48), (.call (.tmp 46) [(.tmp 47)]), none⟩]) (.cond (.tmp 48) (.seq (.region
  [⟨(some 49), (.mv (.tmp 15)), none⟩, ⟨(some 14), (.mv (.tmp 49)), none⟩]) (.exit 0)) .skip)) (.seq (.region [⟨(some 50), (.mv (.tmp 0)), none⟩, ⟨(some 51), (.nilchk (.tmp 50)),
  none⟩, ⟨(some 52), (.faddr 0 (.tmp 51)), none⟩, ⟨(some 53), (.faddr 1 (.tmp 52)), none⟩, ⟨(some 54), (.load none (.tmp 53)), none⟩, ⟨(some 55), (.len (.tmp 54)), none⟩, ⟨(some
  56), (.mv (.const (.int .i64 0))), none⟩]) (.block 2 (.loop (.seq (.region [⟨(some 57), (.bin .lss (.tmp 56) (.tmp 55)), none⟩]) (.seq (.cond (.tmp 57) .skip (.exit 2)) (.seq
  (.block 3 (.seq (.region [⟨(some 58), (.mv (.tmp 56)), none⟩, ⟨(some 16), (.mv (.tmp 58)), none⟩]) (.seq (.region [⟨(some 60), (.mv (.tmp 0)), none⟩, ⟨(some 61), (.mv (.tmp 16)),
   none⟩, ⟨(some 62), (.mv (.tmp 15)), none⟩, ⟨(some 63), (.call (.func 82) [(.tmp 60), (.tmp 61), (.tmp 62)]), none⟩, ⟨(some 59), (.mv (.tmp 63)), none⟩, ⟨(some 64), (.ext (.tmp
  59) 0), none⟩, ⟨(some 65), (.ext (.tmp 59) 1), none⟩, ⟨(some 17), (.mv (.tmp 64)), none⟩, ⟨(some 18), (.mv (.tmp 65)), none⟩]) (.seq (.region [⟨(some 66), (.mv (.tmp 16)), none⟩,
   ⟨(some 67), (.mv (.tmp 2)), none⟩, ⟨(some 68), (.bin .neq (.tmp 66) (.tmp 67)), none⟩, ⟨(some 69), (.mv (.tmp 68)), none⟩, ⟨(some 70), (.mv (.tmp 17)), (some (69, true))⟩,
  ⟨(some 71), (.bin .gtr (.tmp 70) (.const (.int .i64 0))), (some (69, true))⟩, ⟨(some 72), (.pick (.tmp 69) (.tmp 71) (.const (.bool false))), none⟩, ⟨(some 73), (.mv (.tmp 72)),
  none⟩, ⟨(some 74), (.mv (.tmp 0)), (some (73, true))⟩, ⟨(some 75), (.mv (.tmp 18)), (some (73, true))⟩, ⟨(some 76), (.nilchk (.tmp 74)), (some (73, true))⟩, ⟨(some 77), (.faddr
  3 (.tmp 76)), (some (73, true))⟩, ⟨(some 78), (.iaddrA 13 1 (.tmp 77) (.tmp 75)), (some (73, true))⟩, ⟨(some 79), (.load none (.tmp 78)), (some (73, true))⟩, ⟨(some 80), (.bin
  .eql (.tmp 79) (.const (.int .i64 0))), (some (73, true))⟩, ⟨(some 81), (.pick (.tmp 73) (.tmp 80) (.const (.bool false))), none⟩]) (.cond (.tmp 81) (.seq (.region [⟨(some 82),
  (.mv (.tmp 0)), none⟩, ⟨(some 83), (.mv (.tmp 18)), none⟩, ⟨(some 84), (.nilchk (.tmp 82)), none⟩, ⟨(some 85), (.faddr 3 (.tmp 84)), none⟩, ⟨(some 86), (.iaddrA 13 1 (.tmp 85)
  (.tmp 83)), none⟩, ⟨none, (.store 1 (.tmp 86) (.const (.int .i64 1))), none⟩]) (.seq (.region [⟨(some 87), (.mv (.tmp 12)), none⟩, ⟨(some 88), (.mv (.tmp 18)), none⟩, ⟨(some 89),
   (.mv (.tmp 16)), none⟩, ⟨(some 90), (.mv (.tmp 15)), none⟩, ⟨(some 91), (.build [(.int .i64 0), (.int .i64 0)] [(0, (1, (.tmp 89))), (1, (1, (.tmp 90)))]), none⟩, ⟨none,
  (.mapup false [.int] (.tmp 87) (.tmp 88) (.tmp 91)), none⟩]) (.region [⟨(some 92), (.mv (.tmp 13)), none⟩, ⟨(some 93), (.mv (.tmp 18)), none⟩, ⟨(some 94), (.bslice [(.int .i64
  0)] 1 1 [(0, (1, (.tmp 93)))]), none⟩, ⟨(some 95), (.app 1 8 (.tmp 92) (.tmp 94)), none⟩, ⟨(some 13), (.mv (.tmp 95)), none⟩]))) .skip))))) (.region [⟨(some 96), (.bin .add
  (.tmp 56) (.const (.int .i64 1))), none⟩, ⟨(some 56), (.mv (.tmp 96)), none⟩])))))))))))))) (.seq (.seq (.region [⟨(some 97), (.mv (.tmp 14)), none⟩, ⟨(some 98), (.bin .lss
  (.tmp 97) (.const (.int .i64 0))), none⟩]) (.cond (.tmp 98) (.seq (.region [⟨(some 10), (.mv (.const (.int .i64 0))), none⟩, ⟨(some 11), (.mv (.const (.int .i64 (-1)))), none⟩])
  .ret) .skip)) (.seq (.region [⟨(some 19), (.mv (.const (.slc none 0 0 true 0))), none⟩]) (.seq (.seq (.region [⟨(some 99), (.mv (.tmp 14)), none⟩, ⟨(some 20), (.mv (.tmp 99)),
  none⟩]) (.block 4 (.loop (.seq (.seq (.region [⟨(some 100), (.mv (.tmp 20)), none⟩, ⟨(some 101), (.mv (.tmp 1)), none⟩, ⟨(some 102), (.bin .neq (.tmp 100) (.tmp 101)), none⟩])
  (.cond (.tmp 102) .skip (.exit 4))) (.block 5 (.seq (.region [⟨(some 103), (.mv (.tmp 12)), none⟩, ⟨(some 104), (.mv (.tmp 20)), none⟩, ⟨(some 105), (.look false [.int] (.agg
  [(.int .i64 0), (.int .i64 0)]) (.tmp 103) (.tmp 104) false), none⟩, ⟨(some 21), (.alloc [(.int .i64 0), (.int .i64 0)]), none⟩, ⟨none, (.store 2 (.tmp 21) (.tmp 105)), none⟩])
  (.seq (.region [⟨(some 106), (.mv (.tmp 12)), none⟩, ⟨(some 107), (.mv (.tmp 20)), none⟩, ⟨none, (.del false [.int] (.tmp 106) (.tmp 107)), none⟩]) (.seq (.draw [⟨(some 108),
  (.mv (.tmp 19)), none⟩, ⟨(some 109), (.mv (.tmp 19)), none⟩, ⟨(some 110), (.len (.tmp 109)), none⟩, ⟨(some 111), (.mv (.tmp 19)), none⟩, ⟨(some 112), (.len (.tmp 111)), none⟩,
  ⟨(some 113), (.slc 2 (.tmp 108) none (some (.tmp 110)) (some (.tmp 112))), none⟩, ⟨(some 114), (.load (some 2) (.tmp 21)), none⟩, ⟨(some 115), (.bslice [(.int .i64 0), (.int
  .i64 0)] 1 2 [(0, (2, (.tmp 114)))]), none⟩, ⟨(some 116), (.app 2 16 (.tmp 113) (.tmp 115)), none⟩, ⟨(some 19), (.mv (.tmp 116)), none⟩] []) (.seq (.region [⟨(some 118), (.mv
  (.tmp 0)), none⟩, ⟨(some 119), (.faddr 0 (.tmp 21)), none⟩, ⟨(some 120), (.load none (.tmp 119)), none⟩, ⟨(some 121), (.faddr 1 (.tmp 21)), none⟩, ⟨(some 122), (.load none (.tmp
  121)), none⟩, ⟨(some 123), (.call (.func 82) [(.tmp 118), (.tmp 120), (.tmp 122)]), none⟩, ⟨(some 117), (.mv (.tmp 123)), none⟩, ⟨(some 124), (.ext (.tmp 117) 0), none⟩, ⟨(some
  125), (.ext (.tmp 117) 1), none⟩, ⟨(some 22), (.mv (.tmp 124)), none⟩, ⟨(some 23), (.mv (.tmp 125)), none⟩]) (.seq (.region [⟨(some 126), (.mv (.tmp 3)), none⟩, ⟨(some 127),
  (.mv (.tmp 22)), none⟩, ⟨(some 128), (.mnx false [(.tmp 126), (.tmp 127)]), none⟩, ⟨(some 3), (.mv (.tmp 128)), none⟩]) (.region [⟨(some 129), (.faddr 1 (.tmp 21)), none⟩,
  ⟨(some 130), (.load none (.tmp 129)), none⟩, ⟨(some 20), (.mv (.tmp 130)), none⟩]))))))))))) (.seq (.seq (.region [⟨(some 131), (.mv (.tmp 19)), none⟩, ⟨(some 132), (.len (.tmp
  131)), none⟩, ⟨(some 133), (.mv (.const (.int .i64 0))), none⟩]) (.block 6 (.loop (.seq (.region [⟨(some 134), (.bin .lss (.tmp 133) (.tmp 132)), none⟩]) (.seq (.cond (.tmp 134)
  .skip (.exit 6)) (.seq (.block 7 (.seq (.region [⟨(some 135), (.iaddrS 2 (.tmp 131) (.tmp 133)), none⟩, ⟨(some 136), (.load (some 2) (.tmp 135)), none⟩, ⟨(some 25), (.alloc
  [(.int .i64 0), (.int .i64 0)]), none⟩, ⟨none, (.store 2 (.tmp 25) (.tmp 136)), none⟩]) (.seq (.draw [⟨(some 137), (.mv (.tmp 0)), none⟩, ⟨(some 138), (.nilchk (.tmp 137)),
  none⟩, ⟨(some 139), (.faddr 0 (.tmp 138)), none⟩, ⟨(some 140), (.faddr 1 (.tmp 139)), none⟩, ⟨(some 141), (.load none (.tmp 140)), none⟩, ⟨(some 142), (.faddr 0 (.tmp 25)),
  none⟩, ⟨(some 143), (.load none (.tmp 142)), none⟩, ⟨(some 144), (.iaddrS 4 (.tmp 141) (.tmp 143)), none⟩, ⟨(some 145), (.faddr 0 (.tmp 144)), none⟩, ⟨(some 146), (.load none
  (.tmp 145)), none⟩, ⟨(some 147), (.faddr 1 (.tmp 25)), none⟩, ⟨(some 148), (.load none (.tmp 147)), none⟩, ⟨(some 149), (.bin .eql (.tmp 146) (.tmp 148)), none⟩] []) (.cond
  (.tmp 149) (.draw [⟨(some 150), (.mv (.tmp 0)), none⟩, ⟨(some 151), (.nilchk (.tmp 150)), none⟩, ⟨(some 152), (.faddr 2 (.tmp 151)), none⟩, ⟨(some 153), (.load none (.tmp 152)),
  none⟩, ⟨(some 154), (.faddr 0 (.tmp 25)), none⟩, ⟨(some 155), (.load none (.tmp 154)), none⟩, ⟨(some 156), (.iaddrS 1 (.tmp 153) (.tmp 155)), none⟩, ⟨(some 157), (.load none
  (.tmp 156)), none⟩, ⟨(some 158), (.mv (.tmp 3)), none⟩, ⟨(some 159), (.bin .add (.tmp 157) (.tmp 158)), none⟩, ⟨(some 160), (.iaddrS 1 (.tmp 153) (.tmp 155)), none⟩, ⟨none,
  (.store 1 (.tmp 160) (.tmp 159)), none⟩] []) (.draw [⟨(some 161), (.mv (.tmp 0)), none⟩, ⟨(some 162), (.nilchk (.tmp 161)), none⟩, ⟨(some 163), (.faddr 2 (.tmp 162)), none⟩,
  ⟨(some 164), (.load none (.tmp 163)), none⟩, ⟨(some 165), (.faddr 0 (.tmp 25)), none⟩, ⟨(some 166), (.load none (.tmp 165)), none⟩, ⟨(some 167), (.iaddrS 1 (.tmp 164) (.tmp
  166)), none⟩, ⟨(some 168), (.load none (.tmp 167)), none⟩, ⟨(some 169), (.mv (.tmp 3)), none⟩, ⟨(some 170), (.bin .sub (.tmp 168) (.tmp 169)), none⟩, ⟨(some 171), (.iaddrS 1
  (.tmp 164) (.tmp 166)), none⟩, ⟨none, (.store 1 (.tmp 171) (.tmp 170)), none⟩] []))))) (.region [⟨(some 172), (.bin .add (.tmp 133) (.const (.int .i64 1))), none⟩, ⟨(some 133),
  (.mv (.tmp 172)), none⟩]))))))) (.seq (.region [⟨(some 173), (.mv (.tmp 3)), none⟩, ⟨(some 174), (.mv (.tmp 14)), none⟩, ⟨(some 10), (.mv (.tmp 173)), none⟩, ⟨(some 11), (.mv
  (.tmp 174)), none⟩]) .ret))))))))))))))⟩
def af79 : AFn := ⟨26, [(.tmp 4)], (.seq (.region [⟨(some 4), (.mv (.const (.slc none 0 0 true 0))), none⟩]) (.seq (.region [⟨(some 5), (.mv (.const (.slc none 0 0 true 0))), none⟩]) (.seq (.seq
  (.region [⟨(some 7), (.mv (.tmp 0)), none⟩, ⟨(some 8), (.nilchk (.tmp 7)), none⟩, ⟨(some 9), (.faddr 0 (.tmp 8)), none⟩, ⟨(some 10), (.faddr 0 (.tmp 9)), none⟩, ⟨(some 11),
  (.load none (.tmp 10)), none⟩, ⟨(some 12), (.bin .add (.tmp 11) (.const (.int .i64 1))), none⟩, ⟨(some 13), (.mv (.const (.int .i64 0))), none⟩]) (.block 0 (.loop (.seq (.region
  [⟨(some 14), (.bin .lss (.tmp 13) (.tmp 12)), none⟩]) (.seq (.cond (.tmp 14) .skip (.exit 0)) (.seq (.block 1 (.seq (.region [⟨(some 15), (.mv (.tmp 13)), none⟩, ⟨(some 6), (.mv
  (.tmp 15)), none⟩]) (.seq (.region [⟨(some 16), (.mv (.tmp 1)), none⟩, ⟨(some 17), (.mv (.tmp 6)), none⟩, ⟨(some 18), (.call (.func 64) [(.tmp 16), (.tmp 17)]), none⟩, ⟨(some
  19), (.un .not (.tmp 18)), none⟩]) (.cond (.tmp 19) (.region [⟨(some 20), (.mv (.tmp 5)), none⟩, ⟨(some 21), (.mv (.tmp 6)), none⟩, ⟨(some 22), (.bslice [(.int .i64 0)] 1 1 [(0,
  (1, (.tmp 21)))]), none⟩, ⟨(some 23), (.app 1 8 (.tmp 20) (.tmp 22)), none⟩, ⟨(some 5), (.mv (.tmp 23)), none⟩]) .skip)))) (.region [⟨(some 24), (.bin .add (.tmp 13) (.const
  (.int .i64 1))), none⟩, ⟨(some 13), (.mv (.tmp 24)), none⟩]))))))) (.seq (.region [⟨(some 25), (.mv (.tmp 5)), none⟩, ⟨(some 4), (.mv (.tmp 25)), none⟩]) .ret))))⟩
def af80 : AFn := ⟨27, [(.tmp 2)], (.seq (.region [⟨(some 2), (.mv (.const (.slc none 0 0 true 0))), none⟩]) (.seq (.region [⟨(some 3), (.mv (.const (.slc none 0 0 true 0))), none⟩]) (.seq (.seq
  (.region [⟨(some 5), (.mv (.tmp 0)), none⟩, ⟨(some 6), (.nilchk (.tmp 5)), none⟩, ⟨(some 7), (.faddr 0 (.tmp 6)), none⟩, ⟨(some 8), (.faddr 0 (.tmp 7)), none⟩, ⟨(some 9), (.load
  none (.tmp 8)), none⟩, ⟨(some 10), (.bin .add (.tmp 9) (.const (.int .i64 1))), none⟩, ⟨(some 11), (.mv (.const (.int .i64 0))), none⟩]) (.block 0 (.loop (.seq (.region [⟨(some
  12), (.bin .lss (.tmp 11) (.tmp 10)), none⟩]) (.seq (.cond (.tmp 12) .skip (.exit 0)) (.seq (.block 1 (.seq (.region [⟨(some 13), (.mv (.tmp 11)), none⟩, ⟨(some 4), (.mv (.tmp
  13)), none⟩]) (.seq (.region [⟨(some 14), (.mv (.tmp 0)), none⟩, ⟨(some 15), (.mv (.tmp 4)), none⟩, ⟨(some 16), (.nilchk (.tmp 14)), none⟩, ⟨(some 17), (.faddr 3 (.tmp 16)),
  none⟩, ⟨(some 18), (.iaddrA 13 1 (.tmp 17) (.tmp 15)), none⟩, ⟨(some 19), (.load none (.tmp 18)), none⟩, ⟨(some 20), (.bin .eql (.tmp 19) (.const (.int .i64 1))), none⟩]) (.cond
  (.tmp 20) (.region [⟨(some 21), (.mv (.tmp 3)), none⟩, ⟨(some 22), (.mv (.tmp 4)), none⟩, ⟨(some 23), (.bslice [(.int .i64 0)] 1 1 [(0, (1, (.tmp 22)))]), none⟩, ⟨(some 24),
  (.app 1 8 (.tmp 21) (.tmp 23)), none⟩, ⟨(some 3), (.mv (.tmp 24)), none⟩]) .skip)))) (.region [⟨(some 25), (.bin .add (.tmp 11) (.const (.int .i64 1))), none⟩, ⟨(some 11), (.mv
  (.tmp 25)), none⟩]))))))) (.seq (.region [⟨(some 26), (.mv (.tmp 3)), none⟩, ⟨(some 2), (.mv (.tmp 26)), none⟩]) .ret))))⟩
def af81 : AFn := ⟨8, [(.tmp 2)], (.seq (.region [⟨(some 2), (.mv (.const (.slc none 0 0 true 0))), none⟩]) (.seq (.seq (.region [⟨(some 3), (.mv (.tmp 0)), none⟩, ⟨(some 4), (.eqn false 0 (.tmp 3)
  (.const (.slc none 0 0 true 0))), none⟩]) (.cond (.tmp 4) (.seq (.region [⟨(some 2), (.mv (.const (.slc none 0 0 true 0))), none⟩]) .ret) .skip)) (.seq (.region [⟨(some 5),
  (.bslice [] 0 1 []), none⟩, ⟨(some 6), (.mv (.tmp 0)), none⟩, ⟨(some 7), (.app 1 8 (.tmp 5) (.tmp 6)), none⟩, ⟨(some 2), (.mv (.tmp 7)), none⟩]) .ret)))⟩
def af82 : AFn := ⟨53, [(.tmp 6), (.tmp 7)], (.seq (.region [⟨(some 6), (.mv (.const (.int .i64 0))), none⟩, ⟨(some 7), (.mv (.const (.int .i64 0))), none⟩]) (.seq (.region [⟨(some 9), (.mv (.tmp
  0)), none⟩, ⟨(some 10), (.nilchk (.tmp 9)), none⟩, ⟨(some 11), (.faddr 0 (.tmp 10)), none⟩, ⟨(some 12), (.faddr 1 (.tmp 11)), none⟩, ⟨(some 13), (.load none (.tmp 12)), none⟩,
  ⟨(some 14), (.mv (.tmp 1)), none⟩, ⟨(some 15), (.iaddrS 4 (.tmp 13) (.tmp 14)), none⟩, ⟨(some 16), (.load (some 4) (.tmp 15)), none⟩, ⟨(some 8), (.alloc [(.int .i64 0), (.int
  .i64 0), (.int .i64 0), (.int .i64 0)]), none⟩, ⟨none, (.store 4 (.tmp 8) (.tmp 16)), none⟩]) (.seq (.seq (.region [⟨(some 17), (.mv (.tmp 2)), none⟩]) (.block 0 (.seq (.region
  [⟨(some 19), (.faddr 0 (.tmp 8)), none⟩, ⟨(some 20), (.load none (.tmp 19)), none⟩, ⟨(some 21), (.bin .eql (.tmp 17) (.tmp 20)), none⟩, ⟨(some 18), (.mv (.tmp 21)), none⟩])
  (.cond (.tmp 18) (.seq (.draw [⟨(some 22), (.faddr 2 (.tmp 8)), none⟩, ⟨(some 23), (.faddr 1 (.tmp 22)), none⟩, ⟨(some 24), (.load none (.tmp 23)), none⟩, ⟨(some 25), (.mv (.tmp
  0)), none⟩, ⟨(some 26), (.nilchk (.tmp 25)), none⟩, ⟨(some 27), (.faddr 2 (.tmp 26)), none⟩, ⟨(some 28), (.load none (.tmp 27)), none⟩, ⟨(some 29), (.mv (.tmp 1)), none⟩, ⟨(some
  30), (.iaddrS 1 (.tmp 28) (.tmp 29)), none⟩, ⟨(some 31), (.load none (.tmp 30)), none⟩, ⟨(some 32), (.bin .sub (.tmp 24) (.tmp 31)), none⟩, ⟨(some 33), (.faddr 1 (.tmp 8)),
  none⟩, ⟨(some 34), (.load none (.tmp 33)), none⟩, ⟨(some 6), (.mv (.tmp 32)), none⟩, ⟨(some 7), (.mv (.tmp 34)), none⟩] []) .ret) (.seq (.region [⟨(some 36), (.faddr 1 (.tmp 8)),
   none⟩, ⟨(some 37), (.load none (.tmp 36)), none⟩, ⟨(some 38), (.bin .eql (.tmp 17) (.tmp 37)), none⟩, ⟨(some 35), (.mv (.tmp 38)), none⟩]) (.cond (.tmp 35) (.seq (.draw [⟨(some
  39), (.mv (.tmp 0)), none⟩, ⟨(some 40), (.nilchk (.tmp 39)), none⟩, ⟨(some 41), (.faddr 2 (.tmp 40)), none⟩, ⟨(some 42), (.load none (.tmp 41)), none⟩, ⟨(some 43), (.mv (.tmp
  1)), none⟩, ⟨(some 44), (.iaddrS 1 (.tmp 42) (.tmp 43)), none⟩, ⟨(some 45), (.load none (.tmp 44)), none⟩, ⟨(some 46), (.faddr 2 (.tmp 8)), none⟩, ⟨(some 47), (.faddr 0 (.tmp
  46)), none⟩, ⟨(some 48), (.load none (.tmp 47)), none⟩, ⟨(some 49), (.bin .sub (.tmp 45) (.tmp 48)), none⟩, ⟨(some 50), (.faddr 0 (.tmp 8)), none⟩, ⟨(some 51), (.load none (.tmp
  50)), none⟩, ⟨(some 6), (.mv (.tmp 49)), none⟩, ⟨(some 7), (.mv (.tmp 51)), none⟩] []) .ret) .skip)))))) (.seq (.region [⟨(some 52), (.mv (.tmp 2)), none⟩, ⟨(some 6), (.mv
  (.const (.int .i64 0))), none⟩, ⟨(some 7), (.mv (.tmp 52)), none⟩]) .ret))))⟩
def af83 : AFn := ⟨7, [(.tmp 3)], (.seq (.region [⟨(some 3), (.mv (.const (.bool false))), none⟩]) (.seq (.region [⟨(some 4), (.mv (.tmp 0)), none⟩, ⟨(some 5), (.load none (.tmp 1)), none⟩, ⟨(some
  6), (.bin .eql (.tmp 4) (.tmp 5)), none⟩, ⟨(some 3), (.mv (.tmp 6)), none⟩]) .ret))⟩
def af84 : AFn := ⟨19, [(.tmp 4)], (.seq (.region [⟨(some 4), (.mv (.const (.int .i64 0))), none⟩]) (.seq (.seq (.region [⟨(some 6), (.mv (.tmp 0)), none⟩, ⟨(some 7), (.len (.tmp 6)), none⟩, ⟨(some
  8), (.mv (.const (.int .i64 0))), none⟩]) (.block 0 (.loop (.seq (.region [⟨(some 9), (.bin .lss (.tmp 8) (.tmp 7)), none⟩]) (.seq (.cond (.tmp 9) .skip (.exit 0)) (.seq (.block
  1 (.seq (.region [⟨(some 10), (.mv (.tmp 8)), none⟩, ⟨(some 5), (.mv (.tmp 10)), none⟩]) (.seq (.region [⟨(some 11), (.mv (.tmp 1)), none⟩, ⟨(some 12), (.mv (.tmp 0)), none⟩,
  ⟨(some 13), (.mv (.tmp 5)), none⟩, ⟨(some 14), (.iaddrS 1 (.tmp 12) (.tmp 13)), none⟩, ⟨(some 15), (.load none (.tmp 14)), none⟩, ⟨(some 16), (.bin .eql (.tmp 11) (.tmp 15)),
  none⟩]) (.cond (.tmp 16) (.seq (.region [⟨(some 17), (.mv (.tmp 5)), none⟩, ⟨(some 4), (.mv (.tmp 17)), none⟩]) .ret) .skip)))) (.region [⟨(some 18), (.bin .add (.tmp 8) (.const
  (.int .i64 1))), none⟩, ⟨(some 8), (.mv (.tmp 18)), none⟩]))))))) (.seq (.region [⟨(some 4), (.mv (.const (.int .i64 (-1)))), none⟩]) .ret)))⟩
def af85 : AFn := ⟨19, [(.tmp 4)], (.seq (.region [⟨(some 4), (.mv (.const (.int .i64 0))), none⟩]) (.seq (.seq (.region [⟨(some 6), (.mv (.tmp 0)), none⟩, ⟨(some 7), (.len (.tmp 6)), none⟩, ⟨(some
  8), (.mv (.const (.int .i64 0))), none⟩]) (.block 0 (.loop (.seq (.region [⟨(some 9), (.bin .lss (.tmp 8) (.tmp 7)), none⟩]) (.seq (.cond (.tmp 9) .skip (.exit 0)) (.seq (.block
  1 (.seq (.region [⟨(some 10), (.mv (.tmp 8)), none⟩, ⟨(some 5), (.mv (.tmp 10)), none⟩]) (.seq (.region [⟨(some 11), (.mv (.tmp 1)), none⟩, ⟨(some 12), (.mv (.tmp 0)), none⟩,
  ⟨(some 13), (.mv (.tmp 5)), none⟩, ⟨(some 14), (.iaddrS 2 (.tmp 12) (.tmp 13)), none⟩, ⟨(some 15), (.load (some 2) (.tmp 14)), none⟩, ⟨(some 16), (.call (.tmp 11) [(.tmp 15)]),
  none⟩]) (.cond (.tmp 16) (.seq (.region [⟨(some 17), (.mv (.tmp 5)), none⟩, ⟨(some 4), (.mv (.tmp 17)), none⟩]) .ret) .skip)))) (.region [⟨(some 18), (.bin .add (.tmp 8) (.const
  (.int .i64 1))), none⟩, ⟨(some 8), (.mv (.tmp 18)), none⟩]))))))) (.seq (.region [⟨(some 4), (.mv (.const (.int .i64 (-1)))), none⟩]) .ret)))⟩
def af86 : AFn := ⟨19, [(.tmp 4)], (.seq (.region [⟨(some 4), (.mv (.const (.int .i64 0))), none⟩]) (.seq (.seq (.region [⟨(some 6), (.mv (.tmp 0)), none⟩, ⟨(some 7), (.len (.tmp 6)), none⟩, ⟨(some
  8), (.mv (.const (.int .i64 0))), none⟩]) (.block 0 (.loop (.seq (.region [⟨(some 9), (.bin .lss (.tmp 8) (.tmp 7)), none⟩]) (.seq (.cond (.tmp 9) .skip (.exit 0)) (.seq (.block
  1 (.seq (.region [⟨(some 10), (.mv (.tmp 8)), none⟩, ⟨(some 5), (.mv (.tmp 10)), none⟩]) (.seq (.region [⟨(some 11), (.mv (.tmp 1)), none⟩, ⟨(some 12), (.mv (.tmp 0)), none⟩,
  ⟨(some 13), (.mv (.tmp 5)), none⟩, ⟨(some 14), (.iaddrS 1 (.tmp 12) (.tmp 13)), none⟩, ⟨(some 15), (.load none (.tmp 14)), none⟩, ⟨(some 16), (.call (.tmp 11) [(.tmp 15)]),
  none⟩]) (.cond (.tmp 16) (.seq (.region [⟨(some 17), (.mv (.tmp 5)), none⟩, ⟨(some 4), (.mv (.tmp 17)), none⟩]) .ret) .skip)))) (.region [⟨(some 18), (.bin .add (.tmp 8) (.const
  (.int .i64 1))), none⟩, ⟨(some 8), (.mv (.tmp 18)), none⟩]))))))) (.seq (.region [⟨(some 4), (.mv (.const (.int .i64 (-1)))), none⟩]) .ret)))⟩
def tblL : List (Nat × AFn) := [(3, af3), (4, af4), (5, af5), (6, af6), (7, af7), (8, af8), (9, af9), (10, af10), (11, af11), (12, af12), (13, af13), (14, af14), (15, af15), (16, af16), (17, af17), (18, af18), (19, af19), (20, af20), (21, af21), (22, af22), (23, af23), (24, af24), (25, af25), (26, af26), (27, af27), (28, af28), (29, af29), (30, af30), (31, af31), (32, af32), (33, af33), (34, af34), (35, af35), (36, af36), (37, af37), (38, af38), (39, af39), (40, af40), (41, af41), (42, af42), (43, af43), (44, af44), (45, af45), (46, af46), (47, af47), (48, af48), (49, af49), (50, af50), (51, af51), (52, af52), (53, af53), (54, af54), (55, af55), (56, af56), (57, af57), (58, af58), (59, af59), (60, af60), (61, af61), (62, af62), (63, af63), (64, af64), (65, af65), (66, af66), (67, af67), (68, af68), (69, af69), (70, af70), (71, af71), (72, af72), (73, af73), (74, af74), (75, af75), (76, af76), (77, af77), (78, af78), (79, af79), (80, af80), (81, af81), (82, af82), (83, af83), (84, af84), (85, af85), (86, af86)]
def tbl : Nat → Option AFn := look1 tblL
end Go.Ax
