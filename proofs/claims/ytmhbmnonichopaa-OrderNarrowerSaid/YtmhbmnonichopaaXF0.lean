/-
  The functions of the program as the abstract machine reads them. Written by gen_fns.py out of Lean's own reckoning of 'compF'.
-/
import Derived.Test.YtmhbmnonichopaaXMA
import Derived.Test.YtmhbmnonichopaaProg
namespace Go.Ax
open Go.Proofs
def af3 : AFn := ⟨71, [(.tmp 4)], (.seq (.region [.o 2 (.box (.t 0)), .o 4 (.mv (.const (.bool false)))]) (.seq (.seq (.region [.o 13 (.load (some 7) (.t 2)), .o 14 (.call (.func 14) [(.t 13)]),
  .m 15 14, ⟨(some 16), (.mv (.t 1)), (some (15, false))⟩, ⟨(some 17), (.len (.t 16)), (some (15, false))⟩, ⟨(some 18), (.bin .gtr (.t 17) (.const (.int .i64 40))), (some (15,
  false))⟩, .o 19 (.pick (.t 15) (.const (.bool true)) (.t 18))]) (.cond (.t 19) (.seq (.region [.o 20 (.call (.func 15) []), .m 4 20]) .ret) .skip)) (.seq (.region [.o 22 (.load
  (some 7) (.t 2)), .o 23 (.call (.func 16) [(.t 22)]), .m 21 23, .o 24 (.ext (.t 21) 0), .o 25 (.ext (.t 21) 1), .m 5 24, .m 6 25]) (.seq (.region [.o 27 (.load (some 7) (.t 2)),
  .o 28 (.call (.func 17) [(.t 27)]), .m 26 28, .o 29 (.ext (.t 26) 0), .o 30 (.ext (.t 26) 1), .m 7 29, .m 8 30]) (.seq (.region [.o 32 (.load (some 7) (.t 2)), .m 33 1, .o 34
  (.call (.func 18) [(.t 32), (.t 33)]), .m 31 34, .o 35 (.ext (.t 31) 0), .o 36 (.ext (.t 31) 1), .m 9 35, .m 10 36]) (.seq (.region [.o 38 (.load (some 7) (.t 2)), .m 39 1, .o
  40 (.call (.func 19) [(.t 38), (.t 39)]), .m 37 40, .o 41 (.ext (.t 37) 0), .o 42 (.ext (.t 37) 1), .m 11 41, .m 12 42]) (.seq (.draw [.o 43 (.load (some 7) (.t 2)), .o 44
  (.call (.func 20) [(.t 43)]), .o 45 (.load (some 7) (.t 2)), .o 46 (.call (.func 21) [(.t 45)]), .o 47 (.bin .eql (.t 44) (.t 46)), .m 48 47, ⟨(some 49), (.mv (.t 5)), (some (48,
   true))⟩, ⟨(some 50), (.mv (.t 7)), (some (48, true))⟩, ⟨(some 51), (.call (.func 22) [(.t 49), (.t 50)]), (some (48, true))⟩, .o 52 (.pick (.t 48) (.t 51) (.const (.bool
  false))), .m 53 52, ⟨(some 54), (.mv (.t 6)), (some (53, true))⟩, ⟨(some 55), (.mv (.t 8)), (some (53, true))⟩, ⟨(some 56), (.bin .eql (.t 54) (.t 55)), (some (53, true))⟩, .o
  57 (.pick (.t 53) (.t 56) (.const (.bool false))), .m 58 57, ⟨(some 59), (.mv (.t 9)), (some (58, true))⟩, ⟨(some 60), (.mv (.t 11)), (some (58, true))⟩, ⟨(some 61), (.bin .eql
  (.t 59) (.t 60)), (some (58, true))⟩, .o 62 (.pick (.t 58) (.t 61) (.const (.bool false))), .m 63 62, ⟨(some 64), (.mv (.t 10)), (some (63, true))⟩, ⟨(some 65), (.mv (.t 12)),
  (some (63, true))⟩, ⟨(some 66), (.bin .eql (.t 64) (.t 65)), (some (63, true))⟩, .o 67 (.pick (.t 63) (.t 66) (.const (.bool false))), .m 68 67, ⟨(some 69), (.call (.func 15)
  []), (some (68, true))⟩, .o 70 (.pick (.t 68) (.t 69) (.const (.bool false))), .m 4 70] [(1, 2)]) .ret)))))))⟩
def af4 : AFn := ⟨53, [(.tmp 8)], (.seq (.region [.o 4 (.box (.t 0)), .o 8 (.mv (.const (.bool false)))]) (.seq (.seq (.region [.o 13 (.load (some 7) (.t 4)), .o 14 (.call (.func 14) [(.t 13)]),
  .m 15 14, ⟨(some 16), (.mv (.t 1)), (some (15, false))⟩, ⟨(some 17), (.len (.t 16)), (some (15, false))⟩, ⟨(some 18), (.bin .gtr (.t 17) (.const (.int .i64 40))), (some (15,
  false))⟩, .o 19 (.pick (.t 15) (.const (.bool true)) (.t 18)), .m 20 19, ⟨(some 21), (.mv (.t 3)), (some (20, false))⟩, ⟨(some 22), (.len (.t 21)), (some (20, false))⟩, ⟨(some
  23), (.bin .gtr (.t 22) (.const (.int .i64 40))), (some (20, false))⟩, .o 24 (.pick (.t 20) (.const (.bool true)) (.t 23))]) (.cond (.t 24) (.seq (.region [.o 25 (.call (.func
  15) []), .m 8 25]) .ret) .skip)) (.seq (.region [.o 27 (.load (some 7) (.t 4)), .m 28 1, .m 29 2, .m 30 3, .o 31 (.call (.func 23) [(.t 27), (.t 28), (.t 29), (.t 30)]), .m 26
  31, .o 32 (.ext (.t 26) 0), .o 33 (.ext (.t 26) 1), .m 9 32, .m 10 33]) (.seq (.region [.o 35 (.load (some 7) (.t 4)), .m 36 1, .m 37 2, .m 38 3, .o 39 (.call (.func 24) [(.t
  35), (.t 36), (.t 37), (.t 38)]), .m 34 39, .o 40 (.ext (.t 34) 0), .o 41 (.ext (.t 34) 1), .m 11 40, .m 12 41]) (.seq (.region [.m 42 9, .m 43 11, .o 44 (.call (.func 25) [(.t
  42), (.t 43)]), .m 45 44, ⟨(some 46), (.mv (.t 10)), (some (45, true))⟩, ⟨(some 47), (.mv (.t 12)), (some (45, true))⟩, ⟨(some 48), (.bin .eql (.t 46) (.t 47)), (some (45,
  true))⟩, .o 49 (.pick (.t 45) (.t 48) (.const (.bool false))), .m 50 49, ⟨(some 51), (.call (.func 15) []), (some (50, true))⟩, .o 52 (.pick (.t 50) (.t 51) (.const (.bool
  false))), .m 8 52]) .ret)))))⟩
def af5 : AFn := ⟨73, [(.tmp 2)], (.seq (.region [.o 1 (.box (.t 0)), .o 2 (.mv (.const (.bool false)))]) (.seq (.seq (.region [.o 15 (.load (some 7) (.t 1)), .o 16 (.call (.func 14) [(.t 15)])])
  (.cond (.t 16) (.seq (.region [.o 17 (.call (.func 15) []), .m 2 17]) .ret) .skip)) (.seq (.region [.o 19 (.load (some 7) (.t 1)), .o 20 (.call (.func 26) [(.t 19)]), .m 18 20,
  .o 21 (.ext (.t 18) 0), .o 22 (.ext (.t 18) 1), .o 23 (.ext (.t 18) 2), .m 3 21, .m 4 22, .m 5 23]) (.seq (.region [.o 25 (.load (some 7) (.t 1)), .o 26 (.call (.func 27) [(.t
  25)]), .m 24 26, .o 27 (.ext (.t 24) 0), .o 28 (.ext (.t 24) 1), .o 29 (.ext (.t 24) 2), .m 6 27, .m 7 28, .m 8 29]) (.seq (.region [.o 31 (.load (some 7) (.t 1)), .o 32 (.call
  (.func 28) [(.t 31)]), .m 30 32, .o 33 (.ext (.t 30) 0), .o 34 (.ext (.t 30) 1), .o 35 (.ext (.t 30) 2), .m 9 33, .m 10 34, .m 11 35]) (.seq (.region [.o 37 (.load (some 7) (.t
  1)), .o 38 (.call (.func 29) [(.t 37)]), .m 36 38, .o 39 (.ext (.t 36) 0), .o 40 (.ext (.t 36) 1), .o 41 (.ext (.t 36) 2), .m 12 39, .m 13 40, .m 14 41]) (.seq (.region [.m 42 3,
   .m 43 6, .o 44 (.call (.func 30) [(.t 42), (.t 43)]), .m 45 44, ⟨(some 46), (.mv (.t 4)), (some (45, true))⟩, ⟨(some 47), (.mv (.t 7)), (some (45, true))⟩, ⟨(some 48), (.bin
  .eql (.t 46) (.t 47)), (some (45, true))⟩, .o 49 (.pick (.t 45) (.t 48) (.const (.bool false))), .m 50 49, ⟨(some 51), (.mv (.t 5)), (some (50, true))⟩, ⟨(some 52), (.mv (.t 8)),
   (some (50, true))⟩, ⟨(some 53), (.bin .eql (.t 51) (.t 52)), (some (50, true))⟩, .o 54 (.pick (.t 50) (.t 53) (.const (.bool false))), .m 55 54, ⟨(some 56), (.mv (.t 9)), (some
  (55, true))⟩, ⟨(some 57), (.mv (.t 12)), (some (55, true))⟩, ⟨(some 58), (.bin .eql (.t 56) (.t 57)), (some (55, true))⟩, .o 59 (.pick (.t 55) (.t 58) (.const (.bool false))),
  .m 60 59, ⟨(some 61), (.mv (.t 10)), (some (60, true))⟩, ⟨(some 62), (.mv (.t 13)), (some (60, true))⟩, ⟨(some 63), (.bin .eql (.t 61) (.t 62)), (some (60, true))⟩, .o 64 (.pick
  (.t 60) (.t 63) (.const (.bool false))), .m 65 64, ⟨(some 66), (.mv (.t 11)), (some (65, true))⟩, ⟨(some 67), (.mv (.t 14)), (some (65, true))⟩, ⟨(some 68), (.bin .eql (.t 66)
  (.t 67)), (some (65, true))⟩, .o 69 (.pick (.t 65) (.t 68) (.const (.bool false))), .m 70 69, ⟨(some 71), (.call (.func 15) []), (some (70, true))⟩, .o 72 (.pick (.t 70) (.t 71)
  (.const (.bool false))), .m 2 72]) .ret)))))))⟩
def af6 : AFn := ⟨82, [(.tmp 4)], (.seq (.region [.o 2 (.box (.t 0)), .o 4 (.mv (.const (.bool false)))]) (.seq (.seq (.region [.o 16 (.load (some 7) (.t 2)), .o 17 (.call (.func 14) [(.t 16)]),
  .m 18 17, ⟨(some 19), (.mv (.t 1)), (some (18, false))⟩, ⟨(some 20), (.len (.t 19)), (some (18, false))⟩, ⟨(some 21), (.bin .gtr (.t 20) (.const (.int .i64 40))), (some (18,
  false))⟩, .o 22 (.pick (.t 18) (.const (.bool true)) (.t 21))]) (.cond (.t 22) (.seq (.region [.o 23 (.call (.func 15) []), .m 4 23]) .ret) .skip)) (.seq (.region [.o 25 (.load
  (some 7) (.t 2)), .m 26 1, .o 27 (.call (.func 31) [(.t 25), (.t 26)]), .m 24 27, .o 28 (.ext (.t 24) 0), .o 29 (.ext (.t 24) 1), .m 5 28, .m 6 29]) (.seq (.region [.o 31 (.load
  (some 7) (.t 2)), .m 32 1, .o 33 (.call (.func 32) [(.t 31), (.t 32)]), .m 30 33, .o 34 (.ext (.t 30) 0), .o 35 (.ext (.t 30) 1), .m 7 34, .m 8 35]) (.seq (.seq (.region [.m 36
  5, .m 37 7, .o 38 (.bin .neq (.t 36) (.t 37)), .m 39 38, ⟨(some 40), (.mv (.t 6)), (some (39, false))⟩, ⟨(some 41), (.mv (.t 8)), (some (39, false))⟩, ⟨(some 42), (.bin .neq (.t
  40) (.t 41)), (some (39, false))⟩, .o 43 (.pick (.t 39) (.const (.bool true)) (.t 42))]) (.cond (.t 43) (.seq (.region [.o 4 (.mv (.const (.bool false)))]) .ret) .skip)) (.seq
  (.region [.o 45 (.load (some 7) (.t 2)), .o 46 (.call (.func 33) [(.t 45)]), .m 44 46, .o 47 (.ext (.t 44) 0), .o 48 (.ext (.t 44) 1), .m 9 47, .m 10 48]) (.seq (.region [.o 50
  (.load (some 7) (.t 2)), .o 51 (.call (.func 27) [(.t 50)]), .m 49 51, .o 52 (.ext (.t 49) 0), .o 53 (.ext (.t 49) 1), .o 54 (.ext (.t 49) 2), .m 11 52, .m 12 53, .m 13 54])
  (.seq (.seq (.region [.m 55 10, .m 56 13, .o 57 (.bin .neq (.t 55) (.t 56))]) (.cond (.t 57) (.seq (.region [.o 4 (.mv (.const (.bool false)))]) .ret) .skip)) (.seq (.seq
  (.region [.m 58 10, .o 59 (.bin .neq (.t 58) (.const (.int .i64 0)))]) (.cond (.t 59) (.seq (.region [.m 60 9, .o 61 (.len (.t 60)), .o 62 (.bin .eql (.t 61) (.const (.int .i64
  0))), .m 63 62, ⟨(some 64), (.call (.func 15) []), (some (63, true))⟩, .o 65 (.pick (.t 63) (.t 64) (.const (.bool false))), .m 4 65]) .ret) .skip)) (.seq (.region [.o 67 (.load
  (some 7) (.t 2)), .m 68 9, .o 69 (.call (.func 32) [(.t 67), (.t 68)]), .m 66 69, .o 70 (.ext (.t 66) 0), .o 71 (.ext (.t 66) 1), .m 14 70, .m 15 71]) (.seq (.region [.m 72 15,
  .o 73 (.bin .eql (.t 72) (.const (.int .i64 0))), .m 74 73, ⟨(some 75), (.mv (.t 14)), (some (74, true))⟩, ⟨(some 76), (.mv (.t 12)), (some (74, true))⟩, ⟨(some 77), (.bin .eql
  (.t 75) (.t 76)), (some (74, true))⟩, .o 78 (.pick (.t 74) (.t 77) (.const (.bool false))), .m 79 78, ⟨(some 80), (.call (.func 15) []), (some (79, true))⟩, .o 81 (.pick (.t 79)
  (.t 80) (.const (.bool false))), .m 4 81]) .ret)))))))))))⟩
def af7 : AFn := ⟨248, [(.tmp 8)], (.seq (.region [.o 4 (.box (.t 0)), .o 8 (.mv (.const (.bool false)))]) (.seq (.seq (.region [.o 31 (.load (some 7) (.t 4)), .o 32 (.call (.func 34) [(.t 31)]),
  .o 33 (.un .not (.t 32)), .m 34 33, ⟨(some 35), (.mv (.t 1)), (some (34, false))⟩, ⟨(some 36), (.len (.t 35)), (some (34, false))⟩, ⟨(some 37), (.bin .gtr (.t 36) (.const (.int
  .i64 40))), (some (34, false))⟩, .o 38 (.pick (.t 34) (.const (.bool true)) (.t 37)), .m 39 38, ⟨(some 40), (.mv (.t 2)), (some (39, false))⟩, ⟨(some 41), (.len (.t 40)), (some
  (39, false))⟩, ⟨(some 42), (.bin .gtr (.t 41) (.const (.int .i64 60))), (some (39, false))⟩, .o 43 (.pick (.t 39) (.const (.bool true)) (.t 42)), .m 44 43, ⟨(some 45), (.mv (.t
  3)), (some (44, false))⟩, ⟨(some 46), (.len (.t 45)), (some (44, false))⟩, ⟨(some 47), (.bin .gtr (.t 46) (.const (.int .i64 40))), (some (44, false))⟩, .o 48 (.pick (.t 44)
  (.const (.bool true)) (.t 47))]) (.cond (.t 48) (.seq (.region [.o 49 (.call (.func 15) []), .m 8 49]) .ret) .skip)) (.seq (.region [.o 51 (.load (some 7) (.t 4)), .o 52 (.call
  (.func 26) [(.t 51)]), .m 50 52, .o 53 (.ext (.t 50) 0), .o 54 (.ext (.t 50) 1), .o 55 (.ext (.t 50) 2), .m 9 53, .m 10 54, .m 11 55]) (.seq (.region [.o 56 (.load (some 7) (.t
  4)), .m 57 1, .o 58 (.call (.func 35) [(.t 56), (.t 57)]), .m 59 3, .m 60 9, .o 61 (.bslice [(.slc none 0 0 true 0), (.slc none 0 0 true 0), (.slc none 0 0 true 0)] 3 1 [(0, (1,
  (.t 58))), (1, (1, (.t 59))), (2, (1, (.t 60)))]), .m 12 61]) (.seq (.region [.o 63 (.load (some 7) (.t 4)), .m 64 2, .o 65 (.call (.func 36) [(.t 63), (.t 64)]), .m 62 65, .o
  66 (.ext (.t 62) 0), .o 67 (.ext (.t 62) 1), .m 13 66, .m 14 67]) (.seq (.region [.o 15 (.mv (.const (.slc none 0 0 true 0))), .o 16 (.mv (.const (.slc none 0 0 true 0)))])
  (.seq (.seq (.region [.o 17 (.mv (.const (.int .i64 0)))]) (.block 0 (.loop (.seq (.seq (.region [.m 68 17, .o 69 (.faddr 5 (.t 4)), .l 70 69, .o 71 (.len (.t 70)), .o 72 (.bin
  .lss (.t 68) (.t 71))]) (.cond (.t 72) .skip (.exit 0))) (.seq (.block 1 (.draw [.m 75 15, .o 76 (.faddr 5 (.t 4)), .l 77 76, .m 78 17, .o 79 (.iaddrS 2 (.t 77) (.t 78)), .o 80
  (.faddr 0 (.t 79)), .l 81 80, .o 82 (.bslice [(.int .i64 0)] 1 1 [(0, (1, (.t 81)))]), .o 83 (.app 1 8 (.t 75) (.t 82)), .m 84 16, .o 85 (.faddr 5 (.t 4)), .l 86 85, .m 87 17,
  .o 88 (.iaddrS 2 (.t 86) (.t 87)), .o 89 (.faddr 1 (.t 88)), .l 90 89, .o 91 (.bslice [(.int .i64 0)] 1 1 [(0, (1, (.t 90)))]), .o 92 (.app 1 8 (.t 84) (.t 91)), .m 15 83, .m 16
  92] [(7, 11), (8, 11), (7, 15), (8, 15), (2, 16), (6, 16), (7, 16), (8, 16)])) (.region [.m 73 17, .o 74 (.bin .add (.t 73) (.const (.int .i64 1))), .m 17 74])))))) (.seq (.seq
  (.region [.m 93 11, .o 94 (.bin .eql (.t 93) (.const (.int .i64 0))), .m 95 94, ⟨(some 96), (.load (some 7) (.t 4)), (some (95, true))⟩, ⟨(some 97), (.call (.func 21) [(.t 96)]),
   (some (95, true))⟩, ⟨(some 98), (.bin .eql (.t 97) (.const (.int .i64 0))), (some (95, true))⟩, .o 99 (.pick (.t 95) (.t 98) (.const (.bool false)))]) (.cond (.t 99) (.seq
  (.region [.o 101 (.load (some 7) (.t 4)), .m 102 9, .o 103 (.call (.func 18) [(.t 101), (.t 102)]), .m 100 103, .o 104 (.ext (.t 100) 0), .o 105 (.ext (.t 100) 1), .m 18 104, .m
  19 105]) (.seq (.region [.m 106 19, .o 107 (.bin .neq (.t 106) (.const (.int .i64 0)))]) (.cond (.t 107) (.seq (.region [.o 8 (.mv (.const (.bool false)))]) .ret) .skip)))
  .skip)) (.seq (.seq (.region [.o 20 (.mv (.const (.int .i64 0)))]) (.block 2 (.loop (.seq (.seq (.region [.m 108 20, .o 109 (.bin .lss (.t 108) (.const (.int .i64 3)))]) (.cond
  (.t 109) .skip (.exit 2))) (.seq (.block 3 (.seq (.draw [.o 113 (.load (some 7) (.t 4)), .m 114 12, .m 115 20, .o 116 (.iaddrS 1 (.t 114) (.t 115)), .l 117 116, .o 118 (.call
  (.func 18) [(.t 113), (.t 117)]), .m 112 118, .o 119 (.ext (.t 112) 0), .o 120 (.ext (.t 112) 1), .m 21 119, .m 22 120] []) (.seq (.seq (.region [.m 121 22, .o 122 (.bin .eql
  (.t 121) (.const (.int .i64 0)))]) (.cond (.t 122) (.seq (.draw [.o 124 (.load (some 7) (.t 4)), .m 125 12, .m 126 20, .o 127 (.iaddrS 1 (.t 125) (.t 126)), .l 128 127, .m 129
  13, .m 130 14, .o 131 (.call (.func 23) [(.t 124), (.t 128), (.t 129), (.t 130)]), .m 123 131, .o 132 (.ext (.t 123) 0), .o 133 (.ext (.t 123) 1), .m 23 132, .m 24 133] [])
  (.seq (.seq (.region [.m 134 24, .o 135 (.bin .neq (.t 134) (.const (.int .i64 0))), .m 136 135, ⟨(some 137), (.mv (.t 23)), (some (136, false))⟩, ⟨(some 138), (.len (.t 137)),
  (some (136, false))⟩, ⟨(some 139), (.faddr 5 (.t 4)), (some (136, false))⟩, ⟨(some 140), (.load none (.t 139)), (some (136, false))⟩, ⟨(some 141), (.len (.t 140)), (some (136,
  false))⟩, ⟨(some 142), (.bin .neq (.t 138) (.t 141)), (some (136, false))⟩, .o 143 (.pick (.t 136) (.const (.bool true)) (.t 142)), .m 144 143, ⟨(some 145), (.mv (.t 12)), (some
  (144, false))⟩, ⟨(some 146), (.mv (.t 20)), (some (144, false))⟩, ⟨(some 147), (.iaddrS 1 (.t 145) (.t 146)), (some (144, false))⟩, ⟨(some 148), (.load none (.t 147)), (some
  (144, false))⟩, ⟨(some 149), (.len (.t 148)), (some (144, false))⟩, ⟨(some 150), (.mv (.t 23)), (some (144, false))⟩, ⟨(some 151), (.len (.t 150)), (some (144, false))⟩, ⟨(some
  152), (.bin .neq (.t 149) (.t 151)), (some (144, false))⟩, .o 153 (.pick (.t 144) (.const (.bool true)) (.t 152))]) (.cond (.t 153) (.seq (.region [.o 8 (.mv (.const (.bool
  false)))]) .ret) .skip)) (.seq (.region [.m 154 13, .m 25 154]) (.seq (.region [.o 26 (.mv (.const (.int .i64 0)))]) (.block 4 (.loop (.seq (.seq (.region [.m 155 26, .m 156 23,
  .o 157 (.len (.t 156)), .o 158 (.bin .lss (.t 155) (.t 157))]) (.cond (.t 158) .skip (.exit 4))) (.seq (.block 5 (.seq (.draw [.m 161 25, .m 162 12, .m 163 20, .o 164 (.iaddrS 1
  (.t 162) (.t 163)), .l 165 164, .m 166 26, .o 167 (.iaddrS 1 (.t 165) (.t 166)), .l 168 167, .o 169 (.faddr 1 (.t 4)), .l 170 169, .o 171 (.bin .mul (.t 168) (.t 170)), .o 172
  (.bin .add (.t 161) (.t 171)), .m 25 172] []) (.seq (.seq (.draw [.m 173 25, .o 174 (.faddr 0 (.t 4)), .l 175 174, .o 176 (.bin .gtr (.t 173) (.t 175)), .m 177 176, ⟨(some 178),
  (.mv (.t 25)), (some (177, false))⟩, ⟨(some 179), (.mv (.t 14)), (some (177, false))⟩, ⟨(some 180), (.mv (.t 26)), (some (177, false))⟩, ⟨(some 181), (.iaddrS 1 (.t 179) (.t
  180)), (some (177, false))⟩, ⟨(some 182), (.load none (.t 181)), (some (177, false))⟩, ⟨(some 183), (.bin .sub (.t 178) (.t 182)), (some (177, false))⟩, ⟨(some 184), (.mv (.t
  23)), (some (177, false))⟩, ⟨(some 185), (.mv (.t 26)), (some (177, false))⟩, ⟨(some 186), (.iaddrS 1 (.t 184) (.t 185)), (some (177, false))⟩, ⟨(some 187), (.load none (.t
  186)), (some (177, false))⟩, ⟨(some 188), (.bin .neq (.t 183) (.t 187)), (some (177, false))⟩, .o 189 (.pick (.t 177) (.const (.bool true)) (.t 188)), .m 190 189, ⟨(some 191),
  (.mv (.t 23)), (some (190, false))⟩, ⟨(some 192), (.mv (.t 26)), (some (190, false))⟩, ⟨(some 193), (.iaddrS 1 (.t 191) (.t 192)), (some (190, false))⟩, ⟨(some 194), (.load none
  (.t 193)), (some (190, false))⟩, ⟨(some 195), (.bin .lss (.t 194) (.const (.int .i64 0))), (some (190, false))⟩, .o 196 (.pick (.t 190) (.const (.bool true)) (.t 195))] [])
  (.cond (.t 196) (.seq (.region [.o 8 (.mv (.const (.bool false)))]) .ret) .skip)) (.region [.m 197 23, .m 198 26, .o 199 (.iaddrS 1 (.t 197) (.t 198)), .l 200 199, .m 25
  200])))) (.region [.m 159 26, .o 160 (.bin .add (.t 159) (.const (.int .i64 1))), .m 26 160]))))))))) .skip)) (.seq (.region [.m 201 22, .o 202 (.bin .eql (.t 201) (.const (.int
  .i64 10))), .m 203 202, ⟨(some 204), (.mv (.t 22)), (some (203, false))⟩, ⟨(some 205), (.bin .eql (.t 204) (.const (.int .i64 20))), (some (203, false))⟩, .o 206 (.pick (.t 203)
  (.const (.bool true)) (.t 205))]) (.cond (.t 206) (.seq (.draw [.o 208 (.load (some 7) (.t 4)), .m 209 12, .m 210 20, .o 211 (.iaddrS 1 (.t 209) (.t 210)), .l 212 211, .o 213
  (.faddr 3 (.t 4)), .o 214 (.faddr 1 (.t 213)), .l 215 214, .m 216 15, .o 217 (.call (.func 23) [(.t 208), (.t 212), (.t 215), (.t 216)]), .m 207 217, .o 218 (.ext (.t 207) 0),
  .o 219 (.ext (.t 207) 1), .m 27 218, .m 28 219] []) (.seq (.draw [.o 221 (.load (some 7) (.t 4)), .m 222 12, .m 223 20, .o 224 (.iaddrS 1 (.t 222) (.t 223)), .l 225 224, .o 226
  (.faddr 3 (.t 4)), .o 227 (.faddr 0 (.t 226)), .l 228 227, .m 229 16, .o 230 (.call (.func 23) [(.t 221), (.t 225), (.t 228), (.t 229)]), .m 220 230, .o 231 (.ext (.t 220) 0),
  .o 232 (.ext (.t 220) 1), .m 29 231, .m 30 232] []) (.seq (.region [.m 233 22, .o 234 (.bin .eql (.t 233) (.const (.int .i64 10))), .m 235 234, ⟨(some 236), (.mv (.t 28)), (some
  (235, true))⟩, ⟨(some 237), (.bin .neq (.t 236) (.const (.int .i64 10))), (some (235, true))⟩, .o 238 (.pick (.t 235) (.t 237) (.const (.bool false))), .m 239 238, ⟨(some 240),
  (.mv (.t 22)), (some (239, false))⟩, ⟨(some 241), (.bin .eql (.t 240) (.const (.int .i64 20))), (some (239, false))⟩, ⟨(some 242), (.mv (.t 241)), (some (239, false))⟩, ⟨(some
  243), (.mv (.t 30)), (some (242, true))⟩, ⟨(some 244), (.bin .neq (.t 243) (.const (.int .i64 20))), (some (242, true))⟩, ⟨(some 245), (.pick (.t 242) (.t 244) (.const (.bool
  false))), (some (239, false))⟩, .o 246 (.pick (.t 239) (.const (.bool true)) (.t 245))]) (.cond (.t 246) (.seq (.region [.o 8 (.mv (.const (.bool false)))]) .ret) .skip))))
  .skip))))) (.region [.m 110 20, .o 111 (.bin .add (.t 110) (.const (.int .i64 1))), .m 20 111])))))) (.seq (.region [.o 247 (.call (.func 15) []), .m 8 247]) .ret))))))))))⟩
def af8 : AFn := ⟨201, [(.tmp 8)], (.seq (.region [.o 4 (.box (.t 0)), .o 8 (.mv (.const (.bool false)))]) (.seq (.seq (.region [.o 29 (.load (some 7) (.t 4)), .o 30 (.call (.func 34) [(.t 29)]),
  .o 31 (.un .not (.t 30)), .m 32 31, ⟨(some 33), (.mv (.t 1)), (some (32, false))⟩, ⟨(some 34), (.len (.t 33)), (some (32, false))⟩, ⟨(some 35), (.bin .gtr (.t 34) (.const (.int
  .i64 40))), (some (32, false))⟩, .o 36 (.pick (.t 32) (.const (.bool true)) (.t 35)), .m 37 36, ⟨(some 38), (.mv (.t 2)), (some (37, false))⟩, ⟨(some 39), (.len (.t 38)), (some
  (37, false))⟩, ⟨(some 40), (.bin .gtr (.t 39) (.const (.int .i64 40))), (some (37, false))⟩, .o 41 (.pick (.t 37) (.const (.bool true)) (.t 40)), .m 42 41, ⟨(some 43), (.mv (.t
  3)), (some (42, false))⟩, ⟨(some 44), (.len (.t 43)), (some (42, false))⟩, ⟨(some 45), (.bin .gtr (.t 44) (.const (.int .i64 60))), (some (42, false))⟩, .o 46 (.pick (.t 42)
  (.const (.bool true)) (.t 45))]) (.cond (.t 46) (.seq (.region [.o 47 (.call (.func 15) []), .m 8 47]) .ret) .skip)) (.seq (.region [.o 9 (.mv (.const (.slc none 0 0 true 0)))])
  (.seq (.seq (.region [.o 10 (.mv (.const (.int .i64 0)))]) (.block 0 (.loop (.seq (.seq (.region [.m 48 10, .o 49 (.faddr 5 (.t 4)), .l 50 49, .o 51 (.len (.t 50)), .o 52 (.bin
  .lss (.t 48) (.t 51))]) (.cond (.t 52) .skip (.exit 0))) (.seq (.block 1 (.seq (.region [.o 11 (.mv (.const (.int .i64 0)))]) (.seq (.seq (.region [.m 55 3, .o 56 (.len (.t 55)),
   .o 57 (.bin .gtr (.t 56) (.const (.int .i64 0)))]) (.cond (.t 57) (.region [.m 58 3, .m 59 10, .m 60 3, .o 61 (.len (.t 60)), .o 62 (.bin .rem (.t 59) (.t 61)), .o 63 (.iaddrS
  1 (.t 58) (.t 62)), .l 64 63, .o 65 (.conv .i64 (.t 64)), .o 66 (.bin .rem (.t 65) (.const (.int .i64 100001))), .m 11 66]) .skip)) (.region [.m 67 9, .m 68 11, .o 69 (.bslice
  [(.int .i64 0)] 1 1 [(0, (1, (.t 68)))]), .o 70 (.app 1 8 (.t 67) (.t 69)), .m 9 70])))) (.region [.m 53 10, .o 54 (.bin .add (.t 53) (.const (.int .i64 1))), .m 10 54]))))))
  (.seq (.region [.o 72 (.load (some 7) (.t 4)), .m 73 9, .o 74 (.call (.func 31) [(.t 72), (.t 73)]), .m 71 74, .o 75 (.ext (.t 71) 0), .o 76 (.ext (.t 71) 1), .m 12 75, .m 13
  76]) (.seq (.region [.o 78 (.load (some 7) (.t 4)), .o 79 (.call (.func 26) [(.t 78)]), .m 77 79, .o 80 (.ext (.t 77) 0), .o 81 (.ext (.t 77) 1), .o 82 (.ext (.t 77) 2), .m 14
  80, .m 15 81, .m 16 82]) (.seq (.seq (.region [.m 83 13, .o 84 (.bin .neq (.t 83) (.const (.int .i64 0))), .m 85 84, ⟨(some 86), (.mv (.t 16)), (some (85, false))⟩, ⟨(some 87),
  (.bin .neq (.t 86) (.const (.int .i64 0))), (some (85, false))⟩, ⟨(some 88), (.mv (.t 87)), (some (85, false))⟩, ⟨(some 89), (.mv (.t 16)), (some (88, true))⟩, ⟨(some 90), (.bin
  .neq (.t 89) (.const (.int .i64 13))), (some (88, true))⟩, ⟨(some 91), (.pick (.t 88) (.t 90) (.const (.bool false))), (some (85, false))⟩, .o 92 (.pick (.t 85) (.const (.bool
  true)) (.t 91))]) (.cond (.t 92) (.seq (.region [.o 8 (.mv (.const (.bool false)))]) .ret) .skip)) (.seq (.region [.o 93 (.load (some 7) (.t 4)), .m 94 1, .o 95 (.call (.func
  35) [(.t 93), (.t 94)]), .m 96 2, .o 97 (.bslice [(.slc none 0 0 true 0), (.slc none 0 0 true 0)] 2 1 [(0, (1, (.t 95))), (1, (1, (.t 96)))]), .m 17 97]) (.seq (.seq (.region
  [.o 18 (.mv (.const (.int .i64 0)))]) (.block 2 (.loop (.seq (.seq (.region [.m 98 18, .o 99 (.bin .lss (.t 98) (.const (.int .i64 2)))]) (.cond (.t 99) .skip (.exit 2))) (.seq
  (.block 3 (.seq (.draw [.o 103 (.load (some 7) (.t 4)), .m 104 17, .m 105 18, .o 106 (.iaddrS 1 (.t 104) (.t 105)), .l 107 106, .o 108 (.call (.func 18) [(.t 103), (.t 107)]),
  .m 102 108, .o 109 (.ext (.t 102) 0), .o 110 (.ext (.t 102) 1), .m 19 109, .m 20 110] []) (.seq (.seq (.region [.m 111 20, .o 112 (.bin .neq (.t 111) (.const (.int .i64 0)))])
  (.cond (.t 112) (.exit 3) .skip)) (.seq (.region [.m 113 16, .o 114 (.bin .neq (.t 113) (.const (.int .i64 0))), .m 115 114, ⟨(some 116), (.mv (.t 19)), (some (115, false))⟩,
  ⟨(some 117), (.mv (.t 12)), (some (115, false))⟩, ⟨(some 118), (.bin .lss (.t 116) (.t 117)), (some (115, false))⟩, .o 119 (.pick (.t 115) (.const (.bool true)) (.t 118)), .m
  120 119, ⟨(some 121), (.mv (.t 19)), (some (120, false))⟩, ⟨(some 122), (.mv (.t 15)), (some (120, false))⟩, ⟨(some 123), (.bin .lss (.t 121) (.t 122)), (some (120, false))⟩, .o
  124 (.pick (.t 120) (.const (.bool true)) (.t 123)), .m 125 124, ⟨(some 126), (.mv (.t 19)), (some (125, false))⟩, ⟨(some 127), (.mv (.t 15)), (some (125, false))⟩, ⟨(some 128),
  (.bin .eql (.t 126) (.t 127)), (some (125, false))⟩, ⟨(some 129), (.mv (.t 128)), (some (125, false))⟩, ⟨(some 130), (.mv (.t 17)), (some (129, true))⟩, ⟨(some 131), (.mv (.t
  18)), (some (129, true))⟩, ⟨(some 132), (.iaddrS 1 (.t 130) (.t 131)), (some (129, true))⟩, ⟨(some 133), (.load none (.t 132)), (some (129, true))⟩, ⟨(some 134), (.mv (.t 14)),
  (some (129, true))⟩, ⟨(some 135), (.call (.func 37) [(.t 133), (.t 134)]), (some (129, true))⟩, ⟨(some 136), (.pick (.t 129) (.t 135) (.const (.bool false))), (some (125,
  false))⟩, .o 137 (.pick (.t 125) (.const (.bool true)) (.t 136))]) (.cond (.t 137) (.seq (.region [.o 8 (.mv (.const (.bool false)))]) .ret) .skip))))) (.region [.m 100 18, .o
  101 (.bin .add (.t 100) (.const (.int .i64 1))), .m 18 101])))))) (.seq (.seq (.region [.m 138 16, .o 139 (.bin .neq (.t 138) (.const (.int .i64 0)))]) (.cond (.t 139) (.seq
  (.region [.o 140 (.call (.func 15) []), .m 8 140]) .ret) .skip)) (.seq (.region [.o 142 (.load (some 7) (.t 4)), .o 143 (.call (.func 33) [(.t 142)]), .m 141 143, .o 144 (.ext
  (.t 141) 0), .o 145 (.ext (.t 141) 1), .m 21 144, .m 22 145]) (.seq (.region [.o 147 (.load (some 7) (.t 4)), .m 148 21, .o 149 (.call (.func 31) [(.t 147), (.t 148)]), .m 146
  149, .o 150 (.ext (.t 146) 0), .o 151 (.ext (.t 146) 1), .m 23 150, .m 24 151]) (.seq (.region [.o 153 (.load (some 7) (.t 4)), .m 154 21, .o 155 (.call (.func 32) [(.t 153),
  (.t 154)]), .m 152 155, .o 156 (.ext (.t 152) 0), .o 157 (.ext (.t 152) 1), .m 25 156, .m 26 157]) (.seq (.region [.o 159 (.load (some 7) (.t 4)), .m 160 14, .o 161 (.call
  (.func 19) [(.t 159), (.t 160)]), .m 158 161, .o 162 (.ext (.t 158) 0), .o 163 (.ext (.t 158) 1), .m 27 162, .m 28 163]) (.seq (.region [.m 164 22, .o 165 (.bin .eql (.t 164)
  (.const (.int .i64 0))), .m 166 165, ⟨(some 167), (.mv (.t 24)), (some (166, true))⟩, ⟨(some 168), (.bin .eql (.t 167) (.const (.int .i64 0))), (some (166, true))⟩, .o 169
  (.pick (.t 166) (.t 168) (.const (.bool false))), .m 170 169, ⟨(some 171), (.mv (.t 26)), (some (170, true))⟩, ⟨(some 172), (.bin .eql (.t 171) (.const (.int .i64 0))), (some
  (170, true))⟩, .o 173 (.pick (.t 170) (.t 172) (.const (.bool false))), .m 174 173, ⟨(some 175), (.mv (.t 28)), (some (174, true))⟩, ⟨(some 176), (.bin .eql (.t 175) (.const
  (.int .i64 0))), (some (174, true))⟩, .o 177 (.pick (.t 174) (.t 176) (.const (.bool false))), .m 178 177, ⟨(some 179), (.mv (.t 23)), (some (178, true))⟩, ⟨(some 180), (.mv (.t
  15)), (some (178, true))⟩, ⟨(some 181), (.bin .eql (.t 179) (.t 180)), (some (178, true))⟩, .o 182 (.pick (.t 178) (.t 181) (.const (.bool false))), .m 183 182, ⟨(some 184),
  (.mv (.t 25)), (some (183, true))⟩, ⟨(some 185), (.mv (.t 15)), (some (183, true))⟩, ⟨(some 186), (.bin .eql (.t 184) (.t 185)), (some (183, true))⟩, .o 187 (.pick (.t 183) (.t
  186) (.const (.bool false))), .m 188 187, ⟨(some 189), (.mv (.t 27)), (some (188, true))⟩, ⟨(some 190), (.mv (.t 15)), (some (188, true))⟩, ⟨(some 191), (.bin .eql (.t 189) (.t
  190)), (some (188, true))⟩, .o 192 (.pick (.t 188) (.t 191) (.const (.bool false))), .m 193 192, ⟨(some 194), (.mv (.t 12)), (some (193, true))⟩, ⟨(some 195), (.mv (.t 15)),
  (some (193, true))⟩, ⟨(some 196), (.bin .leq (.t 194) (.t 195)), (some (193, true))⟩, .o 197 (.pick (.t 193) (.t 196) (.const (.bool false))), .m 198 197, ⟨(some 199), (.call
  (.func 15) []), (some (198, true))⟩, .o 200 (.pick (.t 198) (.t 199) (.const (.bool false))), .m 8 200]) .ret)))))))))))))))⟩
def af9 : AFn := ⟨117, [(.tmp 4)], (.seq (.region [.o 2 (.box (.t 0)), .o 4 (.mv (.const (.bool false)))]) (.seq (.seq (.region [.o 16 (.load (some 7) (.t 2)), .o 17 (.call (.func 34) [(.t 16)]),
  .o 18 (.un .not (.t 17)), .m 19 18, ⟨(some 20), (.mv (.t 1)), (some (19, false))⟩, ⟨(some 21), (.len (.t 20)), (some (19, false))⟩, ⟨(some 22), (.bin .gtr (.t 21) (.const (.int
  .i64 40))), (some (19, false))⟩, .o 23 (.pick (.t 19) (.const (.bool true)) (.t 22))]) (.cond (.t 23) (.seq (.region [.o 24 (.call (.func 15) []), .m 4 24]) .ret) .skip)) (.seq
  (.region [.o 26 (.load (some 7) (.t 2)), .o 27 (.call (.func 28) [(.t 26)]), .m 25 27, .o 28 (.ext (.t 25) 0), .o 29 (.ext (.t 25) 1), .o 30 (.ext (.t 25) 2), .m 5 28, .m 6 29,
  .m 7 30]) (.seq (.region [.o 32 (.load (some 7) (.t 2)), .o 33 (.call (.func 26) [(.t 32)]), .m 31 33, .o 34 (.ext (.t 31) 0), .o 35 (.ext (.t 31) 1), .o 36 (.ext (.t 31) 2), .m
  8 34, .m 9 35, .m 10 36]) (.seq (.draw [.o 38 (.load (some 7) (.t 2)), .o 39 (.load (some 7) (.t 2)), .m 40 1, .o 41 (.call (.func 35) [(.t 39), (.t 40)]), .o 42 (.call (.func
  18) [(.t 38), (.t 41)]), .m 37 42, .o 43 (.ext (.t 37) 0), .o 44 (.ext (.t 37) 1), .m 11 43, .m 12 44] [(0, 3)]) (.seq (.region [.o 46 (.load (some 7) (.t 2)), .o 47 (.call
  (.func 16) [(.t 46)]), .m 45 47, .o 48 (.ext (.t 45) 0), .o 49 (.ext (.t 45) 1), .m 13 48, .m 14 49]) (.seq (.seq (.region [.m 50 14, .o 51 (.bin .neq (.t 50) (.const (.int .i64
  0))), .m 52 51, ⟨(some 53), (.mv (.t 13)), (some (52, false))⟩, ⟨(some 54), (.len (.t 53)), (some (52, false))⟩, ⟨(some 55), (.faddr 5 (.t 2)), (some (52, false))⟩, ⟨(some 56),
  (.load none (.t 55)), (some (52, false))⟩, ⟨(some 57), (.len (.t 56)), (some (52, false))⟩, ⟨(some 58), (.bin .neq (.t 54) (.t 57)), (some (52, false))⟩, .o 59 (.pick (.t 52)
  (.const (.bool true)) (.t 58))]) (.cond (.t 59) (.seq (.region [.o 4 (.mv (.const (.bool false)))]) .ret) .skip)) (.seq (.seq (.region [.m 60 7, .o 61 (.bin .eql (.t 60) (.const
  (.int .i64 5)))]) (.cond (.t 61) (.seq (.region [.m 62 10, .o 63 (.bin .eql (.t 62) (.const (.int .i64 0))), .m 64 63, ⟨(some 65), (.call (.func 15) []), (some (64, true))⟩, .o
  66 (.pick (.t 64) (.t 65) (.const (.bool false))), .m 4 66]) .ret) .skip)) (.seq (.seq (.region [.m 67 7, .o 68 (.bin .neq (.t 67) (.const (.int .i64 0))), .m 69 68, ⟨(some 70),
  (.mv (.t 10)), (some (69, false))⟩, ⟨(some 71), (.bin .neq (.t 70) (.const (.int .i64 13))), (some (69, false))⟩, .o 72 (.pick (.t 69) (.const (.bool true)) (.t 71)), .m 73 72,
  ⟨(some 74), (.mv (.t 12)), (some (73, false))⟩, ⟨(some 75), (.bin .eql (.t 74) (.const (.int .i64 0))), (some (73, false))⟩, .o 76 (.pick (.t 73) (.const (.bool true)) (.t 75)),
  .m 77 76, ⟨(some 78), (.mv (.t 5)), (some (77, false))⟩, ⟨(some 79), (.bin .lss (.t 78) (.const (.int .i64 (-1)))), (some (77, false))⟩, .o 80 (.pick (.t 77) (.const (.bool
  true)) (.t 79)), .m 81 80, ⟨(some 82), (.mv (.t 6)), (some (81, false))⟩, ⟨(some 83), (.mv (.t 5)), (some (81, false))⟩, ⟨(some 84), (.mnx true [(.const (.int .i64 0)), (.t
  83)]), (some (81, false))⟩, ⟨(some 85), (.bin .lss (.t 82) (.t 84)), (some (81, false))⟩, .o 86 (.pick (.t 81) (.const (.bool true)) (.t 85)), .m 87 86, ⟨(some 88), (.mv (.t 6)),
   (some (87, false))⟩, ⟨(some 89), (.mv (.t 13)), (some (87, false))⟩, ⟨(some 90), (.len (.t 89)), (some (87, false))⟩, ⟨(some 91), (.bin .geq (.t 88) (.t 90)), (some (87,
  false))⟩, .o 92 (.pick (.t 87) (.const (.bool true)) (.t 91))]) (.cond (.t 92) (.seq (.region [.o 4 (.mv (.const (.bool false)))]) .ret) .skip)) (.seq (.region [.o 15 (.mv
  (.const (.int .i64 0)))]) (.seq (.seq (.region [.m 93 5, .o 94 (.bin .geq (.t 93) (.const (.int .i64 0)))]) (.cond (.t 94) (.region [.m 95 13, .m 96 5, .o 97 (.iaddrS 2 (.t 95)
  (.t 96)), .o 98 (.faddr 1 (.t 97)), .l 99 98, .m 15 99]) .skip)) (.seq (.draw [.m 100 13, .m 101 6, .o 102 (.iaddrS 2 (.t 100) (.t 101)), .o 103 (.faddr 0 (.t 102)), .l 104 103,
  .m 105 15, .o 106 (.faddr 2 (.t 2)), .l 107 106, .m 108 6, .m 109 5, .o 110 (.bin .sub (.t 108) (.t 109)), .o 111 (.bin .mul (.t 107) (.t 110)), .o 112 (.bin .add (.t 105) (.t
  111)), .o 113 (.bin .gtr (.t 104) (.t 112)), .m 114 113, ⟨(some 115), (.call (.func 15) []), (some (114, true))⟩, .o 116 (.pick (.t 114) (.t 115) (.const (.bool false))), .m 4
  116] []) .ret))))))))))))⟩
def af10 : AFn := ⟨164, [(.tmp 12)], (.seq (.region [.o 6 (.box (.t 0)), .o 7 (.box (.t 1)), .o 12 (.mv (.const (.bool false)))]) (.seq (.seq (.region [.o 31 (.load (some 7) (.t 6)), .o 32 (.call
  (.func 34) [(.t 31)]), .o 33 (.un .not (.t 32)), .m 34 33, ⟨(some 35), (.mv (.t 5)), (some (34, false))⟩, ⟨(some 36), (.len (.t 35)), (some (34, false))⟩, ⟨(some 37), (.bin .gtr
  (.t 36) (.const (.int .i64 40))), (some (34, false))⟩, .o 38 (.pick (.t 34) (.const (.bool true)) (.t 37))]) (.cond (.t 38) (.seq (.region [.o 39 (.call (.func 15) []), .m 12
  39]) .ret) .skip)) (.seq (.draw [.o 40 (.load (some 7) (.t 6)), .o 41 (.load (some 7) (.t 6)), .o 42 (.load (some 7) (.t 6)), .o 43 (.load (some 7) (.t 6)), .o 13 (.alloc [(.int
  .i64 0), (.int .i64 0), (.int .i64 0), (.int .i64 0), (.int .i64 0), (.slc none 0 0 true 0), (.slc none 0 0 true 0)]), .o 14 (.alloc [(.int .i64 0), (.int .i64 0), (.int .i64 0),
   (.int .i64 0), (.int .i64 0), (.slc none 0 0 true 0), (.slc none 0 0 true 0)]), .o 15 (.alloc [(.int .i64 0), (.int .i64 0), (.int .i64 0), (.int .i64 0), (.int .i64 0), (.slc
  none 0 0 true 0), (.slc none 0 0 true 0)]), .o 16 (.alloc [(.int .i64 0), (.int .i64 0), (.int .i64 0), (.int .i64 0), (.int .i64 0), (.slc none 0 0 true 0), (.slc none 0 0 true
  0)]), ⟨none, (.store 7 (.t 13) (.t 40)), none⟩, ⟨none, (.store 7 (.t 14) (.t 41)), none⟩, ⟨none, (.store 7 (.t 15) (.t 42)), none⟩, ⟨none, (.store 7 (.t 16) (.t 43)), none⟩] [(0,
   4), (1, 4), (2, 4), (3, 4), (0, 5), (1, 5), (2, 5), (3, 5), (4, 5), (0, 6), (1, 6), (2, 6), (3, 6), (4, 6), (5, 6), (0, 7), (1, 7), (2, 7), (3, 7), (4, 7), (5, 7), (6, 7), (1,
  8), (2, 8), (3, 8), (2, 9), (3, 9), (3, 10)]) (.seq (.region [.o 44 (.faddr 3 (.t 6)), .o 45 (.load (some 2) (.t 44)), .o 46 (.iaddrA 4 1 (.t 7) (.const (.int .i64 0))), .l 47
  46, .o 48 (.iaddrA 4 1 (.t 7) (.const (.int .i64 1))), .l 49 48, .o 50 (.call (.func 38) [(.t 45), (.t 47), (.t 49)]), .o 51 (.faddr 3 (.t 13)), ⟨none, (.store 2 (.t 51) (.t
  50)), none⟩]) (.seq (.region [.o 52 (.bslice [] 0 2 []), .o 53 (.faddr 5 (.t 6)), .l 54 53, .o 55 (.app 2 16 (.t 52) (.t 54)), .o 56 (.faddr 5 (.t 14)), ⟨none, (.store 1 (.t 56)
  (.t 55)), none⟩]) (.seq (.region [.m 57 2, .o 58 (.conv .i64 (.t 57)), .o 59 (.faddr 5 (.t 6)), .l 60 59, .o 61 (.len (.t 60)), .o 62 (.bin .rem (.t 58) (.t 61)), .m 17 62])
  (.seq (.draw [.o 63 (.faddr 5 (.t 14)), .l 64 63, .m 65 17, .o 66 (.faddr 5 (.t 6)), .l 67 66, .m 68 17, .o 69 (.iaddrS 2 (.t 67) (.t 68)), .o 70 (.load (some 2) (.t 69)), .o 71
  (.iaddrA 4 1 (.t 7) (.const (.int .i64 2))), .l 72 71, .o 73 (.iaddrA 4 1 (.t 7) (.const (.int .i64 3))), .l 74 73, .o 75 (.call (.func 38) [(.t 70), (.t 72), (.t 74)]), .o 76
  (.iaddrS 2 (.t 64) (.t 65)), ⟨none, (.store 2 (.t 76) (.t 75)), none⟩] [(1, 12)]) (.seq (.region [.o 77 (.faddr 0 (.t 6)), .l 78 77, .m 79 3, .o 80 (.conv .i64 (.t 79)), .o 81
  (.bin .add (.t 78) (.t 80)), .o 82 (.mnx false [(.const (.int .i64 100000)), (.t 81)]), .o 83 (.faddr 0 (.t 15)), ⟨none, (.store 1 (.t 83) (.t 82)), none⟩]) (.seq (.region [.o
  84 (.faddr 2 (.t 6)), .l 85 84, .m 86 4, .o 87 (.conv .i64 (.t 86)), .o 88 (.bin .add (.t 85) (.t 87)), .o 89 (.mnx false [(.const (.int .i64 10)), (.t 88)]), .o 90 (.faddr 2
  (.t 16)), ⟨none, (.store 1 (.t 90) (.t 89)), none⟩]) (.seq (.region [.o 92 (.load (some 7) (.t 6)), .o 93 (.call (.func 26) [(.t 92)]), .m 91 93, .o 94 (.ext (.t 91) 0), .o 95
  (.ext (.t 91) 1), .o 96 (.ext (.t 91) 2), .m 18 94, .m 19 95, .m 20 96]) (.seq (.region [.o 97 (.load (some 7) (.t 6)), .m 98 5, .o 99 (.call (.func 35) [(.t 97), (.t 98)]), .m
  21 99]) (.seq (.region [.o 101 (.load (some 7) (.t 6)), .m 102 21, .o 103 (.call (.func 18) [(.t 101), (.t 102)]), .m 100 103, .o 104 (.ext (.t 100) 0), .o 105 (.ext (.t 100) 1),
   .m 22 104, .m 23 105]) (.seq (.region [.o 106 (.load (some 7) (.t 13)), .o 107 (.load (some 7) (.t 14)), .o 108 (.load (some 7) (.t 15)), .o 109 (.load (some 7) (.t 16)), .o
  110 (.bslice [(.int .i64 0), (.int .i64 0), (.int .i64 0), (.int .i64 0), (.int .i64 0), (.slc none 0 0 true 0), (.slc none 0 0 true 0), (.int .i64 0), (.int .i64 0), (.int .i64
  0), (.int .i64 0), (.int .i64 0), (.slc none 0 0 true 0), (.slc none 0 0 true 0), (.int .i64 0), (.int .i64 0), (.int .i64 0), (.int .i64 0), (.int .i64 0), (.slc none 0 0 true
  0), (.slc none 0 0 true 0), (.int .i64 0), (.int .i64 0), (.int .i64 0), (.int .i64 0), (.int .i64 0), (.slc none 0 0 true 0), (.slc none 0 0 true 0)] 4 7 [(0, (7, (.t 106))),
  (7, (7, (.t 107))), (14, (7, (.t 108))), (21, (7, (.t 109)))]), .m 24 110]) (.seq (.seq (.region [.o 25 (.mv (.const (.int .i64 0)))]) (.block 0 (.loop (.seq (.seq (.region [.m
  111 25, .o 112 (.bin .lss (.t 111) (.const (.int .i64 4)))]) (.cond (.t 112) .skip (.exit 0))) (.seq (.block 1 (.seq (.region [.m 116 24, .m 117 25, .o 118 (.iaddrS 7 (.t 116)
  (.t 117)), .o 119 (.load (some 7) (.t 118)), .o 120 (.call (.func 26) [(.t 119)]), .m 115 120, .o 121 (.ext (.t 115) 0), .o 122 (.ext (.t 115) 1), .o 123 (.ext (.t 115) 2), .m
  26 121, .m 27 122, .m 28 123]) (.seq (.seq (.region [.m 124 20, .o 125 (.bin .eql (.t 124) (.const (.int .i64 0))), .m 126 125, ⟨(some 127), (.mv (.t 28)), (some (126, true))⟩,
  ⟨(some 128), (.bin .neq (.t 127) (.const (.int .i64 0))), (some (126, true))⟩, ⟨(some 129), (.mv (.t 128)), (some (126, true))⟩, ⟨(some 130), (.mv (.t 27)), (some (129, false))⟩,
   ⟨(some 131), (.mv (.t 19)), (some (129, false))⟩, ⟨(some 132), (.bin .gtr (.t 130) (.t 131)), (some (129, false))⟩, ⟨(some 133), (.pick (.t 129) (.const (.bool true)) (.t 132)),
   (some (126, true))⟩, .o 134 (.pick (.t 126) (.t 133) (.const (.bool false))), .m 135 134, ⟨(some 136), (.mv (.t 28)), (some (135, false))⟩, ⟨(some 137), (.bin .neq (.t 136)
  (.const (.int .i64 0))), (some (135, false))⟩, ⟨(some 138), (.mv (.t 137)), (some (135, false))⟩, ⟨(some 139), (.mv (.t 28)), (some (138, true))⟩, ⟨(some 140), (.bin .neq (.t
  139) (.const (.int .i64 13))), (some (138, true))⟩, ⟨(some 141), (.pick (.t 138) (.t 140) (.const (.bool false))), (some (135, false))⟩, .o 142 (.pick (.t 135) (.const (.bool
  true)) (.t 141))]) (.cond (.t 142) (.seq (.region [.o 12 (.mv (.const (.bool false)))]) .ret) .skip)) (.seq (.region [.m 144 24, .m 145 25, .o 146 (.iaddrS 7 (.t 144) (.t 145)),
  .o 147 (.load (some 7) (.t 146)), .m 148 21, .o 149 (.call (.func 18) [(.t 147), (.t 148)]), .m 143 149, .o 150 (.ext (.t 143) 0), .o 151 (.ext (.t 143) 1), .m 29 150, .m 30
  151]) (.seq (.region [.m 152 23, .o 153 (.bin .eql (.t 152) (.const (.int .i64 0))), .m 154 153, ⟨(some 155), (.mv (.t 30)), (some (154, true))⟩, ⟨(some 156), (.bin .neq (.t
  155) (.const (.int .i64 0))), (some (154, true))⟩, ⟨(some 157), (.mv (.t 156)), (some (154, true))⟩, ⟨(some 158), (.mv (.t 29)), (some (157, false))⟩, ⟨(some 159), (.mv (.t 22)),
   (some (157, false))⟩, ⟨(some 160), (.bin .neq (.t 158) (.t 159)), (some (157, false))⟩, ⟨(some 161), (.pick (.t 157) (.const (.bool true)) (.t 160)), (some (154, true))⟩, .o
  162 (.pick (.t 154) (.t 161) (.const (.bool false)))]) (.cond (.t 162) (.seq (.region [.o 12 (.mv (.const (.bool false)))]) .ret) .skip)))))) (.region [.m 113 25, .o 114 (.bin
  .add (.t 113) (.const (.int .i64 1))), .m 25 114])))))) (.seq (.region [.o 163 (.call (.func 15) []), .m 12 163]) .ret)))))))))))))))⟩
def af11 : AFn := ⟨176, [(.tmp 8)], (.seq (.region [.o 4 (.box (.t 0)), .o 8 (.mv (.const (.bool false)))]) (.seq (.seq (.region [.o 27 (.load (some 7) (.t 4)), .o 28 (.call (.func 34) [(.t 27)]),
  .o 29 (.un .not (.t 28))]) (.cond (.t 29) (.seq (.region [.o 30 (.call (.func 15) []), .m 8 30]) .ret) .skip)) (.seq (.region [.o 32 (.load (some 7) (.t 4)), .o 33 (.call (.func
  26) [(.t 32)]), .m 31 33, .o 34 (.ext (.t 31) 0), .o 35 (.ext (.t 31) 1), .o 36 (.ext (.t 31) 2), .m 9 34, .m 10 35, .m 11 36]) (.seq (.seq (.region [.m 37 11, .o 38 (.bin .neq
  (.t 37) (.const (.int .i64 0)))]) (.cond (.t 38) (.seq (.region [.m 39 11, .o 40 (.bin .eql (.t 39) (.const (.int .i64 13))), .m 41 40, ⟨(some 42), (.call (.func 15) []), (some
  (41, true))⟩, .o 43 (.pick (.t 41) (.t 42) (.const (.bool false))), .m 8 43]) .ret) .skip)) (.seq (.region [.m 44 1, .o 45 (.conv .i64 (.t 44)), .o 46 (.bin .rem (.t 45) (.const
  (.int .i64 9))), .o 47 (.bin .add (.const (.int .i64 1)) (.t 46)), .m 12 47]) (.seq (.region [.m 48 3, .o 49 (.conv .i64 (.t 48)), .o 50 (.faddr 6 (.t 4)), .l 51 50, .o 52 (.len
  (.t 51)), .o 53 (.bin .rem (.t 49) (.t 52)), .m 13 53]) (.seq (.draw [.o 54 (.load (some 7) (.t 4)), .o 55 (.load (some 7) (.t 4)), .o 56 (.load (some 7) (.t 4)), .o 14 (.alloc
  [(.int .i64 0), (.int .i64 0), (.int .i64 0), (.int .i64 0), (.int .i64 0), (.slc none 0 0 true 0), (.slc none 0 0 true 0)]), .o 15 (.alloc [(.int .i64 0), (.int .i64 0), (.int
  .i64 0), (.int .i64 0), (.int .i64 0), (.slc none 0 0 true 0), (.slc none 0 0 true 0)]), .o 16 (.alloc [(.int .i64 0), (.int .i64 0), (.int .i64 0), (.int .i64 0), (.int .i64 0),
   (.slc none 0 0 true 0), (.slc none 0 0 true 0)]), ⟨none, (.store 7 (.t 14) (.t 54)), none⟩, ⟨none, (.store 7 (.t 15) (.t 55)), none⟩, ⟨none, (.store 7 (.t 16) (.t 56)), none⟩]
  [(0, 3), (1, 3), (2, 3), (0, 4), (1, 4), (2, 4), (3, 4), (0, 5), (1, 5), (2, 5), (3, 5), (4, 5), (1, 6), (2, 6), (2, 7)]) (.seq (.region [.o 57 (.bslice [] 0 1 []), .o 58
  (.faddr 6 (.t 4)), .l 59 58, .o 60 (.app 1 8 (.t 57) (.t 59)), .o 61 (.faddr 6 (.t 14)), ⟨none, (.store 1 (.t 61) (.const (.slc none 0 0 true 0))), none⟩, .o 62 (.faddr 6 (.t
  15)), ⟨none, (.store 1 (.t 62) (.const (.slc none 0 0 true 0))), none⟩, .o 63 (.faddr 6 (.t 16)), ⟨none, (.store 1 (.t 63) (.t 60)), none⟩]) (.seq (.seq (.region [.o 17 (.mv
  (.const (.int .i64 0)))]) (.block 0 (.loop (.seq (.seq (.region [.m 64 17, .o 65 (.faddr 6 (.t 4)), .l 66 65, .o 67 (.len (.t 66)), .o 68 (.bin .lss (.t 64) (.t 67))]) (.cond
  (.t 68) .skip (.exit 0))) (.seq (.block 1 (.seq (.draw [.o 71 (.faddr 6 (.t 14)), .l 72 71, .m 73 12, .o 74 (.faddr 6 (.t 4)), .l 75 74, .m 76 17, .o 77 (.iaddrS 1 (.t 75) (.t
  76)), .l 78 77, .o 79 (.bin .mul (.t 73) (.t 78)), .o 80 (.bslice [(.int .i64 0)] 1 1 [(0, (1, (.t 79)))]), .o 81 (.app 1 8 (.t 72) (.t 80)), .o 82 (.faddr 6 (.t 14)), ⟨none,
  (.store 1 (.t 82) (.t 81)), none⟩] [(1, 9)]) (.draw [.o 83 (.faddr 6 (.t 15)), .l 84 83, .o 85 (.faddr 6 (.t 4)), .l 86 85, .m 87 17, .o 88 (.iaddrS 1 (.t 86) (.t 87)), .l 89 88,
   .m 90 2, .o 91 (.conv .i64 (.t 90)), .o 92 (.bin .add (.t 89) (.t 91)), .o 93 (.bslice [(.int .i64 0)] 1 1 [(0, (1, (.t 92)))]), .o 94 (.app 1 8 (.t 84) (.t 93)), .o 95 (.faddr
  6 (.t 15)), ⟨none, (.store 1 (.t 95) (.t 94)), none⟩] [(1, 10)]))) (.region [.m 69 17, .o 70 (.bin .add (.t 69) (.const (.int .i64 1))), .m 17 70])))))) (.seq (.region [.o 96
  (.faddr 6 (.t 16)), .l 97 96, .m 98 13, .o 99 (.iaddrS 1 (.t 97) (.t 98)), .l 100 99, .m 101 2, .o 102 (.conv .i64 (.t 101)), .o 103 (.bin .add (.t 100) (.t 102)), .o 104
  (.iaddrS 1 (.t 97) (.t 98)), ⟨none, (.store 1 (.t 104) (.t 103)), none⟩]) (.seq (.seq (.region [.o 105 (.load (some 7) (.t 14)), .o 106 (.call (.func 34) [(.t 105)])]) (.cond
  (.t 106) (.seq (.region [.o 108 (.load (some 7) (.t 14)), .o 109 (.call (.func 26) [(.t 108)]), .m 107 109, .o 110 (.ext (.t 107) 0), .o 111 (.ext (.t 107) 1), .o 112 (.ext (.t
  107) 2), .m 18 110, .m 19 111, .m 20 112]) (.seq (.region [.m 113 20, .o 114 (.bin .neq (.t 113) (.const (.int .i64 0))), .m 115 114, ⟨(some 116), (.mv (.t 19)), (some (115,
  false))⟩, ⟨(some 117), (.mv (.t 12)), (some (115, false))⟩, ⟨(some 118), (.mv (.t 10)), (some (115, false))⟩, ⟨(some 119), (.bin .mul (.t 117) (.t 118)), (some (115, false))⟩,
  ⟨(some 120), (.bin .neq (.t 116) (.t 119)), (some (115, false))⟩, .o 121 (.pick (.t 115) (.const (.bool true)) (.t 120)), .m 122 121, ⟨(some 123), (.mv (.t 9)), (some (122,
  false))⟩, ⟨(some 124), (.mv (.t 18)), (some (122, false))⟩, ⟨(some 125), (.call (.func 30) [(.t 123), (.t 124)]), (some (122, false))⟩, ⟨(some 126), (.un .not (.t 125)), (some
  (122, false))⟩, .o 127 (.pick (.t 122) (.const (.bool true)) (.t 126))]) (.cond (.t 127) (.seq (.region [.o 8 (.mv (.const (.bool false)))]) .ret) .skip))) .skip)) (.seq (.seq
  (.region [.o 128 (.load (some 7) (.t 15)), .o 129 (.call (.func 34) [(.t 128)])]) (.cond (.t 129) (.seq (.region [.o 131 (.load (some 7) (.t 15)), .o 132 (.call (.func 26) [(.t
  131)]), .m 130 132, .o 133 (.ext (.t 130) 0), .o 134 (.ext (.t 130) 1), .o 135 (.ext (.t 130) 2), .m 21 133, .m 22 134, .m 23 135]) (.seq (.region [.m 136 23, .o 137 (.bin .neq
  (.t 136) (.const (.int .i64 0))), .m 138 137, ⟨(some 139), (.mv (.t 22)), (some (138, false))⟩, ⟨(some 140), (.mv (.t 10)), (some (138, false))⟩, ⟨(some 141), (.mv (.t 2)),
  (some (138, false))⟩, ⟨(some 142), (.conv .i64 (.t 141)), (some (138, false))⟩, ⟨(some 143), (.mv (.t 21)), (some (138, false))⟩, ⟨(some 144), (.call (.func 39) [(.t 143)]),
  (some (138, false))⟩, ⟨(some 145), (.bin .mul (.t 142) (.t 144)), (some (138, false))⟩, ⟨(some 146), (.bin .add (.t 140) (.t 145)), (some (138, false))⟩, ⟨(some 147), (.bin .lss
  (.t 139) (.t 146)), (some (138, false))⟩, .o 148 (.pick (.t 138) (.const (.bool true)) (.t 147)), .m 149 148, ⟨(some 150), (.mv (.t 22)), (some (149, false))⟩, ⟨(some 151), (.mv
  (.t 10)), (some (149, false))⟩, ⟨(some 152), (.mv (.t 2)), (some (149, false))⟩, ⟨(some 153), (.conv .i64 (.t 152)), (some (149, false))⟩, ⟨(some 154), (.mv (.t 9)), (some (149,
  false))⟩, ⟨(some 155), (.call (.func 39) [(.t 154)]), (some (149, false))⟩, ⟨(some 156), (.bin .mul (.t 153) (.t 155)), (some (149, false))⟩, ⟨(some 157), (.bin .add (.t 151)
  (.t 156)), (some (149, false))⟩, ⟨(some 158), (.bin .gtr (.t 150) (.t 157)), (some (149, false))⟩, .o 159 (.pick (.t 149) (.const (.bool true)) (.t 158))]) (.cond (.t 159) (.seq
  (.region [.o 8 (.mv (.const (.bool false)))]) .ret) .skip))) .skip)) (.seq (.seq (.region [.o 160 (.load (some 7) (.t 16)), .o 161 (.call (.func 34) [(.t 160)])]) (.cond (.t
  161) (.seq (.region [.o 163 (.load (some 7) (.t 16)), .o 164 (.call (.func 26) [(.t 163)]), .m 162 164, .o 165 (.ext (.t 162) 0), .o 166 (.ext (.t 162) 1), .o 167 (.ext (.t 162)
  2), .m 24 165, .m 25 166, .m 26 167]) (.seq (.region [.m 168 26, .o 169 (.bin .neq (.t 168) (.const (.int .i64 0))), .m 170 169, ⟨(some 171), (.mv (.t 25)), (some (170, false))⟩,
   ⟨(some 172), (.mv (.t 10)), (some (170, false))⟩, ⟨(some 173), (.bin .lss (.t 171) (.t 172)), (some (170, false))⟩, .o 174 (.pick (.t 170) (.const (.bool true)) (.t 173))])
  (.cond (.t 174) (.seq (.region [.o 8 (.mv (.const (.bool false)))]) .ret) .skip))) .skip)) (.seq (.region [.o 175 (.call (.func 15) []), .m 8 175]) .ret))))))))))))))⟩
def af12 : AFn := ⟨133, [(.tmp 6)], (.seq (.region [.o 3 (.box (.t 0)), .o 6 (.mv (.const (.bool false)))]) (.seq (.seq (.region [.o 15 (.load (some 7) (.t 3)), .o 16 (.call (.func 34) [(.t 15)]),
  .o 17 (.un .not (.t 16)), .m 18 17, ⟨(some 19), (.faddr 5 (.t 3)), (some (18, false))⟩, ⟨(some 20), (.load none (.t 19)), (some (18, false))⟩, ⟨(some 21), (.len (.t 20)), (some
  (18, false))⟩, ⟨(some 22), (.bin .lss (.t 21) (.const (.int .i64 2))), (some (18, false))⟩, .o 23 (.pick (.t 18) (.const (.bool true)) (.t 22)), .m 24 23, ⟨(some 25), (.mv (.t
  1)), (some (24, false))⟩, ⟨(some 26), (.len (.t 25)), (some (24, false))⟩, ⟨(some 27), (.bin .gtr (.t 26) (.const (.int .i64 40))), (some (24, false))⟩, .o 28 (.pick (.t 24)
  (.const (.bool true)) (.t 27)), .m 29 28, ⟨(some 30), (.mv (.t 2)), (some (29, false))⟩, ⟨(some 31), (.len (.t 30)), (some (29, false))⟩, ⟨(some 32), (.bin .gtr (.t 31) (.const
  (.int .i64 40))), (some (29, false))⟩, .o 33 (.pick (.t 29) (.const (.bool true)) (.t 32))]) (.cond (.t 33) (.seq (.region [.o 34 (.call (.func 15) []), .m 6 34]) .ret) .skip))
  (.seq (.region [.o 35 (.load (some 7) (.t 3)), .o 7 (.alloc [(.int .i64 0), (.int .i64 0), (.int .i64 0), (.int .i64 0), (.int .i64 0), (.slc none 0 0 true 0), (.slc none 0 0
  true 0)]), ⟨none, (.store 7 (.t 7) (.t 35)), none⟩]) (.seq (.draw [.o 36 (.faddr 3 (.t 3)), .o 37 (.faddr 0 (.t 36)), .l 38 37, .o 39 (.faddr 5 (.t 3)), .l 40 39, .o 41 (.iaddrS
  2 (.t 40) (.const (.int .i64 0))), .o 42 (.faddr 1 (.t 41)), .l 43 42, .o 44 (.bin .sub (.t 38) (.t 43)), .o 45 (.faddr 3 (.t 3)), .o 46 (.faddr 1 (.t 45)), .l 47 46, .o 48
  (.faddr 5 (.t 3)), .l 49 48, .o 50 (.iaddrS 2 (.t 49) (.const (.int .i64 0))), .o 51 (.faddr 0 (.t 50)), .l 52 51, .o 53 (.bin .sub (.t 47) (.t 52)), .o 54 (.call (.func 40)
  [(.t 44), (.t 53)]), .o 55 (.faddr 3 (.t 7)), ⟨none, (.store 2 (.t 55) (.t 54)), none⟩] []) (.seq (.draw [.o 56 (.faddr 5 (.t 3)), .l 57 56, .o 58 (.slc 2 (.t 57) (some (.const
  (.int .i64 1))) none none), .o 59 (.faddr 6 (.t 3)), .l 60 59, .o 61 (.slc 1 (.t 60) (some (.const (.int .i64 1))) none none), .o 62 (.faddr 5 (.t 7)), ⟨none, (.store 1 (.t 62)
  (.t 58)), none⟩, .o 63 (.faddr 6 (.t 7)), ⟨none, (.store 1 (.t 63) (.t 61)), none⟩] [(4, 7)]) (.seq (.region [.o 64 (.load (some 7) (.t 3)), .m 65 1, .o 66 (.call (.func 35)
  [(.t 64), (.t 65)]), .m 67 2, .o 68 (.bslice [(.slc none 0 0 true 0), (.slc none 0 0 true 0)] 2 1 [(0, (1, (.t 66))), (1, (1, (.t 67)))]), .m 8 68]) (.seq (.seq (.region [.o 9
  (.mv (.const (.int .i64 0)))]) (.block 0 (.loop (.seq (.seq (.region [.m 69 9, .o 70 (.bin .lss (.t 69) (.const (.int .i64 2)))]) (.cond (.t 70) .skip (.exit 0))) (.seq (.block
  1 (.seq (.region [.m 73 8, .m 74 9, .o 75 (.iaddrS 1 (.t 73) (.t 74)), .l 76 75, .m 10 76]) (.seq (.seq (.region [.m 77 10, .o 78 (.len (.t 77)), .o 79 (.faddr 5 (.t 3)), .l 80
  79, .o 81 (.len (.t 80)), .o 82 (.bin .neq (.t 78) (.t 81)), .m 83 82, ⟨(some 84), (.mv (.t 10)), (some (83, false))⟩, ⟨(some 85), (.iaddrS 1 (.t 84) (.const (.int .i64 0))),
  (some (83, false))⟩, ⟨(some 86), (.load none (.t 85)), (some (83, false))⟩, ⟨(some 87), (.bin .neq (.t 86) (.const (.int .i64 0))), (some (83, false))⟩, .o 88 (.pick (.t 83)
  (.const (.bool true)) (.t 87))]) (.cond (.t 88) (.exit 1) .skip)) (.seq (.region [.o 90 (.load (some 7) (.t 3)), .m 91 10, .o 92 (.call (.func 18) [(.t 90), (.t 91)]), .m 89 92,
  .o 93 (.ext (.t 89) 0), .o 94 (.ext (.t 89) 1), .m 11 93, .m 12 94]) (.seq (.draw [.o 96 (.load (some 7) (.t 7)), .m 97 10, .o 98 (.slc 1 (.t 97) (some (.const (.int .i64 1)))
  none none), .o 99 (.call (.func 18) [(.t 96), (.t 98)]), .m 95 99, .o 100 (.ext (.t 95) 0), .o 101 (.ext (.t 95) 1), .m 13 100, .m 14 101] []) (.seq (.region [.m 102 12, .o 103
  (.bin .eql (.t 102) (.const (.int .i64 0))), .m 104 103, ⟨(some 105), (.mv (.t 14)), (some (104, true))⟩, ⟨(some 106), (.bin .neq (.t 105) (.const (.int .i64 0))), (some (104,
  true))⟩, ⟨(some 107), (.mv (.t 106)), (some (104, true))⟩, ⟨(some 108), (.mv (.t 11)), (some (107, false))⟩, ⟨(some 109), (.mv (.t 13)), (some (107, false))⟩, ⟨(some 110), (.bin
  .neq (.t 108) (.t 109)), (some (107, false))⟩, ⟨(some 111), (.pick (.t 107) (.const (.bool true)) (.t 110)), (some (104, true))⟩, .o 112 (.pick (.t 104) (.t 111) (.const (.bool
  false))), .m 113 112, ⟨(some 114), (.mv (.t 14)), (some (113, false))⟩, ⟨(some 115), (.bin .eql (.t 114) (.const (.int .i64 0))), (some (113, false))⟩, ⟨(some 116), (.mv (.t
  115)), (some (113, false))⟩, ⟨(some 117), (.faddr 3 (.t 7)), (some (116, true))⟩, ⟨(some 118), (.faddr 0 (.t 117)), (some (116, true))⟩, ⟨(some 119), (.load none (.t 118)),
  (some (116, true))⟩, ⟨(some 120), (.bin .geq (.t 119) (.const (.int .i64 0))), (some (116, true))⟩, ⟨(some 121), (.pick (.t 116) (.t 120) (.const (.bool false))), (some (113,
  false))⟩, ⟨(some 122), (.mv (.t 121)), (some (113, false))⟩, ⟨(some 123), (.mv (.t 12)), (some (122, true))⟩, ⟨(some 124), (.bin .neq (.t 123) (.const (.int .i64 0))), (some
  (122, true))⟩, ⟨(some 125), (.mv (.t 124)), (some (122, true))⟩, ⟨(some 126), (.mv (.t 11)), (some (125, false))⟩, ⟨(some 127), (.mv (.t 13)), (some (125, false))⟩, ⟨(some 128),
  (.bin .neq (.t 126) (.t 127)), (some (125, false))⟩, ⟨(some 129), (.pick (.t 125) (.const (.bool true)) (.t 128)), (some (122, true))⟩, ⟨(some 130), (.pick (.t 122) (.t 129)
  (.const (.bool false))), (some (113, false))⟩, .o 131 (.pick (.t 113) (.const (.bool true)) (.t 130))]) (.cond (.t 131) (.seq (.region [.o 6 (.mv (.const (.bool false)))]) .ret)
  .skip))))))) (.region [.m 71 9, .o 72 (.bin .add (.t 71) (.const (.int .i64 1))), .m 9 72])))))) (.seq (.region [.o 132 (.call (.func 15) []), .m 6 132]) .ret))))))))⟩
def af13 : AFn := ⟨98, [(.tmp 0)], (.seq (.region [.o 0 (.mv (.const (.bool false)))]) (.seq (.region [.o 16 (.call (.func 41) []), .o 17 (.call (.func 41) []), .o 1 (.alloc [(.int .i64 0), (.int
  .i64 0), (.int .i64 0), (.int .i64 0), (.int .i64 0), (.slc none 0 0 true 0), (.slc none 0 0 true 0)]), .o 2 (.alloc [(.int .i64 0), (.int .i64 0), (.int .i64 0), (.int .i64 0),
  (.int .i64 0), (.slc none 0 0 true 0), (.slc none 0 0 true 0)]), ⟨none, (.store 7 (.t 1) (.t 16)), none⟩, ⟨none, (.store 7 (.t 2) (.t 17)), none⟩]) (.seq (.region [.o 18 (.faddr
  2 (.t 2)), ⟨none, (.store 1 (.t 18) (.const (.int .i64 0))), none⟩]) (.seq (.region [.o 20 (.load (some 7) (.t 1)), .o 21 (.bslice [(.int .i64 0), (.int .i64 0), (.int .i64 0)]
  3 1 [(0, (1, (.const (.int .i64 0)))), (1, (1, (.const (.int .i64 0)))), (2, (1, (.const (.int .i64 3))))]), .o 22 (.call (.func 18) [(.t 20), (.t 21)]), .m 19 22, .o 23 (.ext
  (.t 19) 0), .o 24 (.ext (.t 19) 1), .m 3 23, .m 4 24]) (.seq (.region [.o 26 (.load (some 7) (.t 1)), .o 27 (.bslice [(.int .i64 0), (.int .i64 0), (.int .i64 0)] 3 1 [(0, (1,
  (.const (.int .i64 5)))), (1, (1, (.const (.int .i64 5)))), (2, (1, (.const (.int .i64 5))))]), .o 28 (.call (.func 31) [(.t 26), (.t 27)]), .m 25 28, .o 29 (.ext (.t 25) 0), .o
  30 (.ext (.t 25) 1), .m 5 29, .m 6 30]) (.seq (.region [.o 32 (.load (some 7) (.t 1)), .o 33 (.bslice [(.int .i64 0), (.int .i64 0), (.int .i64 0)] 3 1 [(0, (1, (.const (.int
  .i64 4)))), (1, (1, (.const (.int .i64 4)))), (2, (1, (.const (.int .i64 4))))]), .o 34 (.call (.func 31) [(.t 32), (.t 33)]), .m 31 34, .o 35 (.ext (.t 31) 0), .o 36 (.ext (.t
  31) 1), .m 7 35, .m 8 36]) (.seq (.region [.o 38 (.load (some 7) (.t 2)), .o 39 (.call (.func 28) [(.t 38)]), .m 37 39, .o 40 (.ext (.t 37) 0), .o 41 (.ext (.t 37) 1), .o 42
  (.ext (.t 37) 2), .m 9 40, .m 10 41, .m 11 42]) (.seq (.region [.o 44 (.load (some 7) (.t 1)), .o 45 (.bslice [(.int .i64 0), (.int .i64 0), (.int .i64 0)] 3 1 [(0, (1, (.const
  (.int .i64 2)))), (1, (1, (.const (.int .i64 0)))), (2, (1, (.const (.int .i64 0))))]), .o 46 (.bslice [(.int .i64 0), (.int .i64 0), (.int .i64 0)] 3 1 [(0, (1, (.const (.int
  .i64 20)))), (1, (1, (.const (.int .i64 30)))), (2, (1, (.const (.int .i64 20))))]), .o 47 (.call (.func 23) [(.t 44), (.t 45), (.const (.int .i64 50)), (.t 46)]), .m 43 47, .o
  48 (.ext (.t 43) 0), .o 49 (.ext (.t 43) 1), .m 12 48, .m 13 49]) (.seq (.region [.o 51 (.load (some 7) (.t 1)), .o 52 (.bslice [(.int .i64 0), (.int .i64 0), (.int .i64 0)] 3 1
  [(0, (1, (.const (.int .i64 0)))), (1, (1, (.const (.int .i64 0)))), (2, (1, (.const (.int .i64 0))))]), .o 53 (.bslice [(.int .i64 0), (.int .i64 0), (.int .i64 0)] 3 1 [(0, (1,
   (.const (.int .i64 20)))), (1, (1, (.const (.int .i64 30)))), (2, (1, (.const (.int .i64 20))))]), .o 54 (.call (.func 23) [(.t 51), (.t 52), (.const (.int .i64 40)), (.t 53)]),
   .m 50 54, .o 55 (.ext (.t 50) 0), .o 56 (.ext (.t 50) 1), .m 14 55, .m 15 56]) (.seq (.region [.m 57 4, .o 58 (.bin .eql (.t 57) (.const (.int .i64 3))), .m 59 58, ⟨(some 60),
  (.mv (.t 6)), (some (59, true))⟩, ⟨(some 61), (.bin .eql (.t 60) (.const (.int .i64 0))), (some (59, true))⟩, .o 62 (.pick (.t 59) (.t 61) (.const (.bool false))), .m 63 62,
  ⟨(some 64), (.mv (.t 8)), (some (63, true))⟩, ⟨(some 65), (.bin .eql (.t 64) (.const (.int .i64 0))), (some (63, true))⟩, .o 66 (.pick (.t 63) (.t 65) (.const (.bool false))),
  .m 67 66, ⟨(some 68), (.mv (.t 11)), (some (67, true))⟩, ⟨(some 69), (.bin .eql (.t 68) (.const (.int .i64 0))), (some (67, true))⟩, .o 70 (.pick (.t 67) (.t 69) (.const (.bool
  false))), .m 71 70, ⟨(some 72), (.mv (.t 13)), (some (71, true))⟩, ⟨(some 73), (.bin .eql (.t 72) (.const (.int .i64 10))), (some (71, true))⟩, .o 74 (.pick (.t 71) (.t 73)
  (.const (.bool false))), .m 75 74, ⟨(some 76), (.mv (.t 15)), (some (75, true))⟩, ⟨(some 77), (.bin .eql (.t 76) (.const (.int .i64 20))), (some (75, true))⟩, .o 78 (.pick (.t
  75) (.t 77) (.const (.bool false))), .m 79 78, ⟨(some 80), (.mv (.t 5)), (some (79, true))⟩, ⟨(some 81), (.bin .eql (.t 80) (.const (.int .i64 13))), (some (79, true))⟩, .o 82
  (.pick (.t 79) (.t 81) (.const (.bool false))), .m 83 82, ⟨(some 84), (.mv (.t 7)), (some (83, true))⟩, ⟨(some 85), (.bin .eql (.t 84) (.const (.int .i64 12))), (some (83,
  true))⟩, .o 86 (.pick (.t 83) (.t 85) (.const (.bool false))), .m 87 86, ⟨(some 88), (.mv (.t 9)), (some (87, true))⟩, ⟨(some 89), (.bin .eql (.t 88) (.const (.int .i64 (-1)))),
  (some (87, true))⟩, .o 90 (.pick (.t 87) (.t 89) (.const (.bool false))), .m 91 90, ⟨(some 92), (.mv (.t 10)), (some (91, true))⟩, ⟨(some 93), (.bin .eql (.t 92) (.const (.int
  .i64 1))), (some (91, true))⟩, .o 94 (.pick (.t 91) (.t 93) (.const (.bool false))), .m 95 94, ⟨(some 96), (.call (.func 15) []), (some (95, true))⟩, .o 97 (.pick (.t 95) (.t
  96) (.const (.bool false))), .m 0 97]) .ret))))))))))⟩
def af14 : AFn := ⟨13, [(.tmp 2)], (.seq (.region [.o 1 (.box (.t 0)), .o 2 (.mv (.const (.bool false)))]) (.seq (.region [.o 3 (.faddr 5 (.t 1)), .l 4 3, .o 5 (.len (.t 4)), .o 6 (.bin .gtr (.t 5)
  (.const (.int .i64 30))), .m 7 6, ⟨(some 8), (.faddr 6 (.t 1)), (some (7, false))⟩, ⟨(some 9), (.load none (.t 8)), (some (7, false))⟩, ⟨(some 10), (.len (.t 9)), (some (7,
  false))⟩, ⟨(some 11), (.bin .gtr (.t 10) (.const (.int .i64 30))), (some (7, false))⟩, .o 12 (.pick (.t 7) (.const (.bool true)) (.t 11)), .m 2 12]) .ret))⟩
def af15 : AFn := ⟨188, [(.tmp 0)], (.seq (.region [.o 0 (.mv (.const (.bool false)))]) (.seq (.region [.o 30 (.call (.func 41) []), .o 1 (.alloc [(.int .i64 0), (.int .i64 0), (.int .i64 0), (.int
  .i64 0), (.int .i64 0), (.slc none 0 0 true 0), (.slc none 0 0 true 0)]), ⟨none, (.store 7 (.t 1) (.t 30)), none⟩]) (.seq (.region [.o 32 (.load (some 7) (.t 1)), .o 33 (.call
  (.func 16) [(.t 32)]), .m 31 33, .o 34 (.ext (.t 31) 0), .o 35 (.ext (.t 31) 1), .m 2 34, .m 3 35]) (.seq (.region [.o 37 (.load (some 7) (.t 1)), .o 38 (.call (.func 26) [(.t
  37)]), .m 36 38, .o 39 (.ext (.t 36) 0), .o 40 (.ext (.t 36) 1), .o 41 (.ext (.t 36) 2), .m 4 39, .m 5 40, .m 6 41]) (.seq (.region [.o 43 (.load (some 7) (.t 1)), .o 44
  (.bslice [(.int .i64 0), (.int .i64 0), (.int .i64 0)] 3 1 [(0, (1, (.const (.int .i64 0)))), (1, (1, (.const (.int .i64 1)))), (2, (1, (.const (.int .i64 2))))]), .o 45 (.call
  (.func 18) [(.t 43), (.t 44)]), .m 42 45, .o 46 (.ext (.t 42) 0), .o 47 (.ext (.t 42) 1), .m 7 46, .m 8 47]) (.seq (.region [.o 49 (.load (some 7) (.t 1)), .o 50 (.bslice [(.int
  .i64 0), (.int .i64 0), (.int .i64 0)] 3 1 [(0, (1, (.const (.int .i64 2)))), (1, (1, (.const (.int .i64 0)))), (2, (1, (.const (.int .i64 1))))]), .o 51 (.call (.func 18) [(.t
  49), (.t 50)]), .m 48 51, .o 52 (.ext (.t 48) 0), .o 53 (.ext (.t 48) 1), .m 9 52, .m 10 53]) (.seq (.region [.o 55 (.load (some 7) (.t 1)), .o 56 (.bslice [(.int .i64 0), (.int
  .i64 0), (.int .i64 0)] 3 1 [(0, (1, (.const (.int .i64 0)))), (1, (1, (.const (.int .i64 0)))), (2, (1, (.const (.int .i64 2))))]), .o 57 (.call (.func 18) [(.t 55), (.t 56)]),
  .m 54 57, .o 58 (.ext (.t 54) 0), .o 59 (.ext (.t 54) 1), .m 11 58, .m 12 59]) (.seq (.region [.o 61 (.load (some 7) (.t 1)), .o 62 (.bslice [(.int .i64 0), (.int .i64 0), (.int
  .i64 0)] 3 1 [(0, (1, (.const (.int .i64 1)))), (1, (1, (.const (.int .i64 0)))), (2, (1, (.const (.int .i64 2))))]), .o 63 (.bslice [(.int .i64 0), (.int .i64 0), (.int .i64
  0)] 3 1 [(0, (1, (.const (.int .i64 20)))), (1, (1, (.const (.int .i64 30)))), (2, (1, (.const (.int .i64 20))))]), .o 64 (.call (.func 23) [(.t 61), (.t 62), (.const (.int .i64
  50)), (.t 63)]), .m 60 64, .o 65 (.ext (.t 60) 0), .o 66 (.ext (.t 60) 1), .m 13 65, .m 14 66]) (.seq (.region [.o 68 (.load (some 7) (.t 1)), .o 69 (.bslice [(.int .i64 0),
  (.int .i64 0), (.int .i64 0)] 3 1 [(0, (1, (.const (.int .i64 5)))), (1, (1, (.const (.int .i64 9)))), (2, (1, (.const (.int .i64 4))))]), .o 70 (.call (.func 31) [(.t 68), (.t
  69)]), .m 67 70, .o 71 (.ext (.t 67) 0), .o 72 (.ext (.t 67) 1), .m 15 71, .m 16 72]) (.seq (.region [.o 74 (.load (some 7) (.t 1)), .o 75 (.call (.func 33) [(.t 74)]), .m 73 75,
   .o 76 (.ext (.t 73) 0), .o 77 (.ext (.t 73) 1), .m 17 76, .m 18 77]) (.seq (.region [.o 79 (.load (some 7) (.t 1)), .o 80 (.call (.func 28) [(.t 79)]), .m 78 80, .o 81 (.ext
  (.t 78) 0), .o 82 (.ext (.t 78) 1), .o 83 (.ext (.t 78) 2), .m 19 81, .m 20 82, .m 21 83]) (.seq (.region [.o 85 (.call (.func 42) []), .o 86 (.call (.func 28) [(.t 85)]), .m 84
  86, .o 87 (.ext (.t 84) 0), .o 88 (.ext (.t 84) 1), .o 89 (.ext (.t 84) 2), .m 22 87, .m 23 88, .m 24 89]) (.seq (.region [.o 91 (.call (.func 42) []), .o 92 (.call (.func 26)
  [(.t 91)]), .m 90 92, .o 93 (.ext (.t 90) 0), .o 94 (.ext (.t 90) 1), .o 95 (.ext (.t 90) 2), .m 25 93, .m 26 94, .m 27 95]) (.seq (.seq (.region [.m 96 3, .o 97 (.bin .neq (.t
  96) (.const (.int .i64 0))), .m 98 97, ⟨(some 99), (.mv (.t 6)), (some (98, false))⟩, ⟨(some 100), (.bin .neq (.t 99) (.const (.int .i64 0))), (some (98, false))⟩, .o 101 (.pick
  (.t 98) (.const (.bool true)) (.t 100)), .m 102 101, ⟨(some 103), (.mv (.t 8)), (some (102, false))⟩, ⟨(some 104), (.bin .neq (.t 103) (.const (.int .i64 0))), (some (102,
  false))⟩, .o 105 (.pick (.t 102) (.const (.bool true)) (.t 104)), .m 106 105, ⟨(some 107), (.mv (.t 10)), (some (106, false))⟩, ⟨(some 108), (.bin .neq (.t 107) (.const (.int
  .i64 10))), (some (106, false))⟩, .o 109 (.pick (.t 106) (.const (.bool true)) (.t 108)), .m 110 109, ⟨(some 111), (.mv (.t 12)), (some (110, false))⟩, ⟨(some 112), (.bin .neq
  (.t 111) (.const (.int .i64 20))), (some (110, false))⟩, .o 113 (.pick (.t 110) (.const (.bool true)) (.t 112)), .m 114 113, ⟨(some 115), (.mv (.t 14)), (some (114, false))⟩,
  ⟨(some 116), (.bin .neq (.t 115) (.const (.int .i64 0))), (some (114, false))⟩, .o 117 (.pick (.t 114) (.const (.bool true)) (.t 116)), .m 118 117, ⟨(some 119), (.mv (.t 16)),
  (some (118, false))⟩, ⟨(some 120), (.bin .neq (.t 119) (.const (.int .i64 0))), (some (118, false))⟩, .o 121 (.pick (.t 118) (.const (.bool true)) (.t 120)), .m 122 121, ⟨(some
  123), (.mv (.t 18)), (some (122, false))⟩, ⟨(some 124), (.bin .neq (.t 123) (.const (.int .i64 0))), (some (122, false))⟩, .o 125 (.pick (.t 122) (.const (.bool true)) (.t 124)),
   .m 126 125, ⟨(some 127), (.mv (.t 21)), (some (126, false))⟩, ⟨(some 128), (.bin .neq (.t 127) (.const (.int .i64 5))), (some (126, false))⟩, .o 129 (.pick (.t 126) (.const
  (.bool true)) (.t 128)), .m 130 129, ⟨(some 131), (.mv (.t 24)), (some (130, false))⟩, ⟨(some 132), (.bin .neq (.t 131) (.const (.int .i64 0))), (some (130, false))⟩, .o 133
  (.pick (.t 130) (.const (.bool true)) (.t 132)), .m 134 133, ⟨(some 135), (.mv (.t 27)), (some (134, false))⟩, ⟨(some 136), (.bin .neq (.t 135) (.const (.int .i64 13))), (some
  (134, false))⟩, .o 137 (.pick (.t 134) (.const (.bool true)) (.t 136))]) (.cond (.t 137) (.seq (.region [.o 0 (.mv (.const (.bool false)))]) .ret) .skip)) (.seq (.region [.o 139
  (.load (some 7) (.t 1)), .m 140 17, .o 141 (.call (.func 32) [(.t 139), (.t 140)]), .m 138 141, .o 142 (.ext (.t 138) 0), .o 143 (.ext (.t 138) 1), .m 28 142, .m 29 143]) (.seq
  (.region [.m 144 29, .o 145 (.bin .eql (.t 144) (.const (.int .i64 0))), .m 146 145, ⟨(some 147), (.mv (.t 28)), (some (146, true))⟩, ⟨(some 148), (.bin .eql (.t 147) (.const
  (.int .i64 13))), (some (146, true))⟩, .o 149 (.pick (.t 146) (.t 148) (.const (.bool false))), .m 150 149, ⟨(some 151), (.mv (.t 2)), (some (150, true))⟩, ⟨(some 152), (.call
  (.func 40) [(.const (.int .i64 0)), (.const (.int .i64 1))]), (some (150, true))⟩, ⟨(some 153), (.call (.func 40) [(.const (.int .i64 1)), (.const (.int .i64 2))]), (some (150,
  true))⟩, ⟨(some 154), (.call (.func 40) [(.const (.int .i64 3)), (.const (.int .i64 3))]), (some (150, true))⟩, ⟨(some 155), (.bslice [(.int .i64 0), (.int .i64 0), (.int .i64
  0), (.int .i64 0), (.int .i64 0), (.int .i64 0)] 3 2 [(0, (2, (.t 152))), (2, (2, (.t 153))), (4, (2, (.t 154)))]), (some (150, true))⟩, ⟨(some 156), (.call (.func 22) [(.t 151),
   (.t 155)]), (some (150, true))⟩, .o 157 (.pick (.t 150) (.t 156) (.const (.bool false))), .m 158 157, ⟨(some 159), (.mv (.t 4)), (some (158, true))⟩, ⟨(some 160), (.bslice
  [(.int .i64 0), (.int .i64 0), (.int .i64 0)] 3 1 [(0, (1, (.const (.int .i64 1)))), (1, (1, (.const (.int .i64 0)))), (2, (1, (.const (.int .i64 2))))]), (some (158, true))⟩,
  ⟨(some 161), (.call (.func 30) [(.t 159), (.t 160)]), (some (158, true))⟩, .o 162 (.pick (.t 158) (.t 161) (.const (.bool false))), .m 163 162, ⟨(some 164), (.mv (.t 5)), (some
  (163, true))⟩, ⟨(some 165), (.bin .eql (.t 164) (.const (.int .i64 13))), (some (163, true))⟩, .o 166 (.pick (.t 163) (.t 165) (.const (.bool false))), .m 167 166, ⟨(some 168),
  (.mv (.t 7)), (some (167, true))⟩, ⟨(some 169), (.bin .eql (.t 168) (.const (.int .i64 17))), (some (167, true))⟩, .o 170 (.pick (.t 167) (.t 169) (.const (.bool false))), .m
  171 170, ⟨(some 172), (.mv (.t 13)), (some (171, true))⟩, ⟨(some 173), (.bslice [(.int .i64 0), (.int .i64 0), (.int .i64 0)] 3 1 [(0, (1, (.const (.int .i64 60)))), (1, (1,
  (.const (.int .i64 30)))), (2, (1, (.const (.int .i64 70))))]), (some (171, true))⟩, ⟨(some 174), (.call (.func 25) [(.t 172), (.t 173)]), (some (171, true))⟩, .o 175 (.pick (.t
  171) (.t 174) (.const (.bool false))), .m 176 175, ⟨(some 177), (.mv (.t 15)), (some (176, true))⟩, ⟨(some 178), (.bin .eql (.t 177) (.const (.int .i64 13))), (some (176,
  true))⟩, .o 179 (.pick (.t 176) (.t 178) (.const (.bool false))), .m 180 179, ⟨(some 181), (.mv (.t 22)), (some (180, true))⟩, ⟨(some 182), (.bin .eql (.t 181) (.const (.int
  .i64 2))), (some (180, true))⟩, .o 183 (.pick (.t 180) (.t 182) (.const (.bool false))), .m 184 183, ⟨(some 185), (.mv (.t 23)), (some (184, true))⟩, ⟨(some 186), (.bin .eql (.t
  185) (.const (.int .i64 2))), (some (184, true))⟩, .o 187 (.pick (.t 184) (.t 186) (.const (.bool false))), .m 0 187]) .ret))))))))))))))))⟩
def af16 : AFn := ⟨15, [(.tmp 2), (.tmp 3)], (.seq (.region [.o 1 (.box (.t 0)), .o 2 (.mv (.const (.slc none 0 0 true 0))), .o 3 (.mv (.const (.int .i64 0)))]) (.seq (.seq (.region [.o 5 (.load
  (some 7) (.t 1)), .o 6 (.call (.func 20) [(.t 5)]), .m 4 6]) (.seq (.region [.m 7 4, .o 8 (.bin .neq (.t 7) (.const (.int .i64 0)))]) (.cond (.t 8) (.seq (.region [.m 9 4, .o 2
  (.mv (.const (.slc none 0 0 true 0))), .m 3 9]) .ret) .skip))) (.seq (.region [.o 10 (.load (some 7) (.t 1)), .o 11 (.call (.func 43) [(.t 10)]), .o 12 (.nilchk (.t 11)), .o 13
  (.faddr 7 (.t 12)), .l 14 13, .m 2 14, .o 3 (.mv (.const (.int .i64 0)))]) .ret)))⟩
def af17 : AFn := ⟨11, [(.tmp 2), (.tmp 3)], (.seq (.region [.o 1 (.box (.t 0)), .o 2 (.mv (.const (.slc none 0 0 true 0))), .o 3 (.mv (.const (.int .i64 0)))]) (.seq (.seq (.region [.o 4 (.load
  (some 7) (.t 1)), .o 5 (.call (.func 21) [(.t 4)]), .o 6 (.bin .neq (.t 5) (.const (.int .i64 0)))]) (.cond (.t 6) (.seq (.region [.o 7 (.load (some 7) (.t 1)), .o 8 (.call
  (.func 21) [(.t 7)]), .o 2 (.mv (.const (.slc none 0 0 true 0))), .m 3 8]) .ret) .skip)) (.seq (.region [.o 9 (.load (some 7) (.t 1)), .o 10 (.call (.func 44) [(.t 9)]), .m 2 10,
   .o 3 (.mv (.const (.int .i64 0)))]) .ret)))⟩
def af18 : AFn := ⟨68, [(.tmp 4), (.tmp 5)], (.seq (.region [.o 2 (.box (.t 0)), .o 4 (.mv (.const (.int .i64 0))), .o 5 (.mv (.const (.int .i64 0)))]) (.seq (.region [.o 12 (.load (some 7) (.t 2)),
   .o 13 (.call (.func 20) [(.t 12)]), .m 6 13]) (.seq (.block 0 (.seq (.region [.m 15 6, .o 16 (.bin .neq (.t 15) (.const (.int .i64 0))), .m 14 16]) (.cond (.t 14) (.seq
  (.region [.m 17 6, .o 4 (.mv (.const (.int .i64 0))), .m 5 17]) .ret) (.seq (.region [.m 19 1, .o 20 (.len (.t 19)), .o 21 (.faddr 5 (.t 2)), .l 22 21, .o 23 (.len (.t 22)), .o
  24 (.bin .neq (.t 20) (.t 23)), .m 18 24]) (.cond (.t 18) (.seq (.region [.o 4 (.mv (.const (.int .i64 0))), .o 5 (.mv (.const (.int .i64 15)))]) .ret) (.seq (.region [.m 26 1,
  .o 27 (.mkfn 46 [] [(.t 2)]), .o 28 (.call (.func 45) [(.t 26), (.t 27)]), .m 25 28]) (.cond (.t 25) (.seq (.region [.o 4 (.mv (.const (.int .i64 0))), .o 5 (.mv (.const (.int
  .i64 3)))]) .ret) .skip))))))) (.seq (.region [.o 7 (.mv (.const (.int .i64 0))), .o 8 (.mv (.const (.int .i64 0)))]) (.seq (.seq (.region [.o 29 (.load (some 7) (.t 2)), .o 30
  (.call (.func 43) [(.t 29)]), .o 31 (.nilchk (.t 30)), .o 32 (.faddr 7 (.t 31)), .l 33 32, .o 34 (.len (.t 33)), .o 35 (.mv (.const (.int .i64 0)))]) (.block 1 (.loop (.seq
  (.region [.o 36 (.bin .lss (.t 35) (.t 34))]) (.seq (.cond (.t 36) .skip (.exit 1)) (.seq (.block 2 (.seq (.region [.m 37 35, .o 38 (.iaddrS 2 (.t 33) (.t 35)), .o 39 (.load
  (some 2) (.t 38)), .o 10 (.alloc [(.int .i64 0), (.int .i64 0)]), .m 9 37, ⟨none, (.store 2 (.t 10) (.t 39)), none⟩]) (.seq (.region [.m 40 1, .m 41 9, .o 42 (.iaddrS 1 (.t 40)
  (.t 41)), .l 43 42, .m 11 43]) (.seq (.region [.m 44 7, .m 45 11, .o 46 (.bin .add (.t 44) (.t 45)), .m 7 46]) (.seq (.region [.m 47 8, .m 48 11, .o 49 (.faddr 6 (.t 2)), .l 50
  49, .m 51 9, .o 52 (.iaddrS 1 (.t 50) (.t 51)), .l 53 52, .o 54 (.bin .mul (.t 48) (.t 53)), .o 55 (.bin .add (.t 47) (.t 54)), .m 8 55]) (.block 3 (.seq (.region [.m 57 7, .o
  58 (.faddr 1 (.t 10)), .l 59 58, .o 60 (.bin .gtr (.t 57) (.t 59)), .m 56 60]) (.cond (.t 56) (.seq (.region [.o 4 (.mv (.const (.int .i64 0))), .o 5 (.mv (.const (.int .i64
  10)))]) .ret) (.seq (.region [.m 62 7, .o 63 (.faddr 0 (.t 10)), .l 64 63, .o 65 (.bin .lss (.t 62) (.t 64)), .m 61 65]) (.cond (.t 61) (.seq (.region [.o 4 (.mv (.const (.int
  .i64 0))), .o 5 (.mv (.const (.int .i64 20)))]) .ret) .skip)))))))))) (.region [.o 66 (.bin .add (.t 35) (.const (.int .i64 1))), .m 35 66]))))))) (.seq (.region [.m 67 8, .m 4
  67, .o 5 (.mv (.const (.int .i64 0)))]) .ret))))))⟩
def af19 : AFn := ⟨83, [(.tmp 4), (.tmp 5)], (.seq (.region [.o 2 (.box (.t 0)), .o 4 (.mv (.const (.int .i64 0))), .o 5 (.mv (.const (.int .i64 0)))]) (.seq (.seq (.region [.o 11 (.load (some 7)
  (.t 2)), .o 12 (.call (.func 21) [(.t 11)]), .o 13 (.bin .neq (.t 12) (.const (.int .i64 0)))]) (.cond (.t 13) (.seq (.region [.o 14 (.load (some 7) (.t 2)), .o 15 (.call (.func
  21) [(.t 14)]), .o 4 (.mv (.const (.int .i64 0))), .m 5 15]) .ret) .skip)) (.seq (.seq (.region [.m 16 1, .o 17 (.len (.t 16)), .o 18 (.faddr 5 (.t 2)), .l 19 18, .o 20 (.len
  (.t 19)), .o 21 (.bin .neq (.t 17) (.t 20))]) (.cond (.t 21) (.seq (.region [.o 4 (.mv (.const (.int .i64 0))), .o 5 (.mv (.const (.int .i64 15)))]) .ret) .skip)) (.seq (.seq
  (.region [.o 6 (.mv (.const (.int .i64 0)))]) (.block 0 (.loop (.seq (.seq (.region [.m 22 6, .m 23 1, .o 24 (.len (.t 23)), .o 25 (.bin .lss (.t 22) (.t 24))]) (.cond (.t 25)
  .skip (.exit 0))) (.seq (.block 1 (.seq (.draw [.m 28 1, .m 29 6, .o 30 (.iaddrS 1 (.t 28) (.t 29)), .l 31 30, .o 32 (.bin .lss (.t 31) (.const (.int .i64 0))), .m 33 32, ⟨(some
  34), (.mv (.t 1)), (some (33, false))⟩, ⟨(some 35), (.mv (.t 6)), (some (33, false))⟩, ⟨(some 36), (.iaddrS 1 (.t 34) (.t 35)), (some (33, false))⟩, ⟨(some 37), (.load none (.t
  36)), (some (33, false))⟩, ⟨(some 38), (.faddr 2 (.t 2)), (some (33, false))⟩, ⟨(some 39), (.load none (.t 38)), (some (33, false))⟩, ⟨(some 40), (.bin .gtr (.t 37) (.t 39)),
  (some (33, false))⟩, .o 41 (.pick (.t 33) (.const (.bool true)) (.t 40))] []) (.cond (.t 41) (.seq (.region [.o 4 (.mv (.const (.int .i64 0))), .o 5 (.mv (.const (.int .i64
  3)))]) .ret) .skip))) (.region [.m 26 6, .o 27 (.bin .add (.t 26) (.const (.int .i64 1))), .m 6 27])))))) (.seq (.region [.o 42 (.load (some 7) (.t 2)), .o 43 (.call (.func 44)
  [(.t 42)]), .m 7 43]) (.seq (.region [.o 8 (.mv (.const (.int .i64 0))), .o 9 (.mv (.const (.int .i64 0)))]) (.seq (.seq (.region [.o 10 (.mv (.const (.int .i64 0)))]) (.block 2
  (.loop (.seq (.seq (.region [.m 44 10, .m 45 1, .o 46 (.len (.t 45)), .o 47 (.bin .lss (.t 44) (.t 46))]) (.cond (.t 47) .skip (.exit 2))) (.seq (.block 3 (.seq (.region [.m 50
  8, .m 51 1, .m 52 10, .o 53 (.iaddrS 1 (.t 51) (.t 52)), .l 54 53, .o 55 (.bin .add (.t 50) (.t 54)), .m 8 55]) (.seq (.draw [.m 56 9, .m 57 1, .m 58 10, .o 59 (.iaddrS 1 (.t
  57) (.t 58)), .l 60 59, .o 61 (.faddr 6 (.t 2)), .l 62 61, .m 63 10, .o 64 (.iaddrS 1 (.t 62) (.t 63)), .l 65 64, .o 66 (.bin .mul (.t 60) (.t 65)), .o 67 (.bin .add (.t 56) (.t
  66)), .m 9 67] []) (.seq (.seq (.region [.m 68 8, .m 69 7, .m 70 10, .o 71 (.iaddrS 2 (.t 69) (.t 70)), .o 72 (.faddr 1 (.t 71)), .l 73 72, .o 74 (.bin .gtr (.t 68) (.t 73))])
  (.cond (.t 74) (.seq (.region [.o 4 (.mv (.const (.int .i64 0))), .o 5 (.mv (.const (.int .i64 10)))]) .ret) .skip)) (.seq (.region [.m 75 8, .m 76 7, .m 77 10, .o 78 (.iaddrS 2
  (.t 76) (.t 77)), .o 79 (.faddr 0 (.t 78)), .l 80 79, .o 81 (.bin .lss (.t 75) (.t 80))]) (.cond (.t 81) (.seq (.region [.o 4 (.mv (.const (.int .i64 0))), .o 5 (.mv (.const
  (.int .i64 20)))]) .ret) .skip)))))) (.region [.m 48 10, .o 49 (.bin .add (.t 48) (.const (.int .i64 1))), .m 10 49])))))) (.seq (.region [.m 82 9, .m 4 82, .o 5 (.mv (.const
  (.int .i64 0)))]) .ret))))))))⟩
def af20 : AFn := ⟨55, [(.tmp 2)], (.seq (.region [.o 1 (.box (.t 0)), .o 2 (.mv (.const (.int .i64 0)))]) (.seq (.block 0 (.seq (.region [.o 4 (.faddr 5 (.t 1)), .l 5 4, .o 6 (.len (.t 5)), .o 7
  (.bin .eql (.t 6) (.const (.int .i64 0))), .m 8 7, ⟨(some 9), (.faddr 5 (.t 1)), (some (8, false))⟩, ⟨(some 10), (.load none (.t 9)), (some (8, false))⟩, ⟨(some 11), (.len (.t
  10)), (some (8, false))⟩, ⟨(some 12), (.bin .gtr (.t 11) (.const (.int .i64 20))), (some (8, false))⟩, .o 13 (.pick (.t 8) (.const (.bool true)) (.t 12)), .m 3 13]) (.cond (.t
  3) (.seq (.region [.o 2 (.mv (.const (.int .i64 6)))]) .ret) (.seq (.region [.o 15 (.faddr 6 (.t 1)), .l 16 15, .o 17 (.len (.t 16)), .o 18 (.faddr 5 (.t 1)), .l 19 18, .o 20
  (.len (.t 19)), .o 21 (.bin .neq (.t 17) (.t 20)), .m 14 21]) (.cond (.t 14) (.seq (.region [.o 2 (.mv (.const (.int .i64 15)))]) .ret) (.seq (.region [.o 23 (.faddr 0 (.t 1)),
  .l 24 23, .o 25 (.faddr 1 (.t 1)), .l 26 25, .o 27 (.bslice [(.int .i64 0), (.int .i64 0)] 2 1 [(0, (1, (.t 24))), (1, (1, (.t 26)))]), .o 28 (.call (.func 47) [(.const (.int
  .i64 1)), (.const (.int .i64 100000)), (.t 27)]), .o 29 (.un .not (.t 28)), .m 30 29, ⟨(some 31), (.faddr 2 (.t 1)), (some (30, false))⟩, ⟨(some 32), (.load none (.t 31)), (some
  (30, false))⟩, ⟨(some 33), (.bslice [(.int .i64 0)] 1 1 [(0, (1, (.t 32)))]), (some (30, false))⟩, ⟨(some 34), (.call (.func 47) [(.const (.int .i64 0)), (.const (.int .i64 10)),
   (.t 33)]), (some (30, false))⟩, ⟨(some 35), (.un .not (.t 34)), (some (30, false))⟩, .o 36 (.pick (.t 30) (.const (.bool true)) (.t 35)), .m 37 36, ⟨(some 38), (.faddr 3 (.t
  1)), (some (37, false))⟩, ⟨(some 39), (.load (some 2) (.t 38)), (some (37, false))⟩, ⟨(some 40), (.faddr 0 (.t 1)), (some (37, false))⟩, ⟨(some 41), (.load none (.t 40)), (some
  (37, false))⟩, ⟨(some 42), (.call (.func 48) [(.t 39), (.const (.int .i64 0)), (.t 41)]), (some (37, false))⟩, ⟨(some 43), (.un .not (.t 42)), (some (37, false))⟩, .o 44 (.pick
  (.t 37) (.const (.bool true)) (.t 43)), .m 22 44]) (.cond (.t 22) (.seq (.region [.o 2 (.mv (.const (.int .i64 2)))]) .ret) (.seq (.region [.o 46 (.faddr 5 (.t 1)), .l 47 46, .o
  48 (.call (.func 49) [(.t 47), (.func 50)]), .m 49 48, ⟨(some 50), (.faddr 6 (.t 1)), (some (49, false))⟩, ⟨(some 51), (.load none (.t 50)), (some (49, false))⟩, ⟨(some 52),
  (.call (.func 47) [(.const (.int .i64 0)), (.const (.int .i64 100000)), (.t 51)]), (some (49, false))⟩, ⟨(some 53), (.un .not (.t 52)), (some (49, false))⟩, .o 54 (.pick (.t 49)
  (.const (.bool true)) (.t 53)), .m 45 54]) (.cond (.t 45) (.seq (.region [.o 2 (.mv (.const (.int .i64 3)))]) .ret) .skip))))))))) (.seq (.region [.o 2 (.mv (.const (.int .i64
  0)))]) .ret)))⟩
def af21 : AFn := ⟨87, [(.tmp 2)], (.seq (.region [.o 1 (.box (.t 0)), .o 2 (.mv (.const (.int .i64 0)))]) (.seq (.seq (.region [.o 4 (.faddr 5 (.t 1)), .l 5 4, .o 6 (.len (.t 5)), .o 7 (.bin .lss
  (.t 6) (.const (.int .i64 1))), .m 8 7, ⟨(some 9), (.faddr 5 (.t 1)), (some (8, false))⟩, ⟨(some 10), (.load none (.t 9)), (some (8, false))⟩, ⟨(some 11), (.len (.t 10)), (some
  (8, false))⟩, ⟨(some 12), (.bin .gtr (.t 11) (.const (.int .i64 20))), (some (8, false))⟩, .o 13 (.pick (.t 8) (.const (.bool true)) (.t 12))]) (.cond (.t 13) (.seq (.region [.o
  2 (.mv (.const (.int .i64 6)))]) .ret) .skip)) (.seq (.seq (.region [.o 14 (.faddr 6 (.t 1)), .l 15 14, .o 16 (.len (.t 15)), .o 17 (.faddr 5 (.t 1)), .l 18 17, .o 19 (.len (.t
  18)), .o 20 (.bin .neq (.t 16) (.t 19))]) (.cond (.t 20) (.seq (.region [.o 2 (.mv (.const (.int .i64 15)))]) .ret) .skip)) (.seq (.seq (.region [.o 21 (.faddr 0 (.t 1)), .l 22
  21, .o 23 (.bin .lss (.t 22) (.const (.int .i64 1))), .m 24 23, ⟨(some 25), (.faddr 0 (.t 1)), (some (24, false))⟩, ⟨(some 26), (.load none (.t 25)), (some (24, false))⟩, ⟨(some
  27), (.bin .gtr (.t 26) (.const (.int .i64 100000))), (some (24, false))⟩, .o 28 (.pick (.t 24) (.const (.bool true)) (.t 27)), .m 29 28, ⟨(some 30), (.faddr 1 (.t 1)), (some
  (29, false))⟩, ⟨(some 31), (.load none (.t 30)), (some (29, false))⟩, ⟨(some 32), (.bin .lss (.t 31) (.const (.int .i64 1))), (some (29, false))⟩, .o 33 (.pick (.t 29) (.const
  (.bool true)) (.t 32)), .m 34 33, ⟨(some 35), (.faddr 1 (.t 1)), (some (34, false))⟩, ⟨(some 36), (.load none (.t 35)), (some (34, false))⟩, ⟨(some 37), (.bin .gtr (.t 36)
  (.const (.int .i64 100000))), (some (34, false))⟩, .o 38 (.pick (.t 34) (.const (.bool true)) (.t 37)), .m 39 38, ⟨(some 40), (.faddr 2 (.t 1)), (some (39, false))⟩, ⟨(some 41),
  (.load none (.t 40)), (some (39, false))⟩, ⟨(some 42), (.bin .lss (.t 41) (.const (.int .i64 0))), (some (39, false))⟩, .o 43 (.pick (.t 39) (.const (.bool true)) (.t 42)), .m
  44 43, ⟨(some 45), (.faddr 2 (.t 1)), (some (44, false))⟩, ⟨(some 46), (.load none (.t 45)), (some (44, false))⟩, ⟨(some 47), (.bin .gtr (.t 46) (.const (.int .i64 10))), (some
  (44, false))⟩, .o 48 (.pick (.t 44) (.const (.bool true)) (.t 47)), .m 49 48, ⟨(some 50), (.faddr 3 (.t 1)), (some (49, false))⟩, ⟨(some 51), (.load (some 2) (.t 50)), (some (49,
   false))⟩, ⟨(some 52), (.faddr 0 (.t 1)), (some (49, false))⟩, ⟨(some 53), (.load none (.t 52)), (some (49, false))⟩, ⟨(some 54), (.call (.func 51) [(.t 51), (.const (.int .i64
  0)), (.t 53)]), (some (49, false))⟩, ⟨(some 55), (.un .not (.t 54)), (some (49, false))⟩, .o 56 (.pick (.t 49) (.const (.bool true)) (.t 55))]) (.cond (.t 56) (.seq (.region [.o
  2 (.mv (.const (.int .i64 2)))]) .ret) .skip)) (.seq (.seq (.region [.o 3 (.mv (.const (.int .i64 0)))]) (.block 0 (.loop (.seq (.seq (.region [.m 57 3, .o 58 (.faddr 5 (.t 1)),
  .l 59 58, .o 60 (.len (.t 59)), .o 61 (.bin .lss (.t 57) (.t 60))]) (.cond (.t 61) .skip (.exit 0))) (.seq (.block 1 (.seq (.region [.o 64 (.faddr 5 (.t 1)), .l 65 64, .m 66 3,
  .o 67 (.iaddrS 2 (.t 65) (.t 66)), .o 68 (.load (some 2) (.t 67)), .o 69 (.call (.func 51) [(.t 68), (.const (.int .i64 0)), (.const (.int .i64 100000))]), .o 70 (.un .not (.t
  69)), .m 71 70, ⟨(some 72), (.faddr 6 (.t 1)), (some (71, false))⟩, ⟨(some 73), (.load none (.t 72)), (some (71, false))⟩, ⟨(some 74), (.mv (.t 3)), (some (71, false))⟩, ⟨(some
  75), (.iaddrS 1 (.t 73) (.t 74)), (some (71, false))⟩, ⟨(some 76), (.load none (.t 75)), (some (71, false))⟩, ⟨(some 77), (.bin .lss (.t 76) (.const (.int .i64 0))), (some (71,
  false))⟩, .o 78 (.pick (.t 71) (.const (.bool true)) (.t 77)), .m 79 78, ⟨(some 80), (.faddr 6 (.t 1)), (some (79, false))⟩, ⟨(some 81), (.load none (.t 80)), (some (79,
  false))⟩, ⟨(some 82), (.mv (.t 3)), (some (79, false))⟩, ⟨(some 83), (.iaddrS 1 (.t 81) (.t 82)), (some (79, false))⟩, ⟨(some 84), (.load none (.t 83)), (some (79, false))⟩,
  ⟨(some 85), (.bin .gtr (.t 84) (.const (.int .i64 100000))), (some (79, false))⟩, .o 86 (.pick (.t 79) (.const (.bool true)) (.t 85))]) (.cond (.t 86) (.seq (.region [.o 2 (.mv
  (.const (.int .i64 3)))]) .ret) .skip))) (.region [.m 62 3, .o 63 (.bin .add (.t 62) (.const (.int .i64 1))), .m 3 63])))))) (.seq (.region [.o 2 (.mv (.const (.int .i64 0)))])
  .ret))))))⟩
def af22 : AFn := ⟨26, [(.tmp 4)], (.seq (.region [.o 4 (.mv (.const (.bool false)))]) (.seq (.seq (.region [.m 6 0, .o 7 (.len (.t 6)), .m 8 1, .o 9 (.len (.t 8)), .o 10 (.bin .neq (.t 7) (.t
  9))]) (.cond (.t 10) (.seq (.region [.o 4 (.mv (.const (.bool false)))]) .ret) .skip)) (.seq (.seq (.region [.o 5 (.mv (.const (.int .i64 0)))]) (.block 0 (.loop (.seq (.seq
  (.region [.m 11 5, .m 12 0, .o 13 (.len (.t 12)), .o 14 (.bin .lss (.t 11) (.t 13))]) (.cond (.t 14) .skip (.exit 0))) (.seq (.block 1 (.seq (.draw [.m 17 0, .m 18 5, .o 19
  (.iaddrS 2 (.t 17) (.t 18)), .o 20 (.load (some 2) (.t 19)), .m 21 1, .m 22 5, .o 23 (.iaddrS 2 (.t 21) (.t 22)), .o 24 (.load (some 2) (.t 23)), .o 25 (.eqf true true [.int,
  .int] (.t 20) (.t 24))] []) (.cond (.t 25) (.seq (.region [.o 4 (.mv (.const (.bool false)))]) .ret) .skip))) (.region [.m 15 5, .o 16 (.bin .add (.t 15) (.const (.int .i64 1))),
   .m 5 16])))))) (.seq (.region [.o 4 (.mv (.const (.bool true)))]) .ret))))⟩
def af23 : AFn := ⟨109, [(.tmp 8), (.tmp 9)], (.seq (.region [.o 4 (.box (.t 0)), .o 8 (.mv (.const (.slc none 0 0 true 0))), .o 9 (.mv (.const (.int .i64 0)))]) (.seq (.region [.o 16 (.load (some
  7) (.t 4)), .o 17 (.call (.func 20) [(.t 16)]), .m 10 17]) (.seq (.block 0 (.seq (.region [.m 19 10, .o 20 (.bin .neq (.t 19) (.const (.int .i64 0))), .m 18 20]) (.cond (.t 18)
  (.seq (.region [.m 21 10, .o 8 (.mv (.const (.slc none 0 0 true 0))), .m 9 21]) .ret) (.seq (.region [.m 23 1, .o 24 (.len (.t 23)), .o 25 (.faddr 5 (.t 4)), .l 26 25, .o 27
  (.len (.t 26)), .o 28 (.bin .neq (.t 24) (.t 27)), .m 29 28, ⟨(some 30), (.mv (.t 3)), (some (29, false))⟩, ⟨(some 31), (.len (.t 30)), (some (29, false))⟩, ⟨(some 32), (.faddr
  5 (.t 4)), (some (29, false))⟩, ⟨(some 33), (.load none (.t 32)), (some (29, false))⟩, ⟨(some 34), (.len (.t 33)), (some (29, false))⟩, ⟨(some 35), (.bin .neq (.t 31) (.t 34)),
  (some (29, false))⟩, .o 36 (.pick (.t 29) (.const (.bool true)) (.t 35)), .m 22 36]) (.cond (.t 22) (.seq (.region [.o 8 (.mv (.const (.slc none 0 0 true 0))), .o 9 (.mv (.const
  (.int .i64 15)))]) .ret) (.seq (.region [.o 38 (.faddr 3 (.t 4)), .o 39 (.faddr 0 (.t 38)), .l 40 39, .o 41 (.faddr 3 (.t 4)), .o 42 (.faddr 1 (.t 41)), .l 43 42, .m 44 2, .o 45
  (.bslice [(.int .i64 0)] 1 1 [(0, (1, (.t 44)))]), .o 46 (.call (.func 47) [(.t 40), (.t 43), (.t 45)]), .o 47 (.un .not (.t 46)), .m 48 47, ⟨(some 49), (.mv (.t 1)), (some (48,
  false))⟩, ⟨(some 50), (.mkfn 52 [] [(.t 4)]), (some (48, false))⟩, ⟨(some 51), (.call (.func 45) [(.t 49), (.t 50)]), (some (48, false))⟩, .o 52 (.pick (.t 48) (.const (.bool
  true)) (.t 51)), .m 37 52]) (.cond (.t 37) (.seq (.region [.o 8 (.mv (.const (.slc none 0 0 true 0))), .o 9 (.mv (.const (.int .i64 3)))]) .ret) .skip))))))) (.seq (.seq
  (.region [.o 53 (.faddr 5 (.t 4)), .l 54 53, .o 55 (.len (.t 54)), .o 56 (.mv (.const (.int .i64 0)))]) (.block 1 (.loop (.seq (.region [.o 57 (.bin .lss (.t 56) (.t 55))])
  (.seq (.cond (.t 57) .skip (.exit 1)) (.seq (.block 2 (.seq (.region [.m 58 56, .o 59 (.iaddrS 2 (.t 54) (.t 56)), .o 60 (.load (some 2) (.t 59)), .o 12 (.alloc [(.int .i64 0),
  (.int .i64 0)]), .m 11 58, ⟨none, (.store 2 (.t 12) (.t 60)), none⟩]) (.seq (.draw [.o 61 (.faddr 0 (.t 12)), .l 62 61, .o 63 (.faddr 1 (.t 12)), .l 64 63, .m 65 3, .m 66 11, .o
  67 (.iaddrS 1 (.t 65) (.t 66)), .l 68 67, .o 69 (.bslice [(.int .i64 0)] 1 1 [(0, (1, (.t 68)))]), .o 70 (.call (.func 47) [(.t 62), (.t 64), (.t 69)]), .o 71 (.un .not (.t
  70))] [(1, 8), (3, 8)]) (.cond (.t 71) (.seq (.region [.o 8 (.mv (.const (.slc none 0 0 true 0))), .o 9 (.mv (.const (.int .i64 3)))]) .ret) .skip)))) (.region [.o 72 (.bin .add
  (.t 56) (.const (.int .i64 1))), .m 56 72]))))))) (.seq (.region [.o 13 (.mv (.const (.slc none 0 0 true 0)))]) (.seq (.seq (.region [.m 73 1, .o 74 (.len (.t 73)), .o 75 (.mv
  (.const (.int .i64 0)))]) (.block 3 (.loop (.seq (.region [.o 76 (.bin .lss (.t 75) (.t 74))]) (.seq (.cond (.t 76) .skip (.exit 3)) (.seq (.block 4 (.seq (.region [.m 77 75, .o
  78 (.iaddrS 1 (.t 73) (.t 75)), .l 79 78, .m 14 77, .m 15 79]) (.seq (.region [.m 80 2, .m 81 15, .o 82 (.faddr 1 (.t 4)), .l 83 82, .o 84 (.bin .mul (.t 81) (.t 83)), .o 85
  (.bin .add (.t 80) (.t 84)), .m 2 85]) (.seq (.seq (.region [.m 86 2, .o 87 (.faddr 0 (.t 4)), .l 88 87, .o 89 (.bin .gtr (.t 86) (.t 88))]) (.cond (.t 89) (.seq (.region [.o 8
  (.mv (.const (.slc none 0 0 true 0))), .o 9 (.mv (.const (.int .i64 10)))]) .ret) .skip)) (.seq (.region [.m 90 2, .m 91 3, .m 92 14, .o 93 (.iaddrS 1 (.t 91) (.t 92)), .l 94 93,
   .o 95 (.bin .sub (.t 90) (.t 94)), .m 2 95]) (.seq (.seq (.region [.m 96 2, .o 97 (.bin .lss (.t 96) (.const (.int .i64 0)))]) (.cond (.t 97) (.seq (.region [.o 8 (.mv (.const
  (.slc none 0 0 true 0))), .o 9 (.mv (.const (.int .i64 20)))]) .ret) .skip)) (.region [.m 98 13, .m 99 13, .o 100 (.len (.t 99)), .m 101 13, .o 102 (.len (.t 101)), .o 103 (.slc
  1 (.t 98) none (some (.t 100)) (some (.t 102))), .m 104 2, .o 105 (.bslice [(.int .i64 0)] 1 1 [(0, (1, (.t 104)))]), .o 106 (.app 1 8 (.t 103) (.t 105)), .m 13 106])))))))
  (.region [.o 107 (.bin .add (.t 75) (.const (.int .i64 1))), .m 75 107]))))))) (.seq (.region [.m 108 13, .m 8 108, .o 9 (.mv (.const (.int .i64 0)))]) .ret)))))))⟩
def af24 : AFn := ⟨124, [(.tmp 8), (.tmp 9)], (.seq (.region [.o 4 (.box (.t 0)), .o 8 (.mv (.const (.slc none 0 0 true 0))), .o 9 (.mv (.const (.int .i64 0)))]) (.seq (.seq (.region [.o 14 (.load
  (some 7) (.t 4)), .o 15 (.call (.func 21) [(.t 14)]), .o 16 (.bin .neq (.t 15) (.const (.int .i64 0)))]) (.cond (.t 16) (.seq (.region [.o 17 (.load (some 7) (.t 4)), .o 18
  (.call (.func 21) [(.t 17)]), .o 8 (.mv (.const (.slc none 0 0 true 0))), .m 9 18]) .ret) .skip)) (.seq (.seq (.region [.m 19 1, .o 20 (.len (.t 19)), .o 21 (.faddr 5 (.t 4)),
  .l 22 21, .o 23 (.len (.t 22)), .o 24 (.bin .neq (.t 20) (.t 23)), .m 25 24, ⟨(some 26), (.mv (.t 3)), (some (25, false))⟩, ⟨(some 27), (.len (.t 26)), (some (25, false))⟩,
  ⟨(some 28), (.faddr 5 (.t 4)), (some (25, false))⟩, ⟨(some 29), (.load none (.t 28)), (some (25, false))⟩, ⟨(some 30), (.len (.t 29)), (some (25, false))⟩, ⟨(some 31), (.bin
  .neq (.t 27) (.t 30)), (some (25, false))⟩, .o 32 (.pick (.t 25) (.const (.bool true)) (.t 31))]) (.cond (.t 32) (.seq (.region [.o 8 (.mv (.const (.slc none 0 0 true 0))), .o 9
  (.mv (.const (.int .i64 15)))]) .ret) .skip)) (.seq (.seq (.region [.m 33 2, .o 34 (.faddr 3 (.t 4)), .o 35 (.faddr 0 (.t 34)), .l 36 35, .o 37 (.bin .lss (.t 33) (.t 36)), .m
  38 37, ⟨(some 39), (.mv (.t 2)), (some (38, false))⟩, ⟨(some 40), (.faddr 3 (.t 4)), (some (38, false))⟩, ⟨(some 41), (.faddr 1 (.t 40)), (some (38, false))⟩, ⟨(some 42), (.load
  none (.t 41)), (some (38, false))⟩, ⟨(some 43), (.bin .gtr (.t 39) (.t 42)), (some (38, false))⟩, .o 44 (.pick (.t 38) (.const (.bool true)) (.t 43))]) (.cond (.t 44) (.seq
  (.region [.o 8 (.mv (.const (.slc none 0 0 true 0))), .o 9 (.mv (.const (.int .i64 3)))]) .ret) .skip)) (.seq (.seq (.region [.o 10 (.mv (.const (.int .i64 0)))]) (.block 0
  (.loop (.seq (.seq (.region [.m 45 10, .m 46 1, .o 47 (.len (.t 46)), .o 48 (.bin .lss (.t 45) (.t 47))]) (.cond (.t 48) .skip (.exit 0))) (.seq (.block 1 (.seq (.draw [.m 51 1,
  .m 52 10, .o 53 (.iaddrS 1 (.t 51) (.t 52)), .l 54 53, .o 55 (.bin .lss (.t 54) (.const (.int .i64 0))), .m 56 55, ⟨(some 57), (.mv (.t 1)), (some (56, false))⟩, ⟨(some 58),
  (.mv (.t 10)), (some (56, false))⟩, ⟨(some 59), (.iaddrS 1 (.t 57) (.t 58)), (some (56, false))⟩, ⟨(some 60), (.load none (.t 59)), (some (56, false))⟩, ⟨(some 61), (.faddr 2
  (.t 4)), (some (56, false))⟩, ⟨(some 62), (.load none (.t 61)), (some (56, false))⟩, ⟨(some 63), (.bin .gtr (.t 60) (.t 62)), (some (56, false))⟩, .o 64 (.pick (.t 56) (.const
  (.bool true)) (.t 63)), .m 65 64, ⟨(some 66), (.mv (.t 3)), (some (65, false))⟩, ⟨(some 67), (.mv (.t 10)), (some (65, false))⟩, ⟨(some 68), (.iaddrS 1 (.t 66) (.t 67)), (some
  (65, false))⟩, ⟨(some 69), (.load none (.t 68)), (some (65, false))⟩, ⟨(some 70), (.faddr 5 (.t 4)), (some (65, false))⟩, ⟨(some 71), (.load none (.t 70)), (some (65, false))⟩,
  ⟨(some 72), (.mv (.t 10)), (some (65, false))⟩, ⟨(some 73), (.iaddrS 2 (.t 71) (.t 72)), (some (65, false))⟩, ⟨(some 74), (.faddr 0 (.t 73)), (some (65, false))⟩, ⟨(some 75),
  (.load none (.t 74)), (some (65, false))⟩, ⟨(some 76), (.bin .lss (.t 69) (.t 75)), (some (65, false))⟩, .o 77 (.pick (.t 65) (.const (.bool true)) (.t 76)), .m 78 77, ⟨(some
  79), (.mv (.t 3)), (some (78, false))⟩, ⟨(some 80), (.mv (.t 10)), (some (78, false))⟩, ⟨(some 81), (.iaddrS 1 (.t 79) (.t 80)), (some (78, false))⟩, ⟨(some 82), (.load none (.t
  81)), (some (78, false))⟩, ⟨(some 83), (.faddr 5 (.t 4)), (some (78, false))⟩, ⟨(some 84), (.load none (.t 83)), (some (78, false))⟩, ⟨(some 85), (.mv (.t 10)), (some (78,
  false))⟩, ⟨(some 86), (.iaddrS 2 (.t 84) (.t 85)), (some (78, false))⟩, ⟨(some 87), (.faddr 1 (.t 86)), (some (78, false))⟩, ⟨(some 88), (.load none (.t 87)), (some (78,
  false))⟩, ⟨(some 89), (.bin .gtr (.t 82) (.t 88)), (some (78, false))⟩, .o 90 (.pick (.t 78) (.const (.bool true)) (.t 89))] []) (.cond (.t 90) (.seq (.region [.o 8 (.mv (.const
  (.slc none 0 0 true 0))), .o 9 (.mv (.const (.int .i64 3)))]) .ret) .skip))) (.region [.m 49 10, .o 50 (.bin .add (.t 49) (.const (.int .i64 1))), .m 10 50])))))) (.seq (.region
  [.o 11 (.mv (.const (.slc none 0 0 true 0)))]) (.seq (.region [.m 91 2, .m 12 91]) (.seq (.seq (.region [.o 13 (.mv (.const (.int .i64 0)))]) (.block 2 (.loop (.seq (.seq
  (.region [.m 92 13, .m 93 1, .o 94 (.len (.t 93)), .o 95 (.bin .lss (.t 92) (.t 94))]) (.cond (.t 95) .skip (.exit 2))) (.seq (.block 3 (.seq (.draw [.m 98 12, .m 99 1, .m 100
  13, .o 101 (.iaddrS 1 (.t 99) (.t 100)), .l 102 101, .o 103 (.faddr 1 (.t 4)), .l 104 103, .o 105 (.bin .mul (.t 102) (.t 104)), .o 106 (.bin .add (.t 98) (.t 105)), .m 12 106]
  []) (.seq (.seq (.region [.m 107 12, .o 108 (.faddr 0 (.t 4)), .l 109 108, .o 110 (.bin .gtr (.t 107) (.t 109))]) (.cond (.t 110) (.seq (.region [.o 8 (.mv (.const (.slc none 0
  0 true 0))), .o 9 (.mv (.const (.int .i64 10)))]) .ret) .skip)) (.seq (.region [.m 111 12, .m 112 3, .m 113 13, .o 114 (.iaddrS 1 (.t 112) (.t 113)), .l 115 114, .o 116 (.bin
  .sub (.t 111) (.t 115)), .m 12 116]) (.seq (.seq (.region [.m 117 12, .o 118 (.bin .lss (.t 117) (.const (.int .i64 0)))]) (.cond (.t 118) (.seq (.region [.o 8 (.mv (.const
  (.slc none 0 0 true 0))), .o 9 (.mv (.const (.int .i64 20)))]) .ret) .skip)) (.region [.m 119 11, .m 120 12, .o 121 (.bslice [(.int .i64 0)] 1 1 [(0, (1, (.t 120)))]), .o 122
  (.app 1 8 (.t 119) (.t 121)), .m 11 122])))))) (.region [.m 96 13, .o 97 (.bin .add (.t 96) (.const (.int .i64 1))), .m 13 97])))))) (.seq (.region [.m 123 11, .m 8 123, .o 9
  (.mv (.const (.int .i64 0)))]) .ret)))))))))⟩
def af25 : AFn := ⟨26, [(.tmp 4)], (.seq (.region [.o 4 (.mv (.const (.bool false)))]) (.seq (.seq (.region [.m 6 0, .o 7 (.len (.t 6)), .m 8 1, .o 9 (.len (.t 8)), .o 10 (.bin .neq (.t 7) (.t
  9))]) (.cond (.t 10) (.seq (.region [.o 4 (.mv (.const (.bool false)))]) .ret) .skip)) (.seq (.seq (.region [.o 5 (.mv (.const (.int .i64 0)))]) (.block 0 (.loop (.seq (.seq
  (.region [.m 11 5, .m 12 0, .o 13 (.len (.t 12)), .o 14 (.bin .lss (.t 11) (.t 13))]) (.cond (.t 14) .skip (.exit 0))) (.seq (.block 1 (.seq (.draw [.m 17 0, .m 18 5, .o 19
  (.iaddrS 1 (.t 17) (.t 18)), .l 20 19, .m 21 1, .m 22 5, .o 23 (.iaddrS 1 (.t 21) (.t 22)), .l 24 23, .o 25 (.bin .neq (.t 20) (.t 24))] []) (.cond (.t 25) (.seq (.region [.o 4
  (.mv (.const (.bool false)))]) .ret) .skip))) (.region [.m 15 5, .o 16 (.bin .add (.t 15) (.const (.int .i64 1))), .m 5 16])))))) (.seq (.region [.o 4 (.mv (.const (.bool
  true)))]) .ret))))⟩
def af26 : AFn := ⟨31, [(.tmp 2), (.tmp 3), (.tmp 4)], (.seq (.region [.o 1 (.box (.t 0)), .o 2 (.mv (.const (.slc none 0 0 true 0))), .o 3 (.mv (.const (.int .i64 0))), .o 4 (.mv (.const (.int
  .i64 0)))]) (.seq (.region [.o 10 (.load (some 7) (.t 1)), .o 11 (.call (.func 53) [(.t 10)]), .m 9 11, .o 12 (.ext (.t 9) 0), .o 13 (.ext (.t 9) 1), .o 14 (.ext (.t 9) 2), .m 5
  12, .m 6 13, .m 7 14]) (.seq (.seq (.region [.m 15 7, .o 16 (.bin .neq (.t 15) (.const (.int .i64 0)))]) (.cond (.t 16) (.seq (.region [.m 17 7, .o 2 (.mv (.const (.slc none 0 0
  true 0))), .o 3 (.mv (.const (.int .i64 0))), .m 4 17]) .ret) .skip)) (.seq (.region [.m 18 6, .o 19 (.len (.t 18)), .o 20 (.mkslc [(.int .i64 0)] 8 (.t 19) (.t 19)), .m 8 20])
  (.seq (.region [.m 21 8, .m 22 6, .o 23 (.copy 1 (.t 21) (.t 22))]) (.seq (.draw [.m 24 8, .m 25 5, .o 26 (.nilchk (.t 25)), .o 27 (.faddr 8 (.t 26)), .o 28 (.iaddrA 21 201 (.t
  27) (.const (.int .i64 0))), .o 29 (.iaddrA 201 1 (.t 28) (.const (.int .i64 0))), .l 30 29, .m 2 24, .m 3 30, .o 4 (.mv (.const (.int .i64 0)))] []) .ret))))))⟩
def af27 : AFn := ⟨96, [(.tmp 2), (.tmp 3), (.tmp 4)], (.seq (.region [.o 1 (.box (.t 0)), .o 2 (.mv (.const (.slc none 0 0 true 0))), .o 3 (.mv (.const (.int .i64 0))), .o 4 (.mv (.const (.int
  .i64 0)))]) (.seq (.seq (.region [.o 11 (.load (some 7) (.t 1)), .o 12 (.call (.func 21) [(.t 11)]), .o 13 (.bin .neq (.t 12) (.const (.int .i64 0)))]) (.cond (.t 13) (.seq
  (.region [.o 14 (.load (some 7) (.t 1)), .o 15 (.call (.func 21) [(.t 14)]), .o 2 (.mv (.const (.slc none 0 0 true 0))), .o 3 (.mv (.const (.int .i64 0))), .m 4 15]) .ret)
  .skip)) (.seq (.region [.o 16 (.load (some 7) (.t 1)), .o 17 (.call (.func 54) [(.t 16)]), .m 5 17]) (.seq (.seq (.region [.m 18 5, .o 19 (.iaddrS 1 (.t 18) (.const (.int .i64
  0))), .l 20 19, .o 21 (.iaddrS 1 (.t 20) (.const (.int .i64 0))), .l 22 21, .o 23 (.bin .geq (.t 22) (.const (.int .i64 1125899906842624)))]) (.cond (.t 23) (.seq (.region [.o 2
  (.mv (.const (.slc none 0 0 true 0))), .o 3 (.mv (.const (.int .i64 0))), .o 4 (.mv (.const (.int .i64 13)))]) .ret) .skip)) (.seq (.region [.o 24 (.load (some 7) (.t 1)), .o 25
  (.call (.func 44) [(.t 24)]), .m 6 25]) (.seq (.region [.o 7 (.mv (.const (.slc none 0 0 true 0)))]) (.seq (.region [.o 8 (.mv (.const (.int .i64 0)))]) (.seq (.seq (.region [.o
  9 (.mv (.const (.int .i64 0)))]) (.block 0 (.loop (.seq (.seq (.region [.m 26 9, .o 27 (.faddr 5 (.t 1)), .l 28 27, .o 29 (.len (.t 28)), .o 30 (.bin .lss (.t 26) (.t 29))])
  (.cond (.t 30) .skip (.exit 0))) (.seq (.block 1 (.seq (.region [.o 10 (.mv (.const (.int .i64 0)))]) (.seq (.block 2 (.loop (.seq (.seq (.draw [.m 33 8, .m 34 10, .o 35 (.bin
  .add (.t 33) (.t 34)), .m 36 6, .m 37 9, .o 38 (.iaddrS 2 (.t 36) (.t 37)), .o 39 (.faddr 0 (.t 38)), .l 40 39, .o 41 (.bin .lss (.t 35) (.t 40)), .m 42 41, ⟨(some 43), (.mv (.t
  8)), (some (42, false))⟩, ⟨(some 44), (.mv (.t 10)), (some (42, false))⟩, ⟨(some 45), (.bin .add (.t 43) (.t 44)), (some (42, false))⟩, ⟨(some 46), (.mv (.t 6)), (some (42,
  false))⟩, ⟨(some 47), (.mv (.t 9)), (some (42, false))⟩, ⟨(some 48), (.iaddrS 2 (.t 46) (.t 47)), (some (42, false))⟩, ⟨(some 49), (.faddr 1 (.t 48)), (some (42, false))⟩,
  ⟨(some 50), (.load none (.t 49)), (some (42, false))⟩, ⟨(some 51), (.bin .gtr (.t 45) (.t 50)), (some (42, false))⟩, .o 52 (.pick (.t 42) (.const (.bool true)) (.t 51)), .m 53
  52, ⟨(some 54), (.mv (.t 10)), (some (53, false))⟩, ⟨(some 55), (.faddr 6 (.t 1)), (some (53, false))⟩, ⟨(some 56), (.load none (.t 55)), (some (53, false))⟩, ⟨(some 57), (.mv
  (.t 9)), (some (53, false))⟩, ⟨(some 58), (.iaddrS 1 (.t 56) (.t 57)), (some (53, false))⟩, ⟨(some 59), (.load none (.t 58)), (some (53, false))⟩, ⟨(some 60), (.bin .mul (.t 54)
  (.t 59)), (some (53, false))⟩, ⟨(some 61), (.mv (.t 5)), (some (53, false))⟩, ⟨(some 62), (.mv (.t 9)), (some (53, false))⟩, ⟨(some 63), (.bin .add (.t 62) (.const (.int .i64
  1))), (some (53, false))⟩, ⟨(some 64), (.iaddrS 1 (.t 61) (.t 63)), (some (53, false))⟩, ⟨(some 65), (.load none (.t 64)), (some (53, false))⟩, ⟨(some 66), (.mv (.t 8)), (some
  (53, false))⟩, ⟨(some 67), (.mv (.t 10)), (some (53, false))⟩, ⟨(some 68), (.bin .add (.t 66) (.t 67)), (some (53, false))⟩, ⟨(some 69), (.iaddrS 1 (.t 65) (.t 68)), (some (53,
  false))⟩, ⟨(some 70), (.load none (.t 69)), (some (53, false))⟩, ⟨(some 71), (.bin .add (.t 60) (.t 70)), (some (53, false))⟩, ⟨(some 72), (.mv (.t 5)), (some (53, false))⟩,
  ⟨(some 73), (.mv (.t 9)), (some (53, false))⟩, ⟨(some 74), (.iaddrS 1 (.t 72) (.t 73)), (some (53, false))⟩, ⟨(some 75), (.load none (.t 74)), (some (53, false))⟩, ⟨(some 76),
  (.mv (.t 8)), (some (53, false))⟩, ⟨(some 77), (.iaddrS 1 (.t 75) (.t 76)), (some (53, false))⟩, ⟨(some 78), (.load none (.t 77)), (some (53, false))⟩, ⟨(some 79), (.bin .neq
  (.t 71) (.t 78)), (some (53, false))⟩, .o 80 (.pick (.t 53) (.const (.bool true)) (.t 79))] []) (.cond (.t 80) .skip (.exit 2))) (.block 3 (.region [.m 81 10, .o 82 (.bin .add
  (.t 81) (.const (.int .i64 1))), .m 10 82]))))) (.seq (.region [.m 83 7, .m 84 10, .o 85 (.bslice [(.int .i64 0)] 1 1 [(0, (1, (.t 84)))]), .o 86 (.app 1 8 (.t 83) (.t 85)), .m
  7 86]) (.region [.m 87 8, .m 88 10, .o 89 (.bin .add (.t 87) (.t 88)), .m 8 89]))))) (.region [.m 31 9, .o 32 (.bin .add (.t 31) (.const (.int .i64 1))), .m 9 32])))))) (.seq
  (.draw [.m 90 7, .m 91 5, .o 92 (.iaddrS 1 (.t 91) (.const (.int .i64 0))), .l 93 92, .o 94 (.iaddrS 1 (.t 93) (.const (.int .i64 0))), .l 95 94, .m 2 90, .m 3 95, .o 4 (.mv
  (.const (.int .i64 0)))] []) .ret)))))))))⟩
def af28 : AFn := ⟨72, [(.tmp 2), (.tmp 3), (.tmp 4)], (.seq (.region [.o 1 (.box (.t 0)), .o 2 (.mv (.const (.int .i64 0))), .o 3 (.mv (.const (.int .i64 0))), .o 4 (.mv (.const (.int .i64 0)))])
  (.scope (.seq (.seq (.region [.o 12 (.load (some 7) (.t 1)), .o 13 (.call (.func 20) [(.t 12)]), .m 5 13]) (.seq (.region [.m 14 5, .o 15 (.bin .neq (.t 14) (.const (.int .i64
  0)))]) (.cond (.t 15) (.seq (.region [.m 16 5, .o 2 (.mv (.const (.int .i64 0))), .o 3 (.mv (.const (.int .i64 0))), .m 4 16]) .ret) .skip))) (.seq (.region [.o 17 (.load (some
  7) (.t 1)), .o 18 (.call (.func 43) [(.t 17)]), .m 6 18]) (.seq (.region [.o 7 (.mv (.const (.int .i64 0))), .o 8 (.mv (.const (.int .i64 (-1))))]) (.seq .skip (.seq (.seq
  (.region [.o 9 (.mv (.const (.int .i64 (-1))))]) (.block 0 (.loop (.seq (.seq (.region [.m 19 9, .m 20 6, .o 21 (.nilchk (.t 20)), .o 22 (.faddr 7 (.t 21)), .l 23 22, .o 24
  (.len (.t 23)), .o 25 (.bin .lss (.t 19) (.t 24))]) (.cond (.t 25) .skip (.exit 0))) (.seq (.block 1 (.seq (.region [.o 10 (.mv (.const (.int .i64 0)))]) (.seq (.seq (.region
  [.m 28 9, .o 29 (.bin .geq (.t 28) (.const (.int .i64 0)))]) (.cond (.t 29) (.region [.m 30 6, .o 31 (.nilchk (.t 30)), .o 32 (.faddr 7 (.t 31)), .l 33 32, .m 34 9, .o 35
  (.iaddrS 2 (.t 33) (.t 34)), .o 36 (.faddr 1 (.t 35)), .l 37 36, .m 10 37]) .skip)) (.seq (.region [.m 38 9, .o 39 (.mnx true [(.const (.int .i64 0)), (.t 38)]), .m 11 39])
  (.block 2 (.loop (.seq (.seq (.region [.m 40 11, .m 41 6, .o 42 (.nilchk (.t 41)), .o 43 (.faddr 7 (.t 42)), .l 44 43, .o 45 (.len (.t 44)), .o 46 (.bin .lss (.t 40) (.t 45))])
  (.cond (.t 46) .skip (.exit 2))) (.seq (.block 3 (.seq (.draw [.m 49 6, .o 50 (.nilchk (.t 49)), .o 51 (.faddr 7 (.t 50)), .l 52 51, .m 53 11, .o 54 (.iaddrS 2 (.t 52) (.t 53)),
  .o 55 (.faddr 0 (.t 54)), .l 56 55, .m 57 10, .m 58 11, .m 59 9, .o 60 (.bin .sub (.t 58) (.t 59)), .o 61 (.faddr 2 (.t 1)), .l 62 61, .o 63 (.bin .mul (.t 60) (.t 62)), .o 64
  (.bin .add (.t 57) (.t 63)), .o 65 (.bin .gtr (.t 56) (.t 64))] []) (.cond (.t 65) (.seq (.region [.m 66 9, .m 67 11, .m 7 66, .m 8 67]) (.exit 0)) .skip))) (.region [.m 47 11,
  .o 48 (.bin .add (.t 47) (.const (.int .i64 1))), .m 11 48]))))))))) (.region [.m 26 9, .o 27 (.bin .add (.t 26) (.const (.int .i64 1))), .m 9 27])))))) (.seq (.seq (.region [.m
  68 8, .o 69 (.bin .lss (.t 68) (.const (.int .i64 0)))]) (.cond (.t 69) (.seq (.region [.o 2 (.mv (.const (.int .i64 0))), .o 3 (.mv (.const (.int .i64 0))), .o 4 (.mv (.const
  (.int .i64 5)))]) .ret) .skip)) (.seq (.region [.m 70 7, .m 71 8, .m 2 70, .m 3 71, .o 4 (.mv (.const (.int .i64 0)))]) .ret)))))))))⟩
def af29 : AFn := ⟨53, [(.tmp 2), (.tmp 3), (.tmp 4)], (.seq (.region [.o 1 (.box (.t 0)), .o 2 (.mv (.const (.int .i64 0))), .o 3 (.mv (.const (.int .i64 0))), .o 4 (.mv (.const (.int .i64 0)))])
  (.seq (.seq (.region [.o 9 (.load (some 7) (.t 1)), .o 10 (.call (.func 21) [(.t 9)]), .o 11 (.bin .neq (.t 10) (.const (.int .i64 0)))]) (.cond (.t 11) (.seq (.region [.o 12
  (.load (some 7) (.t 1)), .o 13 (.call (.func 21) [(.t 12)]), .o 2 (.mv (.const (.int .i64 0))), .o 3 (.mv (.const (.int .i64 0))), .m 4 13]) .ret) .skip)) (.seq (.region [.o 14
  (.load (some 7) (.t 1)), .o 15 (.call (.func 44) [(.t 14)]), .m 5 15]) (.seq (.seq (.region [.o 6 (.mv (.const (.int .i64 (-1))))]) (.block 0 (.loop (.seq (.seq (.region [.m 16
  6, .m 17 5, .o 18 (.len (.t 17)), .o 19 (.bin .lss (.t 16) (.t 18))]) (.cond (.t 19) .skip (.exit 0))) (.seq (.block 1 (.seq (.region [.o 7 (.mv (.const (.int .i64 0)))]) (.seq
  (.seq (.region [.m 22 6, .o 23 (.bin .geq (.t 22) (.const (.int .i64 0)))]) (.cond (.t 23) (.region [.m 24 5, .m 25 6, .o 26 (.iaddrS 2 (.t 24) (.t 25)), .o 27 (.faddr 1 (.t
  26)), .l 28 27, .m 7 28]) .skip)) (.seq (.region [.m 29 6, .o 30 (.mnx true [(.const (.int .i64 0)), (.t 29)]), .m 8 30]) (.block 2 (.loop (.seq (.seq (.region [.m 31 8, .m 32 5,
   .o 33 (.len (.t 32)), .o 34 (.bin .lss (.t 31) (.t 33))]) (.cond (.t 34) .skip (.exit 2))) (.seq (.block 3 (.seq (.draw [.m 37 5, .m 38 8, .o 39 (.iaddrS 2 (.t 37) (.t 38)), .o
  40 (.faddr 0 (.t 39)), .l 41 40, .m 42 7, .o 43 (.faddr 2 (.t 1)), .l 44 43, .m 45 8, .m 46 6, .o 47 (.bin .sub (.t 45) (.t 46)), .o 48 (.bin .mul (.t 44) (.t 47)), .o 49 (.bin
  .add (.t 42) (.t 48)), .o 50 (.bin .gtr (.t 41) (.t 49))] []) (.cond (.t 50) (.seq (.region [.m 51 6, .m 52 8, .m 2 51, .m 3 52, .o 4 (.mv (.const (.int .i64 0)))]) .ret)
  .skip))) (.region [.m 35 8, .o 36 (.bin .add (.t 35) (.const (.int .i64 1))), .m 8 36]))))))))) (.region [.m 20 6, .o 21 (.bin .add (.t 20) (.const (.int .i64 1))), .m 6
  21])))))) (.seq (.region [.o 2 (.mv (.const (.int .i64 0))), .o 3 (.mv (.const (.int .i64 0))), .o 4 (.mv (.const (.int .i64 5)))]) .ret)))))⟩
def af30 : AFn := ⟨26, [(.tmp 4)], (.seq (.region [.o 4 (.mv (.const (.bool false)))]) (.seq (.seq (.region [.m 6 0, .o 7 (.len (.t 6)), .m 8 1, .o 9 (.len (.t 8)), .o 10 (.bin .neq (.t 7) (.t
  9))]) (.cond (.t 10) (.seq (.region [.o 4 (.mv (.const (.bool false)))]) .ret) .skip)) (.seq (.seq (.region [.o 5 (.mv (.const (.int .i64 0)))]) (.block 0 (.loop (.seq (.seq
  (.region [.m 11 5, .m 12 0, .o 13 (.len (.t 12)), .o 14 (.bin .lss (.t 11) (.t 13))]) (.cond (.t 14) .skip (.exit 0))) (.seq (.block 1 (.seq (.draw [.m 17 0, .m 18 5, .o 19
  (.iaddrS 1 (.t 17) (.t 18)), .l 20 19, .m 21 1, .m 22 5, .o 23 (.iaddrS 1 (.t 21) (.t 22)), .l 24 23, .o 25 (.bin .neq (.t 20) (.t 24))] []) (.cond (.t 25) (.seq (.region [.o 4
  (.mv (.const (.bool false)))]) .ret) .skip))) (.region [.m 15 5, .o 16 (.bin .add (.t 15) (.const (.int .i64 1))), .m 5 16])))))) (.seq (.region [.o 4 (.mv (.const (.bool
  true)))]) .ret))))⟩
def af31 : AFn := ⟨80, [(.tmp 4), (.tmp 5)], (.seq (.region [.o 2 (.box (.t 0)), .o 4 (.mv (.const (.int .i64 0))), .o 5 (.mv (.const (.int .i64 0)))]) (.seq (.region [.o 14 (.load (some 7) (.t 2)),
   .o 15 (.call (.func 20) [(.t 14)]), .m 6 15]) (.seq (.block 0 (.seq (.region [.m 17 6, .o 18 (.bin .neq (.t 17) (.const (.int .i64 0))), .m 16 18]) (.cond (.t 16) (.seq
  (.region [.m 19 6, .o 4 (.mv (.const (.int .i64 0))), .m 5 19]) .ret) (.seq (.region [.m 21 1, .o 22 (.len (.t 21)), .o 23 (.faddr 5 (.t 2)), .l 24 23, .o 25 (.len (.t 24)), .o
  26 (.bin .neq (.t 22) (.t 25)), .m 20 26]) (.cond (.t 20) (.seq (.region [.o 4 (.mv (.const (.int .i64 0))), .o 5 (.mv (.const (.int .i64 15)))]) .ret) (.seq (.region [.m 28 1,
  .o 29 (.call (.func 47) [(.const (.int .i64 0)), (.const (.int .i64 100000)), (.t 28)]), .o 30 (.un .not (.t 29)), .m 27 30]) (.cond (.t 27) (.seq (.region [.o 4 (.mv (.const
  (.int .i64 0))), .o 5 (.mv (.const (.int .i64 3)))]) .ret) .skip))))))) (.seq (.region [.o 7 (.alloc [(.int .i64 0)]), .o 8 (.alloc [(.int .i64 0)]), ⟨none, (.store 1 (.t 7)
  (.const (.int .i64 0))), none⟩, ⟨none, (.store 1 (.t 8) (.const (.int .i64 0))), none⟩]) (.seq (.region [.o 31 (.load (some 7) (.t 2)), .o 32 (.call (.func 43) [(.t 31)]), .o 9
  (.alloc [(.ptr none)]), ⟨none, (.store 1 (.t 9) (.t 32)), none⟩]) (.seq (.seq (.region [.m 33 1, .o 34 (.call (.func 55) [(.t 33)])]) (.block 1 (.rangeF (.t 34) [35, 36] (.seq
  (.region [.m 10 35]) (.region [.m 11 36])) (.block 2 (.seq (.region [.l 37 9, .o 38 (.nilchk (.t 37)), .o 39 (.faddr 7 (.t 38)), .l 40 39, .m 41 10, .o 42 (.iaddrS 2 (.t 40) (.t
  41)), .o 43 (.load (some 2) (.t 42)), .o 12 (.alloc [(.int .i64 0), (.int .i64 0)]), ⟨none, (.store 2 (.t 12) (.t 43)), none⟩]) (.seq (.seq (.region [.m 44 11, .l 45 8, .o 46
  (.bin .gtr (.t 44) (.t 45))]) (.cond (.t 46) (.region [.l 47 7, .o 48 (.faddr 0 (.t 12)), .l 49 48, .m 50 11, .l 51 8, .o 52 (.bin .sub (.t 50) (.t 51)), .o 53 (.bin .mul (.t
  49) (.t 52)), .o 54 (.bin .add (.t 47) (.t 53)), ⟨none, (.store 1 (.t 7) (.t 54)), none⟩]) (.region [.l 55 7, .o 56 (.faddr 1 (.t 12)), .l 57 56, .l 58 8, .m 59 11, .o 60 (.bin
  .sub (.t 58) (.t 59)), .o 61 (.bin .mul (.t 57) (.t 60)), .o 62 (.bin .sub (.t 55) (.t 61)), ⟨none, (.store 1 (.t 7) (.t 62)), none⟩]))) (.seq (.seq (.region [.m 63 11, .o 64
  (.faddr 6 (.t 2)), .l 65 64, .m 66 10, .o 67 (.iaddrS 1 (.t 65) (.t 66)), .l 68 67, .o 69 (.bin .sub (.t 63) (.t 68)), .m 13 69]) (.seq (.region [.m 70 13, .o 71 (.bin .gtr (.t
  70) (.const (.int .i64 0)))]) (.cond (.t 71) (.region [.l 72 7, .o 73 (.faddr 2 (.t 2)), .l 74 73, .m 75 13, .o 76 (.bin .mul (.t 74) (.t 75)), .o 77 (.bin .sub (.t 72) (.t 76)),
   ⟨none, (.store 1 (.t 7) (.t 77)), none⟩]) .skip))) (.region [.m 78 11, ⟨none, (.store 1 (.t 8) (.t 78)), none⟩])))))))) (.seq (.region [.l 79 7, .m 4 79, .o 5 (.mv (.const
  (.int .i64 0)))]) .ret)))))))⟩
def af32 : AFn := ⟨105, [(.tmp 4), (.tmp 5)], (.seq (.region [.o 2 (.box (.t 0)), .o 4 (.mv (.const (.int .i64 0))), .o 5 (.mv (.const (.int .i64 0)))]) (.seq (.seq (.region [.o 11 (.load (some 7)
  (.t 2)), .o 12 (.call (.func 21) [(.t 11)]), .o 13 (.bin .neq (.t 12) (.const (.int .i64 0)))]) (.cond (.t 13) (.seq (.region [.o 14 (.load (some 7) (.t 2)), .o 15 (.call (.func
  21) [(.t 14)]), .o 4 (.mv (.const (.int .i64 0))), .m 5 15]) .ret) .skip)) (.seq (.seq (.region [.m 16 1, .o 17 (.len (.t 16)), .o 18 (.faddr 5 (.t 2)), .l 19 18, .o 20 (.len
  (.t 19)), .o 21 (.bin .neq (.t 17) (.t 20))]) (.cond (.t 21) (.seq (.region [.o 4 (.mv (.const (.int .i64 0))), .o 5 (.mv (.const (.int .i64 15)))]) .ret) .skip)) (.seq (.seq
  (.region [.o 6 (.mv (.const (.int .i64 0)))]) (.block 0 (.loop (.seq (.seq (.region [.m 22 6, .m 23 1, .o 24 (.len (.t 23)), .o 25 (.bin .lss (.t 22) (.t 24))]) (.cond (.t 25)
  .skip (.exit 0))) (.seq (.block 1 (.seq (.region [.m 28 1, .m 29 6, .o 30 (.iaddrS 1 (.t 28) (.t 29)), .l 31 30, .o 32 (.bin .lss (.t 31) (.const (.int .i64 0))), .m 33 32,
  ⟨(some 34), (.mv (.t 1)), (some (33, false))⟩, ⟨(some 35), (.mv (.t 6)), (some (33, false))⟩, ⟨(some 36), (.iaddrS 1 (.t 34) (.t 35)), (some (33, false))⟩, ⟨(some 37), (.load
  none (.t 36)), (some (33, false))⟩, ⟨(some 38), (.bin .gtr (.t 37) (.const (.int .i64 100000))), (some (33, false))⟩, .o 39 (.pick (.t 33) (.const (.bool true)) (.t 38))])
  (.cond (.t 39) (.seq (.region [.o 4 (.mv (.const (.int .i64 0))), .o 5 (.mv (.const (.int .i64 3)))]) .ret) .skip))) (.region [.m 26 6, .o 27 (.bin .add (.t 26) (.const (.int
  .i64 1))), .m 6 27])))))) (.seq (.region [.o 40 (.load (some 7) (.t 2)), .o 41 (.call (.func 44) [(.t 40)]), .m 7 41]) (.seq (.region [.o 8 (.mv (.const (.int .i64 0)))]) (.seq
  (.seq (.region [.o 9 (.mv (.const (.int .i64 0)))]) (.block 2 (.loop (.seq (.seq (.region [.m 42 9, .m 43 1, .o 44 (.len (.t 43)), .o 45 (.bin .lss (.t 42) (.t 44))]) (.cond (.t
  45) .skip (.exit 2))) (.seq (.block 3 (.seq (.region [.o 10 (.mv (.const (.int .i64 0)))]) (.seq (.seq (.region [.m 48 9, .o 49 (.bin .add (.t 48) (.const (.int .i64 1))), .m 50
  1, .o 51 (.len (.t 50)), .o 52 (.bin .lss (.t 49) (.t 51))]) (.cond (.t 52) (.region [.m 53 1, .m 54 9, .o 55 (.bin .add (.t 54) (.const (.int .i64 1))), .o 56 (.iaddrS 1 (.t
  53) (.t 55)), .l 57 56, .m 10 57]) .skip)) (.seq (.draw [.m 58 8, .m 59 7, .m 60 9, .o 61 (.iaddrS 2 (.t 59) (.t 60)), .o 62 (.faddr 0 (.t 61)), .l 63 62, .m 64 1, .m 65 9, .o
  66 (.iaddrS 1 (.t 64) (.t 65)), .l 67 66, .m 68 10, .o 69 (.bin .sub (.t 67) (.t 68)), .o 70 (.mnx true [(.const (.int .i64 0)), (.t 69)]), .o 71 (.bin .mul (.t 63) (.t 70)), .o
  72 (.bin .add (.t 58) (.t 71)), .m 8 72] []) (.seq (.draw [.m 73 8, .m 74 7, .m 75 9, .o 76 (.iaddrS 2 (.t 74) (.t 75)), .o 77 (.faddr 1 (.t 76)), .l 78 77, .m 79 10, .m 80 1,
  .m 81 9, .o 82 (.iaddrS 1 (.t 80) (.t 81)), .l 83 82, .o 84 (.bin .sub (.t 79) (.t 83)), .o 85 (.mnx true [(.const (.int .i64 0)), (.t 84)]), .o 86 (.bin .mul (.t 78) (.t 85)),
  .o 87 (.bin .sub (.t 73) (.t 86)), .m 8 87] []) (.draw [.m 88 8, .o 89 (.faddr 2 (.t 2)), .l 90 89, .m 91 1, .m 92 9, .o 93 (.iaddrS 1 (.t 91) (.t 92)), .l 94 93, .o 95 (.faddr
  6 (.t 2)), .l 96 95, .m 97 9, .o 98 (.iaddrS 1 (.t 96) (.t 97)), .l 99 98, .o 100 (.bin .sub (.t 94) (.t 99)), .o 101 (.mnx true [(.const (.int .i64 0)), (.t 100)]), .o 102
  (.bin .mul (.t 90) (.t 101)), .o 103 (.bin .sub (.t 88) (.t 102)), .m 8 103] [])))))) (.region [.m 46 9, .o 47 (.bin .add (.t 46) (.const (.int .i64 1))), .m 9 47])))))) (.seq
  (.region [.m 104 8, .m 4 104, .o 5 (.mv (.const (.int .i64 0)))]) .ret))))))))⟩
def af33 : AFn := ⟨19, [(.tmp 2), (.tmp 3)], (.seq (.region [.o 1 (.box (.t 0)), .o 2 (.mv (.const (.slc none 0 0 true 0))), .o 3 (.mv (.const (.int .i64 0)))]) (.seq (.region [.o 8 (.load (some 7)
  (.t 1)), .o 9 (.call (.func 53) [(.t 8)]), .m 7 9, .o 10 (.ext (.t 7) 0), .o 11 (.ext (.t 7) 1), .o 12 (.ext (.t 7) 2), .m 4 10, .m 5 11, .m 6 12]) (.seq (.seq (.region [.m 13 6,
   .o 14 (.bin .neq (.t 13) (.const (.int .i64 0)))]) (.cond (.t 14) (.seq (.region [.m 15 6, .o 2 (.mv (.const (.slc none 0 0 true 0))), .m 3 15]) .ret) .skip)) (.seq (.region
  [.m 16 4, .m 17 5, .o 18 (.call (.func 56) [(.t 16), (.t 17)]), .m 2 18, .o 3 (.mv (.const (.int .i64 0)))]) .ret))))⟩
def af34 : AFn := ⟨11, [(.tmp 2)], (.seq (.region [.o 1 (.box (.t 0)), .o 2 (.mv (.const (.bool false)))]) (.seq (.region [.o 3 (.load (some 7) (.t 1)), .o 4 (.call (.func 14) [(.t 3)]), .o 5 (.un
  .not (.t 4)), .m 6 5, ⟨(some 7), (.load (some 7) (.t 1)), (some (6, true))⟩, ⟨(some 8), (.call (.func 21) [(.t 7)]), (some (6, true))⟩, ⟨(some 9), (.bin .eql (.t 8) (.const
  (.int .i64 0))), (some (6, true))⟩, .o 10 (.pick (.t 6) (.t 9) (.const (.bool false))), .m 2 10]) .ret))⟩
def af35 : AFn := ⟨64, [(.tmp 4)], (.seq (.region [.o 2 (.box (.t 0)), .o 4 (.mv (.const (.slc none 0 0 true 0)))]) (.seq (.region [.o 12 (.load (some 7) (.t 2)), .o 13 (.call (.func 17) [(.t 12)]),
   .m 11 13, .o 14 (.ext (.t 11) 0), .o 15 (.ext (.t 11) 1), .m 5 14, .m 6 15]) (.seq (.region [.o 7 (.mv (.const (.slc none 0 0 true 0)))]) (.seq (.region [.o 8 (.mv (.const
  (.int .i64 0)))]) (.seq (.seq (.region [.o 9 (.mv (.const (.int .i64 0)))]) (.block 0 (.loop (.seq (.seq (.region [.m 16 9, .m 17 5, .o 18 (.len (.t 17)), .o 19 (.bin .lss (.t
  16) (.t 18))]) (.cond (.t 19) .skip (.exit 0))) (.seq (.block 1 (.seq (.region [.m 22 5, .m 23 9, .o 24 (.iaddrS 2 (.t 22) (.t 23)), .o 25 (.faddr 0 (.t 24)), .l 26 25, .m 27 8,
  .o 28 (.bin .sub (.t 26) (.t 27)), .o 29 (.mnx true [(.const (.int .i64 0)), (.t 28)]), .m 10 29]) (.seq (.seq (.region [.m 30 1, .o 31 (.len (.t 30)), .o 32 (.bin .gtr (.t 31)
  (.const (.int .i64 0)))]) (.cond (.t 32) (.region [.m 33 10, .m 34 1, .m 35 9, .m 36 1, .o 37 (.len (.t 36)), .o 38 (.bin .rem (.t 35) (.t 37)), .o 39 (.iaddrS 1 (.t 34) (.t
  38)), .l 40 39, .o 41 (.conv .i64 (.t 40)), .o 42 (.bin .rem (.t 41) (.const (.int .i64 4))), .o 43 (.bin .add (.t 33) (.t 42)), .m 10 43]) .skip)) (.seq (.draw [.m 44 10, .o 45
  (.faddr 2 (.t 2)), .l 46 45, .m 47 5, .m 48 9, .o 49 (.iaddrS 2 (.t 47) (.t 48)), .o 50 (.faddr 1 (.t 49)), .l 51 50, .m 52 8, .o 53 (.bin .sub (.t 51) (.t 52)), .o 54 (.mnx
  false [(.t 44), (.t 46), (.t 53)]), .o 55 (.mnx true [(.const (.int .i64 0)), (.t 54)]), .m 10 55] []) (.seq (.region [.m 56 7, .m 57 10, .o 58 (.bslice [(.int .i64 0)] 1 1 [(0,
  (1, (.t 57)))]), .o 59 (.app 1 8 (.t 56) (.t 58)), .m 7 59]) (.region [.m 60 8, .m 61 10, .o 62 (.bin .add (.t 60) (.t 61)), .m 8 62])))))) (.region [.m 20 9, .o 21 (.bin .add
  (.t 20) (.const (.int .i64 1))), .m 9 21])))))) (.seq (.region [.m 63 7, .m 4 63]) .ret))))))⟩
def af36 : AFn := ⟨62, [(.tmp 4), (.tmp 5)], (.seq (.region [.o 2 (.box (.t 0)), .o 4 (.mv (.const (.int .i64 0))), .o 5 (.mv (.const (.slc none 0 0 true 0)))]) (.seq (.region [.o 10 (.faddr 3 (.t
  2)), .o 11 (.load (some 2) (.t 10)), .o 12 (.bslice [(.int .i64 0), (.int .i64 0)] 1 2 [(0, (2, (.t 11)))]), .o 13 (.faddr 5 (.t 2)), .l 14 13, .o 15 (.app 2 16 (.t 12) (.t 14)),
   .m 6 15]) (.seq (.region [.o 7 (.mv (.const (.slc none 0 0 true 0)))]) (.seq (.seq (.region [.o 8 (.mv (.const (.int .i64 0)))]) (.block 0 (.loop (.seq (.seq (.region [.m 16 8,
  .m 17 6, .o 18 (.len (.t 17)), .o 19 (.bin .lss (.t 16) (.t 18))]) (.cond (.t 19) .skip (.exit 0))) (.seq (.block 1 (.seq (.region [.m 22 6, .m 23 8, .o 24 (.iaddrS 2 (.t 22)
  (.t 23)), .o 25 (.faddr 0 (.t 24)), .l 26 25, .m 9 26]) (.seq (.seq (.region [.m 27 1, .o 28 (.len (.t 27)), .o 29 (.bin .gtr (.t 28) (.const (.int .i64 0)))]) (.cond (.t 29)
  (.draw [.m 30 9, .m 31 1, .m 32 8, .m 33 1, .o 34 (.len (.t 33)), .o 35 (.bin .rem (.t 32) (.t 34)), .o 36 (.iaddrS 1 (.t 31) (.t 35)), .l 37 36, .o 38 (.conv .i64 (.t 37)), .m
  39 6, .m 40 8, .o 41 (.iaddrS 2 (.t 39) (.t 40)), .o 42 (.faddr 1 (.t 41)), .l 43 42, .m 44 6, .m 45 8, .o 46 (.iaddrS 2 (.t 44) (.t 45)), .o 47 (.faddr 0 (.t 46)), .l 48 47, .o
  49 (.bin .sub (.t 43) (.t 48)), .o 50 (.bin .add (.t 49) (.const (.int .i64 1))), .o 51 (.bin .rem (.t 38) (.t 50)), .o 52 (.bin .add (.t 30) (.t 51)), .m 9 52] []) .skip))
  (.region [.m 53 7, .m 54 9, .o 55 (.bslice [(.int .i64 0)] 1 1 [(0, (1, (.t 54)))]), .o 56 (.app 1 8 (.t 53) (.t 55)), .m 7 56])))) (.region [.m 20 8, .o 21 (.bin .add (.t 20)
  (.const (.int .i64 1))), .m 8 21])))))) (.seq (.draw [.m 57 7, .o 58 (.iaddrS 1 (.t 57) (.const (.int .i64 0))), .l 59 58, .m 60 7, .o 61 (.slc 1 (.t 60) (some (.const (.int
  .i64 1))) none none), .m 4 59, .m 5 61] []) .ret)))))⟩
def af37 : AFn := ⟨41, [(.tmp 4)], (.seq (.region [.o 4 (.mv (.const (.bool false)))]) (.seq (.seq (.region [.o 5 (.mv (.const (.int .i64 0)))]) (.block 0 (.loop (.seq (.seq (.region [.m 6 5, .m 7
  0, .o 8 (.len (.t 7)), .o 9 (.bin .lss (.t 6) (.t 8)), .m 10 9, ⟨(some 11), (.mv (.t 5)), (some (10, true))⟩, ⟨(some 12), (.mv (.t 1)), (some (10, true))⟩, ⟨(some 13), (.len (.t
  12)), (some (10, true))⟩, ⟨(some 14), (.bin .lss (.t 11) (.t 13)), (some (10, true))⟩, .o 15 (.pick (.t 10) (.t 14) (.const (.bool false)))]) (.cond (.t 15) .skip (.exit 0)))
  (.seq (.block 1 (.seq (.draw [.m 18 0, .m 19 5, .o 20 (.iaddrS 1 (.t 18) (.t 19)), .l 21 20, .m 22 1, .m 23 5, .o 24 (.iaddrS 1 (.t 22) (.t 23)), .l 25 24, .o 26 (.bin .neq (.t
  21) (.t 25))] []) (.cond (.t 26) (.seq (.draw [.m 27 0, .m 28 5, .o 29 (.iaddrS 1 (.t 27) (.t 28)), .l 30 29, .m 31 1, .m 32 5, .o 33 (.iaddrS 1 (.t 31) (.t 32)), .l 34 33, .o
  35 (.bin .lss (.t 30) (.t 34)), .m 4 35] []) .ret) .skip))) (.region [.m 16 5, .o 17 (.bin .add (.t 16) (.const (.int .i64 1))), .m 5 17])))))) (.seq (.region [.m 36 0, .o 37
  (.len (.t 36)), .m 38 1, .o 39 (.len (.t 38)), .o 40 (.bin .lss (.t 37) (.t 39)), .m 4 40]) .ret)))⟩
def af38 : AFn := ⟨26, [(.cell 6 (some 2))], (.seq (.region [.o 3 (.box (.t 0)), .o 6 (.alloc [(.int .i64 0), (.int .i64 0)])]) (.seq (.region [.o 7 (.faddr 1 (.t 3)), .l 8 7, .o 9 (.faddr 0 (.t
  3)), .l 10 9, .m 11 1, .o 12 (.conv .i64 (.t 11)), .o 13 (.bin .add (.t 10) (.t 12)), .o 14 (.mnx false [(.t 8), (.t 13)]), .o 15 (.faddr 0 (.t 3)), ⟨none, (.store 1 (.t 15) (.t
  14)), none⟩]) (.seq (.region [.o 16 (.faddr 0 (.t 3)), .l 17 16, .o 18 (.faddr 1 (.t 3)), .l 19 18, .m 20 2, .o 21 (.conv .i64 (.t 20)), .o 22 (.bin .sub (.t 19) (.t 21)), .o 23
  (.mnx true [(.t 17), (.t 22)]), .o 24 (.faddr 1 (.t 3)), ⟨none, (.store 1 (.t 24) (.t 23)), none⟩]) (.seq (.region [.o 25 (.load (some 2) (.t 3)), ⟨none, (.store 2 (.t 6) (.t
  25)), none⟩]) .ret))))⟩
def af39 : AFn := ⟨18, [(.tmp 2)], (.seq (.region [.o 2 (.mv (.const (.int .i64 0)))]) (.seq (.region [.o 3 (.mv (.const (.int .i64 0)))]) (.seq (.seq (.region [.o 4 (.mv (.const (.int .i64 0)))])
  (.block 0 (.loop (.seq (.seq (.region [.m 5 4, .m 6 0, .o 7 (.len (.t 6)), .o 8 (.bin .lss (.t 5) (.t 7))]) (.cond (.t 8) .skip (.exit 0))) (.seq (.block 1 (.region [.m 11 3, .m
  12 0, .m 13 4, .o 14 (.iaddrS 1 (.t 12) (.t 13)), .l 15 14, .o 16 (.bin .add (.t 11) (.t 15)), .m 3 16])) (.region [.m 9 4, .o 10 (.bin .add (.t 9) (.const (.int .i64 1))), .m 4
  10])))))) (.seq (.region [.m 17 3, .m 2 17]) .ret))))⟩
def af40 : AFn := ⟨8, [(.cell 4 (some 2))], (.seq (.region [.o 4 (.alloc [(.int .i64 0), (.int .i64 0)])]) (.seq (.region [.m 5 0, .m 6 1, .o 7 (.build [(.int .i64 0), (.int .i64 0)] [(0, (1, (.t
  5))), (1, (1, (.t 6)))]), ⟨none, (.store 2 (.t 4) (.t 7)), none⟩]) .ret))⟩
def af41 : AFn := ⟨8, [(.cell 0 (some 7))], (.seq (.region [.o 0 (.alloc [(.int .i64 0), (.int .i64 0), (.int .i64 0), (.int .i64 0), (.int .i64 0), (.slc none 0 0 true 0), (.slc none 0 0 true
  0)])]) (.seq (.region [.o 1 (.call (.func 40) [(.const (.int .i64 40)), (.const (.int .i64 50))]), .o 2 (.call (.func 40) [(.const (.int .i64 20)), (.const (.int .i64 30))]), .o
  3 (.call (.func 40) [(.const (.int .i64 30)), (.const (.int .i64 40))]), .o 4 (.call (.func 40) [(.const (.int .i64 20)), (.const (.int .i64 50))]), .o 5 (.bslice [(.int .i64 0),
   (.int .i64 0), (.int .i64 0), (.int .i64 0), (.int .i64 0), (.int .i64 0)] 3 2 [(0, (2, (.t 2))), (2, (2, (.t 3))), (4, (2, (.t 4)))]), .o 6 (.bslice [(.int .i64 0), (.int .i64
  0), (.int .i64 0)] 3 1 [(0, (1, (.const (.int .i64 5)))), (1, (1, (.const (.int .i64 9)))), (2, (1, (.const (.int .i64 4))))]), .o 7 (.build [(.int .i64 0), (.int .i64 0), (.int
  .i64 0), (.int .i64 0), (.int .i64 0), (.slc none 0 0 true 0), (.slc none 0 0 true 0)] [(0, (1, (.const (.int .i64 100)))), (1, (1, (.const (.int .i64 30)))), (2, (1, (.const
  (.int .i64 2)))), (3, (2, (.t 1))), (5, (1, (.t 5))), (6, (1, (.t 6)))]), ⟨none, (.store 7 (.t 0) (.t 7)), none⟩]) .ret))⟩
def af42 : AFn := ⟨5, [(.cell 0 (some 7))], (.seq (.region [.o 0 (.alloc [(.int .i64 0), (.int .i64 0), (.int .i64 0), (.int .i64 0), (.int .i64 0), (.slc none 0 0 true 0), (.slc none 0 0 true
  0)])]) (.seq (.region [.o 2 (.call (.func 41) []), .o 1 (.alloc [(.int .i64 0), (.int .i64 0), (.int .i64 0), (.int .i64 0), (.int .i64 0), (.slc none 0 0 true 0), (.slc none 0
  0 true 0)]), ⟨none, (.store 7 (.t 1) (.t 2)), none⟩]) (.seq (.region [.o 3 (.faddr 0 (.t 1)), ⟨none, (.store 1 (.t 3) (.const (.int .i64 60))), none⟩]) (.seq (.region [.o 4
  (.load (some 7) (.t 1)), ⟨none, (.store 7 (.t 0) (.t 4)), none⟩]) .ret))))⟩
noncomputable def af43 : AFn := ⟨72, [(.tmp 2)], (.seq (.region [.o 1 (.box (.t 0)), .o 2 (.mv (.const (.ptr none)))]) (.seq (.region [.o 9 (.load (some 7) (.t 1)), .o 10 (.build ((zeroL Try.prog 75).getD [])
  [(0, (7, (.t 9)))]), .o 11 (.box (.t 10)), .m 3 11]) (.seq (.region [.o 12 (.build [(.int .i64 0), (.int .i64 0)] []), .o 4 (.alloc [(.int .i64 0), (.int .i64 0)]), ⟨none,
  (.store 2 (.t 4) (.t 12)), none⟩]) (.seq (.seq (.region [.o 13 (.faddr 5 (.t 1)), .l 14 13, .o 15 (.len (.t 14)), .o 16 (.mv (.const (.int .i64 0)))]) (.block 0 (.loop (.seq
  (.region [.o 17 (.bin .lss (.t 16) (.t 15))]) (.seq (.cond (.t 17) .skip (.exit 0)) (.seq (.block 1 (.seq (.region [.o 18 (.iaddrS 2 (.t 14) (.t 16)), .o 19 (.load (some 2) (.t
  18)), .o 6 (.alloc [(.int .i64 0), (.int .i64 0)]), ⟨none, (.store 2 (.t 6) (.t 19)), none⟩]) (.seq (.region [.o 20 (.faddr 0 (.t 1)), .l 21 20, .o 22 (.faddr 3 (.t 1)), .o 23
  (.faddr 1 (.t 22)), .l 24 23, .o 25 (.bin .sub (.t 21) (.t 24)), .o 26 (.faddr 0 (.t 4)), .l 27 26, .o 28 (.bin .add (.t 25) (.t 27)), .o 29 (.faddr 1 (.t 1)), .l 30 29, .o 31
  (.bin .quo (.t 28) (.t 30)), .m 7 31]) (.seq (.region [.o 32 (.faddr 0 (.t 4)), .l 33 32, .o 34 (.faddr 0 (.t 6)), .l 35 34, .o 36 (.bin .add (.t 33) (.t 35)), .o 37 (.faddr 0
  (.t 4)), ⟨none, (.store 1 (.t 37) (.t 36)), none⟩]) (.seq (.region [.o 38 (.faddr 1 (.t 4)), .l 39 38, .o 40 (.faddr 1 (.t 6)), .l 41 40, .o 42 (.bin .add (.t 39) (.t 41)), .o
  43 (.faddr 1 (.t 4)), ⟨none, (.store 1 (.t 43) (.t 42)), none⟩]) (.seq (.region [.o 44 (.faddr 1 (.t 4)), .l 45 44, .o 46 (.faddr 3 (.t 1)), .o 47 (.faddr 0 (.t 46)), .l 48 47,
  .o 49 (.bin .sub (.t 45) (.t 48)), .o 50 (.faddr 1 (.t 1)), .l 51 50, .o 52 (.bin .add (.t 49) (.t 51)), .o 53 (.bin .sub (.t 52) (.const (.int .i64 1))), .o 54 (.mnx true
  [(.const (.int .i64 0)), (.t 53)]), .o 55 (.faddr 1 (.t 1)), .l 56 55, .o 57 (.bin .quo (.t 54) (.t 56)), .m 8 57]) (.region [.m 58 3, .m 59 3, .o 60 (.nilchk (.t 59)), .o 61
  (.faddr 7 (.t 60)), .l 62 61, .m 63 8, .m 64 7, .o 65 (.build [(.int .i64 0), (.int .i64 0)] [(0, (1, (.t 63))), (1, (1, (.t 64)))]), .o 66 (.bslice [(.int .i64 0), (.int .i64
  0)] 1 2 [(0, (2, (.t 65)))]), .o 67 (.app 2 16 (.t 62) (.t 66)), .o 68 (.nilchk (.t 58)), .o 69 (.faddr 7 (.t 68)), ⟨none, (.store 1 (.t 69) (.t 67)), none⟩]))))))) (.region [.o
  70 (.bin .add (.t 16) (.const (.int .i64 1))), .m 16 70]))))))) (.seq (.region [.m 71 3, .m 2 71]) .ret)))))⟩
def af44 : AFn := ⟨59, [(.tmp 2)], (.seq (.region [.o 1 (.box (.t 0)), .o 2 (.mv (.const (.slc none 0 0 true 0)))]) (.seq (.region [.o 3 (.mv (.const (.slc none 0 0 true 0)))]) (.seq (.draw [.o 8
  (.faddr 3 (.t 1)), .o 9 (.faddr 0 (.t 8)), .l 10 9, .o 11 (.un .neg (.t 10)), .o 12 (.faddr 0 (.t 1)), .l 13 12, .o 14 (.faddr 3 (.t 1)), .o 15 (.faddr 1 (.t 14)), .l 16 15, .o
  17 (.bin .sub (.t 13) (.t 16)), .m 4 11, .m 5 17] []) (.seq (.seq (.region [.o 6 (.mv (.const (.int .i64 0)))]) (.block 0 (.loop (.seq (.seq (.region [.m 18 6, .o 19 (.faddr 5
  (.t 1)), .l 20 19, .o 21 (.len (.t 20)), .o 22 (.bin .lss (.t 18) (.t 21))]) (.cond (.t 22) .skip (.exit 0))) (.seq (.block 1 (.seq (.region [.m 25 4, .o 26 (.faddr 5 (.t 1)),
  .l 27 26, .m 28 6, .o 29 (.iaddrS 2 (.t 27) (.t 28)), .o 30 (.faddr 1 (.t 29)), .l 31 30, .o 32 (.bin .add (.t 25) (.t 31)), .m 4 32]) (.seq (.region [.o 7 (.mv (.const (.int
  .i64 0)))]) (.seq (.seq (.region [.m 33 4, .o 34 (.bin .gtr (.t 33) (.const (.int .i64 0)))]) (.cond (.t 34) (.region [.m 35 4, .o 36 (.bin .sub (.t 35) (.const (.int .i64 1))),
  .o 37 (.faddr 1 (.t 1)), .l 38 37, .o 39 (.bin .quo (.t 36) (.t 38)), .o 40 (.bin .add (.t 39) (.const (.int .i64 1))), .m 7 40]) .skip)) (.seq (.region [.m 41 3, .m 42 7, .m 43
  5, .o 44 (.faddr 1 (.t 1)), .l 45 44, .o 46 (.bin .quo (.t 43) (.t 45)), .o 47 (.build [(.int .i64 0), (.int .i64 0)] [(0, (1, (.t 42))), (1, (1, (.t 46)))]), .o 48 (.bslice
  [(.int .i64 0), (.int .i64 0)] 1 2 [(0, (2, (.t 47)))]), .o 49 (.app 2 16 (.t 41) (.t 48)), .m 3 49]) (.region [.m 50 5, .o 51 (.faddr 5 (.t 1)), .l 52 51, .m 53 6, .o 54
  (.iaddrS 2 (.t 52) (.t 53)), .o 55 (.faddr 0 (.t 54)), .l 56 55, .o 57 (.bin .add (.t 50) (.t 56)), .m 5 57])))))) (.region [.m 23 6, .o 24 (.bin .add (.t 23) (.const (.int .i64
  1))), .m 6 24])))))) (.seq (.region [.m 58 3, .m 2 58]) .ret)))))⟩
def af45 : AFn := ⟨9, [(.tmp 4)], (.seq (.region [.o 4 (.mv (.const (.bool false)))]) (.seq (.region [.m 5 0, .m 6 1, .o 7 (.call (.func 57) [(.t 5), (.t 6)]), .o 8 (.bin .geq (.t 7) (.const (.int
  .i64 0))), .m 4 8]) .ret))⟩
def af46 : AFn := ⟨12, [(.tmp 3)], (.seq (.region [.o 3 (.mv (.const (.bool false)))]) (.seq (.region [.m 4 0, .o 5 (.bin .lss (.t 4) (.const (.int .i64 0))), .m 6 5, ⟨(some 7), (.mv (.t 0)), (some
  (6, false))⟩, ⟨(some 8), (.faddr 2 (.t 1)), (some (6, false))⟩, ⟨(some 9), (.load none (.t 8)), (some (6, false))⟩, ⟨(some 10), (.bin .gtr (.t 7) (.t 9)), (some (6, false))⟩, .o
  11 (.pick (.t 6) (.const (.bool true)) (.t 10)), .m 3 11]) .ret))⟩
def af47 : AFn := ⟨11, [(.tmp 6)], (.seq (.region [.o 3 (.box (.t 0)), .o 4 (.box (.t 1)), .o 6 (.mv (.const (.bool false)))]) (.seq (.region [.m 7 2, .o 8 (.mkfn 59 [] [(.t 3), (.t 4)]), .o 9
  (.call (.func 58) [(.t 7), (.t 8)]), .o 10 (.un .not (.t 9)), .m 6 10]) .ret))⟩
def af48 : AFn := ⟨22, [(.tmp 6)], (.seq (.region [.o 3 (.box (.t 0)), .o 6 (.mv (.const (.bool false)))]) (.seq (.region [.m 7 1, .m 8 2, .o 9 (.faddr 0 (.t 3)), .l 10 9, .o 11 (.faddr 1 (.t 3)),
  .l 12 11, .o 13 (.bslice [(.int .i64 0), (.int .i64 0)] 2 1 [(0, (1, (.t 10))), (1, (1, (.t 12)))]), .o 14 (.call (.func 47) [(.t 7), (.t 8), (.t 13)]), .m 15 14, ⟨(some 16),
  (.faddr 0 (.t 3)), (some (15, true))⟩, ⟨(some 17), (.load none (.t 16)), (some (15, true))⟩, ⟨(some 18), (.faddr 1 (.t 3)), (some (15, true))⟩, ⟨(some 19), (.load none (.t 18)),
  (some (15, true))⟩, ⟨(some 20), (.bin .leq (.t 17) (.t 19)), (some (15, true))⟩, .o 21 (.pick (.t 15) (.t 20) (.const (.bool false))), .m 6 21]) .ret))⟩
def af49 : AFn := ⟨9, [(.tmp 4)], (.seq (.region [.o 4 (.mv (.const (.bool false)))]) (.seq (.region [.m 5 0, .m 6 1, .o 7 (.call (.func 60) [(.t 5), (.t 6)]), .o 8 (.bin .geq (.t 7) (.const (.int
  .i64 0))), .m 4 8]) .ret))⟩
def af50 : AFn := ⟨6, [(.tmp 2)], (.seq (.region [.o 1 (.box (.t 0)), .o 2 (.mv (.const (.bool false)))]) (.seq (.region [.o 3 (.load (some 2) (.t 1)), .o 4 (.call (.func 48) [(.t 3), (.const (.int
  .i64 0)), (.const (.int .i64 100000))]), .o 5 (.un .not (.t 4)), .m 2 5]) .ret))⟩
def af51 : AFn := ⟨24, [(.tmp 6)], (.seq (.region [.o 3 (.box (.t 0)), .o 6 (.mv (.const (.bool false)))]) (.seq (.region [.o 7 (.faddr 0 (.t 3)), .l 8 7, .m 9 1, .o 10 (.bin .geq (.t 8) (.t 9)),
  .m 11 10, ⟨(some 12), (.faddr 0 (.t 3)), (some (11, true))⟩, ⟨(some 13), (.load none (.t 12)), (some (11, true))⟩, ⟨(some 14), (.faddr 1 (.t 3)), (some (11, true))⟩, ⟨(some 15),
  (.load none (.t 14)), (some (11, true))⟩, ⟨(some 16), (.bin .leq (.t 13) (.t 15)), (some (11, true))⟩, .o 17 (.pick (.t 11) (.t 16) (.const (.bool false))), .m 18 17, ⟨(some 19),
   (.faddr 1 (.t 3)), (some (18, true))⟩, ⟨(some 20), (.load none (.t 19)), (some (18, true))⟩, ⟨(some 21), (.mv (.t 2)), (some (18, true))⟩, ⟨(some 22), (.bin .leq (.t 20) (.t
  21)), (some (18, true))⟩, .o 23 (.pick (.t 18) (.t 22) (.const (.bool false))), .m 6 23]) .ret))⟩
def af52 : AFn := ⟨12, [(.tmp 3)], (.seq (.region [.o 3 (.mv (.const (.bool false)))]) (.seq (.region [.m 4 0, .o 5 (.bin .lss (.t 4) (.const (.int .i64 0))), .m 6 5, ⟨(some 7), (.mv (.t 0)), (some
  (6, false))⟩, ⟨(some 8), (.faddr 2 (.t 1)), (some (6, false))⟩, ⟨(some 9), (.load none (.t 8)), (some (6, false))⟩, ⟨(some 10), (.bin .gtr (.t 7) (.t 9)), (some (6, false))⟩, .o
  11 (.pick (.t 6) (.const (.bool true)) (.t 10)), .m 3 11]) .ret))⟩
def af53 : AFn := ⟨27, [(.tmp 2), (.tmp 3), (.tmp 4)], (.seq (.region [.o 1 (.box (.t 0)), .o 2 (.mv (.const (.ptr none))), .o 3 (.mv (.const (.slc none 0 0 true 0))), .o 4 (.mv (.const (.int .i64
  0)))]) (.seq (.seq (.region [.o 9 (.load (some 7) (.t 1)), .o 10 (.call (.func 20) [(.t 9)]), .m 5 10]) (.seq (.region [.m 11 5, .o 12 (.bin .neq (.t 11) (.const (.int .i64
  0)))]) (.cond (.t 12) (.seq (.region [.m 13 5, .o 2 (.mv (.const (.ptr none))), .o 3 (.mv (.const (.slc none 0 0 true 0))), .m 4 13]) .ret) .skip))) (.seq (.region [.o 14 (.load
  (some 7) (.t 1)), .o 15 (.call (.func 43) [(.t 14)]), .m 6 15]) (.seq (.region [.m 16 6, .o 17 (.call (.func 61) [(.t 16)])]) (.seq (.region [.m 19 6, .o 20 (.call (.func 62)
  [(.t 19)]), .m 18 20, .o 21 (.ext (.t 18) 0), .o 22 (.ext (.t 18) 1), .m 7 21, .m 8 22]) (.seq (.seq (.region [.m 23 8, .o 24 (.un .not (.t 23))]) (.cond (.t 24) (.seq (.region
  [.o 2 (.mv (.const (.ptr none))), .o 3 (.mv (.const (.slc none 0 0 true 0))), .o 4 (.mv (.const (.int .i64 13)))]) .ret) .skip)) (.seq (.region [.m 25 6, .m 26 7, .m 2 25, .m 3
  26, .o 4 (.mv (.const (.int .i64 0)))]) .ret)))))))⟩
def af54 : AFn := ⟨121, [(.tmp 2)], (.seq (.region [.o 1 (.box (.t 0)), .o 2 (.mv (.const (.slc none 0 0 true 0)))]) (.seq (.region [.o 9 (.load (some 7) (.t 1)), .o 10 (.call (.func 44) [(.t 9)]),
  .m 3 10]) (.seq (.region [.o 11 (.faddr 5 (.t 1)), .l 12 11, .o 13 (.len (.t 12)), .m 4 13]) (.seq (.region [.m 14 4, .o 15 (.bin .add (.t 14) (.const (.int .i64 1))), .o 16
  (.mkslc [(.slc none 0 0 true 0)] 24 (.t 15) (.t 15)), .m 5 16]) (.seq (.seq (.region [.m 17 4, .m 6 17]) (.block 0 (.loop (.seq (.seq (.region [.m 18 6, .o 19 (.bin .geq (.t 18)
  (.const (.int .i64 0)))]) (.cond (.t 19) .skip (.exit 0))) (.seq (.block 1 (.seq (.region [.m 22 5, .m 23 6, .m 24 4, .o 25 (.faddr 2 (.t 1)), .l 26 25, .o 27 (.bin .mul (.t 24)
  (.t 26)), .o 28 (.bin .add (.t 27) (.const (.int .i64 1))), .o 29 (.mkslc [(.int .i64 0)] 8 (.t 28) (.t 28)), .o 30 (.iaddrS 1 (.t 22) (.t 23)), ⟨none, (.store 1 (.t 30) (.t
  29)), none⟩]) (.seq (.region [.o 7 (.mv (.const (.int .i64 0)))]) (.block 2 (.loop (.seq (.seq (.region [.m 31 7, .m 32 5, .m 33 6, .o 34 (.iaddrS 1 (.t 32) (.t 33)), .l 35 34,
  .o 36 (.len (.t 35)), .o 37 (.bin .lss (.t 31) (.t 36)), .m 38 37, ⟨(some 39), (.mv (.t 6)), (some (38, true))⟩, ⟨(some 40), (.mv (.t 4)), (some (38, true))⟩, ⟨(some 41), (.bin
  .lss (.t 39) (.t 40)), (some (38, true))⟩, .o 42 (.pick (.t 38) (.t 41) (.const (.bool false)))]) (.cond (.t 42) .skip (.exit 2))) (.seq (.block 3 (.seq (.region [.m 45 5, .m 46
  6, .o 47 (.iaddrS 1 (.t 45) (.t 46)), .l 48 47, .m 49 7, .o 50 (.iaddrS 1 (.t 48) (.t 49)), ⟨none, (.store 1 (.t 50) (.const (.int .i64 1125899906842624))), none⟩]) (.seq
  (.region [.o 8 (.mv (.const (.int .i64 0)))]) (.block 4 (.loop (.seq (.seq (.region [.m 51 8, .o 52 (.faddr 2 (.t 1)), .l 53 52, .o 54 (.bin .leq (.t 51) (.t 53)), .m 55 54,
  ⟨(some 56), (.mv (.t 7)), (some (55, true))⟩, ⟨(some 57), (.mv (.t 8)), (some (55, true))⟩, ⟨(some 58), (.bin .add (.t 56) (.t 57)), (some (55, true))⟩, ⟨(some 59), (.mv (.t 5)),
   (some (55, true))⟩, ⟨(some 60), (.mv (.t 6)), (some (55, true))⟩, ⟨(some 61), (.iaddrS 1 (.t 59) (.t 60)), (some (55, true))⟩, ⟨(some 62), (.load none (.t 61)), (some (55,
  true))⟩, ⟨(some 63), (.len (.t 62)), (some (55, true))⟩, ⟨(some 64), (.bin .lss (.t 58) (.t 63)), (some (55, true))⟩, .o 65 (.pick (.t 55) (.t 64) (.const (.bool false)))])
  (.cond (.t 65) .skip (.exit 4))) (.seq (.block 5 (.seq (.region [.m 68 7, .m 69 8, .o 70 (.bin .add (.t 68) (.t 69)), .m 71 3, .m 72 6, .o 73 (.iaddrS 2 (.t 71) (.t 72)), .o 74
  (.faddr 0 (.t 73)), .l 75 74, .o 76 (.bin .geq (.t 70) (.t 75)), .m 77 76, ⟨(some 78), (.mv (.t 7)), (some (77, true))⟩, ⟨(some 79), (.mv (.t 8)), (some (77, true))⟩, ⟨(some 80),
   (.bin .add (.t 78) (.t 79)), (some (77, true))⟩, ⟨(some 81), (.mv (.t 3)), (some (77, true))⟩, ⟨(some 82), (.mv (.t 6)), (some (77, true))⟩, ⟨(some 83), (.iaddrS 2 (.t 81) (.t
  82)), (some (77, true))⟩, ⟨(some 84), (.faddr 1 (.t 83)), (some (77, true))⟩, ⟨(some 85), (.load none (.t 84)), (some (77, true))⟩, ⟨(some 86), (.bin .leq (.t 80) (.t 85)),
  (some (77, true))⟩, .o 87 (.pick (.t 77) (.t 86) (.const (.bool false)))]) (.cond (.t 87) (.draw [.m 88 5, .m 89 6, .o 90 (.iaddrS 1 (.t 88) (.t 89)), .l 91 90, .m 92 7, .m 93 5,
   .m 94 6, .o 95 (.iaddrS 1 (.t 93) (.t 94)), .l 96 95, .m 97 7, .o 98 (.iaddrS 1 (.t 96) (.t 97)), .l 99 98, .m 100 8, .o 101 (.faddr 6 (.t 1)), .l 102 101, .m 103 6, .o 104
  (.iaddrS 1 (.t 102) (.t 103)), .l 105 104, .o 106 (.bin .mul (.t 100) (.t 105)), .m 107 5, .m 108 6, .o 109 (.bin .add (.t 108) (.const (.int .i64 1))), .o 110 (.iaddrS 1 (.t
  107) (.t 109)), .l 111 110, .m 112 7, .m 113 8, .o 114 (.bin .add (.t 112) (.t 113)), .o 115 (.iaddrS 1 (.t 111) (.t 114)), .l 116 115, .o 117 (.bin .add (.t 106) (.t 116)), .o
  118 (.mnx false [(.t 99), (.t 117)]), .o 119 (.iaddrS 1 (.t 91) (.t 92)), ⟨none, (.store 1 (.t 119) (.t 118)), none⟩] []) .skip))) (.region [.m 66 8, .o 67 (.bin .add (.t 66)
  (.const (.int .i64 1))), .m 8 67])))))))) (.region [.m 43 7, .o 44 (.bin .add (.t 43) (.const (.int .i64 1))), .m 7 44])))))))) (.region [.m 20 6, .o 21 (.bin .sub (.t 20)
  (.const (.int .i64 1))), .m 6 21])))))) (.seq (.region [.m 120 5, .m 2 120]) .ret))))))⟩
def af55 : AFn := ⟨4, [(.tmp 2)], (.seq (.region [.o 1 (.box (.t 0)), .o 2 (.mv (.const .nilfn))]) (.seq (.region [.o 3 (.mkfn 63 [] [(.t 1)]), .m 2 3]) .ret))⟩
def af56 : AFn := ⟨125, [(.tmp 4)], (.seq (.region [.o 4 (.mv (.const (.slc none 0 0 true 0)))]) (.seq (.region [.m 15 1, .o 16 (.len (.t 15)), .m 5 16]) (.seq (.region [.m 17 5, .o 18 (.mkslc
  [(.int .i64 0)] 8 (.t 17) (.t 17)), .m 6 18]) (.seq (.region [.m 19 0, .o 20 (.nilchk (.t 19)), .o 21 (.faddr 0 (.t 20)), .o 22 (.faddr 6 (.t 21)), .l 23 22, .o 24 (.call (.func
  64) [(.t 23)]), .m 7 24]) (.seq (.seq (.region [.m 25 6, .o 26 (.len (.t 25)), .o 27 (.mv (.const (.int .i64 0)))]) (.block 0 (.loop (.seq (.region [.o 28 (.bin .lss (.t 27) (.t
  26))]) (.seq (.cond (.t 28) .skip (.exit 0)) (.seq (.block 1 (.seq (.region [.m 29 27, .m 8 29]) (.region [.m 30 6, .m 31 8, .m 32 7, .o 33 (.iaddrS 1 (.t 30) (.t 31)), ⟨none,
  (.store 1 (.t 33) (.t 32)), none⟩]))) (.region [.o 34 (.bin .add (.t 27) (.const (.int .i64 1))), .m 27 34]))))))) (.seq (.region [.m 35 0, .o 36 (.mkfn 65 [(.t 35)] []), .m 9
  36]) (.block 2 (.loop (.block 3 (.seq (.region [.m 37 6, .o 38 (.call (.func 66) [(.t 37)]), .m 10 38]) (.seq (.region [.o 11 (.mv (.const (.int .i64 0)))]) (.seq (.seq (.region
  [.m 39 1, .o 40 (.len (.t 39)), .o 41 (.mv (.const (.int .i64 0)))]) (.block 4 (.loop (.seq (.region [.o 42 (.bin .lss (.t 41) (.t 40))]) (.seq (.cond (.t 42) .skip (.exit 4))
  (.seq (.block 5 (.seq (.region [.m 43 41, .o 44 (.iaddrS 1 (.t 39) (.t 41)), .l 45 44, .m 12 43, .m 13 45]) (.seq (.region [.m 46 11, .m 47 13, .o 48 (.bin .add (.t 46) (.t 47)),
   .m 11 48]) (.seq (.region [.o 14 (.mv (.const (.int .i64 0)))]) (.seq (.seq (.region [.m 49 12, .o 50 (.bin .add (.t 49) (.const (.int .i64 1))), .m 51 5, .o 52 (.bin .lss (.t
  50) (.t 51))]) (.cond (.t 52) (.region [.m 53 6, .m 54 12, .o 55 (.bin .add (.t 54) (.const (.int .i64 1))), .o 56 (.iaddrS 1 (.t 53) (.t 55)), .l 57 56, .m 14 57]) .skip))
  (.seq (.seq (.region [.m 58 13, .m 59 0, .o 60 (.nilchk (.t 59)), .o 61 (.faddr 0 (.t 60)), .o 62 (.faddr 2 (.t 61)), .l 63 62, .o 64 (.bin .lss (.t 58) (.t 63))]) (.cond (.t
  64) (.draw [.m 65 6, .m 66 12, .m 67 6, .m 68 12, .o 69 (.iaddrS 1 (.t 67) (.t 68)), .l 70 69, .m 71 0, .o 72 (.nilchk (.t 71)), .o 73 (.faddr 0 (.t 72)), .o 74 (.faddr 6 (.t
  73)), .l 75 74, .m 76 12, .o 77 (.iaddrS 1 (.t 75) (.t 76)), .l 78 77, .o 79 (.mnx false [(.t 70), (.t 78)]), .o 80 (.iaddrS 1 (.t 65) (.t 66)), ⟨none, (.store 1 (.t 80) (.t
  79)), none⟩] []) .skip)) (.seq (.seq (.region [.m 81 11, .m 82 0, .o 83 (.nilchk (.t 82)), .o 84 (.faddr 7 (.t 83)), .l 85 84, .m 86 12, .o 87 (.iaddrS 2 (.t 85) (.t 86)), .o 88
  (.faddr 0 (.t 87)), .l 89 88, .o 90 (.bin .gtr (.t 81) (.t 89))]) (.cond (.t 90) (.region [.m 91 6, .m 92 12, .m 93 6, .m 94 12, .o 95 (.iaddrS 1 (.t 93) (.t 94)), .l 96 95, .m
  97 14, .o 98 (.mnx false [(.t 96), (.t 97)]), .o 99 (.iaddrS 1 (.t 91) (.t 92)), ⟨none, (.store 1 (.t 99) (.t 98)), none⟩]) .skip)) (.seq (.region [.m 100 9, .m 101 12, .m 102
  11, .o 103 (.call (.t 100) [(.t 101), (.t 102)]), .m 104 103, ⟨(some 105), (.mv (.t 12)), (some (104, true))⟩, ⟨(some 106), (.bin .add (.t 105) (.const (.int .i64 1))), (some
  (104, true))⟩, ⟨(some 107), (.mv (.t 5)), (some (104, true))⟩, ⟨(some 108), (.bin .lss (.t 106) (.t 107)), (some (104, true))⟩, .o 109 (.pick (.t 104) (.t 108) (.const (.bool
  false)))]) (.cond (.t 109) (.region [.m 110 6, .m 111 12, .o 112 (.bin .add (.t 111) (.const (.int .i64 1))), .m 113 14, .m 114 6, .m 115 12, .o 116 (.iaddrS 1 (.t 114) (.t
  115)), .l 117 116, .o 118 (.mnx false [(.t 113), (.t 117)]), .o 119 (.iaddrS 1 (.t 110) (.t 112)), ⟨none, (.store 1 (.t 119) (.t 118)), none⟩]) .skip))))))))) (.region [.o 120
  (.bin .add (.t 41) (.const (.int .i64 1))), .m 41 120]))))))) (.seq (.region [.m 121 6, .m 122 10, .o 123 (.call (.func 67) [(.t 121), (.t 122)])]) (.cond (.t 123) (.seq
  (.region [.m 124 6, .m 4 124]) .ret) .skip))))))))))))))⟩
def af57 : AFn := ⟨19, [(.tmp 4)], (.seq (.region [.o 4 (.mv (.const (.int .i64 0)))]) (.seq (.seq (.region [.m 6 0, .o 7 (.len (.t 6)), .o 8 (.mv (.const (.int .i64 0)))]) (.block 0 (.loop (.seq
  (.region [.o 9 (.bin .lss (.t 8) (.t 7))]) (.seq (.cond (.t 9) .skip (.exit 0)) (.seq (.block 1 (.seq (.region [.m 10 8, .m 5 10]) (.seq (.region [.m 11 1, .m 12 0, .m 13 5, .o
  14 (.iaddrS 1 (.t 12) (.t 13)), .l 15 14, .o 16 (.call (.t 11) [(.t 15)])]) (.cond (.t 16) (.seq (.region [.m 17 5, .m 4 17]) .ret) .skip)))) (.region [.o 18 (.bin .add (.t 8)
  (.const (.int .i64 1))), .m 8 18]))))))) (.seq (.region [.o 4 (.mv (.const (.int .i64 (-1))))]) .ret)))⟩
def af58 : AFn := ⟨9, [(.tmp 4)], (.seq (.region [.o 4 (.mv (.const (.bool false)))]) (.seq (.region [.m 5 0, .m 6 1, .o 7 (.call (.func 68) [(.t 5), (.t 6)]), .o 8 (.bin .geq (.t 7) (.const (.int
  .i64 0))), .m 4 8]) .ret))⟩
def af59 : AFn := ⟨13, [(.tmp 4)], (.seq (.region [.o 4 (.mv (.const (.bool false)))]) (.seq (.region [.m 5 0, .l 6 1, .o 7 (.bin .lss (.t 5) (.t 6)), .m 8 7, ⟨(some 9), (.mv (.t 0)), (some (8,
  false))⟩, ⟨(some 10), (.load none (.t 2)), (some (8, false))⟩, ⟨(some 11), (.bin .gtr (.t 9) (.t 10)), (some (8, false))⟩, .o 12 (.pick (.t 8) (.const (.bool true)) (.t 11)), .m
  4 12]) .ret))⟩
def af60 : AFn := ⟨19, [(.tmp 4)], (.seq (.region [.o 4 (.mv (.const (.int .i64 0)))]) (.seq (.seq (.region [.m 6 0, .o 7 (.len (.t 6)), .o 8 (.mv (.const (.int .i64 0)))]) (.block 0 (.loop (.seq
  (.region [.o 9 (.bin .lss (.t 8) (.t 7))]) (.seq (.cond (.t 9) .skip (.exit 0)) (.seq (.block 1 (.seq (.region [.m 10 8, .m 5 10]) (.seq (.region [.m 11 1, .m 12 0, .m 13 5, .o
  14 (.iaddrS 2 (.t 12) (.t 13)), .o 15 (.load (some 2) (.t 14)), .o 16 (.call (.t 11) [(.t 15)])]) (.cond (.t 16) (.seq (.region [.m 17 5, .m 4 17]) .ret) .skip)))) (.region [.o
  18 (.bin .add (.t 8) (.const (.int .i64 1))), .m 8 18]))))))) (.seq (.region [.o 4 (.mv (.const (.int .i64 (-1))))]) .ret)))⟩
def af61 : AFn := ⟨118, [], (.seq (.region [.o 1 (.box (.t 0))]) (.seq (.region [.l 10 1, .o 11 .mkmap, .o 12 (.nilchk (.t 10)), .o 13 (.faddr 4229 (.t 12)), ⟨none, (.store 1 (.t 13) (.t 11)),
  none⟩]) (.seq (.draw [.l 14 1, .l 15 1, .o 16 (.nilchk (.t 15)), .o 17 (.faddr 0 (.t 16)), .o 18 (.faddr 5 (.t 17)), .l 19 18, .o 20 (.len (.t 19)), .o 21 (.nilchk (.t 14)), .o
  22 (.faddr 8 (.t 21)), .o 23 (.iaddrA 21 201 (.t 22) (.t 20)), .o 24 (.slcA 201 1 (.t 23) none none none), ⟨none, (.clrS [(.int .i64 0)] (.t 24)), none⟩] []) (.seq (.region [.o
  2 (.mv (.func 69))]) (.seq (.region [.l 25 1, .o 26 (.nilchk (.t 25)), .o 27 (.faddr 0 (.t 26)), .o 28 (.faddr 5 (.t 27)), .l 29 28, .o 30 (.len (.t 29)), .o 31 (.bin .sub (.t
  30) (.const (.int .i64 1))), .o 3 (.alloc [(.int .i64 0)]), ⟨none, (.store 1 (.t 3) (.t 31)), none⟩]) (.block 0 (.loop (.seq (.seq (.region [.l 32 3, .o 33 (.bin .geq (.t 32)
  (.const (.int .i64 0)))]) (.cond (.t 33) .skip (.exit 0))) (.seq (.block 1 (.seq (.seq (.region [.o 36 (.mv (.const (.int .i64 0)))]) (.block 2 (.loop (.seq (.region [.o 37
  (.bin .lss (.t 36) (.const (.int .i64 201)))]) (.seq (.cond (.t 37) .skip (.exit 2)) (.seq (.block 3 (.seq (.region [.m 38 36, .m 4 38]) (.draw [.l 39 1, .l 40 3, .m 41 4, .o 42
  (.nilchk (.t 39)), .o 43 (.faddr 8 (.t 42)), .o 44 (.iaddrA 21 201 (.t 43) (.t 40)), .o 45 (.iaddrA 201 1 (.t 44) (.t 41)), ⟨none, (.store 1 (.t 45) (.const (.int .i64
  1125899906842624))), none⟩] []))) (.region [.o 46 (.bin .add (.t 36) (.const (.int .i64 1))), .m 36 46]))))))) (.seq (.region [.o 5 (.alloc [(.int .i64 0)]), ⟨none, (.store 1
  (.t 5) (.const (.int .i64 0))), none⟩]) (.block 4 (.loop (.seq (.seq (.draw [.l 47 5, .l 48 3, .l 49 1, .o 50 (.nilchk (.t 49)), .o 51 (.faddr 0 (.t 50)), .o 52 (.faddr 2 (.t
  51)), .l 53 52, .o 54 (.bin .mul (.t 48) (.t 53)), .o 55 (.bin .leq (.t 47) (.t 54))] []) (.cond (.t 55) .skip (.exit 4))) (.seq (.block 5 (.seq (.region [.l 58 3, .l 59 5, .o
  60 (.build [(.int .i64 0), (.int .i64 0)] [(0, (1, (.t 58))), (1, (1, (.t 59)))]), .o 6 (.alloc [(.int .i64 0), (.int .i64 0)]), ⟨none, (.store 2 (.t 6) (.t 60)), none⟩]) (.seq
  (.region [.o 61 (.build [(.int .i64 0), (.int .i64 0)] [(0, (1, (.const (.int .i64 0)))), (1, (1, (.const (.int .i64 1125899906842624))))]), .o 62 (.bslice [(.int .i64 0), (.int
  .i64 0)] 1 2 [(0, (2, (.t 61)))]), .o 7 (.alloc [(.slc none 0 0 true 0)]), ⟨none, (.store 1 (.t 7) (.t 62)), none⟩]) (.seq (.seq (.region [.l 63 1, .o 64 (.load (some 2) (.t 6)),
   .o 65 (.call (.func 70) [(.t 63), (.t 64)])]) (.block 6 (.rangeF (.t 65) [66] (.region [.m 8 66]) (.block 7 (.draw [.l 67 7, .m 68 8, .m 69 8, .l 70 1, .o 71 (.nilchk (.t 70)),
  .o 72 (.faddr 0 (.t 71)), .o 73 (.faddr 6 (.t 72)), .l 74 73, .l 75 3, .o 76 (.iaddrS 1 (.t 74) (.t 75)), .l 77 76, .o 78 (.bin .mul (.t 69) (.t 77)), .l 79 1, .l 80 3, .o 81
  (.bin .add (.t 80) (.const (.int .i64 1))), .l 82 5, .m 83 8, .o 84 (.bin .add (.t 82) (.t 83)), .o 85 (.nilchk (.t 79)), .o 86 (.faddr 8 (.t 85)), .o 87 (.iaddrA 21 201 (.t 86)
  (.t 81)), .o 88 (.iaddrA 201 1 (.t 87) (.t 84)), .l 89 88, .o 90 (.bin .add (.t 78) (.t 89)), .o 91 (.build [(.int .i64 0), (.int .i64 0)] [(0, (1, (.t 68))), (1, (1, (.t
  90)))]), .o 92 (.bslice [(.int .i64 0), (.int .i64 0)] 1 2 [(0, (2, (.t 91)))]), .o 93 (.app 2 16 (.t 67) (.t 92)), ⟨none, (.store 1 (.t 7) (.t 93)), none⟩] [(0, 25)]))))) (.seq
  (.region [.l 94 7, .m 95 2, .o 96 (.call (.func 71) [(.t 94), (.t 95)]), .o 9 (.alloc [(.int .i64 0), (.int .i64 0)]), ⟨none, (.store 2 (.t 9) (.t 96)), none⟩]) (.seq (.region
  [.o 97 (.faddr 1 (.t 9)), .l 98 97, .o 99 (.bin .lss (.t 98) (.const (.int .i64 1125899906842624)))]) (.cond (.t 99) (.seq (.draw [.l 100 1, .l 101 3, .l 102 5, .o 103 (.faddr 1
  (.t 9)), .l 104 103, .o 105 (.nilchk (.t 100)), .o 106 (.faddr 8 (.t 105)), .o 107 (.iaddrA 21 201 (.t 106) (.t 101)), .o 108 (.iaddrA 201 1 (.t 107) (.t 102)), ⟨none, (.store 1
  (.t 108) (.t 104)), none⟩] []) (.draw [.l 109 1, .o 110 (.nilchk (.t 109)), .o 111 (.faddr 4229 (.t 110)), .l 112 111, .o 113 (.load (some 2) (.t 6)), .o 114 (.faddr 0 (.t 9)),
  .l 115 114, ⟨none, (.mapup true [.int, .int] (.t 112) (.t 113) (.t 115)), none⟩] [])) .skip))))))) (.seq (.seq (.region [.l 116 5]) (.region [.o 5 (.alloc [(.int .i64 0)]),
  ⟨none, (.store 1 (.t 5) (.t 116)), none⟩])) (.region [.l 56 5, .o 57 (.bin .add (.t 56) (.const (.int .i64 1))), ⟨none, (.store 1 (.t 5) (.t 57)), none⟩]))))))))) (.seq (.seq
  (.region [.l 117 3]) (.region [.o 3 (.alloc [(.int .i64 0)]), ⟨none, (.store 1 (.t 3) (.t 117)), none⟩])) (.region [.l 34 3, .o 35 (.bin .sub (.t 34) (.const (.int .i64 1))),
  ⟨none, (.store 1 (.t 3) (.t 35)), none⟩])))))))))))⟩
def af62 : AFn := ⟨64, [(.tmp 2), (.tmp 3)], (.seq (.region [.o 2 (.mv (.const (.slc none 0 0 true 0))), .o 3 (.mv (.const (.bool false)))]) (.seq (.region [.m 9 0, .o 10 (.nilchk (.t 9)), .o 11
  (.faddr 8 (.t 10)), .o 12 (.iaddrA 21 201 (.t 11) (.const (.int .i64 0))), .o 13 (.load (some 201) (.t 12)), .o 4 (.alloc [(.int .i64 0), (.int .i64 0), (.int .i64 0), (.int
  .i64 0), (.int .i64 0), (.int .i64 0), (.int .i64 0), (.int .i64 0), (.int .i64 0), (.int .i64 0), (.int .i64 0), (.int .i64 0), (.int .i64 0), (.int .i64 0), (.int .i64 0),
  (.int .i64 0), (.int .i64 0), (.int .i64 0), (.int .i64 0), (.int .i64 0), (.int .i64 0), (.int .i64 0), (.int .i64 0), (.int .i64 0), (.int .i64 0), (.int .i64 0), (.int .i64
  0), (.int .i64 0), (.int .i64 0), (.int .i64 0), (.int .i64 0), (.int .i64 0), (.int .i64 0), (.int .i64 0), (.int .i64 0), (.int .i64 0), (.int .i64 0), (.int .i64 0), (.int
  .i64 0), (.int .i64 0), (.int .i64 0), (.int .i64 0), (.int .i64 0), (.int .i64 0), (.int .i64 0), (.int .i64 0), (.int .i64 0), (.int .i64 0), (.int .i64 0), (.int .i64 0),
  (.int .i64 0), (.int .i64 0), (.int .i64 0), (.int .i64 0), (.int .i64 0), (.int .i64 0), (.int .i64 0), (.int .i64 0), (.int .i64 0), (.int .i64 0), (.int .i64 0), (.int .i64
  0), (.int .i64 0), (.int .i64 0), (.int .i64 0), (.int .i64 0), (.int .i64 0), (.int .i64 0), (.int .i64 0), (.int .i64 0), (.int .i64 0), (.int .i64 0), (.int .i64 0), (.int
  .i64 0), (.int .i64 0), (.int .i64 0), (.int .i64 0), (.int .i64 0), (.int .i64 0), (.int .i64 0), (.int .i64 0), (.int .i64 0), (.int .i64 0), (.int .i64 0), (.int .i64 0),
  (.int .i64 0), (.int .i64 0), (.int .i64 0), (.int .i64 0), (.int .i64 0), (.int .i64 0), (.int .i64 0), (.int .i64 0), (.int .i64 0), (.int .i64 0), (.int .i64 0), (.int .i64
  0), (.int .i64 0), (.int .i64 0), (.int .i64 0), (.int .i64 0), (.int .i64 0), (.int .i64 0), (.int .i64 0), (.int .i64 0), (.int .i64 0), (.int .i64 0), (.int .i64 0), (.int
  .i64 0), (.int .i64 0), (.int .i64 0), (.int .i64 0), (.int .i64 0), (.int .i64 0), (.int .i64 0), (.int .i64 0), (.int .i64 0), (.int .i64 0), (.int .i64 0), (.int .i64 0),
  (.int .i64 0), (.int .i64 0), (.int .i64 0), (.int .i64 0), (.int .i64 0), (.int .i64 0), (.int .i64 0), (.int .i64 0), (.int .i64 0), (.int .i64 0), (.int .i64 0), (.int .i64
  0), (.int .i64 0), (.int .i64 0), (.int .i64 0), (.int .i64 0), (.int .i64 0), (.int .i64 0), (.int .i64 0), (.int .i64 0), (.int .i64 0), (.int .i64 0), (.int .i64 0), (.int
  .i64 0), (.int .i64 0), (.int .i64 0), (.int .i64 0), (.int .i64 0), (.int .i64 0), (.int .i64 0), (.int .i64 0), (.int .i64 0), (.int .i64 0), (.int .i64 0), (.int .i64 0),
  (.int .i64 0), (.int .i64 0), (.int .i64 0), (.int .i64 0), (.int .i64 0), (.int .i64 0), (.int .i64 0), (.int .i64 0), (.int .i64 0), (.int .i64 0), (.int .i64 0), (.int .i64
  0), (.int .i64 0), (.int .i64 0), (.int .i64 0), (.int .i64 0), (.int .i64 0), (.int .i64 0), (.int .i64 0), (.int .i64 0), (.int .i64 0), (.int .i64 0), (.int .i64 0), (.int
  .i64 0), (.int .i64 0), (.int .i64 0), (.int .i64 0), (.int .i64 0), (.int .i64 0), (.int .i64 0), (.int .i64 0), (.int .i64 0), (.int .i64 0), (.int .i64 0), (.int .i64 0),
  (.int .i64 0), (.int .i64 0), (.int .i64 0), (.int .i64 0), (.int .i64 0), (.int .i64 0), (.int .i64 0), (.int .i64 0), (.int .i64 0), (.int .i64 0), (.int .i64 0)]), ⟨none,
  (.store 201 (.t 4) (.t 13)), none⟩]) (.seq (.seq (.region [.o 14 (.mv (.const (.int .i64 0)))]) (.block 0 (.loop (.seq (.region [.o 15 (.bin .lss (.t 14) (.const (.int .i64
  201)))]) (.seq (.cond (.t 15) .skip (.exit 0)) (.seq (.block 1 (.seq (.region [.m 16 14, .m 5 16]) (.region [.m 17 5, .o 18 (.iaddrA 201 1 (.t 4) (.t 17)), ⟨none, (.store 1 (.t
  18) (.const (.int .i64 1125899906842624))), none⟩]))) (.region [.o 19 (.bin .add (.t 14) (.const (.int .i64 1))), .m 14 19]))))))) (.seq (.seq (.draw [.m 20 0, .o 21 (.nilchk
  (.t 20)), .o 22 (.faddr 8 (.t 21)), .o 23 (.iaddrA 21 201 (.t 22) (.const (.int .i64 0))), .o 24 (.load (some 201) (.t 23)), .o 25 (.load (some 201) (.t 4)), .o 26 (.eqf false
  true [.int, .int, .int, .int, .int, .int, .int, .int, .int, .int, .int, .int, .int, .int, .int, .int, .int, .int, .int, .int, .int, .int, .int, .int, .int, .int, .int, .int,
  .int, .int, .int, .int, .int, .int, .int, .int, .int, .int, .int, .int, .int, .int, .int, .int, .int, .int, .int, .int, .int, .int, .int, .int, .int, .int, .int, .int, .int,
  .int, .int, .int, .int, .int, .int, .int, .int, .int, .int, .int, .int, .int, .int, .int, .int, .int, .int, .int, .int, .int, .int, .int, .int, .int, .int, .int, .int, .int,
  .int, .int, .int, .int, .int, .int, .int, .int, .int, .int, .int, .int, .int, .int, .int, .int, .int, .int, .int, .int, .int, .int, .int, .int, .int, .int, .int, .int, .int,
  .int, .int, .int, .int, .int, .int, .int, .int, .int, .int, .int, .int, .int, .int, .int, .int, .int, .int, .int, .int, .int, .int, .int, .int, .int, .int, .int, .int, .int,
  .int, .int, .int, .int, .int, .int, .int, .int, .int, .int, .int, .int, .int, .int, .int, .int, .int, .int, .int, .int, .int, .int, .int, .int, .int, .int, .int, .int, .int,
  .int, .int, .int, .int, .int, .int, .int, .int, .int, .int, .int, .int, .int, .int, .int, .int, .int, .int, .int, .int, .int, .int, .int, .int, .int, .int, .int, .int] (.t 24)
  (.t 25))] []) (.cond (.t 26) (.seq (.region [.o 2 (.mv (.const (.slc none 0 0 true 0))), .o 3 (.mv (.const (.bool false)))]) .ret) .skip)) (.seq (.region [.o 6 (.mv (.const
  (.slc none 0 0 true 0)))]) (.seq (.seq (.region [.o 27 (.build [(.int .i64 0), (.int .i64 0)] []), .o 7 (.alloc [(.int .i64 0), (.int .i64 0)]), ⟨none, (.store 2 (.t 7) (.t 27)),
   none⟩]) (.block 2 (.loop (.seq (.seq (.draw [.o 28 (.load (some 2) (.t 7)), .m 29 0, .o 30 (.nilchk (.t 29)), .o 31 (.faddr 0 (.t 30)), .o 32 (.faddr 5 (.t 31)), .l 33 32, .o
  34 (.len (.t 33)), .o 35 (.faddr 1 (.t 7)), .l 36 35, .o 37 (.build [(.int .i64 0), (.int .i64 0)] [(0, (1, (.t 34))), (1, (1, (.t 36)))]), .o 38 (.eqf true true [.int, .int]
  (.t 28) (.t 37))] []) (.cond (.t 38) .skip (.exit 2))) (.seq (.block 3 (.seq (.draw [.m 39 0, .o 40 (.nilchk (.t 39)), .o 41 (.faddr 4229 (.t 40)), .l 42 41, .o 43 (.load (some
  2) (.t 7)), .o 44 (.look true [.int, .int] (.int .i64 0) (.t 42) (.t 43) false), .m 8 44] []) (.seq (.draw [.m 45 0, .o 46 (.nilchk (.t 45)), .o 47 (.faddr 4229 (.t 46)), .l 48
  47, .o 49 (.load (some 2) (.t 7)), ⟨none, (.del true [.int, .int] (.t 48) (.t 49)), none⟩] []) (.seq (.region [.m 50 6, .m 51 8, .o 52 (.bslice [(.int .i64 0)] 1 1 [(0, (1, (.t
  51)))]), .o 53 (.app 1 8 (.t 50) (.t 52)), .m 6 53]) (.region [.o 54 (.faddr 0 (.t 7)), .l 55 54, .o 56 (.bin .add (.t 55) (.const (.int .i64 1))), .o 57 (.faddr 1 (.t 7)), .l
  58 57, .m 59 8, .o 60 (.bin .add (.t 58) (.t 59)), .o 61 (.build [(.int .i64 0), (.int .i64 0)] [(0, (1, (.t 56))), (1, (1, (.t 60)))]), ⟨none, (.store 2 (.t 7) (.t 61)),
  none⟩]))))) (.seq (.region [.o 62 (.load (some 2) (.t 7))]) (.region [.o 7 (.alloc [(.int .i64 0), (.int .i64 0)]), ⟨none, (.store 2 (.t 7) (.t 62)), none⟩]))))))) (.seq
  (.region [.m 63 6, .m 2 63, .o 3 (.mv (.const (.bool true)))]) .ret)))))))⟩
def af63 : AFn := ⟨19, [], (.seq (.region [.l 4 1, .o 5 (.len (.t 4)), .o 6 (.bin .sub (.t 5) (.const (.int .i64 1))), .m 3 6]) (.block 0 (.loop (.seq (.seq (.region [.m 7 3, .o 8 (.bin .geq (.t 7)
  (.const (.int .i64 0)))]) (.cond (.t 8) .skip (.exit 0))) (.seq (.block 1 (.seq (.region [.m 11 0, .m 12 3, .l 13 1, .m 14 3, .o 15 (.iaddrS 1 (.t 13) (.t 14)), .l 16 15, .o 17
  (.call (.t 11) [(.t 12), (.t 16)]), .o 18 (.un .not (.t 17))]) (.cond (.t 18) .ret .skip))) (.region [.m 9 3, .o 10 (.bin .sub (.t 9) (.const (.int .i64 1))), .m 3 10]))))))⟩
def af64 : AFn := ⟨25, [(.tmp 2)], (.seq (.region [.o 2 (.mv (.const (.int .i64 0)))]) (.seq (.seq (.region [.m 5 0, .o 6 (.len (.t 5)), .o 7 (.bin .lss (.t 6) (.const (.int .i64 1)))]) (.cond (.t
  7) (.region [⟨(some 8), (.mkif 9 (.const (.str ⟨#[115, 108, 105, 99, 101, 115, 46, 77, 97, 120, 58, 32, 101, 109, 112, 116, 121, 32, 108, 105, 115, 116]⟩))), none⟩, ⟨none, .bad,
  none⟩]) .skip)) (.seq (.region [.m 9 0, .o 10 (.iaddrS 1 (.t 9) (.const (.int .i64 0))), .l 11 10, .m 3 11]) (.seq (.seq (.region [.o 4 (.mv (.const (.int .i64 1)))]) (.block 0
  (.loop (.seq (.seq (.region [.m 12 4, .m 13 0, .o 14 (.len (.t 13)), .o 15 (.bin .lss (.t 12) (.t 14))]) (.cond (.t 15) .skip (.exit 0))) (.seq (.block 1 (.region [.m 18 3, .m
  19 0, .m 20 4, .o 21 (.iaddrS 1 (.t 19) (.t 20)), .l 22 21, .o 23 (.mnx true [(.t 18), (.t 22)]), .m 3 23])) (.region [.m 16 4, .o 17 (.bin .add (.t 16) (.const (.int .i64 1))),
  .m 4 17])))))) (.seq (.region [.m 24 3, .m 2 24]) .ret)))))⟩
def af65 : AFn := ⟨17, [(.tmp 6)], (.seq (.region [.o 6 (.mv (.const (.bool false)))]) (.seq (.region [.m 7 2, .m 8 0, .o 9 (.nilchk (.t 8)), .o 10 (.faddr 7 (.t 9)), .l 11 10, .m 12 1, .o 13
  (.iaddrS 2 (.t 11) (.t 12)), .o 14 (.faddr 1 (.t 13)), .l 15 14, .o 16 (.bin .lss (.t 7) (.t 15)), .m 6 16]) .ret))⟩
def af66 : AFn := ⟨8, [(.tmp 2)], (.seq (.region [.o 2 (.mv (.const (.slc none 0 0 true 0)))]) (.seq (.seq (.region [.m 3 0, .o 4 (.eqn false 0 (.t 3) (.const (.slc none 0 0 true 0)))]) (.cond (.t
  4) (.seq (.region [.o 2 (.mv (.const (.slc none 0 0 true 0)))]) .ret) .skip)) (.seq (.region [.o 5 (.bslice [] 0 1 []), .m 6 0, .o 7 (.app 1 8 (.t 5) (.t 6)), .m 2 7]) .ret)))⟩
def af67 : AFn := ⟨26, [(.tmp 4)], (.seq (.region [.o 4 (.mv (.const (.bool false)))]) (.seq (.seq (.region [.m 6 0, .o 7 (.len (.t 6)), .m 8 1, .o 9 (.len (.t 8)), .o 10 (.bin .neq (.t 7) (.t
  9))]) (.cond (.t 10) (.seq (.region [.o 4 (.mv (.const (.bool false)))]) .ret) .skip)) (.seq (.seq (.region [.m 11 0, .o 12 (.len (.t 11)), .o 13 (.mv (.const (.int .i64 0)))])
  (.block 0 (.loop (.seq (.region [.o 14 (.bin .lss (.t 13) (.t 12))]) (.seq (.cond (.t 14) .skip (.exit 0)) (.seq (.block 1 (.seq (.region [.m 15 13, .m 5 15]) (.seq (.draw [.m
  16 0, .m 17 5, .o 18 (.iaddrS 1 (.t 16) (.t 17)), .l 19 18, .m 20 1, .m 21 5, .o 22 (.iaddrS 1 (.t 20) (.t 21)), .l 23 22, .o 24 (.bin .neq (.t 19) (.t 23))] []) (.cond (.t 24)
  (.seq (.region [.o 4 (.mv (.const (.bool false)))]) .ret) .skip)))) (.region [.o 25 (.bin .add (.t 13) (.const (.int .i64 1))), .m 13 25]))))))) (.seq (.region [.o 4 (.mv
  (.const (.bool true)))]) .ret))))⟩
def af68 : AFn := ⟨19, [(.tmp 4)], (.seq (.region [.o 4 (.mv (.const (.int .i64 0)))]) (.seq (.seq (.region [.m 6 0, .o 7 (.len (.t 6)), .o 8 (.mv (.const (.int .i64 0)))]) (.block 0 (.loop (.seq
  (.region [.o 9 (.bin .lss (.t 8) (.t 7))]) (.seq (.cond (.t 9) .skip (.exit 0)) (.seq (.block 1 (.seq (.region [.m 10 8, .m 5 10]) (.seq (.region [.m 11 1, .m 12 0, .m 13 5, .o
  14 (.iaddrS 1 (.t 12) (.t 13)), .l 15 14, .o 16 (.call (.t 11) [(.t 15)])]) (.cond (.t 16) (.seq (.region [.m 17 5, .m 4 17]) .ret) .skip)))) (.region [.o 18 (.bin .add (.t 8)
  (.const (.int .i64 1))), .m 8 18]))))))) (.seq (.region [.o 4 (.mv (.const (.int .i64 (-1))))]) .ret)))⟩
def af69 : AFn := ⟨5, [(.tmp 2)], (.seq (.region [.o 1 (.box (.t 0)), .o 2 (.mv (.const (.int .i64 0)))]) (.seq (.region [.o 3 (.faddr 1 (.t 1)), .l 4 3, .m 2 4]) .ret))⟩
def af70 : AFn := ⟨15, [(.tmp 4)], (.seq (.region [.o 2 (.box (.t 0)), .o 3 (.box (.t 1)), .o 4 (.mv (.const .nilfn))]) (.seq (.draw [.l 6 2, .o 7 (.nilchk (.t 6)), .o 8 (.faddr 7 (.t 7)), .l 9 8,
  .o 10 (.faddr 0 (.t 3)), .l 11 10, .o 12 (.iaddrS 2 (.t 9) (.t 11)), .o 13 (.load (some 2) (.t 12)), .o 5 (.alloc [(.int .i64 0), (.int .i64 0)]), ⟨none, (.store 2 (.t 5) (.t
  13)), none⟩] [(0, 8), (3, 8), (5, 8), (7, 8)]) (.seq (.region [.o 14 (.mkfn 72 [] [(.t 2), (.t 3), (.t 5)]), .m 4 14]) .ret)))⟩
def af71 : AFn := ⟨28, [(.cell 4 (some 2))], (.seq (.region [.o 4 (.alloc [(.int .i64 0), (.int .i64 0)])]) (.seq (.region [.m 8 0, .o 9 (.iaddrS 2 (.t 8) (.const (.int .i64 0))), .o 10 (.load
  (some 2) (.t 9)), .o 5 (.alloc [(.int .i64 0), (.int .i64 0)]), ⟨none, (.store 2 (.t 5) (.t 10)), none⟩]) (.seq (.seq (.region [.m 11 0, .o 12 (.slc 2 (.t 11) (some (.const
  (.int .i64 1))) none none), .o 13 (.len (.t 12)), .o 14 (.mv (.const (.int .i64 0)))]) (.block 0 (.loop (.seq (.region [.o 15 (.bin .lss (.t 14) (.t 13))]) (.seq (.cond (.t 15)
  .skip (.exit 0)) (.seq (.block 1 (.seq (.region [.o 16 (.iaddrS 2 (.t 12) (.t 14)), .o 17 (.load (some 2) (.t 16)), .o 7 (.alloc [(.int .i64 0), (.int .i64 0)]), ⟨none, (.store
  2 (.t 7) (.t 17)), none⟩]) (.seq (.draw [.m 18 1, .o 19 (.load (some 2) (.t 7)), .o 20 (.call (.t 18) [(.t 19)]), .m 21 1, .o 22 (.load (some 2) (.t 5)), .o 23 (.call (.t 21)
  [(.t 22)]), .o 24 (.bin .lss (.t 20) (.t 23))] [(2, 4)]) (.cond (.t 24) (.region [.o 25 (.load (some 2) (.t 7)), ⟨none, (.store 2 (.t 5) (.t 25)), none⟩]) .skip)))) (.region [.o
  26 (.bin .add (.t 14) (.const (.int .i64 1))), .m 14 26]))))))) (.seq (.region [.o 27 (.load (some 2) (.t 5)), ⟨none, (.store 2 (.t 4) (.t 27)), none⟩]) .ret))))⟩
def af72 : AFn := ⟨37, [], (.seq (.region [.l 7 1, .o 8 (.nilchk (.t 7)), .o 9 (.faddr 0 (.t 8)), .o 10 (.faddr 2 (.t 9)), .l 11 10, .o 12 (.bin .add (.t 11) (.const (.int .i64 1))), .o 13 (.mv
  (.const (.int .i64 0)))]) (.block 0 (.loop (.seq (.region [.o 14 (.bin .lss (.t 13) (.t 12))]) (.seq (.cond (.t 14) .skip (.exit 0)) (.seq (.block 1 (.seq (.region [.m 15 13, .m
  5 15]) (.seq (.region [.o 16 (.faddr 1 (.t 2)), .l 17 16, .m 18 5, .o 19 (.bin .add (.t 17) (.t 18)), .m 6 19]) (.seq (.region [.m 20 6, .o 21 (.faddr 0 (.t 3)), .l 22 21, .o 23
  (.bin .geq (.t 20) (.t 22)), .m 24 23, ⟨(some 25), (.mv (.t 6)), (some (24, true))⟩, ⟨(some 26), (.faddr 1 (.t 3)), (some (24, true))⟩, ⟨(some 27), (.load none (.t 26)), (some
  (24, true))⟩, ⟨(some 28), (.bin .leq (.t 25) (.t 27)), (some (24, true))⟩, .o 29 (.pick (.t 24) (.t 28) (.const (.bool false))), .m 30 29, ⟨(some 31), (.mv (.t 0)), (some (30,
  true))⟩, ⟨(some 32), (.mv (.t 5)), (some (30, true))⟩, ⟨(some 33), (.call (.t 31) [(.t 32)]), (some (30, true))⟩, ⟨(some 34), (.un .not (.t 33)), (some (30, true))⟩, .o 35
  (.pick (.t 30) (.t 34) (.const (.bool false)))]) (.cond (.t 35) .ret .skip))))) (.region [.o 36 (.bin .add (.t 13) (.const (.int .i64 1))), .m 13 36])))))))⟩
noncomputable def tblL : List (Nat × AFn) := [(3, af3), (4, af4), (5, af5), (6, af6), (7, af7), (8, af8), (9, af9), (10, af10), (11, af11), (12, af12), (13, af13), (14, af14), (15, af15), (16, af16), (17, af17), (18, af18), (19, af19), (20, af20), (21, af21), (22, af22), (23, af23), (24, af24), (25, af25), (26, af26), (27, af27), (28, af28), (29, af29), (30, af30), (31, af31), (32, af32), (33, af33), (34, af34), (35, af35), (36, af36), (37, af37), (38, af38), (39, af39), (40, af40), (41, af41), (42, af42), (43, af43), (44, af44), (45, af45), (46, af46), (47, af47), (48, af48), (49, af49), (50, af50), (51, af51), (52, af52), (53, af53), (54, af54), (55, af55), (56, af56), (57, af57), (58, af58), (59, af59), (60, af60), (61, af61), (62, af62), (63, af63), (64, af64), (65, af65), (66, af66), (67, af67), (68, af68), (69, af69), (70, af70), (71, af71), (72, af72)]
noncomputable def tbl : Nat → Option AFn := look1 tblL
end Go.Ax
