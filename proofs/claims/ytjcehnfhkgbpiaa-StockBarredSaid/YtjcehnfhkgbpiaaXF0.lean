/-
  The functions of the program as the abstract machine reads them. Written by gen_fns.py out of Lean's own reckoning of 'compF'.
-/
import Derived.Test.YtjcehnfhkgbpiaaXMA
namespace Go.Ax
def af9 : AFn := ⟨105, [(.tmp 8)], (.seq (.region [.o 4 (.box (.t 0)), .o 8 (.mv (.b false))]) (.seq (.seq (.region [.a 18 2 4, .o 19 (.call (.func 37) [.t 18]), .o 20 (.un .not (.t 19)), .m 21 20,
   .n 22 21 (.mv (.t 1)), .n 23 21 (.len (.t 22)), .n 24 21 (.bin .gtr (.t 23) (.i 60)), .o 25 (.pick (.t 21) (.b true) (.t 24)), .m 26 25, .n 27 26 (.faddr 1 (.t 4)), .n 28 26
  (.load none (.t 27)), .n 29 26 (.len (.t 28)), .n 30 26 (.bin .eql (.t 29) (.i 0)), .o 31 (.pick (.t 26) (.b true) (.t 30))]) (.cond (.t 31) (.seq (.region [.o 32 (.call (.func
  16) []), .m 8 32]) .ret) .skip)) (.seq (.region [.m 33 3, .o 34 (.conv .i64 (.t 33)), .f 35 1 4, .l 36 35, .o 37 (.len (.t 36)), .o 38 (.bin .rem (.t 34) (.t 37)), .m 9 38])
  (.seq (.region [.f 39 1 4, .l 40 39, .m 41 9, .o 42 (.iaddrS 4 (.t 40) (.t 41)), .a 43 4 42, .o 10 (.alloc [(.int .i64 0), (.int .i64 0), (.int .i64 0), (.int .i64 0)]), .s 4 10
  43]) (.seq (.region [.m 44 2, .f 45 0 10, .l 46 45, .o 47 (.bin .shl (.const (.int .u16 1)) (.t 46)), .o 48 (.bin .or (.t 44) (.t 47)), .m 2 48]) (.seq (.region [.m 49 2, .f 50
  1 10, .l 51 50, .o 52 (.bin .shl (.const (.int .u16 1)) (.t 51)), .o 53 (.bin .sub (.const (.int .u16 65535)) (.t 52)), .o 54 (.bin .and (.t 49) (.t 53)), .m 2 54]) (.seq
  (.region [.a 55 2 4, .m 56 2, .o 57 (.call (.func 39) [.t 55, .t 56]), .m 11 57]) (.seq (.region [.a 59 2 4, .m 60 9, .m 61 11, .o 62 (.call (.func 28) [.t 59, .t 60, (.b false),
   .t 61]), .m 58 62, .e 63 58 0, .e 64 58 1, .m 12 63, .m 13 64]) (.seq (.region [.a 66 2 4, .m 67 9, .m 68 11, .o 69 (.call (.func 28) [.t 66, .t 67, (.b true), .t 68]), .m 65
  69, .e 70 65 0, .e 71 65 1, .m 14 70, .m 15 71]) (.seq (.seq (.region [.m 72 13, .o 73 (.bin .neq (.t 72) (.i 0)), .m 74 73, .n 75 74 (.mv (.t 15)), .n 76 74 (.bin .neq (.t 75)
  (.i 0)), .o 77 (.pick (.t 74) (.b true) (.t 76))]) (.cond (.t 77) (.seq (.region [.o 8 (.mv (.b false))]) .ret) .skip)) (.seq (.region [.a 79 2 4, .m 80 1, .o 81 (.call (.func
  38) [.t 79, .t 80]), .m 78 81, .e 82 78 0, .e 83 78 1, .m 16 82, .m 17 83]) (.seq (.region [.m 84 17, .o 85 (.un .not (.t 84)), .m 86 85, .n 87 86 (.mv (.t 16)), .n 88 86 (.mv
  (.t 9)), .n 89 86 (.iaddrS 1 (.t 87) (.t 88)), .n 90 86 (.load none (.t 89)), .n 91 86 (.mv (.t 12)), .n 92 86 (.bin .geq (.t 90) (.t 91)), .n 93 86 (.mv (.t 92)), .y 94 93 (.mv
  (.t 16)), .y 95 93 (.mv (.t 9)), .y 96 93 (.iaddrS 1 (.t 94) (.t 95)), .y 97 93 (.load none (.t 96)), .y 98 93 (.mv (.t 14)), .y 99 93 (.bin .leq (.t 97) (.t 98)), .n 100 86
  (.pick (.t 93) (.t 99) (.b false)), .o 101 (.pick (.t 86) (.b true) (.t 100)), .m 102 101, .y 103 102 (.call (.func 16) []), .o 104 (.pick (.t 102) (.t 103) (.b false)), .m 8
  104]) .ret))))))))))))⟩
def af15 : AFn := ⟨7, [(.tmp 2)], (.seq (.region [.o 1 (.box (.t 0)), .o 2 (.mv (.b false))]) (.seq (.region [.f 3 1 1, .l 4 3, .o 5 (.len (.t 4)), .o 6 (.bin .gtr (.t 5) (.i 50)), .m 2 6]) .ret))⟩
def af16 : AFn := ⟨185, [(.tmp 0)], (.seq (.region [.o 0 (.mv (.b false))]) (.seq (.region [.o 26 (.call (.func 41) []), .o 1 (.alloc [(.int .i64 0), (.slc none 0 0 true 0)]), .s 2 1 26]) (.seq
  (.region [.a 27 2 1, .o 28 (.bslice [(.int .i64 0), (.int .i64 0), (.int .i64 0), (.int .i64 0)] 4 1 [(0, (1, (.i 105))), (1, (1, (.i 50))), (2, (1, (.i 55))), (3, (1, (.i
  50)))]), .o 29 (.call (.func 21) [.t 27, .t 28]), .m 2 29]) (.seq (.region [.a 30 2 1, .o 31 (.bslice [(.int .i64 0), (.int .i64 0), (.int .i64 0), (.int .i64 0)] 4 1 [(0, (1,
  (.i 105))), (1, (1, (.i 45))), (2, (1, (.i 55))), (3, (1, (.i 45)))]), .o 32 (.call (.func 21) [.t 30, .t 31]), .m 3 32]) (.seq (.region [.a 34 2 1, .o 35 (.call (.func 25) [.t
  34, .i 2]), .m 33 35, .e 36 33 0, .e 37 33 1, .o 4 (.alloc [(.int .i64 0), (.int .i64 0)]), .s 2 4 36, .m 5 37]) (.seq (.region [.a 39 2 1, .o 40 (.call (.func 30) [.t 39, .i 2,
  (.b false)]), .m 38 40, .e 41 38 0, .e 42 38 1, .m 6 41, .m 7 42]) (.seq (.region [.a 44 2 1, .o 45 (.bslice [(.int .i64 0)] 1 1 [(0, (1, (.i 2)))]), .o 46 (.call (.func 28) [.t
  44, .i 3, (.b true), .t 45]), .m 43 46, .e 47 43 0, .e 48 43 1, .m 8 47, .m 9 48]) (.seq (.region [.o 50 (.call (.func 42) []), .o 51 (.bslice [(.int .i64 0)] 1 1 [(0, (1, (.i
  2)))]), .o 52 (.call (.func 17) [.t 50, .t 51]), .m 49 52, .e 53 49 0, .e 54 49 1, .m 10 53, .m 11 54]) (.seq (.region [.o 56 (.call (.func 42) []), .o 57 (.call (.func 32) [.t
  56]), .m 55 57, .e 58 55 0, .e 59 55 1, .m 12 58, .m 13 59]) (.seq (.region [.o 61 (.call (.func 42) []), .o 62 (.call (.func 23) [.t 61]), .m 60 62, .e 63 60 0, .e 64 60 1, .m
  14 63, .m 15 64]) (.seq (.region [.a 66 2 1, .o 67 (.call (.func 27) [.t 66, .i 1, (.b false)]), .m 65 67, .e 68 65 0, .e 69 65 1, .m 16 68, .m 17 69]) (.seq (.region [.o 71
  (.call (.func 40) [(.i (-5)), .i 5]), .o 72 (.call (.func 33) [.i 1000, .t 71]), .m 70 72, .e 73 70 0, .e 74 70 1, .o 18 (.alloc [(.int .i64 0), (.int .i64 0)]), .s 2 18 73, .m
  19 74]) (.seq (.region [.o 76 (.build [(.int .i64 0), (.int .i64 0)] [(0, (1, (.i 1003))), (1, (1, (.i 1000)))]), .o 77 (.build [(.int .i64 0), (.int .i64 0)] [(0, (1, (.i
  498))), (1, (1, (.i 500)))]), .o 78 (.bslice [(.int .i64 0), (.int .i64 0), (.int .i64 0), (.int .i64 0)] 2 2 [(0, (2, (.t 76))), (2, (2, (.t 77)))]), .o 79 (.call (.func 35)
  [.t 78]), .m 75 79, .e 80 75 0, .e 81 75 1, .o 20 (.alloc [(.int .i64 0), (.int .i64 0)]), .s 2 20 80, .m 21 81]) (.seq (.seq (.region [.m 82 2, .o 83 (.bin .neq (.t 82) (.i 0)),
   .m 84 83, .n 85 84 (.mv (.t 3)), .n 86 84 (.bin .neq (.t 85) (.i 14)), .o 87 (.pick (.t 84) (.b true) (.t 86)), .m 88 87, .n 89 88 (.mv (.t 5)), .n 90 88 (.bin .neq (.t 89) (.i
  0)), .o 91 (.pick (.t 88) (.b true) (.t 90)), .m 92 91, .n 93 92 (.mv (.t 7)), .n 94 92 (.bin .neq (.t 93) (.i 0)), .o 95 (.pick (.t 92) (.b true) (.t 94)), .m 96 95, .n 97 96
  (.mv (.t 9)), .n 98 96 (.bin .neq (.t 97) (.i 0)), .o 99 (.pick (.t 96) (.b true) (.t 98)), .m 100 99, .n 101 100 (.mv (.t 11)), .n 102 100 (.bin .neq (.t 101) (.i 0)), .o 103
  (.pick (.t 100) (.b true) (.t 102)), .m 104 103, .n 105 104 (.mv (.t 13)), .n 106 104 (.bin .neq (.t 105) (.i 0)), .o 107 (.pick (.t 104) (.b true) (.t 106)), .m 108 107, .n 109
  108 (.mv (.t 15)), .n 110 108 (.bin .neq (.t 109) (.i 21)), .o 111 (.pick (.t 108) (.b true) (.t 110)), .m 112 111, .n 113 112 (.mv (.t 17)), .n 114 112 (.bin .neq (.t 113) (.i
  0)), .o 115 (.pick (.t 112) (.b true) (.t 114)), .m 116 115, .n 117 116 (.mv (.t 19)), .n 118 116 (.bin .neq (.t 117) (.i 0)), .o 119 (.pick (.t 116) (.b true) (.t 118)), .m 120
  119, .n 121 120 (.mv (.t 21)), .n 122 120 (.bin .neq (.t 121) (.i 0)), .o 123 (.pick (.t 120) (.b true) (.t 122))]) (.cond (.t 123) (.seq (.region [.o 0 (.mv (.b false))]) .ret)
  .skip)) (.seq (.region [.a 125 2 1, .m 126 6, .o 127 (.call (.func 29) [.t 125, .i 2, (.b false), .t 126]), .m 124 127, .e 128 124 0, .e 129 124 1, .m 22 128, .m 23 129]) (.seq
  (.region [.o 131 (.call (.func 42) []), .m 132 12, .o 133 (.call (.func 18) [.t 131, .t 132]), .m 130 133, .e 134 130 0, .e 135 130 1, .m 24 134, .m 25 135]) (.seq (.draw [.m
  136 23, .o 137 (.bin .eql (.t 136) (.i 0)), .m 138 137, .y 139 138 (.mv (.t 25)), .y 140 138 (.bin .eql (.t 139) (.i 0)), .o 141 (.pick (.t 138) (.t 140) (.b false)), .m 142 141,
   .y 143 142 (.mv (.t 22)), .y 144 142 (.bin .eql (.t 143) (.i 50)), .o 145 (.pick (.t 142) (.t 144) (.b false)), .m 146 145, .y 147 146 (.mv (.t 24)), .y 148 146 (.bin .gtr (.t
  147) (.i 0)), .o 149 (.pick (.t 146) (.t 148) (.b false)), .m 150 149, .y 151 150 (.load (some 2) (.t 4)), .y 152 150 (.call (.func 40) [.i 50, .i 60]), .y 153 150 (.eqf false
  true [.int, .int] (.t 151) (.t 152)), .o 154 (.pick (.t 150) (.t 153) (.b false)), .m 155 154, .y 156 155 (.mv (.t 8)), .y 157 155 (.bin .eql (.t 156) (.i 50)), .o 158 (.pick
  (.t 155) (.t 157) (.b false)), .m 159 158, .y 160 159 (.mv (.t 10)), .y 161 159 (.bin .eql (.t 160) (.i 15)), .o 162 (.pick (.t 159) (.t 161) (.b false)), .m 163 162, .y 164 163
  (.load (some 2) (.t 1)), .y 165 163 (.mv (.t 16)), .y 166 163 (.call (.func 22) [.t 164, .t 165]), .y 167 163 (.bin .eql (.t 166) (.i 0)), .o 168 (.pick (.t 163) (.t 167) (.b
  false)), .m 169 168, .y 170 169 (.mv (.t 16)), .y 171 169 (.iaddrS 1 (.t 170) (.i 1)), .y 172 169 (.load none (.t 171)), .y 173 169 (.bin .eql (.t 172) (.i 45)), .o 174 (.pick
  (.t 169) (.t 173) (.b false)), .m 175 174, .y 176 175 (.load (some 2) (.t 18)), .y 177 175 (.call (.func 40) [.i 996, .i 1005]), .y 178 175 (.eqf false true [.int, .int] (.t
  176) (.t 177)), .o 179 (.pick (.t 175) (.t 178) (.b false)), .m 180 179, .y 181 180 (.load (some 2) (.t 20)), .y 182 180 (.call (.func 40) [(.i (-4)), .i 3]), .y 183 180 (.eqf
  false true [.int, .int] (.t 181) (.t 182)), .o 184 (.pick (.t 180) (.t 183) (.b false)), .m 0 184] [(15, 16), (40, 41), (45, 46)]) .ret)))))))))))))))))⟩
def af17 : AFn := ⟨48, [(.tmp 4), (.tmp 5)], (.seq (.region [.o 2 (.box (.t 0)), .o 4 (.mv (.i 0)), .o 5 (.mv (.i 0))]) (.seq (.region [.a 12 2 2, .o 13 (.call (.func 19) [.t 12]), .m 6 13]) (.seq
  (.block 0 (.seq (.region [.m 15 6, .o 16 (.bin .neq (.t 15) (.i 0)), .m 14 16]) (.cond (.t 14) (.seq (.region [.m 17 6, .o 4 (.mv (.i 0)), .m 5 17]) .ret) (.seq (.region [.m 19
  1, .f 20 0 2, .l 21 20, .o 22 (.call (.func 43) [.t 19, .t 21]), .o 23 (.un .not (.t 22)), .m 18 23]) (.cond (.t 18) (.seq (.region [.o 4 (.mv (.i 0)), .o 5 (.mv (.i 3))]) .ret)
  .skip))))) (.seq (.region [.o 7 (.alloc [(.int .i64 0)]), ⟨none, (.store 1 (.t 7) (.i 0)), none⟩]) (.seq (.seq (.region [.a 24 2 2, .m 25 1, .o 26 (.call (.func 44) [.t 24, .t
  25])]) (.block 1 (.rangeF (.t 26) [27, 28] (.region [.o 9 (.alloc [(.int .i64 0), (.int .i64 0), (.int .i64 0), (.int .i64 0)]), .s 4 9 28]) (.block 2 (.region [.l 29 7, .f 30 2
  9, .f 31 0 30, .l 32 31, .o 33 (.bin .add (.t 29) (.t 32)), .s 1 7 33]))))) (.seq (.seq (.region [.a 34 2 2, .o 35 (.call (.func 45) [.t 34]), .m 36 1, .o 37 (.call (.func 44)
  [.t 35, .t 36])]) (.block 3 (.rangeF (.t 37) [38, 39] (.region [.o 11 (.alloc [(.int .i64 0), (.int .i64 0), (.int .i64 0), (.int .i64 0)]), .s 4 11 39]) (.block 4 (.region [.l
  40 7, .f 41 2 11, .f 42 1 41, .l 43 42, .o 44 (.bin .sub (.t 40) (.t 43)), .s 1 7 44]))))) (.seq (.seq (.region [.l 45 7, .o 46 (.bin .leq (.t 45) (.i 0))]) (.cond (.t 46) (.seq
  (.region [.o 4 (.mv (.i 0)), .o 5 (.mv (.i 5))]) .ret) .skip)) (.seq (.region [.l 47 7, .m 4 47, .o 5 (.mv (.i 0))]) .ret))))))))⟩
def af18 : AFn := ⟨66, [(.tmp 4), (.tmp 5)], (.seq (.region [.o 2 (.box (.t 0)), .o 4 (.mv (.i 0)), .o 5 (.mv (.i 0))]) (.seq (.seq (.region [.a 9 2 2, .o 10 (.call (.func 20) [.t 9]), .o 11 (.bin
  .neq (.t 10) (.i 0))]) (.cond (.t 11) (.seq (.region [.a 12 2 2, .o 13 (.call (.func 20) [.t 12]), .o 4 (.mv (.i 0)), .m 5 13]) .ret) .skip)) (.seq (.seq (.region [.m 14 1, .f
  15 0 2, .l 16 15, .o 17 (.call (.func 46) [.t 14, .t 16]), .o 18 (.un .not (.t 17))]) (.cond (.t 18) (.seq (.region [.o 4 (.mv (.i 0)), .o 5 (.mv (.i 3))]) .ret) .skip)) (.seq
  (.region [.o 6 (.mv (.i 0))]) (.seq (.seq (.region [.o 7 (.mv (.i 0))]) (.block 0 (.loop (.seq (.seq (.region [.m 19 7, .f 20 1 2, .l 21 20, .o 22 (.len (.t 21)), .o 23 (.bin
  .lss (.t 19) (.t 22))]) (.cond (.t 23) .skip (.exit 0))) (.seq (.block 1 (.seq (.region [.f 26 1 2, .l 27 26, .m 28 7, .o 29 (.iaddrS 4 (.t 27) (.t 28)), .a 30 4 29, .o 8
  (.alloc [(.int .i64 0), (.int .i64 0), (.int .i64 0), (.int .i64 0)]), .s 4 8 30]) (.seq (.seq (.region [.m 31 1, .f 32 0 8, .l 33 32, .o 34 (.call (.func 47) [.t 31, .t 33]),
  .m 35 34, .y 36 35 (.mv (.t 1)), .y 37 35 (.faddr 1 (.t 8)), .y 38 35 (.load none (.t 37)), .y 39 35 (.call (.func 47) [.t 36, .t 38]), .y 40 35 (.un .not (.t 39)), .o 41 (.pick
  (.t 35) (.t 40) (.b false))]) (.cond (.t 41) (.region [.m 42 6, .f 43 2 8, .f 44 0 43, .l 45 44, .o 46 (.bin .add (.t 42) (.t 45)), .m 6 46]) .skip)) (.seq (.region [.m 47 1, .f
  48 0 8, .l 49 48, .o 50 (.call (.func 47) [.t 47, .t 49]), .o 51 (.un .not (.t 50)), .m 52 51, .y 53 52 (.mv (.t 1)), .y 54 52 (.faddr 1 (.t 8)), .y 55 52 (.load none (.t 54)),
  .y 56 52 (.call (.func 47) [.t 53, .t 55]), .o 57 (.pick (.t 52) (.t 56) (.b false))]) (.cond (.t 57) (.region [.m 58 6, .f 59 2 8, .f 60 1 59, .l 61 60, .o 62 (.bin .sub (.t
  58) (.t 61)), .m 6 62]) .skip))))) (.region [.m 24 7, .o 25 (.bin .add (.t 24) (.i 1)), .m 7 25])))))) (.seq (.seq (.region [.m 63 6, .o 64 (.bin .leq (.t 63) (.i 0))]) (.cond
  (.t 64) (.seq (.region [.o 4 (.mv (.i 0)), .o 5 (.mv (.i 5))]) .ret) .skip)) (.seq (.region [.m 65 6, .m 4 65, .o 5 (.mv (.i 0))]) .ret)))))))⟩
def af19 : AFn := ⟨24, [(.tmp 2)], (.seq (.region [.o 1 (.box (.t 0)), .o 2 (.mv (.i 0))]) (.seq (.region [.o 4 (.mkfn 48 [] [.t 1]), .o 3 (.alloc [.nilfn]), .s 1 3 4]) (.seq (.block 0 (.seq
  (.region [.f 6 0 1, .l 7 6, .o 8 (.bin .lss (.t 7) (.i 1)), .m 9 8, .n 10 9 (.faddr 0 (.t 1)), .n 11 9 (.load none (.t 10)), .n 12 9 (.bin .gtr (.t 11) (.i 12)), .o 13 (.pick
  (.t 9) (.b true) (.t 12)), .m 5 13]) (.cond (.t 5) (.seq (.region [.o 2 (.mv (.i 2))]) .ret) (.seq (.region [.f 15 1 1, .l 16 15, .o 17 (.len (.t 16)), .o 18 (.bin .gtr (.t 17)
  (.i 40)), .m 14 18]) (.cond (.t 14) (.seq (.region [.o 2 (.mv (.i 6))]) .ret) (.seq (.region [.f 20 1 1, .l 21 20, .o 22 (.mkfn 50 [] [.t 3]), .o 23 (.call (.func 49) [.t 21, .t
  22]), .m 19 23]) (.cond (.t 19) (.seq (.region [.o 2 (.mv (.i 3))]) .ret) .skip))))))) (.seq (.region [.o 2 (.mv (.i 0))]) .ret))))⟩
def af20 : AFn := ⟨64, [(.tmp 2)], (.seq (.region [.o 1 (.box (.t 0)), .o 2 (.mv (.i 0))]) (.seq (.seq (.region [.f 5 0 1, .l 6 5, .o 7 (.bin .lss (.t 6) (.i 1)), .m 8 7, .n 9 8 (.faddr 0 (.t 1)),
  .n 10 8 (.load none (.t 9)), .n 11 8 (.bin .gtr (.t 10) (.i 12)), .o 12 (.pick (.t 8) (.b true) (.t 11))]) (.cond (.t 12) (.seq (.region [.o 2 (.mv (.i 2))]) .ret) .skip)) (.seq
  (.seq (.region [.f 13 1 1, .l 14 13, .o 15 (.len (.t 14)), .o 16 (.bin .gtr (.t 15) (.i 40))]) (.cond (.t 16) (.seq (.region [.o 2 (.mv (.i 6))]) .ret) .skip)) (.seq (.seq
  (.region [.o 3 (.mv (.i 0))]) (.block 0 (.loop (.seq (.seq (.region [.m 17 3, .f 18 1 1, .l 19 18, .o 20 (.len (.t 19)), .o 21 (.bin .lss (.t 17) (.t 20))]) (.cond (.t 21) .skip
  (.exit 0))) (.seq (.block 1 (.seq (.region [.f 24 1 1, .l 25 24, .m 26 3, .o 27 (.iaddrS 4 (.t 25) (.t 26)), .a 28 4 27, .o 4 (.alloc [(.int .i64 0), (.int .i64 0), (.int .i64
  0), (.int .i64 0)]), .s 4 4 28]) (.seq (.region [.f 29 0 4, .l 30 29, .o 31 (.bin .lss (.t 30) (.i 0)), .m 32 31, .n 33 32 (.faddr 0 (.t 4)), .n 34 32 (.load none (.t 33)), .n
  35 32 (.faddr 0 (.t 1)), .n 36 32 (.load none (.t 35)), .n 37 32 (.bin .gtr (.t 34) (.t 36)), .o 38 (.pick (.t 32) (.b true) (.t 37)), .m 39 38, .n 40 39 (.faddr 1 (.t 4)), .n
  41 39 (.load none (.t 40)), .n 42 39 (.bin .lss (.t 41) (.i 0)), .o 43 (.pick (.t 39) (.b true) (.t 42)), .m 44 43, .n 45 44 (.faddr 1 (.t 4)), .n 46 44 (.load none (.t 45)), .n
  47 44 (.faddr 0 (.t 1)), .n 48 44 (.load none (.t 47)), .n 49 44 (.bin .gtr (.t 46) (.t 48)), .o 50 (.pick (.t 44) (.b true) (.t 49)), .m 51 50, .n 52 51 (.faddr 0 (.t 4)), .n
  53 51 (.load none (.t 52)), .n 54 51 (.faddr 1 (.t 4)), .n 55 51 (.load none (.t 54)), .n 56 51 (.bin .eql (.t 53) (.t 55)), .o 57 (.pick (.t 51) (.b true) (.t 56)), .m 58 57,
  .n 59 58 (.faddr 2 (.t 4)), .n 60 58 (.load (some 2) (.t 59)), .n 61 58 (.call (.func 52) [.t 60, .i 0, .i 100000]), .n 62 58 (.un .not (.t 61)), .o 63 (.pick (.t 58) (.b true)
  (.t 62))]) (.cond (.t 63) (.seq (.region [.o 2 (.mv (.i 3))]) .ret) .skip)))) (.region [.m 22 3, .o 23 (.bin .add (.t 22) (.i 1)), .m 3 23])))))) (.seq (.region [.o 2 (.mv (.i
  0))]) .ret)))))⟩
def af21 : AFn := ⟨65, [(.tmp 4)], (.seq (.region [.o 2 (.box (.t 0)), .o 4 (.mv (.i 0))]) (.seq (.seq (.region [.a 9 2 2, .o 10 (.call (.func 19) [.t 9]), .m 5 10]) (.seq (.region [.m 11 5, .o 12
  (.bin .neq (.t 11) (.i 0))]) (.cond (.t 12) (.seq (.region [.m 13 5, .m 4 13]) .ret) .skip))) (.seq (.seq (.region [.m 14 1, .o 15 (.len (.t 14)), .f 16 1 2, .l 17 16, .o 18
  (.len (.t 17)), .o 19 (.bin .neq (.t 15) (.t 18))]) (.cond (.t 19) (.seq (.region [.o 4 (.mv (.i 15))]) .ret) .skip)) (.seq (.region [.o 6 (.alloc [(.int .i64 0), (.int .i64 0),
  (.int .i64 0), (.int .i64 0), (.int .i64 0), (.int .i64 0), (.int .i64 0), (.int .i64 0), (.int .i64 0), (.int .i64 0), (.int .i64 0), (.int .i64 0), (.int .i64 0)])]) (.seq
  (.seq (.region [.f 20 1 2, .l 21 20, .o 22 (.len (.t 21)), .o 23 (.mv (.i 0))]) (.block 0 (.loop (.seq (.region [.o 24 (.bin .lss (.t 23) (.t 22))]) (.seq (.cond (.t 24) .skip
  (.exit 0)) (.seq (.block 1 (.seq (.region [.m 25 23, .o 26 (.iaddrS 4 (.t 21) (.t 23)), .a 27 4 26, .o 8 (.alloc [(.int .i64 0), (.int .i64 0), (.int .i64 0), (.int .i64 0)]),
  .m 7 25, .s 4 8 27]) (.seq (.seq (.draw [.f 28 2 8, .f 29 0 28, .l 30 29, .f 31 2 8, .f 32 1 31, .l 33 32, .m 34 1, .m 35 7, .o 36 (.iaddrS 1 (.t 34) (.t 35)), .l 37 36, .o 38
  (.bslice [(.int .i64 0)] 1 1 [(0, (1, (.t 37)))]), .o 39 (.call (.func 53) [.t 30, .t 33, .t 38]), .o 40 (.un .not (.t 39))] [(2, 10), (5, 10)]) (.cond (.t 40) (.seq (.region
  [.o 4 (.mv (.i 3))]) .ret) .skip)) (.seq (.draw [.f 41 1 8, .l 42 41, .o 43 (.iaddrA 13 1 (.t 6) (.t 42)), .l 44 43, .m 45 1, .m 46 7, .o 47 (.iaddrS 1 (.t 45) (.t 46)), .l 48
  47, .o 49 (.bin .add (.t 44) (.t 48)), .o 50 (.iaddrA 13 1 (.t 6) (.t 42)), .s 1 50 49] []) (.draw [.f 51 0 8, .l 52 51, .o 53 (.iaddrA 13 1 (.t 6) (.t 52)), .l 54 53, .m 55 1,
  .m 56 7, .o 57 (.iaddrS 1 (.t 55) (.t 56)), .l 58 57, .o 59 (.bin .sub (.t 54) (.t 58)), .o 60 (.iaddrA 13 1 (.t 6) (.t 52)), .s 1 60 59] []))))) (.region [.o 61 (.bin .add (.t
  23) (.i 1)), .m 23 61]))))))) (.seq (.seq (.region [.a 62 13 6, .o 63 (.build [(.int .i64 0), (.int .i64 0), (.int .i64 0), (.int .i64 0), (.int .i64 0), (.int .i64 0), (.int
  .i64 0), (.int .i64 0), (.int .i64 0), (.int .i64 0), (.int .i64 0), (.int .i64 0), (.int .i64 0)] []), .o 64 (.eqf true true [.int, .int, .int, .int, .int, .int, .int, .int,
  .int, .int, .int, .int, .int] (.t 62) (.t 63))]) (.cond (.t 64) (.seq (.region [.o 4 (.mv (.i 14))]) .ret) .skip)) (.seq (.region [.o 4 (.mv (.i 0))]) .ret)))))))⟩
def af22 : AFn := ⟨65, [(.tmp 4)], (.seq (.region [.o 2 (.box (.t 0)), .o 4 (.mv (.i 0))]) (.seq (.seq (.region [.a 8 2 2, .o 9 (.call (.func 20) [.t 8]), .o 10 (.bin .neq (.t 9) (.i 0))]) (.cond
  (.t 10) (.seq (.region [.a 11 2 2, .o 12 (.call (.func 20) [.t 11]), .m 4 12]) .ret) .skip)) (.seq (.seq (.region [.m 13 1, .o 14 (.len (.t 13)), .f 15 1 2, .l 16 15, .o 17
  (.len (.t 16)), .o 18 (.bin .neq (.t 14) (.t 17))]) (.cond (.t 18) (.seq (.region [.o 4 (.mv (.i 15))]) .ret) .skip)) (.seq (.seq (.region [.o 5 (.mv (.i 0))]) (.block 0 (.loop
  (.seq (.seq (.region [.m 19 5, .m 20 1, .o 21 (.len (.t 20)), .o 22 (.bin .lss (.t 19) (.t 21))]) (.cond (.t 22) .skip (.exit 0))) (.seq (.block 1 (.seq (.draw [.m 25 1, .m 26 5,
   .o 27 (.iaddrS 1 (.t 25) (.t 26)), .l 28 27, .f 29 1 2, .l 30 29, .m 31 5, .o 32 (.iaddrS 4 (.t 30) (.t 31)), .f 33 2 32, .f 34 0 33, .l 35 34, .o 36 (.bin .lss (.t 28) (.t
  35)), .m 37 36, .n 38 37 (.mv (.t 1)), .n 39 37 (.mv (.t 5)), .n 40 37 (.iaddrS 1 (.t 38) (.t 39)), .n 41 37 (.load none (.t 40)), .n 42 37 (.faddr 1 (.t 2)), .n 43 37 (.load
  none (.t 42)), .n 44 37 (.mv (.t 5)), .n 45 37 (.iaddrS 4 (.t 43) (.t 44)), .n 46 37 (.faddr 2 (.t 45)), .n 47 37 (.faddr 1 (.t 46)), .n 48 37 (.load none (.t 47)), .n 49 37
  (.bin .gtr (.t 41) (.t 48)), .o 50 (.pick (.t 37) (.b true) (.t 49))] []) (.cond (.t 50) (.seq (.region [.o 4 (.mv (.i 3))]) .ret) .skip))) (.region [.m 23 5, .o 24 (.bin .add
  (.t 23) (.i 1)), .m 5 24])))))) (.seq (.region [.a 51 2 2, .m 52 1, .o 53 (.call (.func 54) [.t 51, .t 52]), .m 6 53]) (.seq (.seq (.region [.o 7 (.mv (.i 0))]) (.block 2 (.loop
  (.seq (.seq (.region [.m 54 7, .m 55 6, .o 56 (.len (.t 55)), .o 57 (.bin .lss (.t 54) (.t 56))]) (.cond (.t 57) .skip (.exit 2))) (.seq (.block 3 (.seq (.region [.m 60 6, .m 61
  7, .o 62 (.iaddrS 1 (.t 60) (.t 61)), .l 63 62, .o 64 (.bin .neq (.t 63) (.i 0))]) (.cond (.t 64) (.seq (.region [.o 4 (.mv (.i 14))]) .ret) .skip))) (.region [.m 58 7, .o 59
  (.bin .add (.t 58) (.i 1)), .m 7 59])))))) (.seq (.region [.o 4 (.mv (.i 0))]) .ret)))))))⟩
def af23 : AFn := ⟨19, [(.tmp 2), (.tmp 3)], (.seq (.region [.o 1 (.box (.t 0)), .o 2 (.mv (.const (.slc none 0 0 true 0))), .o 3 (.mv (.i 0))]) (.seq (.seq (.region [.a 6 2 1, .o 7 (.call (.func
  19) [.t 6]), .m 4 7]) (.seq (.region [.m 8 4, .o 9 (.bin .neq (.t 8) (.i 0))]) (.cond (.t 9) (.seq (.region [.m 10 4, .o 2 (.mv (.const (.slc none 0 0 true 0))), .m 3 10]) .ret)
  .skip))) (.seq (.region [.a 11 2 1, .o 12 (.call (.func 55) [.t 11]), .m 5 12]) (.seq (.seq (.region [.m 13 5, .o 14 (.call (.func 56) [.t 13]), .o 15 (.len (.t 14)), .o 16
  (.bin .gtr (.t 15) (.i 0))]) (.cond (.t 16) (.seq (.region [.o 2 (.mv (.const (.slc none 0 0 true 0))), .o 3 (.mv (.i 21))]) .ret) .skip)) (.seq (.region [.m 17 5, .o 18 (.call
  (.func 57) [.t 17]), .m 2 18, .o 3 (.mv (.i 0))]) .ret)))))⟩
def af24 : AFn := ⟨89, [(.tmp 2), (.tmp 3)], (.seq (.region [.o 1 (.box (.t 0)), .o 2 (.mv (.const (.slc none 0 0 true 0))), .o 3 (.mv (.b false))]) (.seq (.region [.o 4 (.mv (.const (.slc none 0 0
  true 0)))]) (.seq (.seq (.region [.o 5 (.mv (.i 0))]) (.block 0 (.loop (.seq (.seq (.region [.m 11 5, .f 12 1 1, .l 13 12, .o 14 (.len (.t 13)), .o 15 (.bin .lss (.t 11) (.t
  14))]) (.cond (.t 15) .skip (.exit 0))) (.seq (.block 1 (.region [.m 18 4, .f 19 1 1, .l 20 19, .m 21 5, .o 22 (.iaddrS 4 (.t 20) (.t 21)), .f 23 2 22, .f 24 0 23, .l 25 24, .o
  26 (.bslice [(.int .i64 0)] 1 1 [(0, (1, (.t 25)))]), .o 27 (.app 1 8 (.t 18) (.t 26)), .m 4 27])) (.region [.m 16 5, .o 17 (.bin .add (.t 16) (.i 1)), .m 5 17])))))) (.block 2
  (.loop (.block 3 (.seq (.region [.a 28 2 1, .m 29 4, .o 30 (.call (.func 54) [.t 28, .t 29]), .m 6 30]) (.seq (.region [.o 7 (.mv (.b true))]) (.seq (.region [.o 8 (.mv (.i
  0))]) (.seq (.seq (.region [.o 9 (.mv (.i 0))]) (.block 4 (.loop (.seq (.seq (.region [.m 31 9, .m 32 6, .o 33 (.len (.t 32)), .o 34 (.bin .lss (.t 31) (.t 33))]) (.cond (.t 34)
  .skip (.exit 4))) (.seq (.block 5 (.seq (.region [.o 10 (.mv (.i 0))]) (.block 6 (.loop (.seq (.seq (.region [.m 37 10, .m 38 6, .o 39 (.len (.t 38)), .o 40 (.bin .lss (.t 37)
  (.t 39))]) (.cond (.t 40) .skip (.exit 6))) (.seq (.block 7 (.seq (.region [.m 43 7, .m 44 43, .y 45 44 (.mv (.t 6)), .y 46 44 (.mv (.t 9)), .y 47 44 (.iaddrS 1 (.t 45) (.t 46)),
   .y 48 44 (.load none (.t 47)), .y 49 44 (.bin .eql (.t 48) (.i 0)), .o 50 (.pick (.t 44) (.t 49) (.b false)), .m 7 50]) (.seq (.region [.m 51 6, .m 52 9, .o 53 (.iaddrS 1 (.t
  51) (.t 52)), .l 54 53, .o 55 (.bin .gtr (.t 54) (.i 0)), .m 56 55, .y 57 56 (.mv (.t 6)), .y 58 56 (.mv (.t 10)), .y 59 56 (.iaddrS 1 (.t 57) (.t 58)), .y 60 56 (.load none (.t
  59)), .y 61 56 (.bin .lss (.t 60) (.i 0)), .o 62 (.pick (.t 56) (.t 61) (.b false)), .m 63 62, .y 64 63 (.mv (.t 8)), .y 65 63 (.bin .eql (.t 64) (.i 0)), .o 66 (.pick (.t 63)
  (.t 65) (.b false))]) (.cond (.t 66) (.draw [.a 68 2 1, .m 69 4, .m 70 9, .m 71 10, .m 72 6, .m 73 9, .o 74 (.iaddrS 1 (.t 72) (.t 73)), .l 75 74, .m 76 6, .m 77 10, .o 78
  (.iaddrS 1 (.t 76) (.t 77)), .l 79 78, .o 80 (.un .neg (.t 79)), .o 81 (.mnx false [.t 75, .t 80]), .o 82 (.call (.func 58) [.t 68, .t 69, .t 70, .t 71, (.i (-1)), .t 81]), .m
  67 82, .e 83 67 0, .e 84 67 1, .m 4 83, .m 8 84] []) .skip)))) (.region [.m 41 10, .o 42 (.bin .add (.t 41) (.i 1)), .m 10 42]))))))) (.region [.m 35 9, .o 36 (.bin .add (.t 35)
  (.i 1)), .m 9 36])))))) (.seq (.seq (.region [.m 85 7]) (.cond (.t 85) (.seq (.region [.m 86 4, .m 2 86, .o 3 (.mv (.b true))]) .ret) .skip)) (.seq (.region [.m 87 8, .o 88
  (.bin .eql (.t 87) (.i 0))]) (.cond (.t 88) (.seq (.region [.o 2 (.mv (.const (.slc none 0 0 true 0))), .o 3 (.mv (.b false))]) .ret) .skip)))))))))))))⟩
def af25 : AFn := ⟨41, [(.cell 4 (some 2)), (.tmp 5)], (.seq (.region [.o 2 (.box (.t 0)), .o 4 (.alloc [(.int .i64 0), (.int .i64 0)]), .o 5 (.mv (.i 0))]) (.seq (.region [.a 10 2 2, .m 11 1, .o
  12 (.call (.func 59) [.t 10, .t 11]), .m 9 12, .e 13 9 0, .e 14 9 1, .m 6 13, .m 7 14]) (.seq (.seq (.region [.m 15 7, .o 16 (.bin .neq (.t 15) (.i 0))]) (.cond (.t 16) (.seq
  (.region [.o 17 (.build [(.int .i64 0), (.int .i64 0)] []), .m 18 7, .s 2 4 17, .m 5 18]) .ret) .skip)) (.seq (.region [.m 19 6, .m 20 1, .o 21 (.call (.func 60) [.t 19, .t 20,
  (.b false)])]) (.seq (.region [.m 22 6, .o 23 (.nilchk (.t 22)), .f 24 2 23, .l 25 24, .m 26 1, .o 27 (.iaddrS 1 (.t 25) (.t 26)), .l 28 27, .m 8 28]) (.seq (.region [.m 29 6,
  .m 30 1, .o 31 (.call (.func 60) [.t 29, .t 30, (.b true)])]) (.seq (.region [.m 32 8, .m 33 6, .o 34 (.nilchk (.t 33)), .f 35 2 34, .l 36 35, .m 37 1, .o 38 (.iaddrS 1 (.t 36)
  (.t 37)), .l 39 38, .o 40 (.build [(.int .i64 0), (.int .i64 0)] [(0, (1, (.t 32))), (1, (1, (.t 39)))]), .s 2 4 40, .o 5 (.mv (.i 0))]) .ret)))))))⟩
def af26 : AFn := ⟨27, [(.cell 4 (some 2)), (.tmp 5)], (.seq (.region [.o 2 (.box (.t 0)), .o 4 (.alloc [(.int .i64 0), (.int .i64 0)]), .o 5 (.mv (.i 0))]) (.seq (.seq (.region [.a 6 2 2, .m 7 1,
  .o 8 (.call (.func 31) [.t 6, .t 7]), .o 9 (.bin .neq (.t 8) (.i 0))]) (.cond (.t 9) (.seq (.region [.o 10 (.build [(.int .i64 0), (.int .i64 0)] []), .a 11 2 2, .m 12 1, .o 13
  (.call (.func 31) [.t 11, .t 12]), .s 2 4 10, .m 5 13]) .ret) .skip)) (.seq (.draw [.a 14 2 2, .m 15 1, .o 16 (.call (.func 61) [.t 14, .t 15, (.b false)]), .m 17 1, .o 18
  (.iaddrS 1 (.t 16) (.t 17)), .l 19 18, .a 20 2 2, .m 21 1, .o 22 (.call (.func 61) [.t 20, .t 21, (.b true)]), .m 23 1, .o 24 (.iaddrS 1 (.t 22) (.t 23)), .l 25 24, .o 26
  (.build [(.int .i64 0), (.int .i64 0)] [(0, (1, (.t 19))), (1, (1, (.t 25)))]), .s 2 4 26, .o 5 (.mv (.i 0))] [(2, 6), (5, 8)]) .ret)))⟩
def af27 : AFn := ⟨25, [(.tmp 6), (.tmp 7)], (.seq (.region [.o 3 (.box (.t 0)), .o 6 (.mv (.const (.slc none 0 0 true 0))), .o 7 (.mv (.i 0))]) (.seq (.region [.a 11 2 3, .m 12 1, .o 13 (.call
  (.func 59) [.t 11, .t 12]), .m 10 13, .e 14 10 0, .e 15 10 1, .m 8 14, .m 9 15]) (.seq (.seq (.region [.m 16 9, .o 17 (.bin .neq (.t 16) (.i 0))]) (.cond (.t 17) (.seq (.region
  [.m 18 9, .o 6 (.mv (.const (.slc none 0 0 true 0))), .m 7 18]) .ret) .skip)) (.seq (.region [.m 19 8, .m 20 1, .m 21 2, .o 22 (.call (.func 60) [.t 19, .t 20, .t 21])]) (.seq
  (.region [.m 23 8, .o 24 (.call (.func 57) [.t 23]), .m 6 24, .o 7 (.mv (.i 0))]) .ret)))))⟩
def af28 : AFn := ⟨94, [(.tmp 8), (.tmp 9)], (.seq (.region [.o 4 (.box (.t 0)), .o 8 (.mv (.i 0)), .o 9 (.mv (.i 0))]) (.seq (.region [.a 19 2 4, .o 20 (.call (.func 19) [.t 19]), .m 10 20]) (.seq
  (.block 0 (.seq (.region [.m 22 10, .o 23 (.bin .neq (.t 22) (.i 0)), .m 21 23]) (.cond (.t 21) (.seq (.region [.m 24 10, .o 8 (.mv (.i 0)), .m 9 24]) .ret) (.seq (.region [.m
  26 1, .o 27 (.bin .lss (.t 26) (.i 0)), .m 28 27, .n 29 28 (.mv (.t 1)), .n 30 28 (.faddr 1 (.t 4)), .n 31 28 (.load none (.t 30)), .n 32 28 (.len (.t 31)), .n 33 28 (.bin .geq
  (.t 29) (.t 32)), .o 34 (.pick (.t 28) (.b true) (.t 33)), .m 35 34, .n 36 35 (.mv (.t 3)), .n 37 35 (.faddr 0 (.t 4)), .n 38 35 (.load none (.t 37)), .n 39 35 (.call (.func 43)
  [.t 36, .t 38]), .n 40 35 (.un .not (.t 39)), .o 41 (.pick (.t 35) (.b true) (.t 40)), .m 25 41]) (.cond (.t 25) (.seq (.region [.o 8 (.mv (.i 0)), .o 9 (.mv (.i 3))]) .ret)
  .skip))))) (.seq (.region [.f 42 1 4, .l 43 42, .m 44 1, .o 45 (.iaddrS 4 (.t 43) (.t 44)), .a 46 4 45, .o 11 (.alloc [(.int .i64 0), (.int .i64 0), (.int .i64 0), (.int .i64
  0)]), .s 4 11 46]) (.seq (.region [.o 12 (.alloc [.nilfn]), ⟨none, (.store 1 (.t 12) (.func 62)), none⟩]) (.seq (.region [.o 13 (.alloc [.nilfn]), ⟨none, (.store 1 (.t 13)
  (.func 63)), none⟩]) (.seq (.seq (.region [.m 47 2]) (.cond (.t 47) (.region [.l 48 13, .l 49 12, .s 1 12 48, .s 1 13 49]) .skip)) (.seq (.block 1 (.seq (.region [.m 51 3, .o 52
  (.len (.t 51)), .o 53 (.bin .eql (.t 52) (.i 0)), .m 50 53]) (.cond (.t 50) (.seq (.region [.l 54 12, .a 55 4 11, .o 56 (.call (.t 54) [.t 55]), .m 8 56, .o 9 (.mv (.i 0))])
  .ret) (.seq (.region [.m 58 3, .f 59 0 11, .l 60 59, .o 61 (.call (.func 64) [.t 58, .t 60]), .o 62 (.un .not (.t 61)), .m 63 62, .n 64 63 (.mv (.t 3)), .n 65 63 (.faddr 1 (.t
  11)), .n 66 63 (.load none (.t 65)), .n 67 63 (.call (.func 64) [.t 64, .t 66]), .o 68 (.pick (.t 63) (.b true) (.t 67)), .m 57 68]) (.cond (.t 57) (.seq (.region [.o 8 (.mv (.i
  0)), .o 9 (.mv (.i 16))]) .ret) .skip))))) (.seq (.region [.l 69 13, .a 70 4 11, .o 71 (.call (.t 69) [.t 70]), .o 14 (.alloc [(.int .i64 0)]), .s 1 14 71]) (.seq (.seq (.region
  [.a 72 2 4, .o 73 (.call (.func 45) [.t 72]), .m 74 3, .o 75 (.call (.func 44) [.t 73, .t 74])]) (.block 2 (.rangeF (.t 75) [76, 77] (.region [.o 16 (.alloc [(.int .i64 0),
  (.int .i64 0), (.int .i64 0), (.int .i64 0)]), .s 4 16 77]) (.block 3 (.draw [.l 78 14, .l 79 12, .a 80 4 16, .o 81 (.call (.t 79) [.t 80]), .o 82 (.bin .add (.t 78) (.t 81)),
  .s 1 14 82] [(0, 3)]))))) (.seq (.seq (.region [.a 83 2 4, .m 84 3, .o 85 (.call (.func 44) [.t 83, .t 84])]) (.block 4 (.rangeF (.t 85) [86, 87] (.region [.o 18 (.alloc [(.int
  .i64 0), (.int .i64 0), (.int .i64 0), (.int .i64 0)]), .s 4 18 87]) (.block 5 (.draw [.l 88 14, .l 89 13, .a 90 4 18, .o 91 (.call (.t 89) [.t 90]), .o 92 (.bin .sub (.t 88)
  (.t 91)), .s 1 14 92] [(0, 3)]))))) (.seq (.region [.l 93 14, .m 8 93, .o 9 (.mv (.i 0))]) .ret))))))))))))⟩
def af29 : AFn := ⟨134, [(.tmp 8), (.tmp 9)], (.seq (.region [.o 4 (.box (.t 0)), .o 8 (.mv (.i 0)), .o 9 (.mv (.i 0))]) (.seq (.seq (.region [.a 16 2 4, .o 17 (.call (.func 20) [.t 16]), .o 18
  (.bin .neq (.t 17) (.i 0))]) (.cond (.t 18) (.seq (.region [.a 19 2 4, .o 20 (.call (.func 20) [.t 19]), .o 8 (.mv (.i 0)), .m 9 20]) .ret) .skip)) (.seq (.seq (.region [.m 21 1,
   .o 22 (.bin .lss (.t 21) (.i 0)), .m 23 22, .n 24 23 (.mv (.t 1)), .n 25 23 (.faddr 1 (.t 4)), .n 26 23 (.load none (.t 25)), .n 27 23 (.len (.t 26)), .n 28 23 (.bin .geq (.t
  24) (.t 27)), .o 29 (.pick (.t 23) (.b true) (.t 28)), .m 30 29, .n 31 30 (.mv (.t 3)), .n 32 30 (.faddr 0 (.t 4)), .n 33 30 (.load none (.t 32)), .n 34 30 (.call (.func 46) [.t
  31, .t 33]), .n 35 30 (.un .not (.t 34)), .o 36 (.pick (.t 30) (.b true) (.t 35))]) (.cond (.t 36) (.seq (.region [.o 8 (.mv (.i 0)), .o 9 (.mv (.i 3))]) .ret) .skip)) (.seq
  (.region [.f 37 1 4, .l 38 37, .m 39 1, .o 40 (.iaddrS 4 (.t 38) (.t 39)), .f 41 2 40, .a 42 2 41, .o 10 (.alloc [(.int .i64 0), (.int .i64 0)]), .s 2 10 42]) (.seq (.seq
  (.region [.m 43 3, .o 44 (.len (.t 43)), .o 45 (.bin .eql (.t 44) (.i 0)), .m 46 45, .y 47 46 (.mv (.t 2)), .o 48 (.pick (.t 46) (.t 47) (.b false))]) (.cond (.t 48) (.seq
  (.region [.f 49 1 10, .l 50 49, .m 8 50, .o 9 (.mv (.i 0))]) .ret) .skip)) (.seq (.seq (.region [.m 51 3, .o 52 (.len (.t 51)), .o 53 (.bin .eql (.t 52) (.i 0))]) (.cond (.t 53)
  (.seq (.region [.f 54 0 10, .l 55 54, .m 8 55, .o 9 (.mv (.i 0))]) .ret) .skip)) (.seq (.seq (.region [.m 56 3, .f 57 1 4, .l 58 57, .m 59 1, .o 60 (.iaddrS 4 (.t 58) (.t 59)),
  .f 61 0 60, .l 62 61, .o 63 (.call (.func 47) [.t 56, .t 62]), .o 64 (.un .not (.t 63)), .m 65 64, .n 66 65 (.mv (.t 3)), .n 67 65 (.faddr 1 (.t 4)), .n 68 65 (.load none (.t
  67)), .n 69 65 (.mv (.t 1)), .n 70 65 (.iaddrS 4 (.t 68) (.t 69)), .n 71 65 (.faddr 1 (.t 70)), .n 72 65 (.load none (.t 71)), .n 73 65 (.call (.func 47) [.t 66, .t 72]), .o 74
  (.pick (.t 65) (.b true) (.t 73))]) (.cond (.t 74) (.seq (.region [.o 8 (.mv (.i 0)), .o 9 (.mv (.i 16))]) .ret) .skip)) (.seq (.region [.o 11 (.mv (.i 0))]) (.seq (.seq
  (.region [.o 12 (.mv (.i 0))]) (.block 0 (.loop (.seq (.seq (.region [.m 75 12, .f 76 1 4, .l 77 76, .o 78 (.len (.t 77)), .o 79 (.bin .lss (.t 75) (.t 78))]) (.cond (.t 79)
  .skip (.exit 0))) (.seq (.block 1 (.seq (.region [.f 82 1 4, .l 83 82, .m 84 12, .o 85 (.iaddrS 4 (.t 83) (.t 84)), .a 86 4 85, .o 13 (.alloc [(.int .i64 0), (.int .i64 0),
  (.int .i64 0), (.int .i64 0)]), .s 4 13 86]) (.seq (.draw [.f 87 2 13, .f 88 0 87, .l 89 88, .f 90 2 13, .f 91 1 90, .l 92 91, .m 14 89, .m 15 92] []) (.seq (.seq (.region [.m
  93 2]) (.cond (.t 93) (.draw [.f 94 2 13, .f 95 1 94, .l 96 95, .f 97 2 13, .f 98 0 97, .l 99 98, .m 14 96, .m 15 99] []) .skip)) (.seq (.seq (.region [.m 100 3, .f 101 0 13, .l
  102 101, .o 103 (.call (.func 47) [.t 100, .t 102]), .o 104 (.un .not (.t 103)), .m 105 104, .y 106 105 (.mv (.t 3)), .y 107 105 (.faddr 1 (.t 13)), .y 108 105 (.load none (.t
  107)), .y 109 105 (.call (.func 47) [.t 106, .t 108]), .o 110 (.pick (.t 105) (.t 109) (.b false))]) (.cond (.t 110) (.region [.m 111 11, .m 112 14, .o 113 (.bin .add (.t 111)
  (.t 112)), .m 11 113]) .skip)) (.seq (.region [.m 114 12, .m 115 1, .o 116 (.bin .neq (.t 114) (.t 115)), .m 117 116, .y 118 117 (.mv (.t 3)), .y 119 117 (.faddr 0 (.t 13)), .y
  120 117 (.load none (.t 119)), .y 121 117 (.call (.func 47) [.t 118, .t 120]), .o 122 (.pick (.t 117) (.t 121) (.b false)), .m 123 122, .y 124 123 (.mv (.t 3)), .y 125 123
  (.faddr 1 (.t 13)), .y 126 123 (.load none (.t 125)), .y 127 123 (.call (.func 47) [.t 124, .t 126]), .y 128 123 (.un .not (.t 127)), .o 129 (.pick (.t 123) (.t 128) (.b
  false))]) (.cond (.t 129) (.region [.m 130 11, .m 131 15, .o 132 (.bin .sub (.t 130) (.t 131)), .m 11 132]) .skip))))))) (.region [.m 80 12, .o 81 (.bin .add (.t 80) (.i 1)), .m
  12 81])))))) (.seq (.region [.m 133 11, .m 8 133, .o 9 (.mv (.i 0))]) .ret))))))))))⟩
def af30 : AFn := ⟨32, [(.tmp 6), (.tmp 7)], (.seq (.region [.o 3 (.box (.t 0)), .o 6 (.mv (.const (.slc none 0 0 true 0))), .o 7 (.mv (.i 0))]) (.seq (.region [.a 13 2 3, .m 14 1, .o 15 (.call
  (.func 59) [.t 13, .t 14]), .m 12 15, .e 16 12 0, .e 17 12 1, .m 8 16, .m 9 17]) (.seq (.seq (.region [.m 18 9, .o 19 (.bin .neq (.t 18) (.i 0))]) (.cond (.t 19) (.seq (.region
  [.m 20 9, .o 6 (.mv (.const (.slc none 0 0 true 0))), .m 7 20]) .ret) .skip)) (.seq (.region [.m 21 8, .m 22 1, .m 23 2, .o 24 (.call (.func 60) [.t 21, .t 22, .t 23]), .m 10
  24]) (.seq (.region [.m 25 10, .o 26 (.len (.t 25)), .o 27 (.mkslc [(.int .i64 0)] 8 (.t 26) (.t 26)), .m 11 27]) (.seq (.region [.m 28 11, .m 29 10, .o 30 (.copy 1 (.t 28) (.t
  29))]) (.seq (.region [.m 31 11, .m 6 31, .o 7 (.mv (.i 0))]) .ret)))))))⟩
def af31 : AFn := ⟨28, [(.tmp 4)], (.seq (.region [.o 2 (.box (.t 0)), .o 4 (.mv (.i 0))]) (.seq (.seq (.region [.a 7 2 2, .o 8 (.call (.func 20) [.t 7]), .o 9 (.bin .neq (.t 8) (.i 0))]) (.cond
  (.t 9) (.seq (.region [.a 10 2 2, .o 11 (.call (.func 20) [.t 10]), .m 4 11]) .ret) .skip)) (.seq (.seq (.region [.m 12 1, .o 13 (.bin .lss (.t 12) (.i 0)), .m 14 13, .n 15 14
  (.mv (.t 1)), .n 16 14 (.faddr 1 (.t 2)), .n 17 14 (.load none (.t 16)), .n 18 14 (.len (.t 17)), .n 19 14 (.bin .geq (.t 15) (.t 18)), .o 20 (.pick (.t 14) (.b true) (.t 19))])
  (.cond (.t 20) (.seq (.region [.o 4 (.mv (.i 3))]) .ret) .skip)) (.seq (.region [.a 22 2 2, .o 23 (.call (.func 24) [.t 22]), .m 21 23, .e 24 21 0, .e 25 21 1, .m 5 24, .m 6
  25]) (.seq (.seq (.region [.m 26 6, .o 27 (.un .not (.t 26))]) (.cond (.t 27) (.seq (.region [.o 4 (.mv (.i 21))]) .ret) .skip)) (.seq (.region [.o 4 (.mv (.i 0))]) .ret))))))⟩
def af32 : AFn := ⟨18, [(.tmp 2), (.tmp 3)], (.seq (.region [.o 1 (.box (.t 0)), .o 2 (.mv (.const (.slc none 0 0 true 0))), .o 3 (.mv (.i 0))]) (.seq (.seq (.region [.a 6 2 1, .o 7 (.call (.func
  19) [.t 6]), .m 4 7]) (.seq (.region [.m 8 4, .o 9 (.bin .neq (.t 8) (.i 0))]) (.cond (.t 9) (.seq (.region [.m 10 4, .o 2 (.mv (.const (.slc none 0 0 true 0))), .m 3 10]) .ret)
  .skip))) (.seq (.region [.a 11 2 1, .o 12 (.call (.func 55) [.t 11]), .o 13 (.call (.func 56) [.t 12]), .m 5 13]) (.seq (.seq (.region [.m 14 5, .o 15 (.len (.t 14)), .o 16
  (.bin .eql (.t 15) (.i 0))]) (.cond (.t 16) (.seq (.region [.o 2 (.mv (.const (.slc none 0 0 true 0))), .o 3 (.mv (.i 5))]) .ret) .skip)) (.seq (.region [.m 17 5, .m 2 17, .o 3
  (.mv (.i 0))]) .ret)))))⟩
def af33 : AFn := ⟨38, [(.cell 4 (some 2)), (.tmp 5)], (.seq (.region [.o 3 (.box (.t 1)), .o 4 (.alloc [(.int .i64 0), (.int .i64 0)]), .o 5 (.mv (.i 0))]) (.seq (.block 0 (.seq (.region [.m 8 0,
  .o 9 (.bslice [(.int .i64 0)] 1 1 [(0, (1, (.t 8)))]), .o 10 (.call (.func 53) [.i 0, .i 100000, .t 9]), .o 11 (.un .not (.t 10)), .m 7 11]) (.cond (.t 7) (.seq (.region [.o 12
  (.build [(.int .i64 0), (.int .i64 0)] []), .s 2 4 12, .o 5 (.mv (.i 3))]) .ret) (.seq (.region [.a 14 2 3, .o 15 (.call (.func 51) [.t 14, (.i (-100)), .i 100]), .o 16 (.un
  .not (.t 15)), .m 13 16]) (.cond (.t 13) (.seq (.region [.o 17 (.build [(.int .i64 0), (.int .i64 0)] []), .s 2 4 17, .o 5 (.mv (.i 2))]) .ret) .skip))))) (.seq (.draw [.m 18 0,
  .o 19 (.bin .mul (.i 1000) (.t 18)), .f 20 1 3, .l 21 20, .o 22 (.bin .add (.i 1000) (.t 21)), .o 23 (.call (.func 65) [.t 19, .t 22]), .m 24 0, .o 25 (.bin .mul (.i 1000) (.t
  24)), .f 26 0 3, .l 27 26, .o 28 (.bin .add (.i 1000) (.t 27)), .o 29 (.bin .quo (.t 25) (.t 28)), .o 30 (.build [(.int .i64 0), (.int .i64 0)] [(0, (1, (.t 23))), (1, (1, (.t
  29)))]), .o 6 (.alloc [(.int .i64 0), (.int .i64 0)]), .s 2 6 30] [(5, 9), (3, 13), (5, 13), (9, 13)]) (.seq (.seq (.region [.f 31 0 6, .l 32 31, .f 33 1 6, .l 34 33, .o 35
  (.bin .gtr (.t 32) (.t 34))]) (.cond (.t 35) (.seq (.region [.o 36 (.build [(.int .i64 0), (.int .i64 0)] []), .s 2 4 36, .o 5 (.mv (.i 5))]) .ret) .skip)) (.seq (.region [.a 37
  2 6, .s 2 4 37, .o 5 (.mv (.i 0))]) .ret)))))⟩
def af34 : AFn := ⟨59, [(.cell 4 (some 2)), (.tmp 5)], (.seq (.region [.o 3 (.box (.t 1)), .o 4 (.alloc [(.int .i64 0), (.int .i64 0)]), .o 5 (.mv (.i 0))]) (.seq (.seq (.region [.m 9 0, .o 10
  (.bin .lss (.t 9) (.i 0)), .m 11 10, .n 12 11 (.mv (.t 0)), .n 13 11 (.bin .gtr (.t 12) (.i 100000)), .o 14 (.pick (.t 11) (.b true) (.t 13))]) (.cond (.t 14) (.seq (.region [.o
  15 (.build [(.int .i64 0), (.int .i64 0)] []), .s 2 4 15, .o 5 (.mv (.i 3))]) .ret) .skip)) (.seq (.seq (.region [.a 16 2 3, .o 17 (.call (.func 52) [.t 16, (.i (-100)), .i
  100]), .o 18 (.un .not (.t 17))]) (.cond (.t 18) (.seq (.region [.o 19 (.build [(.int .i64 0), (.int .i64 0)] []), .s 2 4 19, .o 5 (.mv (.i 2))]) .ret) .skip)) (.seq (.region
  [.o 6 (.mv (.b false))]) (.seq (.region [.o 7 (.alloc [(.int .i64 0), (.int .i64 0)])]) (.seq (.seq (.region [.m 20 0, .o 21 (.bin .mul (.t 20) (.i 9)), .o 22 (.bin .quo (.t 21)
  (.i 10)), .m 8 22]) (.block 0 (.loop (.seq (.seq (.region [.m 23 8, .m 24 0, .o 25 (.bin .mul (.t 24) (.i 12)), .o 26 (.bin .quo (.t 25) (.i 10)), .o 27 (.bin .add (.t 26) (.i
  1)), .o 28 (.bin .leq (.t 23) (.t 27))]) (.cond (.t 28) .skip (.exit 0))) (.seq (.block 1 (.seq (.region [.m 31 8, .f 32 0 3, .l 33 32, .o 34 (.bin .add (.i 1000) (.t 33)), .o
  35 (.bin .mul (.t 31) (.t 34)), .m 36 0, .o 37 (.bin .mul (.i 1000) (.t 36)), .o 38 (.bin .leq (.t 35) (.t 37)), .m 39 38, .y 40 39 (.mv (.t 8)), .y 41 39 (.faddr 1 (.t 3)), .y
  42 39 (.load none (.t 41)), .y 43 39 (.bin .add (.i 1000) (.t 42)), .y 44 39 (.bin .mul (.t 40) (.t 43)), .y 45 39 (.mv (.t 0)), .y 46 39 (.bin .mul (.i 1000) (.t 45)), .y 47 39
  (.bin .geq (.t 44) (.t 46)), .o 48 (.pick (.t 39) (.t 47) (.b false))]) (.cond (.t 48) (.seq (.seq (.region [.m 49 6, .o 50 (.un .not (.t 49))]) (.cond (.t 50) (.region [.m 51 8,
   .f 52 0 7, .s 1 52 51]) .skip)) (.seq (.region [.o 6 (.mv (.b true))]) (.region [.m 53 8, .f 54 1 7, .s 1 54 53]))) .skip))) (.region [.m 29 8, .o 30 (.bin .add (.t 29) (.i 1)),
   .m 8 30])))))) (.seq (.seq (.region [.m 55 6, .o 56 (.un .not (.t 55))]) (.cond (.t 56) (.seq (.region [.o 57 (.build [(.int .i64 0), (.int .i64 0)] []), .s 2 4 57, .o 5 (.mv
  (.i 5))]) .ret) .skip)) (.seq (.region [.a 58 2 7, .s 2 4 58, .o 5 (.mv (.i 0))]) .ret))))))))⟩
def af35 : AFn := ⟨65, [(.cell 2 (some 2)), (.tmp 3)], (.seq (.region [.o 2 (.alloc [(.int .i64 0), (.int .i64 0)]), .o 3 (.mv (.i 0))]) (.seq (.region [.o 4 (.mv (.func 66))]) (.seq (.block 0
  (.seq (.region [.m 10 0, .o 11 (.len (.t 10)), .o 12 (.bin .eql (.t 11) (.i 0)), .m 13 12, .n 14 13 (.mv (.t 0)), .n 15 13 (.len (.t 14)), .n 16 13 (.bin .gtr (.t 15) (.i 20)),
  .o 17 (.pick (.t 13) (.b true) (.t 16)), .m 9 17]) (.cond (.t 9) (.seq (.region [.o 18 (.build [(.int .i64 0), (.int .i64 0)] []), .s 2 2 18, .o 3 (.mv (.i 6))]) .ret) (.seq
  (.region [.m 20 0, .m 21 4, .o 22 (.call (.func 67) [.t 20, .t 21]), .m 19 22]) (.cond (.t 19) (.seq (.region [.o 23 (.build [(.int .i64 0), (.int .i64 0)] []), .s 2 2 23, .o 3
  (.mv (.i 3))]) .ret) .skip))))) (.seq (.region [.o 24 (.build [(.int .i64 0), (.int .i64 0)] [(0, (1, (.i 100))), (1, (1, (.i (-100))))]), .o 5 (.alloc [(.int .i64 0), (.int
  .i64 0)]), .s 2 5 24]) (.seq (.seq (.region [.m 25 0, .o 26 (.len (.t 25)), .o 27 (.mv (.i 0))]) (.block 1 (.loop (.seq (.region [.o 28 (.bin .lss (.t 27) (.t 26))]) (.seq
  (.cond (.t 28) .skip (.exit 1)) (.seq (.block 2 (.seq (.region [.o 29 (.iaddrS 2 (.t 25) (.t 27)), .a 30 2 29, .o 7 (.alloc [(.int .i64 0), (.int .i64 0)]), .s 2 7 30]) (.seq
  (.region [.f 31 0 7, .l 32 31, .f 33 1 7, .l 34 33, .o 35 (.bin .sub (.t 32) (.t 34)), .o 36 (.bin .mul (.i 1000) (.t 35)), .m 8 36]) (.draw [.f 37 0 5, .l 38 37, .m 39 8, .f 40
  1 7, .l 41 40, .o 42 (.call (.func 68) [.t 39, .t 41]), .o 43 (.mnx false [.t 38, .t 42]), .f 44 1 5, .l 45 44, .m 46 8, .o 47 (.un .neg (.t 46)), .f 48 1 7, .l 49 48, .o 50
  (.call (.func 68) [.t 47, .t 49]), .o 51 (.un .neg (.t 50)), .o 52 (.mnx true [.t 45, .t 51]), .f 53 0 5, .s 1 53 43, .f 54 1 5, .s 1 54 52] [(1, 5), (5, 8), (5, 12), (1, 13),
  (8, 13)])))) (.region [.o 55 (.bin .add (.t 27) (.i 1)), .m 27 55]))))))) (.seq (.seq (.region [.f 56 0 5, .l 57 56, .f 58 1 5, .l 59 58, .o 60 (.bslice [(.int .i64 0), (.int
  .i64 0)] 2 1 [(0, (1, (.t 57))), (1, (1, (.t 59)))]), .o 61 (.call (.func 53) [(.i (-100)), .i 100, .t 60]), .o 62 (.un .not (.t 61))]) (.cond (.t 62) (.seq (.region [.o 63
  (.build [(.int .i64 0), (.int .i64 0)] []), .s 2 2 63, .o 3 (.mv (.i 2))]) .ret) .skip)) (.seq (.region [.a 64 2 5, .s 2 2 64, .o 3 (.mv (.i 0))]) .ret)))))))⟩
def af36 : AFn := ⟨125, [(.cell 2 (some 2)), (.tmp 3)], (.seq (.region [.o 2 (.alloc [(.int .i64 0), (.int .i64 0)]), .o 3 (.mv (.i 0))]) (.seq (.seq (.region [.m 11 0, .o 12 (.len (.t 11)), .o 13
  (.bin .lss (.t 12) (.i 1)), .m 14 13, .n 15 14 (.mv (.t 0)), .n 16 14 (.len (.t 15)), .n 17 14 (.bin .gtr (.t 16) (.i 20)), .o 18 (.pick (.t 14) (.b true) (.t 17))]) (.cond (.t
  18) (.seq (.region [.o 19 (.build [(.int .i64 0), (.int .i64 0)] []), .s 2 2 19, .o 3 (.mv (.i 6))]) .ret) .skip)) (.seq (.seq (.region [.o 4 (.mv (.i 0))]) (.block 0 (.loop
  (.seq (.seq (.region [.m 20 4, .m 21 0, .o 22 (.len (.t 21)), .o 23 (.bin .lss (.t 20) (.t 22))]) (.cond (.t 23) .skip (.exit 0))) (.seq (.block 1 (.seq (.region [.m 26 0, .m 27
  4, .o 28 (.iaddrS 2 (.t 26) (.t 27)), .f 29 0 28, .l 30 29, .o 31 (.bin .lss (.t 30) (.i 0)), .m 32 31, .n 33 32 (.mv (.t 0)), .n 34 32 (.mv (.t 4)), .n 35 32 (.iaddrS 2 (.t 33)
  (.t 34)), .n 36 32 (.faddr 0 (.t 35)), .n 37 32 (.load none (.t 36)), .n 38 32 (.bin .gtr (.t 37) (.i 100000)), .o 39 (.pick (.t 32) (.b true) (.t 38)), .m 40 39, .n 41 40 (.mv
  (.t 0)), .n 42 40 (.mv (.t 4)), .n 43 40 (.iaddrS 2 (.t 41) (.t 42)), .n 44 40 (.faddr 1 (.t 43)), .n 45 40 (.load none (.t 44)), .n 46 40 (.bin .lss (.t 45) (.i 1)), .o 47
  (.pick (.t 40) (.b true) (.t 46)), .m 48 47, .n 49 48 (.mv (.t 0)), .n 50 48 (.mv (.t 4)), .n 51 48 (.iaddrS 2 (.t 49) (.t 50)), .n 52 48 (.faddr 1 (.t 51)), .n 53 48 (.load
  none (.t 52)), .n 54 48 (.bin .gtr (.t 53) (.i 100000)), .o 55 (.pick (.t 48) (.b true) (.t 54))]) (.cond (.t 55) (.seq (.region [.o 56 (.build [(.int .i64 0), (.int .i64 0)]
  []), .s 2 2 56, .o 3 (.mv (.i 3))]) .ret) .skip))) (.region [.m 24 4, .o 25 (.bin .add (.t 24) (.i 1)), .m 4 25])))))) (.seq (.region [.o 57 (.build [(.int .i64 0), (.int .i64
  0)] [(0, (1, (.i (-101)))), (1, (1, (.i 101)))]), .o 5 (.alloc [(.int .i64 0), (.int .i64 0)]), .s 2 5 57]) (.seq (.seq (.region [.o 6 (.mv (.i (-100)))]) (.block 2 (.loop (.seq
  (.seq (.region [.m 58 6, .o 59 (.bin .leq (.t 58) (.i 100))]) (.cond (.t 59) .skip (.exit 2))) (.seq (.block 3 (.seq (.region [.o 7 (.mv (.b true)), .o 8 (.mv (.b true))]) (.seq
  (.seq (.region [.o 9 (.mv (.i 0))]) (.block 4 (.loop (.seq (.seq (.region [.m 62 9, .m 63 0, .o 64 (.len (.t 63)), .o 65 (.bin .lss (.t 62) (.t 64))]) (.cond (.t 65) .skip
  (.exit 4))) (.seq (.block 5 (.seq (.draw [.m 68 0, .m 69 9, .o 70 (.iaddrS 2 (.t 68) (.t 69)), .f 71 0 70, .l 72 71, .m 73 0, .m 74 9, .o 75 (.iaddrS 2 (.t 73) (.t 74)), .f 76 1
  75, .l 77 76, .o 78 (.bin .sub (.t 72) (.t 77)), .o 79 (.bin .mul (.i 1000) (.t 78)), .m 10 79] []) (.seq (.region [.m 80 7, .m 81 80, .y 82 81 (.mv (.t 6)), .y 83 81 (.mv (.t
  0)), .y 84 81 (.mv (.t 9)), .y 85 81 (.iaddrS 2 (.t 83) (.t 84)), .y 86 81 (.faddr 1 (.t 85)), .y 87 81 (.load none (.t 86)), .y 88 81 (.bin .mul (.t 82) (.t 87)), .y 89 81 (.mv
  (.t 10)), .y 90 81 (.bin .leq (.t 88) (.t 89)), .o 91 (.pick (.t 81) (.t 90) (.b false)), .m 7 91]) (.region [.m 92 8, .m 93 92, .y 94 93 (.mv (.t 6)), .y 95 93 (.mv (.t 0)), .y
  96 93 (.mv (.t 9)), .y 97 93 (.iaddrS 2 (.t 95) (.t 96)), .y 98 93 (.faddr 1 (.t 97)), .y 99 93 (.load none (.t 98)), .y 100 93 (.bin .mul (.t 94) (.t 99)), .y 101 93 (.mv (.t
  10)), .y 102 93 (.bin .geq (.t 100) (.t 101)), .o 103 (.pick (.t 93) (.t 102) (.b false)), .m 8 103])))) (.region [.m 66 9, .o 67 (.bin .add (.t 66) (.i 1)), .m 9 67]))))))
  (.seq (.seq (.region [.m 104 7]) (.cond (.t 104) (.region [.m 105 6, .f 106 0 5, .s 1 106 105]) .skip)) (.seq (.region [.m 107 8, .m 108 107, .y 109 108 (.faddr 1 (.t 5)), .y
  110 108 (.load none (.t 109)), .y 111 108 (.bin .eql (.t 110) (.i 101)), .o 112 (.pick (.t 108) (.t 111) (.b false))]) (.cond (.t 112) (.region [.m 113 6, .f 114 1 5, .s 1 114
  113]) .skip)))))) (.region [.m 60 6, .o 61 (.bin .add (.t 60) (.i 1)), .m 6 61])))))) (.seq (.seq (.region [.f 115 0 5, .l 116 115, .o 117 (.bin .eql (.t 116) (.i (-101))), .m
  118 117, .n 119 118 (.faddr 1 (.t 5)), .n 120 118 (.load none (.t 119)), .n 121 118 (.bin .eql (.t 120) (.i 101)), .o 122 (.pick (.t 118) (.b true) (.t 121))]) (.cond (.t 122)
  (.seq (.region [.o 123 (.build [(.int .i64 0), (.int .i64 0)] []), .s 2 2 123, .o 3 (.mv (.i 2))]) .ret) .skip)) (.seq (.region [.a 124 2 5, .s 2 2 124, .o 3 (.mv (.i 0))])
  .ret)))))))⟩
def af37 : AFn := ⟨11, [(.tmp 2)], (.seq (.region [.o 1 (.box (.t 0)), .o 2 (.mv (.b false))]) (.seq (.region [.a 3 2 1, .o 4 (.call (.func 15) [.t 3]), .o 5 (.un .not (.t 4)), .m 6 5, .y 7 6
  (.load (some 2) (.t 1)), .y 8 6 (.call (.func 20) [.t 7]), .y 9 6 (.bin .eql (.t 8) (.i 0)), .o 10 (.pick (.t 6) (.t 9) (.b false)), .m 2 10]) .ret))⟩
def af38 : AFn := ⟨120, [(.tmp 4), (.tmp 5)], (.seq (.region [.o 2 (.box (.t 0)), .o 4 (.mv (.const (.slc none 0 0 true 0))), .o 5 (.mv (.b false))]) (.seq (.region [.a 13 2 2, .o 14 (.call (.func
  24) [.t 13]), .m 12 14, .e 15 12 0, .e 16 12 1, .m 6 15, .m 7 16]) (.seq (.seq (.region [.m 17 7, .o 18 (.un .not (.t 17)), .m 19 18, .n 20 19 (.faddr 1 (.t 2)), .n 21 19 (.load
  none (.t 20)), .n 22 19 (.len (.t 21)), .n 23 19 (.bin .eql (.t 22) (.i 0)), .o 24 (.pick (.t 19) (.b true) (.t 23))]) (.cond (.t 24) (.seq (.region [.m 25 6, .m 26 7, .m 4 25,
  .m 5 26]) .ret) .skip)) (.seq (.seq (.region [.o 8 (.mv (.i 0))]) (.block 0 (.loop (.seq (.seq (.region [.m 27 8, .m 28 1, .o 29 (.len (.t 28)), .o 30 (.bin .lss (.t 27) (.t
  29))]) (.cond (.t 30) .skip (.exit 0))) (.seq (.block 1 (.seq (.draw [.m 33 1, .m 34 8, .o 35 (.iaddrS 1 (.t 33) (.t 34)), .l 36 35, .f 37 1 2, .l 38 37, .o 39 (.len (.t 38)),
  .o 40 (.conv .u32 (.t 39)), .o 41 (.bin .rem (.t 36) (.t 40)), .o 42 (.conv .i64 (.t 41)), .m 9 42] []) (.seq (.region [.f 43 1 2, .l 44 43, .m 45 9, .o 46 (.iaddrS 4 (.t 44)
  (.t 45)), .a 47 4 46, .o 10 (.alloc [(.int .i64 0), (.int .i64 0), (.int .i64 0), (.int .i64 0)]), .s 4 10 47]) (.seq (.region [.m 48 1, .m 49 8, .o 50 (.iaddrS 1 (.t 48) (.t
  49)), .l 51 50, .o 52 (.bin .quo (.t 51) (.const (.int .u32 64))), .o 53 (.bin .rem (.t 52) (.const (.int .u32 1000))), .o 54 (.conv .i64 (.t 53)), .m 11 54]) (.seq (.region [.m
  55 1, .m 56 8, .o 57 (.iaddrS 1 (.t 55) (.t 56)), .l 58 57, .o 59 (.bin .rem (.t 58) (.const (.int .u32 2))), .o 60 (.bin .eql (.t 59) (.const (.int .u32 0)))]) (.cond (.t 60)
  (.seq (.draw [.m 61 11, .f 62 2 10, .f 63 1 62, .l 64 63, .m 65 6, .m 66 9, .o 67 (.iaddrS 1 (.t 65) (.t 66)), .l 68 67, .o 69 (.bin .sub (.t 64) (.t 68)), .o 70 (.mnx false [.t
  61, .t 69]), .m 11 70] []) (.seq (.region [.a 72 2 2, .m 73 6, .f 74 1 10, .l 75 74, .f 76 0 10, .l 77 76, .m 78 9, .m 79 11, .o 80 (.call (.func 58) [.t 72, .t 73, .t 75, .t 77,
   .t 78, .t 79]), .m 71 80, .e 81 71 0, .e 82 71 1, .m 6 81, .m 11 82]) (.region [.m 83 6, .m 84 9, .o 85 (.iaddrS 1 (.t 83) (.t 84)), .l 86 85, .m 87 11, .o 88 (.bin .add (.t
  86) (.t 87)), .o 89 (.iaddrS 1 (.t 83) (.t 84)), .s 1 89 88]))) (.seq (.draw [.m 90 11, .m 91 6, .m 92 9, .o 93 (.iaddrS 1 (.t 91) (.t 92)), .l 94 93, .f 95 2 10, .f 96 0 95, .l
  97 96, .o 98 (.bin .sub (.t 94) (.t 97)), .o 99 (.mnx false [.t 90, .t 98]), .m 11 99] []) (.seq (.region [.a 101 2 2, .m 102 6, .f 103 0 10, .l 104 103, .f 105 1 10, .l 106 105,
   .m 107 9, .m 108 11, .o 109 (.call (.func 58) [.t 101, .t 102, .t 104, .t 106, .t 107, .t 108]), .m 100 109, .e 110 100 0, .e 111 100 1, .m 6 110, .m 11 111]) (.region [.m 112
  6, .m 113 9, .o 114 (.iaddrS 1 (.t 112) (.t 113)), .l 115 114, .m 116 11, .o 117 (.bin .sub (.t 115) (.t 116)), .o 118 (.iaddrS 1 (.t 112) (.t 113)), .s 1 118 117])))))))))
  (.region [.m 31 8, .o 32 (.bin .add (.t 31) (.i 1)), .m 8 32])))))) (.seq (.region [.m 119 6, .m 4 119, .o 5 (.mv (.b true))]) .ret)))))⟩
def af39 : AFn := ⟨23, [(.tmp 4)], (.seq (.region [.o 2 (.box (.t 0)), .o 4 (.mv (.const (.slc none 0 0 true 0)))]) (.seq (.region [.o 5 (.mv (.const (.slc none 0 0 true 0)))]) (.seq (.seq (.region
  [.o 6 (.mv (.i 0))]) (.block 0 (.loop (.seq (.seq (.region [.m 7 6, .f 8 0 2, .l 9 8, .o 10 (.bin .leq (.t 7) (.t 9))]) (.cond (.t 10) .skip (.exit 0))) (.seq (.block 1 (.seq
  (.region [.m 13 1, .m 14 6, .o 15 (.bin .shr (.t 13) (.t 14)), .o 16 (.bin .and (.t 15) (.const (.int .u16 1))), .o 17 (.bin .eql (.t 16) (.const (.int .u16 1)))]) (.cond (.t
  17) (.region [.m 18 5, .m 19 6, .o 20 (.bslice [(.int .i64 0)] 1 1 [(0, (1, (.t 19)))]), .o 21 (.app 1 8 (.t 18) (.t 20)), .m 5 21]) .skip))) (.region [.m 11 6, .o 12 (.bin .add
  (.t 11) (.i 1)), .m 6 12])))))) (.seq (.region [.m 22 5, .m 4 22]) .ret))))⟩
def af40 : AFn := ⟨8, [(.cell 4 (some 2))], (.seq (.region [.o 4 (.alloc [(.int .i64 0), (.int .i64 0)])]) (.seq (.region [.m 5 0, .m 6 1, .o 7 (.build [(.int .i64 0), (.int .i64 0)] [(0, (1, (.t
  5))), (1, (1, (.t 6)))]), .s 2 4 7]) .ret))⟩
def af41 : AFn := ⟨7, [(.cell 0 (some 2))], (.seq (.region [.o 0 (.alloc [(.int .i64 0), (.slc none 0 0 true 0)])]) (.seq (.region [.o 1 (.call (.func 69) [.i 0, .i 1, .i 100, .i 110]), .o 2 (.call
  (.func 69) [.i 1, .i 2, .i 30, .i 50]), .o 3 (.call (.func 69) [.i 1, .i 0, .i 40, .i 60]), .o 4 (.call (.func 69) [.i 2, .i 0, .i 45, .i 70]), .o 5 (.bslice [(.int .i64 0),
  (.int .i64 0), (.int .i64 0), (.int .i64 0), (.int .i64 0), (.int .i64 0), (.int .i64 0), (.int .i64 0), (.int .i64 0), (.int .i64 0), (.int .i64 0), (.int .i64 0), (.int .i64
  0), (.int .i64 0), (.int .i64 0), (.int .i64 0)] 4 4 [(0, (4, (.t 1))), (4, (4, (.t 2))), (8, (4, (.t 3))), (12, (4, (.t 4)))]), .o 6 (.build [(.int .i64 0), (.slc none 0 0 true
  0)] [(0, (1, (.i 2))), (1, (1, (.t 5)))]), .s 2 0 6]) .ret))⟩
def af42 : AFn := ⟨8, [(.cell 0 (some 2))], (.seq (.region [.o 0 (.alloc [(.int .i64 0), (.slc none 0 0 true 0)])]) (.seq (.region [.o 2 (.call (.func 41) []), .o 1 (.alloc [(.int .i64 0), (.slc
  none 0 0 true 0)]), .s 2 1 2]) (.seq (.draw [.f 3 1 1, .l 4 3, .o 5 (.call (.func 69) [.i 1, .i 2, .i 0, .i 30]), .o 6 (.iaddrS 4 (.t 4) (.i 1)), .s 4 6 5] [(1, 2)]) (.seq
  (.region [.a 7 2 1, .s 2 0 7]) .ret))))⟩
def af43 : AFn := ⟨24, [(.tmp 4)], (.seq (.region [.o 4 (.mv (.b false))]) (.seq (.region [.o 5 (.mv (.i (-1)))]) (.seq (.seq (.region [.m 8 0, .o 9 (.len (.t 8)), .o 10 (.mv (.i 0))]) (.block 0
  (.loop (.seq (.region [.o 11 (.bin .lss (.t 10) (.t 9))]) (.seq (.cond (.t 11) .skip (.exit 0)) (.seq (.block 1 (.seq (.region [.o 12 (.iaddrS 1 (.t 8) (.t 10)), .l 13 12, .m 7
  13]) (.seq (.seq (.region [.m 14 7, .m 15 5, .o 16 (.bin .leq (.t 14) (.t 15)), .m 17 16, .n 18 17 (.mv (.t 7)), .n 19 17 (.mv (.t 1)), .n 20 17 (.bin .gtr (.t 18) (.t 19)), .o
  21 (.pick (.t 17) (.b true) (.t 20))]) (.cond (.t 21) (.seq (.region [.o 4 (.mv (.b false))]) .ret) .skip)) (.region [.m 22 7, .m 5 22])))) (.region [.o 23 (.bin .add (.t 10)
  (.i 1)), .m 10 23]))))))) (.seq (.region [.o 4 (.mv (.b true))]) .ret))))⟩
def af44 : AFn := ⟨8, [(.tmp 4)], (.seq (.region [.o 2 (.box (.t 0)), .o 3 (.box (.t 1)), .o 4 (.mv (.const .nilfn))]) (.seq (.region [.o 6 (.build [(.int .i64 0), (.int .i64 0), (.int .i64 0),
  (.int .i64 0)] []), .o 5 (.alloc [(.int .i64 0), (.int .i64 0), (.int .i64 0), (.int .i64 0)]), .s 4 5 6]) (.seq (.region [.o 7 (.mkfn 70 [] [.t 2, .t 5, .t 3]), .m 4 7])
  .ret)))⟩
def af45 : AFn := ⟨30, [(.cell 2 (some 2))], (.seq (.region [.o 1 (.box (.t 0)), .o 2 (.alloc [(.int .i64 0), (.slc none 0 0 true 0)])]) (.seq (.region [.f 6 0 1, .l 7 6, .o 8 (.build [(.int .i64
  0), (.slc none 0 0 true 0)] [(0, (1, (.t 7)))]), .o 3 (.alloc [(.int .i64 0), (.slc none 0 0 true 0)]), .s 2 3 8]) (.seq (.seq (.region [.f 9 1 1, .l 10 9, .o 11 (.len (.t 10)),
  .o 12 (.mv (.i 0))]) (.block 0 (.loop (.seq (.region [.o 13 (.bin .lss (.t 12) (.t 11))]) (.seq (.cond (.t 13) .skip (.exit 0)) (.seq (.block 1 (.seq (.region [.o 14 (.iaddrS 4
  (.t 10) (.t 12)), .a 15 4 14, .o 5 (.alloc [(.int .i64 0), (.int .i64 0), (.int .i64 0), (.int .i64 0)]), .s 4 5 15]) (.region [.f 16 1 3, .l 17 16, .f 18 1 5, .l 19 18, .f 20 0
  5, .l 21 20, .f 22 2 5, .a 23 2 22, .o 24 (.build [(.int .i64 0), (.int .i64 0), (.int .i64 0), (.int .i64 0)] [(0, (1, (.t 19))), (1, (1, (.t 21))), (2, (2, (.t 23)))]), .o 25
  (.bslice [(.int .i64 0), (.int .i64 0), (.int .i64 0), (.int .i64 0)] 1 4 [(0, (4, (.t 24)))]), .o 26 (.app 4 32 (.t 17) (.t 25)), .f 27 1 3, .s 1 27 26]))) (.region [.o 28
  (.bin .add (.t 12) (.i 1)), .m 12 28]))))))) (.seq (.region [.a 29 2 3, .s 2 2 29]) .ret))))⟩
def af46 : AFn := ⟨41, [(.tmp 4)], (.seq (.region [.o 4 (.mv (.b false))]) (.seq (.seq (.region [.o 5 (.mv (.i 0))]) (.block 0 (.loop (.seq (.seq (.region [.m 6 5, .m 7 0, .o 8 (.len (.t 7)), .o 9
  (.bin .lss (.t 6) (.t 8))]) (.cond (.t 9) .skip (.exit 0))) (.seq (.block 1 (.seq (.draw [.m 12 0, .m 13 5, .o 14 (.iaddrS 1 (.t 12) (.t 13)), .l 15 14, .o 16 (.bin .lss (.t 15)
  (.i 0)), .m 17 16, .n 18 17 (.mv (.t 0)), .n 19 17 (.mv (.t 5)), .n 20 17 (.iaddrS 1 (.t 18) (.t 19)), .n 21 17 (.load none (.t 20)), .n 22 17 (.mv (.t 1)), .n 23 17 (.bin .gtr
  (.t 21) (.t 22)), .o 24 (.pick (.t 17) (.b true) (.t 23)), .m 25 24, .n 26 25 (.mv (.t 5)), .n 27 25 (.bin .gtr (.t 26) (.i 0)), .n 28 25 (.mv (.t 27)), .y 29 28 (.mv (.t 0)),
  .y 30 28 (.mv (.t 5)), .y 31 28 (.iaddrS 1 (.t 29) (.t 30)), .y 32 28 (.load none (.t 31)), .y 33 28 (.mv (.t 0)), .y 34 28 (.mv (.t 5)), .y 35 28 (.bin .sub (.t 34) (.i 1)), .y
  36 28 (.iaddrS 1 (.t 33) (.t 35)), .y 37 28 (.load none (.t 36)), .y 38 28 (.bin .leq (.t 32) (.t 37)), .n 39 25 (.pick (.t 28) (.t 38) (.b false)), .o 40 (.pick (.t 25) (.b
  true) (.t 39))] []) (.cond (.t 40) (.seq (.region [.o 4 (.mv (.b false))]) .ret) .skip))) (.region [.m 10 5, .o 11 (.bin .add (.t 10) (.i 1)), .m 5 11])))))) (.seq (.region [.o
  4 (.mv (.b true))]) .ret)))⟩
def af47 : AFn := ⟨18, [(.tmp 4)], (.seq (.region [.o 4 (.mv (.b false))]) (.seq (.seq (.region [.o 5 (.mv (.i 0))]) (.block 0 (.loop (.seq (.seq (.region [.m 6 5, .m 7 0, .o 8 (.len (.t 7)), .o 9
  (.bin .lss (.t 6) (.t 8))]) (.cond (.t 9) .skip (.exit 0))) (.seq (.block 1 (.seq (.region [.m 12 0, .m 13 5, .o 14 (.iaddrS 1 (.t 12) (.t 13)), .l 15 14, .m 16 1, .o 17 (.bin
  .eql (.t 15) (.t 16))]) (.cond (.t 17) (.seq (.region [.o 4 (.mv (.b true))]) .ret) .skip))) (.region [.m 10 5, .o 11 (.bin .add (.t 10) (.i 1)), .m 5 11])))))) (.seq (.region
  [.o 4 (.mv (.b false))]) .ret)))⟩
def af48 : AFn := ⟨12, [(.tmp 3)], (.seq (.region [.o 3 (.mv (.b false))]) (.seq (.region [.m 4 0, .o 5 (.bin .geq (.t 4) (.i 0)), .m 6 5, .y 7 6 (.mv (.t 0)), .y 8 6 (.faddr 0 (.t 1)), .y 9 6
  (.load none (.t 8)), .y 10 6 (.bin .leq (.t 7) (.t 9)), .o 11 (.pick (.t 6) (.t 10) (.b false)), .m 3 11]) .ret))⟩
def af49 : AFn := ⟨9, [(.tmp 4)], (.seq (.region [.o 4 (.mv (.b false))]) (.seq (.region [.m 5 0, .m 6 1, .o 7 (.call (.func 71) [.t 5, .t 6]), .o 8 (.bin .geq (.t 7) (.i 0)), .m 4 8]) .ret))⟩
def af50 : AFn := ⟨29, [(.tmp 3)], (.seq (.region [.o 2 (.box (.t 0)), .o 3 (.mv (.b false))]) (.seq (.region [.l 4 1, .f 5 0 2, .l 6 5, .o 7 (.call (.t 4) [.t 6]), .o 8 (.un .not (.t 7)), .m 9 8,
  .n 10 9 (.load none (.t 1)), .n 11 9 (.faddr 1 (.t 2)), .n 12 9 (.load none (.t 11)), .n 13 9 (.call (.t 10) [.t 12]), .n 14 9 (.un .not (.t 13)), .o 15 (.pick (.t 9) (.b true)
  (.t 14)), .m 16 15, .n 17 16 (.faddr 0 (.t 2)), .n 18 16 (.load none (.t 17)), .n 19 16 (.faddr 1 (.t 2)), .n 20 16 (.load none (.t 19)), .n 21 16 (.bin .eql (.t 18) (.t 20)),
  .o 22 (.pick (.t 16) (.b true) (.t 21)), .m 23 22, .n 24 23 (.faddr 2 (.t 2)), .n 25 23 (.load (some 2) (.t 24)), .n 26 23 (.call (.func 51) [.t 25, .i 0, .i 100000]), .n 27 23
  (.un .not (.t 26)), .o 28 (.pick (.t 23) (.b true) (.t 27)), .m 3 28]) .ret))⟩
def af51 : AFn := ⟨22, [(.tmp 6)], (.seq (.region [.o 3 (.box (.t 0)), .o 6 (.mv (.b false))]) (.seq (.region [.f 7 0 3, .l 8 7, .f 9 1 3, .l 10 9, .o 11 (.bin .leq (.t 8) (.t 10)), .m 12 11, .y 13
  12 (.mv (.t 1)), .y 14 12 (.mv (.t 2)), .y 15 12 (.faddr 0 (.t 3)), .y 16 12 (.load none (.t 15)), .y 17 12 (.faddr 1 (.t 3)), .y 18 12 (.load none (.t 17)), .y 19 12 (.bslice
  [(.int .i64 0), (.int .i64 0)] 2 1 [(0, (1, (.t 16))), (1, (1, (.t 18)))]), .y 20 12 (.call (.func 53) [.t 13, .t 14, .t 19]), .o 21 (.pick (.t 12) (.t 20) (.b false)), .m 6
  21]) .ret))⟩
def af52 : AFn := ⟨24, [(.tmp 6)], (.seq (.region [.o 3 (.box (.t 0)), .o 6 (.mv (.b false))]) (.seq (.region [.f 7 0 3, .l 8 7, .m 9 1, .o 10 (.bin .geq (.t 8) (.t 9)), .m 11 10, .y 12 11 (.faddr
  0 (.t 3)), .y 13 11 (.load none (.t 12)), .y 14 11 (.faddr 1 (.t 3)), .y 15 11 (.load none (.t 14)), .y 16 11 (.bin .leq (.t 13) (.t 15)), .o 17 (.pick (.t 11) (.t 16) (.b
  false)), .m 18 17, .y 19 18 (.faddr 1 (.t 3)), .y 20 18 (.load none (.t 19)), .y 21 18 (.mv (.t 2)), .y 22 18 (.bin .leq (.t 20) (.t 21)), .o 23 (.pick (.t 18) (.t 22) (.b
  false)), .m 6 23]) .ret))⟩
def af53 : AFn := ⟨11, [(.tmp 6)], (.seq (.region [.o 3 (.box (.t 0)), .o 4 (.box (.t 1)), .o 6 (.mv (.b false))]) (.seq (.region [.m 7 2, .o 8 (.mkfn 73 [] [.t 3, .t 4]), .o 9 (.call (.func 72)
  [.t 7, .t 8]), .o 10 (.un .not (.t 9)), .m 6 10]) .ret))⟩
def af54 : AFn := ⟨48, [(.tmp 4)], (.seq (.region [.o 2 (.box (.t 0)), .o 4 (.mv (.const (.slc none 0 0 true 0)))]) (.seq (.region [.f 7 0 2, .l 8 7, .o 9 (.bin .add (.t 8) (.i 1)), .o 10 (.mkslc
  [(.int .i64 0)] 8 (.t 9) (.t 9)), .m 5 10]) (.seq (.seq (.region [.o 6 (.mv (.i 0))]) (.block 0 (.loop (.seq (.seq (.region [.m 11 6, .m 12 1, .o 13 (.len (.t 12)), .o 14 (.bin
  .lss (.t 11) (.t 13))]) (.cond (.t 14) .skip (.exit 0))) (.seq (.block 1 (.seq (.draw [.m 17 5, .f 18 1 2, .l 19 18, .m 20 6, .o 21 (.iaddrS 4 (.t 19) (.t 20)), .f 22 1 21, .l
  23 22, .o 24 (.iaddrS 1 (.t 17) (.t 23)), .l 25 24, .m 26 1, .m 27 6, .o 28 (.iaddrS 1 (.t 26) (.t 27)), .l 29 28, .o 30 (.bin .add (.t 25) (.t 29)), .o 31 (.iaddrS 1 (.t 17)
  (.t 23)), .s 1 31 30] []) (.draw [.m 32 5, .f 33 1 2, .l 34 33, .m 35 6, .o 36 (.iaddrS 4 (.t 34) (.t 35)), .f 37 0 36, .l 38 37, .o 39 (.iaddrS 1 (.t 32) (.t 38)), .l 40 39, .m
  41 1, .m 42 6, .o 43 (.iaddrS 1 (.t 41) (.t 42)), .l 44 43, .o 45 (.bin .sub (.t 40) (.t 44)), .o 46 (.iaddrS 1 (.t 32) (.t 38)), .s 1 46 45] []))) (.region [.m 15 6, .o 16
  (.bin .add (.t 15) (.i 1)), .m 6 16])))))) (.seq (.region [.m 47 5, .m 4 47]) .ret))))⟩
def af55 : AFn := ⟨30, [(.tmp 2)], (.seq (.region [.o 1 (.box (.t 0)), .o 2 (.mv (.const (.ptr none)))]) (.seq (.region [.a 6 2 1, .o 7 (.build [(.int .i64 0), (.slc none 0 0 true 0), (.slc none 0
  0 true 0), (.int .i64 0), (.int .i64 0), (.int .i64 0), (.int .i64 0), (.int .i64 0), (.int .i64 0), (.int .i64 0), (.int .i64 0), (.int .i64 0), (.int .i64 0), (.int .i64 0),
  (.int .i64 0), (.int .i64 0)] [(0, (2, (.t 6)))]), .o 8 (.box (.t 7)), .m 3 8]) (.seq (.seq (.region [.f 9 1 1, .l 10 9, .o 11 (.len (.t 10)), .o 12 (.mv (.i 0))]) (.block 0
  (.loop (.seq (.region [.o 13 (.bin .lss (.t 12) (.t 11))]) (.seq (.cond (.t 13) .skip (.exit 0)) (.seq (.block 1 (.seq (.region [.o 14 (.iaddrS 4 (.t 10) (.t 12)), .a 15 4 14,
  .o 5 (.alloc [(.int .i64 0), (.int .i64 0), (.int .i64 0), (.int .i64 0)]), .s 4 5 15]) (.draw [.m 16 3, .m 17 3, .o 18 (.nilchk (.t 17)), .f 19 2 18, .l 20 19, .f 21 2 5, .f 22
  0 21, .l 23 22, .o 24 (.bslice [(.int .i64 0)] 1 1 [(0, (1, (.t 23)))]), .o 25 (.app 1 8 (.t 20) (.t 24)), .o 26 (.nilchk (.t 16)), .f 27 2 26, .s 1 27 25] [(4, 8)]))) (.region
  [.o 28 (.bin .add (.t 12) (.i 1)), .m 12 28]))))))) (.seq (.region [.m 29 3, .m 2 29]) .ret))))⟩
def af56 : AFn := ⟨46, [(.tmp 2)], (.seq (.region [.o 2 (.mv (.const (.slc none 0 0 true 0)))]) (.block 0 (.loop (.block 1 (.seq (.region [.m 11 0, .o 12 (.call (.func 74) [.t 11]), .o 3 (.alloc
  [(.int .i64 0), (.int .i64 0), (.int .i64 0), (.int .i64 0), (.int .i64 0), (.int .i64 0), (.int .i64 0), (.int .i64 0), (.int .i64 0), (.int .i64 0), (.int .i64 0), (.int .i64
  0), (.int .i64 0)]), .s 13 3 12]) (.seq (.region [.o 13 (.slcA 13 1 (.t 3) none none none), .o 14 (.call (.func 75) [.t 13, (.func 76)]), .m 4 14]) (.seq (.seq (.region [.m 15 4,
   .o 16 (.bin .lss (.t 15) (.i 0))]) (.cond (.t 16) (.seq (.region [.o 2 (.mv (.const (.slc none 0 0 true 0)))]) .ret) .skip)) (.seq (.region [.o 17 (.mkfn 77 [] [.t 3]), .m 5
  17]) (.seq (.region [.m 18 4, .o 19 (.iaddrA 13 1 (.t 3) (.t 18)), .l 20 19, .m 6 20]) (.seq (.seq (.region [.a 21 13 3, .o 22 (.mv (.i 0))]) (.block 2 (.loop (.seq (.region [.o
  23 (.bin .lss (.t 22) (.i 13))]) (.seq (.cond (.t 23) .skip (.exit 2)) (.seq (.block 3 (.seq (.region [.o 24 (.idxA 13 1 none (.t 21) (.t 22)), .m 8 24]) (.seq (.region [.m 25 8,
   .o 26 (.bin .lss (.t 25) (.i 0))]) (.cond (.t 26) (.region [.m 27 6, .m 28 8, .o 29 (.un .neg (.t 28)), .o 30 (.mnx false [.t 27, .t 29]), .m 6 30]) .skip)))) (.region [.o 31
  (.bin .add (.t 22) (.i 1)), .m 22 31]))))))) (.seq (.seq (.region [.m 33 0, .m 34 4, .m 35 6, .m 36 5, .o 37 (.call (.func 78) [.t 33, .t 34, (.i (-1)), .t 35, .t 36]), .m 32 37,
   .e 38 32 0, .e 39 32 1, .m 9 38, .m 10 39]) (.seq (.region [.m 40 9, .o 41 (.bin .gtr (.t 40) (.i 0))]) (.cond (.t 41) (.exit 1) .skip))) (.seq (.region [.m 42 0, .m 43 0, .o
  44 (.call (.func 80) [.t 43]), .o 45 (.call (.func 79) [.t 42, .t 44]), .m 2 45]) .ret))))))))))))⟩
def af57 : AFn := ⟨8, [(.tmp 2)], (.seq (.region [.o 2 (.mv (.const (.slc none 0 0 true 0)))]) (.seq (.region [.m 3 0, .o 4 (.nilchk (.t 3)), .f 5 2 4, .l 6 5, .o 7 (.call (.func 81) [.t 6]), .m 2
  7]) .ret))⟩
def af58 : AFn := ⟨264, [(.tmp 12), (.tmp 13)], (.seq (.region [.o 6 (.box (.t 0)), .o 12 (.mv (.const (.slc none 0 0 true 0))), .o 13 (.mv (.i 0))]) (.seq (.region [.f 24 0 6, .l 25 24, .o 26
  (.bin .add (.t 25) (.i 1)), .o 27 (.mkslc [(.int .i64 0)] 8 (.t 26) (.t 26)), .m 14 27]) (.seq (.region [.m 28 14, .m 29 2, .f 30 1 6, .l 31 30, .o 32 (.len (.t 31)), .o 33
  (.bin .add (.t 32) (.i 1)), .o 34 (.iaddrS 1 (.t 28) (.t 29)), .s 1 34 33]) (.seq (.region [.m 35 2, .o 36 (.bslice [(.int .i64 0)] 1 1 [(0, (1, (.t 35)))]), .m 15 36]) (.seq
  (.block 0 (.loop (.seq (.seq (.region [.m 37 15, .o 38 (.len (.t 37)), .o 39 (.bin .gtr (.t 38) (.i 0)), .m 40 39, .y 41 40 (.mv (.t 14)), .y 42 40 (.mv (.t 3)), .y 43 40
  (.iaddrS 1 (.t 41) (.t 42)), .y 44 40 (.load none (.t 43)), .y 45 40 (.bin .eql (.t 44) (.i 0)), .o 46 (.pick (.t 40) (.t 45) (.b false))]) (.cond (.t 46) .skip (.exit 0)))
  (.block 1 (.seq (.region [.m 47 15, .o 48 (.iaddrS 1 (.t 47) (.i 0)), .l 49 48, .m 16 49]) (.seq (.region [.m 50 15, .o 51 (.slc 1 (.t 50) (some (.i 1)) none none), .m 15 51])
  (.seq (.region [.o 17 (.mv (.i 0))]) (.block 2 (.loop (.seq (.seq (.region [.m 52 17, .f 53 1 6, .l 54 53, .o 55 (.len (.t 54)), .o 56 (.bin .lss (.t 52) (.t 55))]) (.cond (.t
  56) .skip (.exit 2))) (.seq (.block 3 (.seq (.region [.f 59 1 6, .l 60 59, .m 61 17, .o 62 (.iaddrS 4 (.t 60) (.t 61)), .a 63 4 62, .o 18 (.alloc [(.int .i64 0), (.int .i64 0),
  (.int .i64 0), (.int .i64 0)]), .s 4 18 63]) (.seq (.seq (.region [.m 64 17, .m 65 4, .o 66 (.bin .eql (.t 64) (.t 65))]) (.cond (.t 66) (.exit 3) .skip)) (.seq (.seq (.draw [.f
  67 0 18, .l 68 67, .m 69 16, .o 70 (.bin .eql (.t 68) (.t 69)), .m 71 70, .y 72 71 (.mv (.t 14)), .y 73 71 (.faddr 1 (.t 18)), .y 74 71 (.load none (.t 73)), .y 75 71 (.iaddrS 1
  (.t 72) (.t 74)), .y 76 71 (.load none (.t 75)), .y 77 71 (.bin .eql (.t 76) (.i 0)), .o 78 (.pick (.t 71) (.t 77) (.b false)), .m 79 78, .y 80 79 (.mv (.t 1)), .y 81 79 (.mv
  (.t 17)), .y 82 79 (.iaddrS 1 (.t 80) (.t 81)), .y 83 79 (.load none (.t 82)), .y 84 79 (.faddr 2 (.t 18)), .y 85 79 (.faddr 1 (.t 84)), .y 86 79 (.load none (.t 85)), .y 87 79
  (.bin .lss (.t 83) (.t 86)), .o 88 (.pick (.t 79) (.t 87) (.b false))] []) (.cond (.t 88) (.seq (.region [.m 89 14, .f 90 1 18, .l 91 90, .m 92 17, .o 93 (.bin .add (.t 92) (.i
  1)), .o 94 (.iaddrS 1 (.t 89) (.t 91)), .s 1 94 93]) (.region [.m 95 15, .f 96 1 18, .l 97 96, .o 98 (.bslice [(.int .i64 0)] 1 1 [(0, (1, (.t 97)))]), .o 99 (.app 1 8 (.t 95)
  (.t 98)), .m 15 99])) .skip)) (.seq (.draw [.f 100 1 18, .l 101 100, .m 102 16, .o 103 (.bin .eql (.t 101) (.t 102)), .m 104 103, .y 105 104 (.mv (.t 14)), .y 106 104 (.faddr 0
  (.t 18)), .y 107 104 (.load none (.t 106)), .y 108 104 (.iaddrS 1 (.t 105) (.t 107)), .y 109 104 (.load none (.t 108)), .y 110 104 (.bin .eql (.t 109) (.i 0)), .o 111 (.pick (.t
  104) (.t 110) (.b false)), .m 112 111, .y 113 112 (.mv (.t 1)), .y 114 112 (.mv (.t 17)), .y 115 112 (.iaddrS 1 (.t 113) (.t 114)), .y 116 112 (.load none (.t 115)), .y 117 112
  (.faddr 2 (.t 18)), .y 118 112 (.faddr 0 (.t 117)), .y 119 112 (.load none (.t 118)), .y 120 112 (.bin .gtr (.t 116) (.t 119)), .o 121 (.pick (.t 112) (.t 120) (.b false))] [])
  (.cond (.t 121) (.seq (.region [.m 122 14, .f 123 0 18, .l 124 123, .m 125 17, .o 126 (.un .neg (.t 125)), .o 127 (.bin .sub (.t 126) (.i 1)), .o 128 (.iaddrS 1 (.t 122) (.t
  124)), .s 1 128 127]) (.region [.m 129 15, .f 130 0 18, .l 131 130, .o 132 (.bslice [(.int .i64 0)] 1 1 [(0, (1, (.t 131)))]), .o 133 (.app 1 8 (.t 129) (.t 132)), .m 15 133]))
  .skip)))))) (.region [.m 57 17, .o 58 (.bin .add (.t 57) (.i 1)), .m 17 58])))))))))))) (.seq (.seq (.region [.m 134 14, .m 135 3, .o 136 (.iaddrS 1 (.t 134) (.t 135)), .l 137
  136, .o 138 (.bin .eql (.t 137) (.i 0)), .m 139 138, .n 140 139 (.mv (.t 2)), .n 141 139 (.mv (.t 3)), .n 142 139 (.bin .eql (.t 140) (.t 141)), .o 143 (.pick (.t 139) (.b true)
  (.t 142))]) (.cond (.t 143) (.seq (.region [.m 144 1, .m 12 144, .o 13 (.mv (.i 0))]) .ret) .skip)) (.seq (.seq (.region [.m 145 3, .m 19 145]) (.block 4 (.loop (.seq (.seq
  (.region [.m 146 19, .m 147 2, .o 148 (.bin .neq (.t 146) (.t 147))]) (.cond (.t 148) .skip (.exit 4))) (.block 5 (.seq (.region [.m 149 14, .m 150 19, .o 151 (.iaddrS 1 (.t
  149) (.t 150)), .l 152 151, .o 153 (.bin .gtr (.t 152) (.i 0))]) (.cond (.t 153) (.seq (.draw [.f 154 1 6, .l 155 154, .m 156 14, .m 157 19, .o 158 (.iaddrS 1 (.t 156) (.t 157)),
   .l 159 158, .o 160 (.bin .sub (.t 159) (.i 1)), .o 161 (.iaddrS 4 (.t 155) (.t 160)), .a 162 4 161, .o 20 (.alloc [(.int .i64 0), (.int .i64 0), (.int .i64 0), (.int .i64 0)]),
  .s 4 20 162] [(1, 9), (5, 9), (8, 9)]) (.seq (.draw [.m 163 5, .f 164 2 20, .f 165 1 164, .l 166 165, .m 167 1, .m 168 14, .m 169 19, .o 170 (.iaddrS 1 (.t 168) (.t 169)), .l
  171 170, .o 172 (.bin .sub (.t 171) (.i 1)), .o 173 (.iaddrS 1 (.t 167) (.t 172)), .l 174 173, .o 175 (.bin .sub (.t 166) (.t 174)), .o 176 (.mnx false [.t 163, .t 175]), .m 5
  176] []) (.region [.f 177 0 20, .l 178 177, .m 19 178]))) (.seq (.draw [.f 179 1 6, .l 180 179, .m 181 14, .m 182 19, .o 183 (.iaddrS 1 (.t 181) (.t 182)), .l 184 183, .o 185
  (.un .neg (.t 184)), .o 186 (.bin .sub (.t 185) (.i 1)), .o 187 (.iaddrS 4 (.t 180) (.t 186)), .a 188 4 187, .o 21 (.alloc [(.int .i64 0), (.int .i64 0), (.int .i64 0), (.int
  .i64 0)]), .s 4 21 188] [(1, 10), (5, 10), (9, 10)]) (.seq (.draw [.m 189 5, .m 190 1, .m 191 14, .m 192 19, .o 193 (.iaddrS 1 (.t 191) (.t 192)), .l 194 193, .o 195 (.un .neg
  (.t 194)), .o 196 (.bin .sub (.t 195) (.i 1)), .o 197 (.iaddrS 1 (.t 190) (.t 196)), .l 198 197, .f 199 2 21, .f 200 0 199, .l 201 200, .o 202 (.bin .sub (.t 198) (.t 201)), .o
  203 (.mnx false [.t 189, .t 202]), .m 5 203] []) (.region [.f 204 1 21, .l 205 204, .m 19 205])))))))))) (.seq (.region [.o 206 (.bslice [] 0 1 []), .m 207 1, .o 208 (.app 1 8
  (.t 206) (.t 207)), .m 22 208]) (.seq (.seq (.region [.m 209 3, .m 23 209]) (.block 6 (.loop (.seq (.seq (.region [.m 210 23, .m 211 2, .o 212 (.bin .neq (.t 210) (.t 211))])
  (.cond (.t 212) .skip (.exit 6))) (.block 7 (.seq (.region [.m 213 14, .m 214 23, .o 215 (.iaddrS 1 (.t 213) (.t 214)), .l 216 215, .o 217 (.bin .gtr (.t 216) (.i 0))]) (.cond
  (.t 217) (.seq (.region [.m 218 22, .m 219 14, .m 220 23, .o 221 (.iaddrS 1 (.t 219) (.t 220)), .l 222 221, .o 223 (.bin .sub (.t 222) (.i 1)), .o 224 (.iaddrS 1 (.t 218) (.t
  223)), .l 225 224, .m 226 5, .o 227 (.bin .add (.t 225) (.t 226)), .o 228 (.iaddrS 1 (.t 218) (.t 223)), .s 1 228 227]) (.draw [.f 229 1 6, .l 230 229, .m 231 14, .m 232 23, .o
  233 (.iaddrS 1 (.t 231) (.t 232)), .l 234 233, .o 235 (.bin .sub (.t 234) (.i 1)), .o 236 (.iaddrS 4 (.t 230) (.t 235)), .f 237 0 236, .l 238 237, .m 23 238] [])) (.seq (.region
  [.m 239 22, .m 240 14, .m 241 23, .o 242 (.iaddrS 1 (.t 240) (.t 241)), .l 243 242, .o 244 (.un .neg (.t 243)), .o 245 (.bin .sub (.t 244) (.i 1)), .o 246 (.iaddrS 1 (.t 239)
  (.t 245)), .l 247 246, .m 248 5, .o 249 (.bin .sub (.t 247) (.t 248)), .o 250 (.iaddrS 1 (.t 239) (.t 245)), .s 1 250 249]) (.draw [.f 251 1 6, .l 252 251, .m 253 14, .m 254 23,
  .o 255 (.iaddrS 1 (.t 253) (.t 254)), .l 256 255, .o 257 (.un .neg (.t 256)), .o 258 (.bin .sub (.t 257) (.i 1)), .o 259 (.iaddrS 4 (.t 252) (.t 258)), .f 260 1 259, .l 261 260,
  .m 23 261] []))))))))) (.seq (.region [.m 262 22, .m 263 5, .m 12 262, .m 13 263]) .ret))))))))))⟩
def af59 : AFn := ⟨31, [(.tmp 4), (.tmp 5)], (.seq (.region [.o 2 (.box (.t 0)), .o 4 (.mv (.const (.ptr none))), .o 5 (.mv (.i 0))]) (.seq (.region [.a 8 2 2, .o 9 (.call (.func 19) [.t 8]), .m 6
  9]) (.seq (.block 0 (.seq (.region [.m 11 6, .o 12 (.bin .neq (.t 11) (.i 0)), .m 10 12]) (.cond (.t 10) (.seq (.region [.m 13 6, .o 4 (.mv (.const (.ptr none))), .m 5 13])
  .ret) (.seq (.region [.m 15 1, .o 16 (.bin .lss (.t 15) (.i 0)), .m 17 16, .n 18 17 (.mv (.t 1)), .n 19 17 (.faddr 1 (.t 2)), .n 20 17 (.load none (.t 19)), .n 21 17 (.len (.t
  20)), .n 22 17 (.bin .geq (.t 18) (.t 21)), .o 23 (.pick (.t 17) (.b true) (.t 22)), .m 14 23]) (.cond (.t 14) (.seq (.region [.o 4 (.mv (.const (.ptr none))), .o 5 (.mv (.i
  3))]) .ret) .skip))))) (.seq (.region [.a 24 2 2, .o 25 (.call (.func 55) [.t 24]), .m 7 25]) (.seq (.seq (.region [.m 26 7, .o 27 (.call (.func 56) [.t 26]), .o 28 (.len (.t
  27)), .o 29 (.bin .gtr (.t 28) (.i 0))]) (.cond (.t 29) (.seq (.region [.o 4 (.mv (.const (.ptr none))), .o 5 (.mv (.i 21))]) .ret) .skip)) (.seq (.region [.m 30 7, .m 4 30, .o
  5 (.mv (.i 0))]) .ret))))))⟩
def af60 : AFn := ⟨81, [(.tmp 6)], (.seq (.region [.o 6 (.mv (.const (.slc none 0 0 true 0)))]) (.seq (.region [.m 15 0, .o 16 (.nilchk (.t 15)), .f 17 0 16, .f 18 1 17, .l 19 18, .m 20 1, .o 21
  (.iaddrS 4 (.t 19) (.t 20)), .a 22 4 21, .o 7 (.alloc [(.int .i64 0), (.int .i64 0), (.int .i64 0), (.int .i64 0)]), .s 4 7 22]) (.seq (.region [.m 23 0, .o 24 (.mkfn 82 [.t 23]
  []), .m 8 24]) (.seq (.block 0 (.loop (.block 1 (.seq (.draw [.f 25 1 7, .l 26 25, .f 27 0 7, .l 28 27, .o 10 (.alloc [(.int .i64 0)]), .m 9 26, .s 1 10 28] [(1, 4), (3, 4)])
  (.seq (.seq (.region [.m 29 2, .o 30 (.un .not (.t 29))]) (.cond (.t 30) (.region [.l 31 10, .m 32 9, .m 9 31, .s 1 10 32]) .skip)) (.seq (.region [.m 34 8, .m 35 1, .l 36 10,
  .o 37 (.call (.t 34) [.t 35, .t 36]), .m 33 37, .e 38 33 0, .e 39 33 1, .m 11 38, .m 12 39]) (.seq (.seq (.region [.m 40 11, .o 41 (.bin .eql (.t 40) (.i 0))]) (.cond (.t 41)
  (.seq (.region [.o 6 (.mv (.const (.slc none 0 0 true 0)))]) .ret) .skip)) (.seq (.region [.m 43 0, .m 44 9, .m 45 1, .m 46 11, .o 47 (.mkfn 83 [] [.t 10]), .o 48 (.call (.func
  78) [.t 43, .t 44, .t 45, .t 46, .t 47]), .m 42 48, .e 49 42 0, .e 50 42 1, .m 13 49, .m 14 50]) (.seq (.seq (.region [.m 51 13, .o 52 (.bin .eql (.t 51) (.i 0))]) (.cond (.t
  52) (.exit 0) .skip)) (.seq (.region [.m 53 2]) (.cond (.t 53) (.region [.m 54 0, .o 55 (.nilchk (.t 54)), .f 56 2 55, .l 57 56, .m 58 1, .o 59 (.iaddrS 1 (.t 57) (.t 58)), .l
  60 59, .m 61 13, .o 62 (.bin .add (.t 60) (.t 61)), .o 63 (.iaddrS 1 (.t 57) (.t 58)), .s 1 63 62]) (.region [.m 64 0, .o 65 (.nilchk (.t 64)), .f 66 2 65, .l 67 66, .m 68 1, .o
  69 (.iaddrS 1 (.t 67) (.t 68)), .l 70 69, .m 71 13, .o 72 (.bin .sub (.t 70) (.t 71)), .o 73 (.iaddrS 1 (.t 67) (.t 68)), .s 1 73 72])))))))))))) (.seq (.seq (.region [.m 74 2])
  (.cond (.t 74) (.seq (.region [.m 75 0, .m 76 0, .o 77 (.call (.func 80) [.t 76]), .o 78 (.call (.func 79) [.t 75, .t 77]), .m 6 78]) .ret) .skip)) (.seq (.region [.m 79 0, .o
  80 (.call (.func 80) [.t 79]), .m 6 80]) .ret))))))⟩
def af61 : AFn := ⟨77, [(.tmp 6)], (.seq (.region [.o 3 (.box (.t 0)), .o 6 (.mv (.const (.slc none 0 0 true 0)))]) (.seq (.region [.a 12 2 3, .o 13 (.call (.func 24) [.t 12]), .m 11 13, .e 14 11 0,
   .e 15 11 1, .m 7 14, .m 8 15]) (.seq (.region [.f 16 1 3, .l 17 16, .m 18 1, .o 19 (.iaddrS 4 (.t 17) (.t 18)), .a 20 4 19, .o 9 (.alloc [(.int .i64 0), (.int .i64 0), (.int
  .i64 0), (.int .i64 0)]), .s 4 9 20]) (.block 0 (.loop (.block 1 (.seq (.region [.o 10 (.mv (.i 0))]) (.seq (.seq (.region [.m 21 2]) (.cond (.t 21) (.seq (.draw [.a 23 2 3, .m
  24 7, .f 25 1 9, .l 26 25, .f 27 0 9, .l 28 27, .m 29 1, .f 30 2 9, .f 31 1 30, .l 32 31, .m 33 7, .m 34 1, .o 35 (.iaddrS 1 (.t 33) (.t 34)), .l 36 35, .o 37 (.bin .sub (.t 32)
  (.t 36)), .o 38 (.call (.func 58) [.t 23, .t 24, .t 26, .t 28, .t 29, .t 37]), .m 22 38, .e 39 22 0, .e 40 22 1, .m 7 39, .m 10 40] []) (.region [.m 41 7, .m 42 1, .o 43
  (.iaddrS 1 (.t 41) (.t 42)), .l 44 43, .m 45 10, .o 46 (.bin .add (.t 44) (.t 45)), .o 47 (.iaddrS 1 (.t 41) (.t 42)), .s 1 47 46])) (.seq (.draw [.a 49 2 3, .m 50 7, .f 51 0 9,
  .l 52 51, .f 53 1 9, .l 54 53, .m 55 1, .m 56 7, .m 57 1, .o 58 (.iaddrS 1 (.t 56) (.t 57)), .l 59 58, .f 60 2 9, .f 61 0 60, .l 62 61, .o 63 (.bin .sub (.t 59) (.t 62)), .o 64
  (.call (.func 58) [.t 49, .t 50, .t 52, .t 54, .t 55, .t 63]), .m 48 64, .e 65 48 0, .e 66 48 1, .m 7 65, .m 10 66] []) (.region [.m 67 7, .m 68 1, .o 69 (.iaddrS 1 (.t 67) (.t
  68)), .l 70 69, .m 71 10, .o 72 (.bin .sub (.t 70) (.t 71)), .o 73 (.iaddrS 1 (.t 67) (.t 68)), .s 1 73 72])))) (.seq (.region [.m 74 10, .o 75 (.bin .eql (.t 74) (.i 0))])
  (.cond (.t 75) (.seq (.region [.m 76 7, .m 6 76]) .ret) .skip))))))))))⟩
def af62 : AFn := ⟨6, [(.tmp 2)], (.seq (.region [.o 1 (.box (.t 0)), .o 2 (.mv (.i 0))]) (.seq (.region [.f 3 2 1, .f 4 0 3, .l 5 4, .m 2 5]) .ret))⟩
def af63 : AFn := ⟨6, [(.tmp 2)], (.seq (.region [.o 1 (.box (.t 0)), .o 2 (.mv (.i 0))]) (.seq (.region [.f 3 2 1, .f 4 1 3, .l 5 4, .m 2 5]) .ret))⟩
def af64 : AFn := ⟨9, [(.tmp 4)], (.seq (.region [.o 4 (.mv (.b false))]) (.seq (.region [.m 5 0, .m 6 1, .o 7 (.call (.func 84) [.t 5, .t 6]), .o 8 (.bin .geq (.t 7) (.i 0)), .m 4 8]) .ret))⟩
def af65 : AFn := ⟨11, [(.tmp 4)], (.seq (.region [.o 4 (.mv (.i 0))]) (.seq (.region [.m 5 0, .m 6 1, .o 7 (.bin .add (.t 5) (.t 6)), .o 8 (.bin .sub (.t 7) (.i 1)), .m 9 1, .o 10 (.bin .quo (.t
  8) (.t 9)), .m 4 10]) .ret))⟩
def af66 : AFn := ⟨15, [(.tmp 2)], (.seq (.region [.o 1 (.box (.t 0)), .o 2 (.mv (.b false))]) (.seq (.region [.f 3 0 1, .l 4 3, .o 5 (.bslice [(.int .i64 0)] 1 1 [(0, (1, (.t 4)))]), .o 6 (.call
  (.func 53) [.i 0, .i 100000, .t 5]), .o 7 (.un .not (.t 6)), .m 8 7, .n 9 8 (.faddr 1 (.t 1)), .n 10 8 (.load none (.t 9)), .n 11 8 (.bslice [(.int .i64 0)] 1 1 [(0, (1, (.t
  10)))]), .n 12 8 (.call (.func 53) [.i 1, .i 100000, .t 11]), .n 13 8 (.un .not (.t 12)), .o 14 (.pick (.t 8) (.b true) (.t 13)), .m 2 14]) .ret))⟩
def af67 : AFn := ⟨9, [(.tmp 4)], (.seq (.region [.o 4 (.mv (.b false))]) (.seq (.region [.m 5 0, .m 6 1, .o 7 (.call (.func 85) [.t 5, .t 6]), .o 8 (.bin .geq (.t 7) (.i 0)), .m 4 8]) .ret))⟩
def af68 : AFn := ⟨15, [(.tmp 4)], (.seq (.region [.o 4 (.mv (.i 0))]) (.seq (.seq (.region [.m 5 0, .o 6 (.bin .lss (.t 5) (.i 0))]) (.cond (.t 6) (.seq (.region [.m 7 0, .o 8 (.un .neg (.t 7)),
  .m 9 1, .o 10 (.call (.func 65) [.t 8, .t 9]), .o 11 (.un .neg (.t 10)), .m 4 11]) .ret) .skip)) (.seq (.region [.m 12 0, .m 13 1, .o 14 (.bin .quo (.t 12) (.t 13)), .m 4 14])
  .ret)))⟩
def af69 : AFn := ⟨15, [(.cell 8 (some 4))], (.seq (.region [.o 8 (.alloc [(.int .i64 0), (.int .i64 0), (.int .i64 0), (.int .i64 0)])]) (.seq (.region [.m 9 0, .m 10 1, .m 11 2, .m 12 3, .o 13
  (.call (.func 40) [.t 11, .t 12]), .o 14 (.build [(.int .i64 0), (.int .i64 0), (.int .i64 0), (.int .i64 0)] [(0, (1, (.t 9))), (1, (1, (.t 10))), (2, (2, (.t 13)))]), .s 4 8
  14]) .ret))⟩
def af70 : AFn := ⟨39, [], (.seq (.region [.f 7 1 1, .l 8 7, .o 9 (.len (.t 8)), .o 10 (.mv (.i 0))]) (.block 0 (.loop (.seq (.region [.o 11 (.bin .lss (.t 10) (.t 9))]) (.seq (.cond (.t 11) .skip
  (.exit 0)) (.seq (.block 1 (.seq (.region [.m 12 10, .o 13 (.iaddrS 4 (.t 8) (.t 10)), .a 14 4 13, .o 6 (.alloc [(.int .i64 0), (.int .i64 0), (.int .i64 0), (.int .i64 0)]), .m
  5 12, .s 4 6 14]) (.seq (.region [.a 15 4 6, .a 16 4 2, .o 17 (.eqf true true [.int, .int, .int, .int] (.t 15) (.t 16)), .m 18 17, .y 19 18 (.load none (.t 3)), .y 20 18 (.faddr
  0 (.t 6)), .y 21 18 (.load none (.t 20)), .y 22 18 (.call (.func 64) [.t 19, .t 21]), .o 23 (.pick (.t 18) (.t 22) (.b false)), .m 24 23, .y 25 24 (.load none (.t 3)), .y 26 24
  (.faddr 1 (.t 6)), .y 27 24 (.load none (.t 26)), .y 28 24 (.call (.func 64) [.t 25, .t 27]), .y 29 24 (.un .not (.t 28)), .o 30 (.pick (.t 24) (.t 29) (.b false)), .m 31 30, .y
  32 31 (.mv (.t 0)), .y 33 31 (.mv (.t 5)), .y 34 31 (.load (some 4) (.t 6)), .y 35 31 (.call (.t 32) [.t 33, .t 34]), .y 36 31 (.un .not (.t 35)), .o 37 (.pick (.t 31) (.t 36)
  (.b false))]) (.cond (.t 37) .ret .skip)))) (.region [.o 38 (.bin .add (.t 10) (.i 1)), .m 10 38])))))))⟩
def af71 : AFn := ⟨19, [(.tmp 4)], (.seq (.region [.o 4 (.mv (.i 0))]) (.seq (.seq (.region [.m 6 0, .o 7 (.len (.t 6)), .o 8 (.mv (.i 0))]) (.block 0 (.loop (.seq (.region [.o 9 (.bin .lss (.t 8)
  (.t 7))]) (.seq (.cond (.t 9) .skip (.exit 0)) (.seq (.block 1 (.seq (.region [.m 10 8, .m 5 10]) (.seq (.region [.m 11 1, .m 12 0, .m 13 5, .o 14 (.iaddrS 4 (.t 12) (.t 13)),
  .a 15 4 14, .o 16 (.call (.t 11) [.t 15])]) (.cond (.t 16) (.seq (.region [.m 17 5, .m 4 17]) .ret) .skip)))) (.region [.o 18 (.bin .add (.t 8) (.i 1)), .m 8 18]))))))) (.seq
  (.region [.o 4 (.mv (.i (-1)))]) .ret)))⟩
def af72 : AFn := ⟨9, [(.tmp 4)], (.seq (.region [.o 4 (.mv (.b false))]) (.seq (.region [.m 5 0, .m 6 1, .o 7 (.call (.func 86) [.t 5, .t 6]), .o 8 (.bin .geq (.t 7) (.i 0)), .m 4 8]) .ret))⟩
def af73 : AFn := ⟨13, [(.tmp 4)], (.seq (.region [.o 4 (.mv (.b false))]) (.seq (.region [.m 5 0, .l 6 1, .o 7 (.bin .lss (.t 5) (.t 6)), .m 8 7, .n 9 8 (.mv (.t 0)), .n 10 8 (.load none (.t 2)),
  .n 11 8 (.bin .gtr (.t 9) (.t 10)), .o 12 (.pick (.t 8) (.b true) (.t 11)), .m 4 12]) .ret))⟩
def af74 : AFn := ⟨45, [(.cell 2 (some 13))], (.seq (.region [.o 2 (.alloc [(.int .i64 0), (.int .i64 0), (.int .i64 0), (.int .i64 0), (.int .i64 0), (.int .i64 0), (.int .i64 0), (.int .i64 0),
  (.int .i64 0), (.int .i64 0), (.int .i64 0), (.int .i64 0), (.int .i64 0)])]) (.seq (.region [.o 3 (.alloc [(.int .i64 0), (.int .i64 0), (.int .i64 0), (.int .i64 0), (.int
  .i64 0), (.int .i64 0), (.int .i64 0), (.int .i64 0), (.int .i64 0), (.int .i64 0), (.int .i64 0), (.int .i64 0), (.int .i64 0)])]) (.seq (.seq (.region [.m 6 0, .o 7 (.nilchk
  (.t 6)), .f 8 0 7, .f 9 1 8, .l 10 9, .o 11 (.len (.t 10)), .o 12 (.mv (.i 0))]) (.block 0 (.loop (.seq (.region [.o 13 (.bin .lss (.t 12) (.t 11))]) (.seq (.cond (.t 13) .skip
  (.exit 0)) (.seq (.block 1 (.seq (.region [.m 14 12, .o 15 (.iaddrS 4 (.t 10) (.t 12)), .a 16 4 15, .o 5 (.alloc [(.int .i64 0), (.int .i64 0), (.int .i64 0), (.int .i64 0)]),
  .m 4 14, .s 4 5 16]) (.seq (.draw [.f 17 1 5, .l 18 17, .o 19 (.iaddrA 13 1 (.t 3) (.t 18)), .l 20 19, .m 21 0, .o 22 (.nilchk (.t 21)), .f 23 2 22, .l 24 23, .m 25 4, .o 26
  (.iaddrS 1 (.t 24) (.t 25)), .l 27 26, .o 28 (.bin .add (.t 20) (.t 27)), .o 29 (.iaddrA 13 1 (.t 3) (.t 18)), .s 1 29 28] []) (.draw [.f 30 0 5, .l 31 30, .o 32 (.iaddrA 13 1
  (.t 3) (.t 31)), .l 33 32, .m 34 0, .o 35 (.nilchk (.t 34)), .f 36 2 35, .l 37 36, .m 38 4, .o 39 (.iaddrS 1 (.t 37) (.t 38)), .l 40 39, .o 41 (.bin .sub (.t 33) (.t 40)), .o 42
  (.iaddrA 13 1 (.t 3) (.t 31)), .s 1 42 41] [])))) (.region [.o 43 (.bin .add (.t 12) (.i 1)), .m 12 43]))))))) (.seq (.region [.a 44 13 3, .s 13 2 44]) .ret))))⟩
def af75 : AFn := ⟨19, [(.tmp 4)], (.seq (.region [.o 4 (.mv (.i 0))]) (.seq (.seq (.region [.m 7 0, .o 8 (.len (.t 7)), .o 9 (.mv (.i 0))]) (.block 0 (.loop (.seq (.region [.o 10 (.bin .lss (.t 9)
  (.t 8))]) (.seq (.cond (.t 10) .skip (.exit 0)) (.seq (.block 1 (.seq (.region [.m 11 9, .o 12 (.iaddrS 1 (.t 7) (.t 9)), .l 13 12, .m 5 11, .m 6 13]) (.seq (.region [.m 14 1,
  .m 15 6, .o 16 (.call (.t 14) [.t 15])]) (.cond (.t 16) (.seq (.region [.m 17 5, .m 4 17]) .ret) .skip)))) (.region [.o 18 (.bin .add (.t 9) (.i 1)), .m 9 18]))))))) (.seq
  (.region [.o 4 (.mv (.i (-1)))]) .ret)))⟩
def af76 : AFn := ⟨5, [(.tmp 2)], (.seq (.region [.o 2 (.mv (.b false))]) (.seq (.region [.m 3 0, .o 4 (.bin .gtr (.t 3) (.i 0)), .m 2 4]) .ret))⟩
def af77 : AFn := ⟨8, [(.tmp 3)], (.seq (.region [.o 3 (.mv (.b false))]) (.seq (.region [.m 4 0, .o 5 (.iaddrA 13 1 (.t 1) (.t 4)), .l 6 5, .o 7 (.bin .lss (.t 6) (.i 0)), .m 3 7]) .ret))⟩
def af78 : AFn := ⟨175, [(.tmp 10), (.tmp 11)], (.seq (.region [.o 10 (.mv (.i 0)), .o 11 (.mv (.i 0))]) (.scope (.seq (.region [.m 26 0, .o 27 (.nilchk (.t 26)), .f 28 3 27, .o 29 (.slcA 13 1 (.t
  28) none none none), ⟨none, (.clrS [(.int .i64 0)] (.t 29)), none⟩]) (.seq (.region [.o 30 .mkmap, .m 12 30]) (.seq (.region [.m 31 1, .o 32 (.bslice [(.int .i64 0)] 1 1 [(0, (1,
   (.t 31)))]), .m 13 32]) (.seq (.region [.m 33 0, .m 34 1, .o 35 (.nilchk (.t 33)), .f 36 3 35, .o 37 (.iaddrA 13 1 (.t 36) (.t 34)), ⟨none, (.store 1 (.t 37) (.i 1)), none⟩])
  (.seq (.region [.o 14 (.mv (.i (-1)))]) (.seq .skip (.seq (.block 0 (.loop (.seq (.seq (.region [.m 38 13, .o 39 (.len (.t 38)), .o 40 (.bin .gtr (.t 39) (.i 0))]) (.cond (.t
  40) .skip (.exit 0))) (.block 1 (.seq (.region [.m 41 13, .o 42 (.iaddrS 1 (.t 41) (.i 0)), .l 43 42, .m 15 43]) (.seq (.region [.m 44 13, .o 45 (.slc 1 (.t 44) (some (.i 1))
  none none), .m 13 45]) (.seq (.seq (.region [.m 46 4, .m 47 15, .o 48 (.call (.t 46) [.t 47])]) (.cond (.t 48) (.seq (.region [.m 49 15, .m 14 49]) (.exit 0)) .skip)) (.seq
  (.region [.m 50 0, .o 51 (.nilchk (.t 50)), .f 52 0 51, .f 53 1 52, .l 54 53, .o 55 (.len (.t 54)), .o 56 (.mv (.i 0))]) (.block 2 (.loop (.seq (.region [.o 57 (.bin .lss (.t
  56) (.t 55))]) (.seq (.cond (.t 57) .skip (.exit 2)) (.seq (.block 3 (.seq (.region [.m 58 56, .m 16 58]) (.seq (.region [.m 60 0, .m 61 16, .m 62 15, .o 63 (.call (.func 82)
  [.t 60, .t 61, .t 62]), .m 59 63, .e 64 59 0, .e 65 59 1, .m 17 64, .m 18 65]) (.seq (.region [.m 66 16, .m 67 2, .o 68 (.bin .neq (.t 66) (.t 67)), .m 69 68, .y 70 69 (.mv (.t
  17)), .y 71 69 (.bin .gtr (.t 70) (.i 0)), .o 72 (.pick (.t 69) (.t 71) (.b false)), .m 73 72, .y 74 73 (.mv (.t 0)), .y 75 73 (.mv (.t 18)), .y 76 73 (.nilchk (.t 74)), .y 77
  73 (.faddr 3 (.t 76)), .y 78 73 (.iaddrA 13 1 (.t 77) (.t 75)), .y 79 73 (.load none (.t 78)), .y 80 73 (.bin .eql (.t 79) (.i 0)), .o 81 (.pick (.t 73) (.t 80) (.b false))])
  (.cond (.t 81) (.seq (.region [.m 82 0, .m 83 18, .o 84 (.nilchk (.t 82)), .f 85 3 84, .o 86 (.iaddrA 13 1 (.t 85) (.t 83)), ⟨none, (.store 1 (.t 86) (.i 1)), none⟩]) (.seq
  (.region [.m 87 12, .m 88 18, .m 89 16, .m 90 15, .o 91 (.build [(.int .i64 0), (.int .i64 0)] [(0, (1, (.t 89))), (1, (1, (.t 90)))]), ⟨none, (.mapup false [.int] (.t 87) (.t
  88) (.t 91)), none⟩]) (.region [.m 92 13, .m 93 18, .o 94 (.bslice [(.int .i64 0)] 1 1 [(0, (1, (.t 93)))]), .o 95 (.app 1 8 (.t 92) (.t 94)), .m 13 95]))) .skip))))) (.region
  [.o 96 (.bin .add (.t 56) (.i 1)), .m 56 96])))))))))))))) (.seq (.seq (.region [.m 97 14, .o 98 (.bin .lss (.t 97) (.i 0))]) (.cond (.t 98) (.seq (.region [.o 10 (.mv (.i 0)),
  .o 11 (.mv (.i (-1)))]) .ret) .skip)) (.seq (.region [.o 19 (.mv (.const (.slc none 0 0 true 0)))]) (.seq (.seq (.region [.m 99 14, .m 20 99]) (.block 4 (.loop (.seq (.seq
  (.region [.m 100 20, .m 101 1, .o 102 (.bin .neq (.t 100) (.t 101))]) (.cond (.t 102) .skip (.exit 4))) (.block 5 (.seq (.region [.m 103 12, .m 104 20, .o 105 (.look false
  [.int] (.agg [(.int .i64 0), (.int .i64 0)]) (.t 103) (.t 104) false), .o 21 (.alloc [(.int .i64 0), (.int .i64 0)]), .s 2 21 105]) (.seq (.region [.m 106 12, .m 107 20, ⟨none,
  (.del false [.int] (.t 106) (.t 107)), none⟩]) (.seq (.draw [.m 108 19, .m 109 19, .o 110 (.len (.t 109)), .m 111 19, .o 112 (.len (.t 111)), .o 113 (.slc 2 (.t 108) none (some
  (.t 110)) (some (.t 112))), .a 114 2 21, .o 115 (.bslice [(.int .i64 0), (.int .i64 0)] 1 2 [(0, (2, (.t 114)))]), .o 116 (.app 2 16 (.t 113) (.t 115)), .m 19 116] []) (.seq
  (.region [.m 118 0, .f 119 0 21, .l 120 119, .f 121 1 21, .l 122 121, .o 123 (.call (.func 82) [.t 118, .t 120, .t 122]), .m 117 123, .e 124 117 0, .e 125 117 1, .m 22 124, .m
  23 125]) (.seq (.region [.m 126 3, .m 127 22, .o 128 (.mnx false [.t 126, .t 127]), .m 3 128]) (.region [.f 129 1 21, .l 130 129, .m 20 130]))))))))))) (.seq (.seq (.region [.m
  131 19, .o 132 (.len (.t 131)), .o 133 (.mv (.i 0))]) (.block 6 (.loop (.seq (.region [.o 134 (.bin .lss (.t 133) (.t 132))]) (.seq (.cond (.t 134) .skip (.exit 6)) (.seq
  (.block 7 (.seq (.region [.o 135 (.iaddrS 2 (.t 131) (.t 133)), .a 136 2 135, .o 25 (.alloc [(.int .i64 0), (.int .i64 0)]), .s 2 25 136]) (.seq (.draw [.m 137 0, .o 138
  (.nilchk (.t 137)), .f 139 0 138, .f 140 1 139, .l 141 140, .f 142 0 25, .l 143 142, .o 144 (.iaddrS 4 (.t 141) (.t 143)), .f 145 0 144, .l 146 145, .f 147 1 25, .l 148 147, .o
  149 (.bin .eql (.t 146) (.t 148))] []) (.cond (.t 149) (.draw [.m 150 0, .o 151 (.nilchk (.t 150)), .f 152 2 151, .l 153 152, .f 154 0 25, .l 155 154, .o 156 (.iaddrS 1 (.t 153)
  (.t 155)), .l 157 156, .m 158 3, .o 159 (.bin .add (.t 157) (.t 158)), .o 160 (.iaddrS 1 (.t 153) (.t 155)), .s 1 160 159] []) (.draw [.m 161 0, .o 162 (.nilchk (.t 161)), .f
  163 2 162, .l 164 163, .f 165 0 25, .l 166 165, .o 167 (.iaddrS 1 (.t 164) (.t 166)), .l 168 167, .m 169 3, .o 170 (.bin .sub (.t 168) (.t 169)), .o 171 (.iaddrS 1 (.t 164) (.t
  166)), .s 1 171 170] []))))) (.region [.o 172 (.bin .add (.t 133) (.i 1)), .m 133 172]))))))) (.seq (.region [.m 173 3, .m 174 14, .m 10 173, .m 11 174]) .ret))))))))))))))⟩
def af79 : AFn := ⟨26, [(.tmp 4)], (.seq (.region [.o 4 (.mv (.const (.slc none 0 0 true 0)))]) (.seq (.region [.o 5 (.mv (.const (.slc none 0 0 true 0)))]) (.seq (.seq (.region [.m 7 0, .o 8
  (.nilchk (.t 7)), .f 9 0 8, .f 10 0 9, .l 11 10, .o 12 (.bin .add (.t 11) (.i 1)), .o 13 (.mv (.i 0))]) (.block 0 (.loop (.seq (.region [.o 14 (.bin .lss (.t 13) (.t 12))])
  (.seq (.cond (.t 14) .skip (.exit 0)) (.seq (.block 1 (.seq (.region [.m 15 13, .m 6 15]) (.seq (.region [.m 16 1, .m 17 6, .o 18 (.call (.func 64) [.t 16, .t 17]), .o 19 (.un
  .not (.t 18))]) (.cond (.t 19) (.region [.m 20 5, .m 21 6, .o 22 (.bslice [(.int .i64 0)] 1 1 [(0, (1, (.t 21)))]), .o 23 (.app 1 8 (.t 20) (.t 22)), .m 5 23]) .skip))))
  (.region [.o 24 (.bin .add (.t 13) (.i 1)), .m 13 24]))))))) (.seq (.region [.m 25 5, .m 4 25]) .ret))))⟩
def af80 : AFn := ⟨27, [(.tmp 2)], (.seq (.region [.o 2 (.mv (.const (.slc none 0 0 true 0)))]) (.seq (.region [.o 3 (.mv (.const (.slc none 0 0 true 0)))]) (.seq (.seq (.region [.m 5 0, .o 6
  (.nilchk (.t 5)), .f 7 0 6, .f 8 0 7, .l 9 8, .o 10 (.bin .add (.t 9) (.i 1)), .o 11 (.mv (.i 0))]) (.block 0 (.loop (.seq (.region [.o 12 (.bin .lss (.t 11) (.t 10))]) (.seq
  (.cond (.t 12) .skip (.exit 0)) (.seq (.block 1 (.seq (.region [.m 13 11, .m 4 13]) (.seq (.region [.m 14 0, .m 15 4, .o 16 (.nilchk (.t 14)), .f 17 3 16, .o 18 (.iaddrA 13 1
  (.t 17) (.t 15)), .l 19 18, .o 20 (.bin .eql (.t 19) (.i 1))]) (.cond (.t 20) (.region [.m 21 3, .m 22 4, .o 23 (.bslice [(.int .i64 0)] 1 1 [(0, (1, (.t 22)))]), .o 24 (.app 1
  8 (.t 21) (.t 23)), .m 3 24]) .skip)))) (.region [.o 25 (.bin .add (.t 11) (.i 1)), .m 11 25]))))))) (.seq (.region [.m 26 3, .m 2 26]) .ret))))⟩
def af81 : AFn := ⟨8, [(.tmp 2)], (.seq (.region [.o 2 (.mv (.const (.slc none 0 0 true 0)))]) (.seq (.seq (.region [.m 3 0, .o 4 (.eqn false 0 (.t 3) (.const (.slc none 0 0 true 0)))]) (.cond (.t
  4) (.seq (.region [.o 2 (.mv (.const (.slc none 0 0 true 0)))]) .ret) .skip)) (.seq (.region [.o 5 (.bslice [] 0 1 []), .m 6 0, .o 7 (.app 1 8 (.t 5) (.t 6)), .m 2 7]) .ret)))⟩
def af82 : AFn := ⟨53, [(.tmp 6), (.tmp 7)], (.seq (.region [.o 6 (.mv (.i 0)), .o 7 (.mv (.i 0))]) (.seq (.region [.m 9 0, .o 10 (.nilchk (.t 9)), .f 11 0 10, .f 12 1 11, .l 13 12, .m 14 1, .o 15
  (.iaddrS 4 (.t 13) (.t 14)), .a 16 4 15, .o 8 (.alloc [(.int .i64 0), (.int .i64 0), (.int .i64 0), (.int .i64 0)]), .s 4 8 16]) (.seq (.seq (.region [.m 17 2]) (.block 0 (.seq
  (.region [.f 19 0 8, .l 20 19, .o 21 (.bin .eql (.t 17) (.t 20)), .m 18 21]) (.cond (.t 18) (.seq (.draw [.f 22 2 8, .f 23 1 22, .l 24 23, .m 25 0, .o 26 (.nilchk (.t 25)), .f
  27 2 26, .l 28 27, .m 29 1, .o 30 (.iaddrS 1 (.t 28) (.t 29)), .l 31 30, .o 32 (.bin .sub (.t 24) (.t 31)), .f 33 1 8, .l 34 33, .m 6 32, .m 7 34] []) .ret) (.seq (.region [.f
  36 1 8, .l 37 36, .o 38 (.bin .eql (.t 17) (.t 37)), .m 35 38]) (.cond (.t 35) (.seq (.draw [.m 39 0, .o 40 (.nilchk (.t 39)), .f 41 2 40, .l 42 41, .m 43 1, .o 44 (.iaddrS 1
  (.t 42) (.t 43)), .l 45 44, .f 46 2 8, .f 47 0 46, .l 48 47, .o 49 (.bin .sub (.t 45) (.t 48)), .f 50 0 8, .l 51 50, .m 6 49, .m 7 51] []) .ret) .skip)))))) (.seq (.region [.m
  52 2, .o 6 (.mv (.i 0)), .m 7 52]) .ret))))⟩
def af83 : AFn := ⟨7, [(.tmp 3)], (.seq (.region [.o 3 (.mv (.b false))]) (.seq (.region [.m 4 0, .l 5 1, .o 6 (.bin .eql (.t 4) (.t 5)), .m 3 6]) .ret))⟩
def af84 : AFn := ⟨19, [(.tmp 4)], (.seq (.region [.o 4 (.mv (.i 0))]) (.seq (.seq (.region [.m 6 0, .o 7 (.len (.t 6)), .o 8 (.mv (.i 0))]) (.block 0 (.loop (.seq (.region [.o 9 (.bin .lss (.t 8)
  (.t 7))]) (.seq (.cond (.t 9) .skip (.exit 0)) (.seq (.block 1 (.seq (.region [.m 10 8, .m 5 10]) (.seq (.region [.m 11 1, .m 12 0, .m 13 5, .o 14 (.iaddrS 1 (.t 12) (.t 13)),
  .l 15 14, .o 16 (.bin .eql (.t 11) (.t 15))]) (.cond (.t 16) (.seq (.region [.m 17 5, .m 4 17]) .ret) .skip)))) (.region [.o 18 (.bin .add (.t 8) (.i 1)), .m 8 18]))))))) (.seq
  (.region [.o 4 (.mv (.i (-1)))]) .ret)))⟩
def af85 : AFn := ⟨19, [(.tmp 4)], (.seq (.region [.o 4 (.mv (.i 0))]) (.seq (.seq (.region [.m 6 0, .o 7 (.len (.t 6)), .o 8 (.mv (.i 0))]) (.block 0 (.loop (.seq (.region [.o 9 (.bin .lss (.t 8)
  (.t 7))]) (.seq (.cond (.t 9) .skip (.exit 0)) (.seq (.block 1 (.seq (.region [.m 10 8, .m 5 10]) (.seq (.region [.m 11 1, .m 12 0, .m 13 5, .o 14 (.iaddrS 2 (.t 12) (.t 13)),
  .a 15 2 14, .o 16 (.call (.t 11) [.t 15])]) (.cond (.t 16) (.seq (.region [.m 17 5, .m 4 17]) .ret) .skip)))) (.region [.o 18 (.bin .add (.t 8) (.i 1)), .m 8 18]))))))) (.seq
  (.region [.o 4 (.mv (.i (-1)))]) .ret)))⟩
def af86 : AFn := ⟨19, [(.tmp 4)], (.seq (.region [.o 4 (.mv (.i 0))]) (.seq (.seq (.region [.m 6 0, .o 7 (.len (.t 6)), .o 8 (.mv (.i 0))]) (.block 0 (.loop (.seq (.region [.o 9 (.bin .lss (.t 8)
  (.t 7))]) (.seq (.cond (.t 9) .skip (.exit 0)) (.seq (.block 1 (.seq (.region [.m 10 8, .m 5 10]) (.seq (.region [.m 11 1, .m 12 0, .m 13 5, .o 14 (.iaddrS 1 (.t 12) (.t 13)),
  .l 15 14, .o 16 (.call (.t 11) [.t 15])]) (.cond (.t 16) (.seq (.region [.m 17 5, .m 4 17]) .ret) .skip)))) (.region [.o 18 (.bin .add (.t 8) (.i 1)), .m 8 18]))))))) (.seq
  (.region [.o 4 (.mv (.i (-1)))]) .ret)))⟩
def tblL : List (Nat × AFn) := [(9, af9), (15, af15), (16, af16), (17, af17), (18, af18), (19, af19), (20, af20), (21, af21), (22, af22), (23, af23), (24, af24), (25, af25), (26, af26), (27, af27), (28, af28), (29, af29), (30, af30), (31, af31), (32, af32), (33, af33), (34, af34), (35, af35), (36, af36), (37, af37), (38, af38), (39, af39), (40, af40), (41, af41), (42, af42), (43, af43), (44, af44), (45, af45), (46, af46), (47, af47), (48, af48), (49, af49), (50, af50), (51, af51), (52, af52), (53, af53), (54, af54), (55, af55), (56, af56), (57, af57), (58, af58), (59, af59), (60, af60), (61, af61), (62, af62), (63, af63), (64, af64), (65, af65), (66, af66), (67, af67), (68, af68), (69, af69), (70, af70), (71, af71), (72, af72), (73, af73), (74, af74), (75, af75), (76, af76), (77, af77), (78, af78), (79, af79), (80, af80), (81, af81), (82, af82), (83, af83), (84, af84), (85, af85), (86, af86)]
def tbl : Nat → Option AFn := look1 tblL
end Go.Ax
