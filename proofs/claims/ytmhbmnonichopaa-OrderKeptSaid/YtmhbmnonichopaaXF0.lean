/-
  The functions of the program as the abstract machine reads them. Written by gen_fns.py out of Lean's own reckoning of 'compF'.
-/
import Derived.Test.YtmhbmnonichopaaXMA
import Derived.Test.YtmhbmnonichopaaProg
namespace Go.Ax
open Go.Proofs
def af3 : AFn := ⟨71, [(.tmp 4)], (.seq (.region [.o 2 (.box (.t 0)), .o 4 (.mv (.b false))]) (.seq (.seq (.region [.a 13 7 2, .o 14 (.call (.func 14) [.t 13]), .m 15 14, .n 16 15 (.mv (.t 1)), .n
  17 15 (.len (.t 16)), .n 18 15 (.bin .gtr (.t 17) (.i 40)), .o 19 (.pick (.t 15) (.b true) (.t 18))]) (.cond (.t 19) (.seq (.region [.o 20 (.call (.func 15) []), .m 4 20]) .ret)
  .skip)) (.seq (.region [.a 22 7 2, .o 23 (.call (.func 16) [.t 22]), .m 21 23, .e 24 21 0, .e 25 21 1, .m 5 24, .m 6 25]) (.seq (.region [.a 27 7 2, .o 28 (.call (.func 17) [.t
  27]), .m 26 28, .e 29 26 0, .e 30 26 1, .m 7 29, .m 8 30]) (.seq (.region [.a 32 7 2, .m 33 1, .o 34 (.call (.func 18) [.t 32, .t 33]), .m 31 34, .e 35 31 0, .e 36 31 1, .m 9 35,
   .m 10 36]) (.seq (.region [.a 38 7 2, .m 39 1, .o 40 (.call (.func 19) [.t 38, .t 39]), .m 37 40, .e 41 37 0, .e 42 37 1, .m 11 41, .m 12 42]) (.seq (.draw [.a 43 7 2, .o 44
  (.call (.func 20) [.t 43]), .a 45 7 2, .o 46 (.call (.func 21) [.t 45]), .o 47 (.bin .eql (.t 44) (.t 46)), .m 48 47, .y 49 48 (.mv (.t 5)), .y 50 48 (.mv (.t 7)), .y 51 48
  (.call (.func 22) [.t 49, .t 50]), .o 52 (.pick (.t 48) (.t 51) (.b false)), .m 53 52, .y 54 53 (.mv (.t 6)), .y 55 53 (.mv (.t 8)), .y 56 53 (.bin .eql (.t 54) (.t 55)), .o 57
  (.pick (.t 53) (.t 56) (.b false)), .m 58 57, .y 59 58 (.mv (.t 9)), .y 60 58 (.mv (.t 11)), .y 61 58 (.bin .eql (.t 59) (.t 60)), .o 62 (.pick (.t 58) (.t 61) (.b false)), .m
  63 62, .y 64 63 (.mv (.t 10)), .y 65 63 (.mv (.t 12)), .y 66 63 (.bin .eql (.t 64) (.t 65)), .o 67 (.pick (.t 63) (.t 66) (.b false)), .m 68 67, .y 69 68 (.call (.func 15) []),
  .o 70 (.pick (.t 68) (.t 69) (.b false)), .m 4 70] [(1, 2)]) .ret)))))))⟩
def af4 : AFn := ⟨53, [(.tmp 8)], (.seq (.region [.o 4 (.box (.t 0)), .o 8 (.mv (.b false))]) (.seq (.seq (.region [.a 13 7 4, .o 14 (.call (.func 14) [.t 13]), .m 15 14, .n 16 15 (.mv (.t 1)), .n
  17 15 (.len (.t 16)), .n 18 15 (.bin .gtr (.t 17) (.i 40)), .o 19 (.pick (.t 15) (.b true) (.t 18)), .m 20 19, .n 21 20 (.mv (.t 3)), .n 22 20 (.len (.t 21)), .n 23 20 (.bin
  .gtr (.t 22) (.i 40)), .o 24 (.pick (.t 20) (.b true) (.t 23))]) (.cond (.t 24) (.seq (.region [.o 25 (.call (.func 15) []), .m 8 25]) .ret) .skip)) (.seq (.region [.a 27 7 4,
  .m 28 1, .m 29 2, .m 30 3, .o 31 (.call (.func 23) [.t 27, .t 28, .t 29, .t 30]), .m 26 31, .e 32 26 0, .e 33 26 1, .m 9 32, .m 10 33]) (.seq (.region [.a 35 7 4, .m 36 1, .m 37
  2, .m 38 3, .o 39 (.call (.func 24) [.t 35, .t 36, .t 37, .t 38]), .m 34 39, .e 40 34 0, .e 41 34 1, .m 11 40, .m 12 41]) (.seq (.region [.m 42 9, .m 43 11, .o 44 (.call (.func
  25) [.t 42, .t 43]), .m 45 44, .y 46 45 (.mv (.t 10)), .y 47 45 (.mv (.t 12)), .y 48 45 (.bin .eql (.t 46) (.t 47)), .o 49 (.pick (.t 45) (.t 48) (.b false)), .m 50 49, .y 51 50
  (.call (.func 15) []), .o 52 (.pick (.t 50) (.t 51) (.b false)), .m 8 52]) .ret)))))⟩
def af5 : AFn := ⟨73, [(.tmp 2)], (.seq (.region [.o 1 (.box (.t 0)), .o 2 (.mv (.b false))]) (.seq (.seq (.region [.a 15 7 1, .o 16 (.call (.func 14) [.t 15])]) (.cond (.t 16) (.seq (.region [.o
  17 (.call (.func 15) []), .m 2 17]) .ret) .skip)) (.seq (.region [.a 19 7 1, .o 20 (.call (.func 26) [.t 19]), .m 18 20, .e 21 18 0, .e 22 18 1, .e 23 18 2, .m 3 21, .m 4 22, .m
  5 23]) (.seq (.region [.a 25 7 1, .o 26 (.call (.func 27) [.t 25]), .m 24 26, .e 27 24 0, .e 28 24 1, .e 29 24 2, .m 6 27, .m 7 28, .m 8 29]) (.seq (.region [.a 31 7 1, .o 32
  (.call (.func 28) [.t 31]), .m 30 32, .e 33 30 0, .e 34 30 1, .e 35 30 2, .m 9 33, .m 10 34, .m 11 35]) (.seq (.region [.a 37 7 1, .o 38 (.call (.func 29) [.t 37]), .m 36 38, .e
  39 36 0, .e 40 36 1, .e 41 36 2, .m 12 39, .m 13 40, .m 14 41]) (.seq (.region [.m 42 3, .m 43 6, .o 44 (.call (.func 30) [.t 42, .t 43]), .m 45 44, .y 46 45 (.mv (.t 4)), .y 47
  45 (.mv (.t 7)), .y 48 45 (.bin .eql (.t 46) (.t 47)), .o 49 (.pick (.t 45) (.t 48) (.b false)), .m 50 49, .y 51 50 (.mv (.t 5)), .y 52 50 (.mv (.t 8)), .y 53 50 (.bin .eql (.t
  51) (.t 52)), .o 54 (.pick (.t 50) (.t 53) (.b false)), .m 55 54, .y 56 55 (.mv (.t 9)), .y 57 55 (.mv (.t 12)), .y 58 55 (.bin .eql (.t 56) (.t 57)), .o 59 (.pick (.t 55) (.t
  58) (.b false)), .m 60 59, .y 61 60 (.mv (.t 10)), .y 62 60 (.mv (.t 13)), .y 63 60 (.bin .eql (.t 61) (.t 62)), .o 64 (.pick (.t 60) (.t 63) (.b false)), .m 65 64, .y 66 65
  (.mv (.t 11)), .y 67 65 (.mv (.t 14)), .y 68 65 (.bin .eql (.t 66) (.t 67)), .o 69 (.pick (.t 65) (.t 68) (.b false)), .m 70 69, .y 71 70 (.call (.func 15) []), .o 72 (.pick (.t
  70) (.t 71) (.b false)), .m 2 72]) .ret)))))))⟩
def af6 : AFn := ⟨82, [(.tmp 4)], (.seq (.region [.o 2 (.box (.t 0)), .o 4 (.mv (.b false))]) (.seq (.seq (.region [.a 16 7 2, .o 17 (.call (.func 14) [.t 16]), .m 18 17, .n 19 18 (.mv (.t 1)), .n
  20 18 (.len (.t 19)), .n 21 18 (.bin .gtr (.t 20) (.i 40)), .o 22 (.pick (.t 18) (.b true) (.t 21))]) (.cond (.t 22) (.seq (.region [.o 23 (.call (.func 15) []), .m 4 23]) .ret)
  .skip)) (.seq (.region [.a 25 7 2, .m 26 1, .o 27 (.call (.func 31) [.t 25, .t 26]), .m 24 27, .e 28 24 0, .e 29 24 1, .m 5 28, .m 6 29]) (.seq (.region [.a 31 7 2, .m 32 1, .o
  33 (.call (.func 32) [.t 31, .t 32]), .m 30 33, .e 34 30 0, .e 35 30 1, .m 7 34, .m 8 35]) (.seq (.seq (.region [.m 36 5, .m 37 7, .o 38 (.bin .neq (.t 36) (.t 37)), .m 39 38,
  .n 40 39 (.mv (.t 6)), .n 41 39 (.mv (.t 8)), .n 42 39 (.bin .neq (.t 40) (.t 41)), .o 43 (.pick (.t 39) (.b true) (.t 42))]) (.cond (.t 43) (.seq (.region [.o 4 (.mv (.b
  false))]) .ret) .skip)) (.seq (.region [.a 45 7 2, .o 46 (.call (.func 33) [.t 45]), .m 44 46, .e 47 44 0, .e 48 44 1, .m 9 47, .m 10 48]) (.seq (.region [.a 50 7 2, .o 51
  (.call (.func 27) [.t 50]), .m 49 51, .e 52 49 0, .e 53 49 1, .e 54 49 2, .m 11 52, .m 12 53, .m 13 54]) (.seq (.seq (.region [.m 55 10, .m 56 13, .o 57 (.bin .neq (.t 55) (.t
  56))]) (.cond (.t 57) (.seq (.region [.o 4 (.mv (.b false))]) .ret) .skip)) (.seq (.seq (.region [.m 58 10, .o 59 (.bin .neq (.t 58) (.i 0))]) (.cond (.t 59) (.seq (.region [.m
  60 9, .o 61 (.len (.t 60)), .o 62 (.bin .eql (.t 61) (.i 0)), .m 63 62, .y 64 63 (.call (.func 15) []), .o 65 (.pick (.t 63) (.t 64) (.b false)), .m 4 65]) .ret) .skip)) (.seq
  (.region [.a 67 7 2, .m 68 9, .o 69 (.call (.func 32) [.t 67, .t 68]), .m 66 69, .e 70 66 0, .e 71 66 1, .m 14 70, .m 15 71]) (.seq (.region [.m 72 15, .o 73 (.bin .eql (.t 72)
  (.i 0)), .m 74 73, .y 75 74 (.mv (.t 14)), .y 76 74 (.mv (.t 12)), .y 77 74 (.bin .eql (.t 75) (.t 76)), .o 78 (.pick (.t 74) (.t 77) (.b false)), .m 79 78, .y 80 79 (.call
  (.func 15) []), .o 81 (.pick (.t 79) (.t 80) (.b false)), .m 4 81]) .ret)))))))))))⟩
def af7 : AFn := ⟨248, [(.tmp 8)], (.seq (.region [.o 4 (.box (.t 0)), .o 8 (.mv (.b false))]) (.seq (.seq (.region [.a 31 7 4, .o 32 (.call (.func 34) [.t 31]), .o 33 (.un .not (.t 32)), .m 34 33,
   .n 35 34 (.mv (.t 1)), .n 36 34 (.len (.t 35)), .n 37 34 (.bin .gtr (.t 36) (.i 40)), .o 38 (.pick (.t 34) (.b true) (.t 37)), .m 39 38, .n 40 39 (.mv (.t 2)), .n 41 39 (.len
  (.t 40)), .n 42 39 (.bin .gtr (.t 41) (.i 60)), .o 43 (.pick (.t 39) (.b true) (.t 42)), .m 44 43, .n 45 44 (.mv (.t 3)), .n 46 44 (.len (.t 45)), .n 47 44 (.bin .gtr (.t 46)
  (.i 40)), .o 48 (.pick (.t 44) (.b true) (.t 47))]) (.cond (.t 48) (.seq (.region [.o 49 (.call (.func 15) []), .m 8 49]) .ret) .skip)) (.seq (.region [.a 51 7 4, .o 52 (.call
  (.func 26) [.t 51]), .m 50 52, .e 53 50 0, .e 54 50 1, .e 55 50 2, .m 9 53, .m 10 54, .m 11 55]) (.seq (.region [.a 56 7 4, .m 57 1, .o 58 (.call (.func 35) [.t 56, .t 57]), .m
  59 3, .m 60 9, .o 61 (.bslice [(.slc none 0 0 true 0), (.slc none 0 0 true 0), (.slc none 0 0 true 0)] 3 1 [(0, (1, (.t 58))), (1, (1, (.t 59))), (2, (1, (.t 60)))]), .m 12 61])
  (.seq (.region [.a 63 7 4, .m 64 2, .o 65 (.call (.func 36) [.t 63, .t 64]), .m 62 65, .e 66 62 0, .e 67 62 1, .m 13 66, .m 14 67]) (.seq (.region [.o 15 (.mv (.const (.slc none
  0 0 true 0))), .o 16 (.mv (.const (.slc none 0 0 true 0)))]) (.seq (.seq (.region [.o 17 (.mv (.i 0))]) (.block 0 (.loop (.seq (.seq (.region [.m 68 17, .f 69 5 4, .l 70 69, .o
  71 (.len (.t 70)), .o 72 (.bin .lss (.t 68) (.t 71))]) (.cond (.t 72) .skip (.exit 0))) (.seq (.block 1 (.draw [.m 75 15, .f 76 5 4, .l 77 76, .m 78 17, .o 79 (.iaddrS 2 (.t 77)
  (.t 78)), .f 80 0 79, .l 81 80, .o 82 (.bslice [(.int .i64 0)] 1 1 [(0, (1, (.t 81)))]), .o 83 (.app 1 8 (.t 75) (.t 82)), .m 84 16, .f 85 5 4, .l 86 85, .m 87 17, .o 88
  (.iaddrS 2 (.t 86) (.t 87)), .f 89 1 88, .l 90 89, .o 91 (.bslice [(.int .i64 0)] 1 1 [(0, (1, (.t 90)))]), .o 92 (.app 1 8 (.t 84) (.t 91)), .m 15 83, .m 16 92] [(7, 11), (8,
  11), (7, 15), (8, 15), (2, 16), (6, 16), (7, 16), (8, 16)])) (.region [.m 73 17, .o 74 (.bin .add (.t 73) (.i 1)), .m 17 74])))))) (.seq (.seq (.region [.m 93 11, .o 94 (.bin
  .eql (.t 93) (.i 0)), .m 95 94, .y 96 95 (.load (some 7) (.t 4)), .y 97 95 (.call (.func 21) [.t 96]), .y 98 95 (.bin .eql (.t 97) (.i 0)), .o 99 (.pick (.t 95) (.t 98) (.b
  false))]) (.cond (.t 99) (.seq (.region [.a 101 7 4, .m 102 9, .o 103 (.call (.func 18) [.t 101, .t 102]), .m 100 103, .e 104 100 0, .e 105 100 1, .m 18 104, .m 19 105]) (.seq
  (.region [.m 106 19, .o 107 (.bin .neq (.t 106) (.i 0))]) (.cond (.t 107) (.seq (.region [.o 8 (.mv (.b false))]) .ret) .skip))) .skip)) (.seq (.seq (.region [.o 20 (.mv (.i
  0))]) (.block 2 (.loop (.seq (.seq (.region [.m 108 20, .o 109 (.bin .lss (.t 108) (.i 3))]) (.cond (.t 109) .skip (.exit 2))) (.seq (.block 3 (.seq (.draw [.a 113 7 4, .m 114
  12, .m 115 20, .o 116 (.iaddrS 1 (.t 114) (.t 115)), .l 117 116, .o 118 (.call (.func 18) [.t 113, .t 117]), .m 112 118, .e 119 112 0, .e 120 112 1, .m 21 119, .m 22 120] [])
  (.seq (.seq (.region [.m 121 22, .o 122 (.bin .eql (.t 121) (.i 0))]) (.cond (.t 122) (.seq (.draw [.a 124 7 4, .m 125 12, .m 126 20, .o 127 (.iaddrS 1 (.t 125) (.t 126)), .l
  128 127, .m 129 13, .m 130 14, .o 131 (.call (.func 23) [.t 124, .t 128, .t 129, .t 130]), .m 123 131, .e 132 123 0, .e 133 123 1, .m 23 132, .m 24 133] []) (.seq (.seq (.region
  [.m 134 24, .o 135 (.bin .neq (.t 134) (.i 0)), .m 136 135, .n 137 136 (.mv (.t 23)), .n 138 136 (.len (.t 137)), .n 139 136 (.faddr 5 (.t 4)), .n 140 136 (.load none (.t 139)),
  .n 141 136 (.len (.t 140)), .n 142 136 (.bin .neq (.t 138) (.t 141)), .o 143 (.pick (.t 136) (.b true) (.t 142)), .m 144 143, .n 145 144 (.mv (.t 12)), .n 146 144 (.mv (.t 20)),
  .n 147 144 (.iaddrS 1 (.t 145) (.t 146)), .n 148 144 (.load none (.t 147)), .n 149 144 (.len (.t 148)), .n 150 144 (.mv (.t 23)), .n 151 144 (.len (.t 150)), .n 152 144 (.bin
  .neq (.t 149) (.t 151)), .o 153 (.pick (.t 144) (.b true) (.t 152))]) (.cond (.t 153) (.seq (.region [.o 8 (.mv (.b false))]) .ret) .skip)) (.seq (.region [.m 154 13, .m 25
  154]) (.seq (.region [.o 26 (.mv (.i 0))]) (.block 4 (.loop (.seq (.seq (.region [.m 155 26, .m 156 23, .o 157 (.len (.t 156)), .o 158 (.bin .lss (.t 155) (.t 157))]) (.cond (.t
  158) .skip (.exit 4))) (.seq (.block 5 (.seq (.draw [.m 161 25, .m 162 12, .m 163 20, .o 164 (.iaddrS 1 (.t 162) (.t 163)), .l 165 164, .m 166 26, .o 167 (.iaddrS 1 (.t 165) (.t
  166)), .l 168 167, .f 169 1 4, .l 170 169, .o 171 (.bin .mul (.t 168) (.t 170)), .o 172 (.bin .add (.t 161) (.t 171)), .m 25 172] []) (.seq (.seq (.draw [.m 173 25, .f 174 0 4,
  .l 175 174, .o 176 (.bin .gtr (.t 173) (.t 175)), .m 177 176, .n 178 177 (.mv (.t 25)), .n 179 177 (.mv (.t 14)), .n 180 177 (.mv (.t 26)), .n 181 177 (.iaddrS 1 (.t 179) (.t
  180)), .n 182 177 (.load none (.t 181)), .n 183 177 (.bin .sub (.t 178) (.t 182)), .n 184 177 (.mv (.t 23)), .n 185 177 (.mv (.t 26)), .n 186 177 (.iaddrS 1 (.t 184) (.t 185)),
  .n 187 177 (.load none (.t 186)), .n 188 177 (.bin .neq (.t 183) (.t 187)), .o 189 (.pick (.t 177) (.b true) (.t 188)), .m 190 189, .n 191 190 (.mv (.t 23)), .n 192 190 (.mv (.t
  26)), .n 193 190 (.iaddrS 1 (.t 191) (.t 192)), .n 194 190 (.load none (.t 193)), .n 195 190 (.bin .lss (.t 194) (.i 0)), .o 196 (.pick (.t 190) (.b true) (.t 195))] []) (.cond
  (.t 196) (.seq (.region [.o 8 (.mv (.b false))]) .ret) .skip)) (.region [.m 197 23, .m 198 26, .o 199 (.iaddrS 1 (.t 197) (.t 198)), .l 200 199, .m 25 200])))) (.region [.m 159
  26, .o 160 (.bin .add (.t 159) (.i 1)), .m 26 160]))))))))) .skip)) (.seq (.region [.m 201 22, .o 202 (.bin .eql (.t 201) (.i 10)), .m 203 202, .n 204 203 (.mv (.t 22)), .n 205
  203 (.bin .eql (.t 204) (.i 20)), .o 206 (.pick (.t 203) (.b true) (.t 205))]) (.cond (.t 206) (.seq (.draw [.a 208 7 4, .m 209 12, .m 210 20, .o 211 (.iaddrS 1 (.t 209) (.t
  210)), .l 212 211, .f 213 3 4, .f 214 1 213, .l 215 214, .m 216 15, .o 217 (.call (.func 23) [.t 208, .t 212, .t 215, .t 216]), .m 207 217, .e 218 207 0, .e 219 207 1, .m 27 218,
   .m 28 219] []) (.seq (.draw [.a 221 7 4, .m 222 12, .m 223 20, .o 224 (.iaddrS 1 (.t 222) (.t 223)), .l 225 224, .f 226 3 4, .f 227 0 226, .l 228 227, .m 229 16, .o 230 (.call
  (.func 23) [.t 221, .t 225, .t 228, .t 229]), .m 220 230, .e 231 220 0, .e 232 220 1, .m 29 231, .m 30 232] []) (.seq (.region [.m 233 22, .o 234 (.bin .eql (.t 233) (.i 10)),
  .m 235 234, .y 236 235 (.mv (.t 28)), .y 237 235 (.bin .neq (.t 236) (.i 10)), .o 238 (.pick (.t 235) (.t 237) (.b false)), .m 239 238, .n 240 239 (.mv (.t 22)), .n 241 239
  (.bin .eql (.t 240) (.i 20)), .n 242 239 (.mv (.t 241)), .y 243 242 (.mv (.t 30)), .y 244 242 (.bin .neq (.t 243) (.i 20)), .n 245 239 (.pick (.t 242) (.t 244) (.b false)), .o
  246 (.pick (.t 239) (.b true) (.t 245))]) (.cond (.t 246) (.seq (.region [.o 8 (.mv (.b false))]) .ret) .skip)))) .skip))))) (.region [.m 110 20, .o 111 (.bin .add (.t 110) (.i
  1)), .m 20 111])))))) (.seq (.region [.o 247 (.call (.func 15) []), .m 8 247]) .ret))))))))))⟩
def af8 : AFn := ⟨201, [(.tmp 8)], (.seq (.region [.o 4 (.box (.t 0)), .o 8 (.mv (.b false))]) (.seq (.seq (.region [.a 29 7 4, .o 30 (.call (.func 34) [.t 29]), .o 31 (.un .not (.t 30)), .m 32 31,
   .n 33 32 (.mv (.t 1)), .n 34 32 (.len (.t 33)), .n 35 32 (.bin .gtr (.t 34) (.i 40)), .o 36 (.pick (.t 32) (.b true) (.t 35)), .m 37 36, .n 38 37 (.mv (.t 2)), .n 39 37 (.len
  (.t 38)), .n 40 37 (.bin .gtr (.t 39) (.i 40)), .o 41 (.pick (.t 37) (.b true) (.t 40)), .m 42 41, .n 43 42 (.mv (.t 3)), .n 44 42 (.len (.t 43)), .n 45 42 (.bin .gtr (.t 44)
  (.i 60)), .o 46 (.pick (.t 42) (.b true) (.t 45))]) (.cond (.t 46) (.seq (.region [.o 47 (.call (.func 15) []), .m 8 47]) .ret) .skip)) (.seq (.region [.o 9 (.mv (.const (.slc
  none 0 0 true 0)))]) (.seq (.seq (.region [.o 10 (.mv (.i 0))]) (.block 0 (.loop (.seq (.seq (.region [.m 48 10, .f 49 5 4, .l 50 49, .o 51 (.len (.t 50)), .o 52 (.bin .lss (.t
  48) (.t 51))]) (.cond (.t 52) .skip (.exit 0))) (.seq (.block 1 (.seq (.region [.o 11 (.mv (.i 0))]) (.seq (.seq (.region [.m 55 3, .o 56 (.len (.t 55)), .o 57 (.bin .gtr (.t
  56) (.i 0))]) (.cond (.t 57) (.region [.m 58 3, .m 59 10, .m 60 3, .o 61 (.len (.t 60)), .o 62 (.bin .rem (.t 59) (.t 61)), .o 63 (.iaddrS 1 (.t 58) (.t 62)), .l 64 63, .o 65
  (.conv .i64 (.t 64)), .o 66 (.bin .rem (.t 65) (.i 100001)), .m 11 66]) .skip)) (.region [.m 67 9, .m 68 11, .o 69 (.bslice [(.int .i64 0)] 1 1 [(0, (1, (.t 68)))]), .o 70 (.app
  1 8 (.t 67) (.t 69)), .m 9 70])))) (.region [.m 53 10, .o 54 (.bin .add (.t 53) (.i 1)), .m 10 54])))))) (.seq (.region [.a 72 7 4, .m 73 9, .o 74 (.call (.func 31) [.t 72, .t
  73]), .m 71 74, .e 75 71 0, .e 76 71 1, .m 12 75, .m 13 76]) (.seq (.region [.a 78 7 4, .o 79 (.call (.func 26) [.t 78]), .m 77 79, .e 80 77 0, .e 81 77 1, .e 82 77 2, .m 14 80,
  .m 15 81, .m 16 82]) (.seq (.seq (.region [.m 83 13, .o 84 (.bin .neq (.t 83) (.i 0)), .m 85 84, .n 86 85 (.mv (.t 16)), .n 87 85 (.bin .neq (.t 86) (.i 0)), .n 88 85 (.mv (.t
  87)), .y 89 88 (.mv (.t 16)), .y 90 88 (.bin .neq (.t 89) (.i 13)), .n 91 85 (.pick (.t 88) (.t 90) (.b false)), .o 92 (.pick (.t 85) (.b true) (.t 91))]) (.cond (.t 92) (.seq
  (.region [.o 8 (.mv (.b false))]) .ret) .skip)) (.seq (.region [.a 93 7 4, .m 94 1, .o 95 (.call (.func 35) [.t 93, .t 94]), .m 96 2, .o 97 (.bslice [(.slc none 0 0 true 0),
  (.slc none 0 0 true 0)] 2 1 [(0, (1, (.t 95))), (1, (1, (.t 96)))]), .m 17 97]) (.seq (.seq (.region [.o 18 (.mv (.i 0))]) (.block 2 (.loop (.seq (.seq (.region [.m 98 18, .o 99
  (.bin .lss (.t 98) (.i 2))]) (.cond (.t 99) .skip (.exit 2))) (.seq (.block 3 (.seq (.draw [.a 103 7 4, .m 104 17, .m 105 18, .o 106 (.iaddrS 1 (.t 104) (.t 105)), .l 107 106,
  .o 108 (.call (.func 18) [.t 103, .t 107]), .m 102 108, .e 109 102 0, .e 110 102 1, .m 19 109, .m 20 110] []) (.seq (.seq (.region [.m 111 20, .o 112 (.bin .neq (.t 111) (.i
  0))]) (.cond (.t 112) (.exit 3) .skip)) (.seq (.region [.m 113 16, .o 114 (.bin .neq (.t 113) (.i 0)), .m 115 114, .n 116 115 (.mv (.t 19)), .n 117 115 (.mv (.t 12)), .n 118 115
  (.bin .lss (.t 116) (.t 117)), .o 119 (.pick (.t 115) (.b true) (.t 118)), .m 120 119, .n 121 120 (.mv (.t 19)), .n 122 120 (.mv (.t 15)), .n 123 120 (.bin .lss (.t 121) (.t
  122)), .o 124 (.pick (.t 120) (.b true) (.t 123)), .m 125 124, .n 126 125 (.mv (.t 19)), .n 127 125 (.mv (.t 15)), .n 128 125 (.bin .eql (.t 126) (.t 127)), .n 129 125 (.mv (.t
  128)), .y 130 129 (.mv (.t 17)), .y 131 129 (.mv (.t 18)), .y 132 129 (.iaddrS 1 (.t 130) (.t 131)), .y 133 129 (.load none (.t 132)), .y 134 129 (.mv (.t 14)), .y 135 129
  (.call (.func 37) [.t 133, .t 134]), .n 136 125 (.pick (.t 129) (.t 135) (.b false)), .o 137 (.pick (.t 125) (.b true) (.t 136))]) (.cond (.t 137) (.seq (.region [.o 8 (.mv (.b
  false))]) .ret) .skip))))) (.region [.m 100 18, .o 101 (.bin .add (.t 100) (.i 1)), .m 18 101])))))) (.seq (.seq (.region [.m 138 16, .o 139 (.bin .neq (.t 138) (.i 0))]) (.cond
  (.t 139) (.seq (.region [.o 140 (.call (.func 15) []), .m 8 140]) .ret) .skip)) (.seq (.region [.a 142 7 4, .o 143 (.call (.func 33) [.t 142]), .m 141 143, .e 144 141 0, .e 145
  141 1, .m 21 144, .m 22 145]) (.seq (.region [.a 147 7 4, .m 148 21, .o 149 (.call (.func 31) [.t 147, .t 148]), .m 146 149, .e 150 146 0, .e 151 146 1, .m 23 150, .m 24 151])
  (.seq (.region [.a 153 7 4, .m 154 21, .o 155 (.call (.func 32) [.t 153, .t 154]), .m 152 155, .e 156 152 0, .e 157 152 1, .m 25 156, .m 26 157]) (.seq (.region [.a 159 7 4, .m
  160 14, .o 161 (.call (.func 19) [.t 159, .t 160]), .m 158 161, .e 162 158 0, .e 163 158 1, .m 27 162, .m 28 163]) (.seq (.region [.m 164 22, .o 165 (.bin .eql (.t 164) (.i 0)),
  .m 166 165, .y 167 166 (.mv (.t 24)), .y 168 166 (.bin .eql (.t 167) (.i 0)), .o 169 (.pick (.t 166) (.t 168) (.b false)), .m 170 169, .y 171 170 (.mv (.t 26)), .y 172 170 (.bin
  .eql (.t 171) (.i 0)), .o 173 (.pick (.t 170) (.t 172) (.b false)), .m 174 173, .y 175 174 (.mv (.t 28)), .y 176 174 (.bin .eql (.t 175) (.i 0)), .o 177 (.pick (.t 174) (.t 176)
  (.b false)), .m 178 177, .y 179 178 (.mv (.t 23)), .y 180 178 (.mv (.t 15)), .y 181 178 (.bin .eql (.t 179) (.t 180)), .o 182 (.pick (.t 178) (.t 181) (.b false)), .m 183 182,
  .y 184 183 (.mv (.t 25)), .y 185 183 (.mv (.t 15)), .y 186 183 (.bin .eql (.t 184) (.t 185)), .o 187 (.pick (.t 183) (.t 186) (.b false)), .m 188 187, .y 189 188 (.mv (.t 27)),
  .y 190 188 (.mv (.t 15)), .y 191 188 (.bin .eql (.t 189) (.t 190)), .o 192 (.pick (.t 188) (.t 191) (.b false)), .m 193 192, .y 194 193 (.mv (.t 12)), .y 195 193 (.mv (.t 15)),
  .y 196 193 (.bin .leq (.t 194) (.t 195)), .o 197 (.pick (.t 193) (.t 196) (.b false)), .m 198 197, .y 199 198 (.call (.func 15) []), .o 200 (.pick (.t 198) (.t 199) (.b false)),
  .m 8 200]) .ret)))))))))))))))⟩
def af9 : AFn := ⟨117, [(.tmp 4)], (.seq (.region [.o 2 (.box (.t 0)), .o 4 (.mv (.b false))]) (.seq (.seq (.region [.a 16 7 2, .o 17 (.call (.func 34) [.t 16]), .o 18 (.un .not (.t 17)), .m 19 18,
   .n 20 19 (.mv (.t 1)), .n 21 19 (.len (.t 20)), .n 22 19 (.bin .gtr (.t 21) (.i 40)), .o 23 (.pick (.t 19) (.b true) (.t 22))]) (.cond (.t 23) (.seq (.region [.o 24 (.call
  (.func 15) []), .m 4 24]) .ret) .skip)) (.seq (.region [.a 26 7 2, .o 27 (.call (.func 28) [.t 26]), .m 25 27, .e 28 25 0, .e 29 25 1, .e 30 25 2, .m 5 28, .m 6 29, .m 7 30])
  (.seq (.region [.a 32 7 2, .o 33 (.call (.func 26) [.t 32]), .m 31 33, .e 34 31 0, .e 35 31 1, .e 36 31 2, .m 8 34, .m 9 35, .m 10 36]) (.seq (.draw [.a 38 7 2, .a 39 7 2, .m 40
  1, .o 41 (.call (.func 35) [.t 39, .t 40]), .o 42 (.call (.func 18) [.t 38, .t 41]), .m 37 42, .e 43 37 0, .e 44 37 1, .m 11 43, .m 12 44] [(0, 3)]) (.seq (.region [.a 46 7 2,
  .o 47 (.call (.func 16) [.t 46]), .m 45 47, .e 48 45 0, .e 49 45 1, .m 13 48, .m 14 49]) (.seq (.seq (.region [.m 50 14, .o 51 (.bin .neq (.t 50) (.i 0)), .m 52 51, .n 53 52
  (.mv (.t 13)), .n 54 52 (.len (.t 53)), .n 55 52 (.faddr 5 (.t 2)), .n 56 52 (.load none (.t 55)), .n 57 52 (.len (.t 56)), .n 58 52 (.bin .neq (.t 54) (.t 57)), .o 59 (.pick
  (.t 52) (.b true) (.t 58))]) (.cond (.t 59) (.seq (.region [.o 4 (.mv (.b false))]) .ret) .skip)) (.seq (.seq (.region [.m 60 7, .o 61 (.bin .eql (.t 60) (.i 5))]) (.cond (.t
  61) (.seq (.region [.m 62 10, .o 63 (.bin .eql (.t 62) (.i 0)), .m 64 63, .y 65 64 (.call (.func 15) []), .o 66 (.pick (.t 64) (.t 65) (.b false)), .m 4 66]) .ret) .skip)) (.seq
  (.seq (.region [.m 67 7, .o 68 (.bin .neq (.t 67) (.i 0)), .m 69 68, .n 70 69 (.mv (.t 10)), .n 71 69 (.bin .neq (.t 70) (.i 13)), .o 72 (.pick (.t 69) (.b true) (.t 71)), .m 73
  72, .n 74 73 (.mv (.t 12)), .n 75 73 (.bin .eql (.t 74) (.i 0)), .o 76 (.pick (.t 73) (.b true) (.t 75)), .m 77 76, .n 78 77 (.mv (.t 5)), .n 79 77 (.bin .lss (.t 78) (.i (-1))),
   .o 80 (.pick (.t 77) (.b true) (.t 79)), .m 81 80, .n 82 81 (.mv (.t 6)), .n 83 81 (.mv (.t 5)), .n 84 81 (.mnx true [.i 0, .t 83]), .n 85 81 (.bin .lss (.t 82) (.t 84)), .o 86
  (.pick (.t 81) (.b true) (.t 85)), .m 87 86, .n 88 87 (.mv (.t 6)), .n 89 87 (.mv (.t 13)), .n 90 87 (.len (.t 89)), .n 91 87 (.bin .geq (.t 88) (.t 90)), .o 92 (.pick (.t 87)
  (.b true) (.t 91))]) (.cond (.t 92) (.seq (.region [.o 4 (.mv (.b false))]) .ret) .skip)) (.seq (.region [.o 15 (.mv (.i 0))]) (.seq (.seq (.region [.m 93 5, .o 94 (.bin .geq
  (.t 93) (.i 0))]) (.cond (.t 94) (.region [.m 95 13, .m 96 5, .o 97 (.iaddrS 2 (.t 95) (.t 96)), .f 98 1 97, .l 99 98, .m 15 99]) .skip)) (.seq (.draw [.m 100 13, .m 101 6, .o
  102 (.iaddrS 2 (.t 100) (.t 101)), .f 103 0 102, .l 104 103, .m 105 15, .f 106 2 2, .l 107 106, .m 108 6, .m 109 5, .o 110 (.bin .sub (.t 108) (.t 109)), .o 111 (.bin .mul (.t
  107) (.t 110)), .o 112 (.bin .add (.t 105) (.t 111)), .o 113 (.bin .gtr (.t 104) (.t 112)), .m 114 113, .y 115 114 (.call (.func 15) []), .o 116 (.pick (.t 114) (.t 115) (.b
  false)), .m 4 116] []) .ret))))))))))))⟩
def af10 : AFn := ⟨164, [(.tmp 12)], (.seq (.region [.o 6 (.box (.t 0)), .o 7 (.box (.t 1)), .o 12 (.mv (.b false))]) (.seq (.seq (.region [.a 31 7 6, .o 32 (.call (.func 34) [.t 31]), .o 33 (.un
  .not (.t 32)), .m 34 33, .n 35 34 (.mv (.t 5)), .n 36 34 (.len (.t 35)), .n 37 34 (.bin .gtr (.t 36) (.i 40)), .o 38 (.pick (.t 34) (.b true) (.t 37))]) (.cond (.t 38) (.seq
  (.region [.o 39 (.call (.func 15) []), .m 12 39]) .ret) .skip)) (.seq (.draw [.a 40 7 6, .a 41 7 6, .a 42 7 6, .a 43 7 6, .o 13 (.alloc [(.int .i64 0), (.int .i64 0), (.int .i64
  0), (.int .i64 0), (.int .i64 0), (.slc none 0 0 true 0), (.slc none 0 0 true 0)]), .o 14 (.alloc [(.int .i64 0), (.int .i64 0), (.int .i64 0), (.int .i64 0), (.int .i64 0),
  (.slc none 0 0 true 0), (.slc none 0 0 true 0)]), .o 15 (.alloc [(.int .i64 0), (.int .i64 0), (.int .i64 0), (.int .i64 0), (.int .i64 0), (.slc none 0 0 true 0), (.slc none 0
  0 true 0)]), .o 16 (.alloc [(.int .i64 0), (.int .i64 0), (.int .i64 0), (.int .i64 0), (.int .i64 0), (.slc none 0 0 true 0), (.slc none 0 0 true 0)]), .s 7 13 40, .s 7 14 41,
  .s 7 15 42, .s 7 16 43] [(0, 4), (1, 4), (2, 4), (3, 4), (0, 5), (1, 5), (2, 5), (3, 5), (4, 5), (0, 6), (1, 6), (2, 6), (3, 6), (4, 6), (5, 6), (0, 7), (1, 7), (2, 7), (3, 7),
  (4, 7), (5, 7), (6, 7), (1, 8), (2, 8), (3, 8), (2, 9), (3, 9), (3, 10)]) (.seq (.region [.f 44 3 6, .a 45 2 44, .o 46 (.iaddrA 4 1 (.t 7) (.i 0)), .l 47 46, .o 48 (.iaddrA 4 1
  (.t 7) (.i 1)), .l 49 48, .o 50 (.call (.func 38) [.t 45, .t 47, .t 49]), .f 51 3 13, .s 2 51 50]) (.seq (.region [.o 52 (.bslice [] 0 2 []), .f 53 5 6, .l 54 53, .o 55 (.app 2
  16 (.t 52) (.t 54)), .f 56 5 14, .s 1 56 55]) (.seq (.region [.m 57 2, .o 58 (.conv .i64 (.t 57)), .f 59 5 6, .l 60 59, .o 61 (.len (.t 60)), .o 62 (.bin .rem (.t 58) (.t 61)),
  .m 17 62]) (.seq (.draw [.f 63 5 14, .l 64 63, .m 65 17, .f 66 5 6, .l 67 66, .m 68 17, .o 69 (.iaddrS 2 (.t 67) (.t 68)), .a 70 2 69, .o 71 (.iaddrA 4 1 (.t 7) (.i 2)), .l 72
  71, .o 73 (.iaddrA 4 1 (.t 7) (.i 3)), .l 74 73, .o 75 (.call (.func 38) [.t 70, .t 72, .t 74]), .o 76 (.iaddrS 2 (.t 64) (.t 65)), .s 2 76 75] [(1, 12)]) (.seq (.region [.f 77
  0 6, .l 78 77, .m 79 3, .o 80 (.conv .i64 (.t 79)), .o 81 (.bin .add (.t 78) (.t 80)), .o 82 (.mnx false [.i 100000, .t 81]), .f 83 0 15, .s 1 83 82]) (.seq (.region [.f 84 2 6,
  .l 85 84, .m 86 4, .o 87 (.conv .i64 (.t 86)), .o 88 (.bin .add (.t 85) (.t 87)), .o 89 (.mnx false [.i 10, .t 88]), .f 90 2 16, .s 1 90 89]) (.seq (.region [.a 92 7 6, .o 93
  (.call (.func 26) [.t 92]), .m 91 93, .e 94 91 0, .e 95 91 1, .e 96 91 2, .m 18 94, .m 19 95, .m 20 96]) (.seq (.region [.a 97 7 6, .m 98 5, .o 99 (.call (.func 35) [.t 97, .t
  98]), .m 21 99]) (.seq (.region [.a 101 7 6, .m 102 21, .o 103 (.call (.func 18) [.t 101, .t 102]), .m 100 103, .e 104 100 0, .e 105 100 1, .m 22 104, .m 23 105]) (.seq (.region
  [.a 106 7 13, .a 107 7 14, .a 108 7 15, .a 109 7 16, .o 110 (.bslice [(.int .i64 0), (.int .i64 0), (.int .i64 0), (.int .i64 0), (.int .i64 0), (.slc none 0 0 true 0), (.slc
  none 0 0 true 0), (.int .i64 0), (.int .i64 0), (.int .i64 0), (.int .i64 0), (.int .i64 0), (.slc none 0 0 true 0), (.slc none 0 0 true 0), (.int .i64 0), (.int .i64 0), (.int
  .i64 0), (.int .i64 0), (.int .i64 0), (.slc none 0 0 true 0), (.slc none 0 0 true 0), (.int .i64 0), (.int .i64 0), (.int .i64 0), (.int .i64 0), (.int .i64 0), (.slc none 0 0
  true 0), (.slc none 0 0 true 0)] 4 7 [(0, (7, (.t 106))), (7, (7, (.t 107))), (14, (7, (.t 108))), (21, (7, (.t 109)))]), .m 24 110]) (.seq (.seq (.region [.o 25 (.mv (.i 0))])
  (.block 0 (.loop (.seq (.seq (.region [.m 111 25, .o 112 (.bin .lss (.t 111) (.i 4))]) (.cond (.t 112) .skip (.exit 0))) (.seq (.block 1 (.seq (.region [.m 116 24, .m 117 25, .o
  118 (.iaddrS 7 (.t 116) (.t 117)), .a 119 7 118, .o 120 (.call (.func 26) [.t 119]), .m 115 120, .e 121 115 0, .e 122 115 1, .e 123 115 2, .m 26 121, .m 27 122, .m 28 123])
  (.seq (.seq (.region [.m 124 20, .o 125 (.bin .eql (.t 124) (.i 0)), .m 126 125, .y 127 126 (.mv (.t 28)), .y 128 126 (.bin .neq (.t 127) (.i 0)), .y 129 126 (.mv (.t 128)), .n
  130 129 (.mv (.t 27)), .n 131 129 (.mv (.t 19)), .n 132 129 (.bin .gtr (.t 130) (.t 131)), .y 133 126 (.pick (.t 129) (.b true) (.t 132)), .o 134 (.pick (.t 126) (.t 133) (.b
  false)), .m 135 134, .n 136 135 (.mv (.t 28)), .n 137 135 (.bin .neq (.t 136) (.i 0)), .n 138 135 (.mv (.t 137)), .y 139 138 (.mv (.t 28)), .y 140 138 (.bin .neq (.t 139) (.i
  13)), .n 141 135 (.pick (.t 138) (.t 140) (.b false)), .o 142 (.pick (.t 135) (.b true) (.t 141))]) (.cond (.t 142) (.seq (.region [.o 12 (.mv (.b false))]) .ret) .skip)) (.seq
  (.region [.m 144 24, .m 145 25, .o 146 (.iaddrS 7 (.t 144) (.t 145)), .a 147 7 146, .m 148 21, .o 149 (.call (.func 18) [.t 147, .t 148]), .m 143 149, .e 150 143 0, .e 151 143 1,
   .m 29 150, .m 30 151]) (.seq (.region [.m 152 23, .o 153 (.bin .eql (.t 152) (.i 0)), .m 154 153, .y 155 154 (.mv (.t 30)), .y 156 154 (.bin .neq (.t 155) (.i 0)), .y 157 154
  (.mv (.t 156)), .n 158 157 (.mv (.t 29)), .n 159 157 (.mv (.t 22)), .n 160 157 (.bin .neq (.t 158) (.t 159)), .y 161 154 (.pick (.t 157) (.b true) (.t 160)), .o 162 (.pick (.t
  154) (.t 161) (.b false))]) (.cond (.t 162) (.seq (.region [.o 12 (.mv (.b false))]) .ret) .skip)))))) (.region [.m 113 25, .o 114 (.bin .add (.t 113) (.i 1)), .m 25 114]))))))
  (.seq (.region [.o 163 (.call (.func 15) []), .m 12 163]) .ret)))))))))))))))⟩
def af11 : AFn := ⟨176, [(.tmp 8)], (.seq (.region [.o 4 (.box (.t 0)), .o 8 (.mv (.b false))]) (.seq (.seq (.region [.a 27 7 4, .o 28 (.call (.func 34) [.t 27]), .o 29 (.un .not (.t 28))]) (.cond
  (.t 29) (.seq (.region [.o 30 (.call (.func 15) []), .m 8 30]) .ret) .skip)) (.seq (.region [.a 32 7 4, .o 33 (.call (.func 26) [.t 32]), .m 31 33, .e 34 31 0, .e 35 31 1, .e 36
  31 2, .m 9 34, .m 10 35, .m 11 36]) (.seq (.seq (.region [.m 37 11, .o 38 (.bin .neq (.t 37) (.i 0))]) (.cond (.t 38) (.seq (.region [.m 39 11, .o 40 (.bin .eql (.t 39) (.i 13)),
   .m 41 40, .y 42 41 (.call (.func 15) []), .o 43 (.pick (.t 41) (.t 42) (.b false)), .m 8 43]) .ret) .skip)) (.seq (.region [.m 44 1, .o 45 (.conv .i64 (.t 44)), .o 46 (.bin
  .rem (.t 45) (.i 9)), .o 47 (.bin .add (.i 1) (.t 46)), .m 12 47]) (.seq (.region [.m 48 3, .o 49 (.conv .i64 (.t 48)), .f 50 6 4, .l 51 50, .o 52 (.len (.t 51)), .o 53 (.bin
  .rem (.t 49) (.t 52)), .m 13 53]) (.seq (.draw [.a 54 7 4, .a 55 7 4, .a 56 7 4, .o 14 (.alloc [(.int .i64 0), (.int .i64 0), (.int .i64 0), (.int .i64 0), (.int .i64 0), (.slc
  none 0 0 true 0), (.slc none 0 0 true 0)]), .o 15 (.alloc [(.int .i64 0), (.int .i64 0), (.int .i64 0), (.int .i64 0), (.int .i64 0), (.slc none 0 0 true 0), (.slc none 0 0 true
  0)]), .o 16 (.alloc [(.int .i64 0), (.int .i64 0), (.int .i64 0), (.int .i64 0), (.int .i64 0), (.slc none 0 0 true 0), (.slc none 0 0 true 0)]), .s 7 14 54, .s 7 15 55, .s 7 16
  56] [(0, 3), (1, 3), (2, 3), (0, 4), (1, 4), (2, 4), (3, 4), (0, 5), (1, 5), (2, 5), (3, 5), (4, 5), (1, 6), (2, 6), (2, 7)]) (.seq (.region [.o 57 (.bslice [] 0 1 []), .f 58 6
  4, .l 59 58, .o 60 (.app 1 8 (.t 57) (.t 59)), .f 61 6 14, ⟨none, (.store 1 (.t 61) (.const (.slc none 0 0 true 0))), none⟩, .f 62 6 15, ⟨none, (.store 1 (.t 62) (.const (.slc
  none 0 0 true 0))), none⟩, .f 63 6 16, .s 1 63 60]) (.seq (.seq (.region [.o 17 (.mv (.i 0))]) (.block 0 (.loop (.seq (.seq (.region [.m 64 17, .f 65 6 4, .l 66 65, .o 67 (.len
  (.t 66)), .o 68 (.bin .lss (.t 64) (.t 67))]) (.cond (.t 68) .skip (.exit 0))) (.seq (.block 1 (.seq (.draw [.f 71 6 14, .l 72 71, .m 73 12, .f 74 6 4, .l 75 74, .m 76 17, .o 77
  (.iaddrS 1 (.t 75) (.t 76)), .l 78 77, .o 79 (.bin .mul (.t 73) (.t 78)), .o 80 (.bslice [(.int .i64 0)] 1 1 [(0, (1, (.t 79)))]), .o 81 (.app 1 8 (.t 72) (.t 80)), .f 82 6 14,
  .s 1 82 81] [(1, 9)]) (.draw [.f 83 6 15, .l 84 83, .f 85 6 4, .l 86 85, .m 87 17, .o 88 (.iaddrS 1 (.t 86) (.t 87)), .l 89 88, .m 90 2, .o 91 (.conv .i64 (.t 90)), .o 92 (.bin
  .add (.t 89) (.t 91)), .o 93 (.bslice [(.int .i64 0)] 1 1 [(0, (1, (.t 92)))]), .o 94 (.app 1 8 (.t 84) (.t 93)), .f 95 6 15, .s 1 95 94] [(1, 10)]))) (.region [.m 69 17, .o 70
  (.bin .add (.t 69) (.i 1)), .m 17 70])))))) (.seq (.region [.f 96 6 16, .l 97 96, .m 98 13, .o 99 (.iaddrS 1 (.t 97) (.t 98)), .l 100 99, .m 101 2, .o 102 (.conv .i64 (.t 101)),
  .o 103 (.bin .add (.t 100) (.t 102)), .o 104 (.iaddrS 1 (.t 97) (.t 98)), .s 1 104 103]) (.seq (.seq (.region [.a 105 7 14, .o 106 (.call (.func 34) [.t 105])]) (.cond (.t 106)
  (.seq (.region [.a 108 7 14, .o 109 (.call (.func 26) [.t 108]), .m 107 109, .e 110 107 0, .e 111 107 1, .e 112 107 2, .m 18 110, .m 19 111, .m 20 112]) (.seq (.region [.m 113
  20, .o 114 (.bin .neq (.t 113) (.i 0)), .m 115 114, .n 116 115 (.mv (.t 19)), .n 117 115 (.mv (.t 12)), .n 118 115 (.mv (.t 10)), .n 119 115 (.bin .mul (.t 117) (.t 118)), .n
  120 115 (.bin .neq (.t 116) (.t 119)), .o 121 (.pick (.t 115) (.b true) (.t 120)), .m 122 121, .n 123 122 (.mv (.t 9)), .n 124 122 (.mv (.t 18)), .n 125 122 (.call (.func 30)
  [.t 123, .t 124]), .n 126 122 (.un .not (.t 125)), .o 127 (.pick (.t 122) (.b true) (.t 126))]) (.cond (.t 127) (.seq (.region [.o 8 (.mv (.b false))]) .ret) .skip))) .skip))
  (.seq (.seq (.region [.a 128 7 15, .o 129 (.call (.func 34) [.t 128])]) (.cond (.t 129) (.seq (.region [.a 131 7 15, .o 132 (.call (.func 26) [.t 131]), .m 130 132, .e 133 130 0,
   .e 134 130 1, .e 135 130 2, .m 21 133, .m 22 134, .m 23 135]) (.seq (.region [.m 136 23, .o 137 (.bin .neq (.t 136) (.i 0)), .m 138 137, .n 139 138 (.mv (.t 22)), .n 140 138
  (.mv (.t 10)), .n 141 138 (.mv (.t 2)), .n 142 138 (.conv .i64 (.t 141)), .n 143 138 (.mv (.t 21)), .n 144 138 (.call (.func 39) [.t 143]), .n 145 138 (.bin .mul (.t 142) (.t
  144)), .n 146 138 (.bin .add (.t 140) (.t 145)), .n 147 138 (.bin .lss (.t 139) (.t 146)), .o 148 (.pick (.t 138) (.b true) (.t 147)), .m 149 148, .n 150 149 (.mv (.t 22)), .n
  151 149 (.mv (.t 10)), .n 152 149 (.mv (.t 2)), .n 153 149 (.conv .i64 (.t 152)), .n 154 149 (.mv (.t 9)), .n 155 149 (.call (.func 39) [.t 154]), .n 156 149 (.bin .mul (.t 153)
  (.t 155)), .n 157 149 (.bin .add (.t 151) (.t 156)), .n 158 149 (.bin .gtr (.t 150) (.t 157)), .o 159 (.pick (.t 149) (.b true) (.t 158))]) (.cond (.t 159) (.seq (.region [.o 8
  (.mv (.b false))]) .ret) .skip))) .skip)) (.seq (.seq (.region [.a 160 7 16, .o 161 (.call (.func 34) [.t 160])]) (.cond (.t 161) (.seq (.region [.a 163 7 16, .o 164 (.call
  (.func 26) [.t 163]), .m 162 164, .e 165 162 0, .e 166 162 1, .e 167 162 2, .m 24 165, .m 25 166, .m 26 167]) (.seq (.region [.m 168 26, .o 169 (.bin .neq (.t 168) (.i 0)), .m
  170 169, .n 171 170 (.mv (.t 25)), .n 172 170 (.mv (.t 10)), .n 173 170 (.bin .lss (.t 171) (.t 172)), .o 174 (.pick (.t 170) (.b true) (.t 173))]) (.cond (.t 174) (.seq
  (.region [.o 8 (.mv (.b false))]) .ret) .skip))) .skip)) (.seq (.region [.o 175 (.call (.func 15) []), .m 8 175]) .ret))))))))))))))⟩
def af12 : AFn := ⟨133, [(.tmp 6)], (.seq (.region [.o 3 (.box (.t 0)), .o 6 (.mv (.b false))]) (.seq (.seq (.region [.a 15 7 3, .o 16 (.call (.func 34) [.t 15]), .o 17 (.un .not (.t 16)), .m 18 17,
   .n 19 18 (.faddr 5 (.t 3)), .n 20 18 (.load none (.t 19)), .n 21 18 (.len (.t 20)), .n 22 18 (.bin .lss (.t 21) (.i 2)), .o 23 (.pick (.t 18) (.b true) (.t 22)), .m 24 23, .n
  25 24 (.mv (.t 1)), .n 26 24 (.len (.t 25)), .n 27 24 (.bin .gtr (.t 26) (.i 40)), .o 28 (.pick (.t 24) (.b true) (.t 27)), .m 29 28, .n 30 29 (.mv (.t 2)), .n 31 29 (.len (.t
  30)), .n 32 29 (.bin .gtr (.t 31) (.i 40)), .o 33 (.pick (.t 29) (.b true) (.t 32))]) (.cond (.t 33) (.seq (.region [.o 34 (.call (.func 15) []), .m 6 34]) .ret) .skip)) (.seq
  (.region [.a 35 7 3, .o 7 (.alloc [(.int .i64 0), (.int .i64 0), (.int .i64 0), (.int .i64 0), (.int .i64 0), (.slc none 0 0 true 0), (.slc none 0 0 true 0)]), .s 7 7 35]) (.seq
  (.draw [.f 36 3 3, .f 37 0 36, .l 38 37, .f 39 5 3, .l 40 39, .o 41 (.iaddrS 2 (.t 40) (.i 0)), .f 42 1 41, .l 43 42, .o 44 (.bin .sub (.t 38) (.t 43)), .f 45 3 3, .f 46 1 45,
  .l 47 46, .f 48 5 3, .l 49 48, .o 50 (.iaddrS 2 (.t 49) (.i 0)), .f 51 0 50, .l 52 51, .o 53 (.bin .sub (.t 47) (.t 52)), .o 54 (.call (.func 40) [.t 44, .t 53]), .f 55 3 7, .s
  2 55 54] []) (.seq (.draw [.f 56 5 3, .l 57 56, .o 58 (.slc 2 (.t 57) (some (.i 1)) none none), .f 59 6 3, .l 60 59, .o 61 (.slc 1 (.t 60) (some (.i 1)) none none), .f 62 5 7,
  .s 1 62 58, .f 63 6 7, .s 1 63 61] [(4, 7)]) (.seq (.region [.a 64 7 3, .m 65 1, .o 66 (.call (.func 35) [.t 64, .t 65]), .m 67 2, .o 68 (.bslice [(.slc none 0 0 true 0), (.slc
  none 0 0 true 0)] 2 1 [(0, (1, (.t 66))), (1, (1, (.t 67)))]), .m 8 68]) (.seq (.seq (.region [.o 9 (.mv (.i 0))]) (.block 0 (.loop (.seq (.seq (.region [.m 69 9, .o 70 (.bin
  .lss (.t 69) (.i 2))]) (.cond (.t 70) .skip (.exit 0))) (.seq (.block 1 (.seq (.region [.m 73 8, .m 74 9, .o 75 (.iaddrS 1 (.t 73) (.t 74)), .l 76 75, .m 10 76]) (.seq (.seq
  (.region [.m 77 10, .o 78 (.len (.t 77)), .f 79 5 3, .l 80 79, .o 81 (.len (.t 80)), .o 82 (.bin .neq (.t 78) (.t 81)), .m 83 82, .n 84 83 (.mv (.t 10)), .n 85 83 (.iaddrS 1 (.t
  84) (.i 0)), .n 86 83 (.load none (.t 85)), .n 87 83 (.bin .neq (.t 86) (.i 0)), .o 88 (.pick (.t 83) (.b true) (.t 87))]) (.cond (.t 88) (.exit 1) .skip)) (.seq (.region [.a 90
  7 3, .m 91 10, .o 92 (.call (.func 18) [.t 90, .t 91]), .m 89 92, .e 93 89 0, .e 94 89 1, .m 11 93, .m 12 94]) (.seq (.draw [.a 96 7 7, .m 97 10, .o 98 (.slc 1 (.t 97) (some (.i
  1)) none none), .o 99 (.call (.func 18) [.t 96, .t 98]), .m 95 99, .e 100 95 0, .e 101 95 1, .m 13 100, .m 14 101] []) (.seq (.region [.m 102 12, .o 103 (.bin .eql (.t 102) (.i
  0)), .m 104 103, .y 105 104 (.mv (.t 14)), .y 106 104 (.bin .neq (.t 105) (.i 0)), .y 107 104 (.mv (.t 106)), .n 108 107 (.mv (.t 11)), .n 109 107 (.mv (.t 13)), .n 110 107
  (.bin .neq (.t 108) (.t 109)), .y 111 104 (.pick (.t 107) (.b true) (.t 110)), .o 112 (.pick (.t 104) (.t 111) (.b false)), .m 113 112, .n 114 113 (.mv (.t 14)), .n 115 113
  (.bin .eql (.t 114) (.i 0)), .n 116 113 (.mv (.t 115)), .y 117 116 (.faddr 3 (.t 7)), .y 118 116 (.faddr 0 (.t 117)), .y 119 116 (.load none (.t 118)), .y 120 116 (.bin .geq (.t
  119) (.i 0)), .n 121 113 (.pick (.t 116) (.t 120) (.b false)), .n 122 113 (.mv (.t 121)), .y 123 122 (.mv (.t 12)), .y 124 122 (.bin .neq (.t 123) (.i 0)), .y 125 122 (.mv (.t
  124)), .n 126 125 (.mv (.t 11)), .n 127 125 (.mv (.t 13)), .n 128 125 (.bin .neq (.t 126) (.t 127)), .y 129 122 (.pick (.t 125) (.b true) (.t 128)), .n 130 113 (.pick (.t 122)
  (.t 129) (.b false)), .o 131 (.pick (.t 113) (.b true) (.t 130))]) (.cond (.t 131) (.seq (.region [.o 6 (.mv (.b false))]) .ret) .skip))))))) (.region [.m 71 9, .o 72 (.bin .add
  (.t 71) (.i 1)), .m 9 72])))))) (.seq (.region [.o 132 (.call (.func 15) []), .m 6 132]) .ret))))))))⟩
def af13 : AFn := ⟨98, [(.tmp 0)], (.seq (.region [.o 0 (.mv (.b false))]) (.seq (.region [.o 16 (.call (.func 41) []), .o 17 (.call (.func 41) []), .o 1 (.alloc [(.int .i64 0), (.int .i64 0),
  (.int .i64 0), (.int .i64 0), (.int .i64 0), (.slc none 0 0 true 0), (.slc none 0 0 true 0)]), .o 2 (.alloc [(.int .i64 0), (.int .i64 0), (.int .i64 0), (.int .i64 0), (.int
  .i64 0), (.slc none 0 0 true 0), (.slc none 0 0 true 0)]), .s 7 1 16, .s 7 2 17]) (.seq (.region [.f 18 2 2, ⟨none, (.store 1 (.t 18) (.i 0)), none⟩]) (.seq (.region [.a 20 7 1,
  .o 21 (.bslice [(.int .i64 0), (.int .i64 0), (.int .i64 0)] 3 1 [(0, (1, (.i 0))), (1, (1, (.i 0))), (2, (1, (.i 3)))]), .o 22 (.call (.func 18) [.t 20, .t 21]), .m 19 22, .e
  23 19 0, .e 24 19 1, .m 3 23, .m 4 24]) (.seq (.region [.a 26 7 1, .o 27 (.bslice [(.int .i64 0), (.int .i64 0), (.int .i64 0)] 3 1 [(0, (1, (.i 5))), (1, (1, (.i 5))), (2, (1,
  (.i 5)))]), .o 28 (.call (.func 31) [.t 26, .t 27]), .m 25 28, .e 29 25 0, .e 30 25 1, .m 5 29, .m 6 30]) (.seq (.region [.a 32 7 1, .o 33 (.bslice [(.int .i64 0), (.int .i64 0),
   (.int .i64 0)] 3 1 [(0, (1, (.i 4))), (1, (1, (.i 4))), (2, (1, (.i 4)))]), .o 34 (.call (.func 31) [.t 32, .t 33]), .m 31 34, .e 35 31 0, .e 36 31 1, .m 7 35, .m 8 36]) (.seq
  (.region [.a 38 7 2, .o 39 (.call (.func 28) [.t 38]), .m 37 39, .e 40 37 0, .e 41 37 1, .e 42 37 2, .m 9 40, .m 10 41, .m 11 42]) (.seq (.region [.a 44 7 1, .o 45 (.bslice
  [(.int .i64 0), (.int .i64 0), (.int .i64 0)] 3 1 [(0, (1, (.i 2))), (1, (1, (.i 0))), (2, (1, (.i 0)))]), .o 46 (.bslice [(.int .i64 0), (.int .i64 0), (.int .i64 0)] 3 1 [(0,
  (1, (.i 20))), (1, (1, (.i 30))), (2, (1, (.i 20)))]), .o 47 (.call (.func 23) [.t 44, .t 45, .i 50, .t 46]), .m 43 47, .e 48 43 0, .e 49 43 1, .m 12 48, .m 13 49]) (.seq
  (.region [.a 51 7 1, .o 52 (.bslice [(.int .i64 0), (.int .i64 0), (.int .i64 0)] 3 1 [(0, (1, (.i 0))), (1, (1, (.i 0))), (2, (1, (.i 0)))]), .o 53 (.bslice [(.int .i64 0),
  (.int .i64 0), (.int .i64 0)] 3 1 [(0, (1, (.i 20))), (1, (1, (.i 30))), (2, (1, (.i 20)))]), .o 54 (.call (.func 23) [.t 51, .t 52, .i 40, .t 53]), .m 50 54, .e 55 50 0, .e 56
  50 1, .m 14 55, .m 15 56]) (.seq (.region [.m 57 4, .o 58 (.bin .eql (.t 57) (.i 3)), .m 59 58, .y 60 59 (.mv (.t 6)), .y 61 59 (.bin .eql (.t 60) (.i 0)), .o 62 (.pick (.t 59)
  (.t 61) (.b false)), .m 63 62, .y 64 63 (.mv (.t 8)), .y 65 63 (.bin .eql (.t 64) (.i 0)), .o 66 (.pick (.t 63) (.t 65) (.b false)), .m 67 66, .y 68 67 (.mv (.t 11)), .y 69 67
  (.bin .eql (.t 68) (.i 0)), .o 70 (.pick (.t 67) (.t 69) (.b false)), .m 71 70, .y 72 71 (.mv (.t 13)), .y 73 71 (.bin .eql (.t 72) (.i 10)), .o 74 (.pick (.t 71) (.t 73) (.b
  false)), .m 75 74, .y 76 75 (.mv (.t 15)), .y 77 75 (.bin .eql (.t 76) (.i 20)), .o 78 (.pick (.t 75) (.t 77) (.b false)), .m 79 78, .y 80 79 (.mv (.t 5)), .y 81 79 (.bin .eql
  (.t 80) (.i 13)), .o 82 (.pick (.t 79) (.t 81) (.b false)), .m 83 82, .y 84 83 (.mv (.t 7)), .y 85 83 (.bin .eql (.t 84) (.i 12)), .o 86 (.pick (.t 83) (.t 85) (.b false)), .m
  87 86, .y 88 87 (.mv (.t 9)), .y 89 87 (.bin .eql (.t 88) (.i (-1))), .o 90 (.pick (.t 87) (.t 89) (.b false)), .m 91 90, .y 92 91 (.mv (.t 10)), .y 93 91 (.bin .eql (.t 92) (.i
  1)), .o 94 (.pick (.t 91) (.t 93) (.b false)), .m 95 94, .y 96 95 (.call (.func 15) []), .o 97 (.pick (.t 95) (.t 96) (.b false)), .m 0 97]) .ret))))))))))⟩
def af14 : AFn := ⟨13, [(.tmp 2)], (.seq (.region [.o 1 (.box (.t 0)), .o 2 (.mv (.b false))]) (.seq (.region [.f 3 5 1, .l 4 3, .o 5 (.len (.t 4)), .o 6 (.bin .gtr (.t 5) (.i 30)), .m 7 6, .n 8 7
  (.faddr 6 (.t 1)), .n 9 7 (.load none (.t 8)), .n 10 7 (.len (.t 9)), .n 11 7 (.bin .gtr (.t 10) (.i 30)), .o 12 (.pick (.t 7) (.b true) (.t 11)), .m 2 12]) .ret))⟩
def af15 : AFn := ⟨188, [(.tmp 0)], (.seq (.region [.o 0 (.mv (.b false))]) (.seq (.region [.o 30 (.call (.func 41) []), .o 1 (.alloc [(.int .i64 0), (.int .i64 0), (.int .i64 0), (.int .i64 0),
  (.int .i64 0), (.slc none 0 0 true 0), (.slc none 0 0 true 0)]), .s 7 1 30]) (.seq (.region [.a 32 7 1, .o 33 (.call (.func 16) [.t 32]), .m 31 33, .e 34 31 0, .e 35 31 1, .m 2
  34, .m 3 35]) (.seq (.region [.a 37 7 1, .o 38 (.call (.func 26) [.t 37]), .m 36 38, .e 39 36 0, .e 40 36 1, .e 41 36 2, .m 4 39, .m 5 40, .m 6 41]) (.seq (.region [.a 43 7 1,
  .o 44 (.bslice [(.int .i64 0), (.int .i64 0), (.int .i64 0)] 3 1 [(0, (1, (.i 0))), (1, (1, (.i 1))), (2, (1, (.i 2)))]), .o 45 (.call (.func 18) [.t 43, .t 44]), .m 42 45, .e
  46 42 0, .e 47 42 1, .m 7 46, .m 8 47]) (.seq (.region [.a 49 7 1, .o 50 (.bslice [(.int .i64 0), (.int .i64 0), (.int .i64 0)] 3 1 [(0, (1, (.i 2))), (1, (1, (.i 0))), (2, (1,
  (.i 1)))]), .o 51 (.call (.func 18) [.t 49, .t 50]), .m 48 51, .e 52 48 0, .e 53 48 1, .m 9 52, .m 10 53]) (.seq (.region [.a 55 7 1, .o 56 (.bslice [(.int .i64 0), (.int .i64
  0), (.int .i64 0)] 3 1 [(0, (1, (.i 0))), (1, (1, (.i 0))), (2, (1, (.i 2)))]), .o 57 (.call (.func 18) [.t 55, .t 56]), .m 54 57, .e 58 54 0, .e 59 54 1, .m 11 58, .m 12 59])
  (.seq (.region [.a 61 7 1, .o 62 (.bslice [(.int .i64 0), (.int .i64 0), (.int .i64 0)] 3 1 [(0, (1, (.i 1))), (1, (1, (.i 0))), (2, (1, (.i 2)))]), .o 63 (.bslice [(.int .i64
  0), (.int .i64 0), (.int .i64 0)] 3 1 [(0, (1, (.i 20))), (1, (1, (.i 30))), (2, (1, (.i 20)))]), .o 64 (.call (.func 23) [.t 61, .t 62, .i 50, .t 63]), .m 60 64, .e 65 60 0, .e
  66 60 1, .m 13 65, .m 14 66]) (.seq (.region [.a 68 7 1, .o 69 (.bslice [(.int .i64 0), (.int .i64 0), (.int .i64 0)] 3 1 [(0, (1, (.i 5))), (1, (1, (.i 9))), (2, (1, (.i 4)))]),
   .o 70 (.call (.func 31) [.t 68, .t 69]), .m 67 70, .e 71 67 0, .e 72 67 1, .m 15 71, .m 16 72]) (.seq (.region [.a 74 7 1, .o 75 (.call (.func 33) [.t 74]), .m 73 75, .e 76 73
  0, .e 77 73 1, .m 17 76, .m 18 77]) (.seq (.region [.a 79 7 1, .o 80 (.call (.func 28) [.t 79]), .m 78 80, .e 81 78 0, .e 82 78 1, .e 83 78 2, .m 19 81, .m 20 82, .m 21 83])
  (.seq (.region [.o 85 (.call (.func 42) []), .o 86 (.call (.func 28) [.t 85]), .m 84 86, .e 87 84 0, .e 88 84 1, .e 89 84 2, .m 22 87, .m 23 88, .m 24 89]) (.seq (.region [.o 91
  (.call (.func 42) []), .o 92 (.call (.func 26) [.t 91]), .m 90 92, .e 93 90 0, .e 94 90 1, .e 95 90 2, .m 25 93, .m 26 94, .m 27 95]) (.seq (.seq (.region [.m 96 3, .o 97 (.bin
  .neq (.t 96) (.i 0)), .m 98 97, .n 99 98 (.mv (.t 6)), .n 100 98 (.bin .neq (.t 99) (.i 0)), .o 101 (.pick (.t 98) (.b true) (.t 100)), .m 102 101, .n 103 102 (.mv (.t 8)), .n
  104 102 (.bin .neq (.t 103) (.i 0)), .o 105 (.pick (.t 102) (.b true) (.t 104)), .m 106 105, .n 107 106 (.mv (.t 10)), .n 108 106 (.bin .neq (.t 107) (.i 10)), .o 109 (.pick (.t
  106) (.b true) (.t 108)), .m 110 109, .n 111 110 (.mv (.t 12)), .n 112 110 (.bin .neq (.t 111) (.i 20)), .o 113 (.pick (.t 110) (.b true) (.t 112)), .m 114 113, .n 115 114 (.mv
  (.t 14)), .n 116 114 (.bin .neq (.t 115) (.i 0)), .o 117 (.pick (.t 114) (.b true) (.t 116)), .m 118 117, .n 119 118 (.mv (.t 16)), .n 120 118 (.bin .neq (.t 119) (.i 0)), .o
  121 (.pick (.t 118) (.b true) (.t 120)), .m 122 121, .n 123 122 (.mv (.t 18)), .n 124 122 (.bin .neq (.t 123) (.i 0)), .o 125 (.pick (.t 122) (.b true) (.t 124)), .m 126 125, .n
  127 126 (.mv (.t 21)), .n 128 126 (.bin .neq (.t 127) (.i 5)), .o 129 (.pick (.t 126) (.b true) (.t 128)), .m 130 129, .n 131 130 (.mv (.t 24)), .n 132 130 (.bin .neq (.t 131)
  (.i 0)), .o 133 (.pick (.t 130) (.b true) (.t 132)), .m 134 133, .n 135 134 (.mv (.t 27)), .n 136 134 (.bin .neq (.t 135) (.i 13)), .o 137 (.pick (.t 134) (.b true) (.t 136))])
  (.cond (.t 137) (.seq (.region [.o 0 (.mv (.b false))]) .ret) .skip)) (.seq (.region [.a 139 7 1, .m 140 17, .o 141 (.call (.func 32) [.t 139, .t 140]), .m 138 141, .e 142 138 0,
   .e 143 138 1, .m 28 142, .m 29 143]) (.seq (.region [.m 144 29, .o 145 (.bin .eql (.t 144) (.i 0)), .m 146 145, .y 147 146 (.mv (.t 28)), .y 148 146 (.bin .eql (.t 147) (.i
  13)), .o 149 (.pick (.t 146) (.t 148) (.b false)), .m 150 149, .y 151 150 (.mv (.t 2)), .y 152 150 (.call (.func 40) [.i 0, .i 1]), .y 153 150 (.call (.func 40) [.i 1, .i 2]),
  .y 154 150 (.call (.func 40) [.i 3, .i 3]), .y 155 150 (.bslice [(.int .i64 0), (.int .i64 0), (.int .i64 0), (.int .i64 0), (.int .i64 0), (.int .i64 0)] 3 2 [(0, (2, (.t
  152))), (2, (2, (.t 153))), (4, (2, (.t 154)))]), .y 156 150 (.call (.func 22) [.t 151, .t 155]), .o 157 (.pick (.t 150) (.t 156) (.b false)), .m 158 157, .y 159 158 (.mv (.t
  4)), .y 160 158 (.bslice [(.int .i64 0), (.int .i64 0), (.int .i64 0)] 3 1 [(0, (1, (.i 1))), (1, (1, (.i 0))), (2, (1, (.i 2)))]), .y 161 158 (.call (.func 30) [.t 159, .t
  160]), .o 162 (.pick (.t 158) (.t 161) (.b false)), .m 163 162, .y 164 163 (.mv (.t 5)), .y 165 163 (.bin .eql (.t 164) (.i 13)), .o 166 (.pick (.t 163) (.t 165) (.b false)), .m
  167 166, .y 168 167 (.mv (.t 7)), .y 169 167 (.bin .eql (.t 168) (.i 17)), .o 170 (.pick (.t 167) (.t 169) (.b false)), .m 171 170, .y 172 171 (.mv (.t 13)), .y 173 171 (.bslice
  [(.int .i64 0), (.int .i64 0), (.int .i64 0)] 3 1 [(0, (1, (.i 60))), (1, (1, (.i 30))), (2, (1, (.i 70)))]), .y 174 171 (.call (.func 25) [.t 172, .t 173]), .o 175 (.pick (.t
  171) (.t 174) (.b false)), .m 176 175, .y 177 176 (.mv (.t 15)), .y 178 176 (.bin .eql (.t 177) (.i 13)), .o 179 (.pick (.t 176) (.t 178) (.b false)), .m 180 179, .y 181 180
  (.mv (.t 22)), .y 182 180 (.bin .eql (.t 181) (.i 2)), .o 183 (.pick (.t 180) (.t 182) (.b false)), .m 184 183, .y 185 184 (.mv (.t 23)), .y 186 184 (.bin .eql (.t 185) (.i 2)),
  .o 187 (.pick (.t 184) (.t 186) (.b false)), .m 0 187]) .ret))))))))))))))))⟩
def af16 : AFn := ⟨15, [(.tmp 2), (.tmp 3)], (.seq (.region [.o 1 (.box (.t 0)), .o 2 (.mv (.const (.slc none 0 0 true 0))), .o 3 (.mv (.i 0))]) (.seq (.seq (.region [.a 5 7 1, .o 6 (.call (.func
  20) [.t 5]), .m 4 6]) (.seq (.region [.m 7 4, .o 8 (.bin .neq (.t 7) (.i 0))]) (.cond (.t 8) (.seq (.region [.m 9 4, .o 2 (.mv (.const (.slc none 0 0 true 0))), .m 3 9]) .ret)
  .skip))) (.seq (.region [.a 10 7 1, .o 11 (.call (.func 43) [.t 10]), .o 12 (.nilchk (.t 11)), .f 13 7 12, .l 14 13, .m 2 14, .o 3 (.mv (.i 0))]) .ret)))⟩
def af17 : AFn := ⟨11, [(.tmp 2), (.tmp 3)], (.seq (.region [.o 1 (.box (.t 0)), .o 2 (.mv (.const (.slc none 0 0 true 0))), .o 3 (.mv (.i 0))]) (.seq (.seq (.region [.a 4 7 1, .o 5 (.call (.func
  21) [.t 4]), .o 6 (.bin .neq (.t 5) (.i 0))]) (.cond (.t 6) (.seq (.region [.a 7 7 1, .o 8 (.call (.func 21) [.t 7]), .o 2 (.mv (.const (.slc none 0 0 true 0))), .m 3 8]) .ret)
  .skip)) (.seq (.region [.a 9 7 1, .o 10 (.call (.func 44) [.t 9]), .m 2 10, .o 3 (.mv (.i 0))]) .ret)))⟩
def af18 : AFn := ⟨68, [(.tmp 4), (.tmp 5)], (.seq (.region [.o 2 (.box (.t 0)), .o 4 (.mv (.i 0)), .o 5 (.mv (.i 0))]) (.seq (.region [.a 12 7 2, .o 13 (.call (.func 20) [.t 12]), .m 6 13]) (.seq
  (.block 0 (.seq (.region [.m 15 6, .o 16 (.bin .neq (.t 15) (.i 0)), .m 14 16]) (.cond (.t 14) (.seq (.region [.m 17 6, .o 4 (.mv (.i 0)), .m 5 17]) .ret) (.seq (.region [.m 19
  1, .o 20 (.len (.t 19)), .f 21 5 2, .l 22 21, .o 23 (.len (.t 22)), .o 24 (.bin .neq (.t 20) (.t 23)), .m 18 24]) (.cond (.t 18) (.seq (.region [.o 4 (.mv (.i 0)), .o 5 (.mv (.i
  15))]) .ret) (.seq (.region [.m 26 1, .o 27 (.mkfn 46 [] [.t 2]), .o 28 (.call (.func 45) [.t 26, .t 27]), .m 25 28]) (.cond (.t 25) (.seq (.region [.o 4 (.mv (.i 0)), .o 5 (.mv
  (.i 3))]) .ret) .skip))))))) (.seq (.region [.o 7 (.mv (.i 0)), .o 8 (.mv (.i 0))]) (.seq (.seq (.region [.a 29 7 2, .o 30 (.call (.func 43) [.t 29]), .o 31 (.nilchk (.t 30)),
  .f 32 7 31, .l 33 32, .o 34 (.len (.t 33)), .o 35 (.mv (.i 0))]) (.block 1 (.loop (.seq (.region [.o 36 (.bin .lss (.t 35) (.t 34))]) (.seq (.cond (.t 36) .skip (.exit 1)) (.seq
  (.block 2 (.seq (.region [.m 37 35, .o 38 (.iaddrS 2 (.t 33) (.t 35)), .a 39 2 38, .o 10 (.alloc [(.int .i64 0), (.int .i64 0)]), .m 9 37, .s 2 10 39]) (.seq (.region [.m 40 1,
  .m 41 9, .o 42 (.iaddrS 1 (.t 40) (.t 41)), .l 43 42, .m 11 43]) (.seq (.region [.m 44 7, .m 45 11, .o 46 (.bin .add (.t 44) (.t 45)), .m 7 46]) (.seq (.region [.m 47 8, .m 48
  11, .f 49 6 2, .l 50 49, .m 51 9, .o 52 (.iaddrS 1 (.t 50) (.t 51)), .l 53 52, .o 54 (.bin .mul (.t 48) (.t 53)), .o 55 (.bin .add (.t 47) (.t 54)), .m 8 55]) (.block 3 (.seq
  (.region [.m 57 7, .f 58 1 10, .l 59 58, .o 60 (.bin .gtr (.t 57) (.t 59)), .m 56 60]) (.cond (.t 56) (.seq (.region [.o 4 (.mv (.i 0)), .o 5 (.mv (.i 10))]) .ret) (.seq
  (.region [.m 62 7, .f 63 0 10, .l 64 63, .o 65 (.bin .lss (.t 62) (.t 64)), .m 61 65]) (.cond (.t 61) (.seq (.region [.o 4 (.mv (.i 0)), .o 5 (.mv (.i 20))]) .ret)
  .skip)))))))))) (.region [.o 66 (.bin .add (.t 35) (.i 1)), .m 35 66]))))))) (.seq (.region [.m 67 8, .m 4 67, .o 5 (.mv (.i 0))]) .ret))))))⟩
def af19 : AFn := ⟨83, [(.tmp 4), (.tmp 5)], (.seq (.region [.o 2 (.box (.t 0)), .o 4 (.mv (.i 0)), .o 5 (.mv (.i 0))]) (.seq (.seq (.region [.a 11 7 2, .o 12 (.call (.func 21) [.t 11]), .o 13
  (.bin .neq (.t 12) (.i 0))]) (.cond (.t 13) (.seq (.region [.a 14 7 2, .o 15 (.call (.func 21) [.t 14]), .o 4 (.mv (.i 0)), .m 5 15]) .ret) .skip)) (.seq (.seq (.region [.m 16 1,
   .o 17 (.len (.t 16)), .f 18 5 2, .l 19 18, .o 20 (.len (.t 19)), .o 21 (.bin .neq (.t 17) (.t 20))]) (.cond (.t 21) (.seq (.region [.o 4 (.mv (.i 0)), .o 5 (.mv (.i 15))])
  .ret) .skip)) (.seq (.seq (.region [.o 6 (.mv (.i 0))]) (.block 0 (.loop (.seq (.seq (.region [.m 22 6, .m 23 1, .o 24 (.len (.t 23)), .o 25 (.bin .lss (.t 22) (.t 24))]) (.cond
  (.t 25) .skip (.exit 0))) (.seq (.block 1 (.seq (.draw [.m 28 1, .m 29 6, .o 30 (.iaddrS 1 (.t 28) (.t 29)), .l 31 30, .o 32 (.bin .lss (.t 31) (.i 0)), .m 33 32, .n 34 33 (.mv
  (.t 1)), .n 35 33 (.mv (.t 6)), .n 36 33 (.iaddrS 1 (.t 34) (.t 35)), .n 37 33 (.load none (.t 36)), .n 38 33 (.faddr 2 (.t 2)), .n 39 33 (.load none (.t 38)), .n 40 33 (.bin
  .gtr (.t 37) (.t 39)), .o 41 (.pick (.t 33) (.b true) (.t 40))] []) (.cond (.t 41) (.seq (.region [.o 4 (.mv (.i 0)), .o 5 (.mv (.i 3))]) .ret) .skip))) (.region [.m 26 6, .o 27
  (.bin .add (.t 26) (.i 1)), .m 6 27])))))) (.seq (.region [.a 42 7 2, .o 43 (.call (.func 44) [.t 42]), .m 7 43]) (.seq (.region [.o 8 (.mv (.i 0)), .o 9 (.mv (.i 0))]) (.seq
  (.seq (.region [.o 10 (.mv (.i 0))]) (.block 2 (.loop (.seq (.seq (.region [.m 44 10, .m 45 1, .o 46 (.len (.t 45)), .o 47 (.bin .lss (.t 44) (.t 46))]) (.cond (.t 47) .skip
  (.exit 2))) (.seq (.block 3 (.seq (.region [.m 50 8, .m 51 1, .m 52 10, .o 53 (.iaddrS 1 (.t 51) (.t 52)), .l 54 53, .o 55 (.bin .add (.t 50) (.t 54)), .m 8 55]) (.seq (.draw
  [.m 56 9, .m 57 1, .m 58 10, .o 59 (.iaddrS 1 (.t 57) (.t 58)), .l 60 59, .f 61 6 2, .l 62 61, .m 63 10, .o 64 (.iaddrS 1 (.t 62) (.t 63)), .l 65 64, .o 66 (.bin .mul (.t 60)
  (.t 65)), .o 67 (.bin .add (.t 56) (.t 66)), .m 9 67] []) (.seq (.seq (.region [.m 68 8, .m 69 7, .m 70 10, .o 71 (.iaddrS 2 (.t 69) (.t 70)), .f 72 1 71, .l 73 72, .o 74 (.bin
  .gtr (.t 68) (.t 73))]) (.cond (.t 74) (.seq (.region [.o 4 (.mv (.i 0)), .o 5 (.mv (.i 10))]) .ret) .skip)) (.seq (.region [.m 75 8, .m 76 7, .m 77 10, .o 78 (.iaddrS 2 (.t 76)
  (.t 77)), .f 79 0 78, .l 80 79, .o 81 (.bin .lss (.t 75) (.t 80))]) (.cond (.t 81) (.seq (.region [.o 4 (.mv (.i 0)), .o 5 (.mv (.i 20))]) .ret) .skip)))))) (.region [.m 48 10,
  .o 49 (.bin .add (.t 48) (.i 1)), .m 10 49])))))) (.seq (.region [.m 82 9, .m 4 82, .o 5 (.mv (.i 0))]) .ret))))))))⟩
def af20 : AFn := ⟨55, [(.tmp 2)], (.seq (.region [.o 1 (.box (.t 0)), .o 2 (.mv (.i 0))]) (.seq (.block 0 (.seq (.region [.f 4 5 1, .l 5 4, .o 6 (.len (.t 5)), .o 7 (.bin .eql (.t 6) (.i 0)), .m 8
  7, .n 9 8 (.faddr 5 (.t 1)), .n 10 8 (.load none (.t 9)), .n 11 8 (.len (.t 10)), .n 12 8 (.bin .gtr (.t 11) (.i 20)), .o 13 (.pick (.t 8) (.b true) (.t 12)), .m 3 13]) (.cond
  (.t 3) (.seq (.region [.o 2 (.mv (.i 6))]) .ret) (.seq (.region [.f 15 6 1, .l 16 15, .o 17 (.len (.t 16)), .f 18 5 1, .l 19 18, .o 20 (.len (.t 19)), .o 21 (.bin .neq (.t 17)
  (.t 20)), .m 14 21]) (.cond (.t 14) (.seq (.region [.o 2 (.mv (.i 15))]) .ret) (.seq (.region [.f 23 0 1, .l 24 23, .f 25 1 1, .l 26 25, .o 27 (.bslice [(.int .i64 0), (.int
  .i64 0)] 2 1 [(0, (1, (.t 24))), (1, (1, (.t 26)))]), .o 28 (.call (.func 47) [.i 1, .i 100000, .t 27]), .o 29 (.un .not (.t 28)), .m 30 29, .n 31 30 (.faddr 2 (.t 1)), .n 32 30
  (.load none (.t 31)), .n 33 30 (.bslice [(.int .i64 0)] 1 1 [(0, (1, (.t 32)))]), .n 34 30 (.call (.func 47) [.i 0, .i 10, .t 33]), .n 35 30 (.un .not (.t 34)), .o 36 (.pick (.t
  30) (.b true) (.t 35)), .m 37 36, .n 38 37 (.faddr 3 (.t 1)), .n 39 37 (.load (some 2) (.t 38)), .n 40 37 (.faddr 0 (.t 1)), .n 41 37 (.load none (.t 40)), .n 42 37 (.call
  (.func 48) [.t 39, .i 0, .t 41]), .n 43 37 (.un .not (.t 42)), .o 44 (.pick (.t 37) (.b true) (.t 43)), .m 22 44]) (.cond (.t 22) (.seq (.region [.o 2 (.mv (.i 2))]) .ret) (.seq
  (.region [.f 46 5 1, .l 47 46, .o 48 (.call (.func 49) [.t 47, (.func 50)]), .m 49 48, .n 50 49 (.faddr 6 (.t 1)), .n 51 49 (.load none (.t 50)), .n 52 49 (.call (.func 47) [.i
  0, .i 100000, .t 51]), .n 53 49 (.un .not (.t 52)), .o 54 (.pick (.t 49) (.b true) (.t 53)), .m 45 54]) (.cond (.t 45) (.seq (.region [.o 2 (.mv (.i 3))]) .ret) .skip)))))))))
  (.seq (.region [.o 2 (.mv (.i 0))]) .ret)))⟩
def af21 : AFn := ⟨87, [(.tmp 2)], (.seq (.region [.o 1 (.box (.t 0)), .o 2 (.mv (.i 0))]) (.seq (.seq (.region [.f 4 5 1, .l 5 4, .o 6 (.len (.t 5)), .o 7 (.bin .lss (.t 6) (.i 1)), .m 8 7, .n 9 8
  (.faddr 5 (.t 1)), .n 10 8 (.load none (.t 9)), .n 11 8 (.len (.t 10)), .n 12 8 (.bin .gtr (.t 11) (.i 20)), .o 13 (.pick (.t 8) (.b true) (.t 12))]) (.cond (.t 13) (.seq
  (.region [.o 2 (.mv (.i 6))]) .ret) .skip)) (.seq (.seq (.region [.f 14 6 1, .l 15 14, .o 16 (.len (.t 15)), .f 17 5 1, .l 18 17, .o 19 (.len (.t 18)), .o 20 (.bin .neq (.t 16)
  (.t 19))]) (.cond (.t 20) (.seq (.region [.o 2 (.mv (.i 15))]) .ret) .skip)) (.seq (.seq (.region [.f 21 0 1, .l 22 21, .o 23 (.bin .lss (.t 22) (.i 1)), .m 24 23, .n 25 24
  (.faddr 0 (.t 1)), .n 26 24 (.load none (.t 25)), .n 27 24 (.bin .gtr (.t 26) (.i 100000)), .o 28 (.pick (.t 24) (.b true) (.t 27)), .m 29 28, .n 30 29 (.faddr 1 (.t 1)), .n 31
  29 (.load none (.t 30)), .n 32 29 (.bin .lss (.t 31) (.i 1)), .o 33 (.pick (.t 29) (.b true) (.t 32)), .m 34 33, .n 35 34 (.faddr 1 (.t 1)), .n 36 34 (.load none (.t 35)), .n 37
  34 (.bin .gtr (.t 36) (.i 100000)), .o 38 (.pick (.t 34) (.b true) (.t 37)), .m 39 38, .n 40 39 (.faddr 2 (.t 1)), .n 41 39 (.load none (.t 40)), .n 42 39 (.bin .lss (.t 41) (.i
  0)), .o 43 (.pick (.t 39) (.b true) (.t 42)), .m 44 43, .n 45 44 (.faddr 2 (.t 1)), .n 46 44 (.load none (.t 45)), .n 47 44 (.bin .gtr (.t 46) (.i 10)), .o 48 (.pick (.t 44) (.b
  true) (.t 47)), .m 49 48, .n 50 49 (.faddr 3 (.t 1)), .n 51 49 (.load (some 2) (.t 50)), .n 52 49 (.faddr 0 (.t 1)), .n 53 49 (.load none (.t 52)), .n 54 49 (.call (.func 51)
  [.t 51, .i 0, .t 53]), .n 55 49 (.un .not (.t 54)), .o 56 (.pick (.t 49) (.b true) (.t 55))]) (.cond (.t 56) (.seq (.region [.o 2 (.mv (.i 2))]) .ret) .skip)) (.seq (.seq
  (.region [.o 3 (.mv (.i 0))]) (.block 0 (.loop (.seq (.seq (.region [.m 57 3, .f 58 5 1, .l 59 58, .o 60 (.len (.t 59)), .o 61 (.bin .lss (.t 57) (.t 60))]) (.cond (.t 61) .skip
  (.exit 0))) (.seq (.block 1 (.seq (.region [.f 64 5 1, .l 65 64, .m 66 3, .o 67 (.iaddrS 2 (.t 65) (.t 66)), .a 68 2 67, .o 69 (.call (.func 51) [.t 68, .i 0, .i 100000]), .o 70
  (.un .not (.t 69)), .m 71 70, .n 72 71 (.faddr 6 (.t 1)), .n 73 71 (.load none (.t 72)), .n 74 71 (.mv (.t 3)), .n 75 71 (.iaddrS 1 (.t 73) (.t 74)), .n 76 71 (.load none (.t
  75)), .n 77 71 (.bin .lss (.t 76) (.i 0)), .o 78 (.pick (.t 71) (.b true) (.t 77)), .m 79 78, .n 80 79 (.faddr 6 (.t 1)), .n 81 79 (.load none (.t 80)), .n 82 79 (.mv (.t 3)),
  .n 83 79 (.iaddrS 1 (.t 81) (.t 82)), .n 84 79 (.load none (.t 83)), .n 85 79 (.bin .gtr (.t 84) (.i 100000)), .o 86 (.pick (.t 79) (.b true) (.t 85))]) (.cond (.t 86) (.seq
  (.region [.o 2 (.mv (.i 3))]) .ret) .skip))) (.region [.m 62 3, .o 63 (.bin .add (.t 62) (.i 1)), .m 3 63])))))) (.seq (.region [.o 2 (.mv (.i 0))]) .ret))))))⟩
def af22 : AFn := ⟨26, [(.tmp 4)], (.seq (.region [.o 4 (.mv (.b false))]) (.seq (.seq (.region [.m 6 0, .o 7 (.len (.t 6)), .m 8 1, .o 9 (.len (.t 8)), .o 10 (.bin .neq (.t 7) (.t 9))]) (.cond (.t
  10) (.seq (.region [.o 4 (.mv (.b false))]) .ret) .skip)) (.seq (.seq (.region [.o 5 (.mv (.i 0))]) (.block 0 (.loop (.seq (.seq (.region [.m 11 5, .m 12 0, .o 13 (.len (.t 12)),
   .o 14 (.bin .lss (.t 11) (.t 13))]) (.cond (.t 14) .skip (.exit 0))) (.seq (.block 1 (.seq (.draw [.m 17 0, .m 18 5, .o 19 (.iaddrS 2 (.t 17) (.t 18)), .a 20 2 19, .m 21 1, .m
  22 5, .o 23 (.iaddrS 2 (.t 21) (.t 22)), .a 24 2 23, .o 25 (.eqf true true [.int, .int] (.t 20) (.t 24))] []) (.cond (.t 25) (.seq (.region [.o 4 (.mv (.b false))]) .ret)
  .skip))) (.region [.m 15 5, .o 16 (.bin .add (.t 15) (.i 1)), .m 5 16])))))) (.seq (.region [.o 4 (.mv (.b true))]) .ret))))⟩
def af23 : AFn := ⟨109, [(.tmp 8), (.tmp 9)], (.seq (.region [.o 4 (.box (.t 0)), .o 8 (.mv (.const (.slc none 0 0 true 0))), .o 9 (.mv (.i 0))]) (.seq (.region [.a 16 7 4, .o 17 (.call (.func 20)
  [.t 16]), .m 10 17]) (.seq (.block 0 (.seq (.region [.m 19 10, .o 20 (.bin .neq (.t 19) (.i 0)), .m 18 20]) (.cond (.t 18) (.seq (.region [.m 21 10, .o 8 (.mv (.const (.slc none
  0 0 true 0))), .m 9 21]) .ret) (.seq (.region [.m 23 1, .o 24 (.len (.t 23)), .f 25 5 4, .l 26 25, .o 27 (.len (.t 26)), .o 28 (.bin .neq (.t 24) (.t 27)), .m 29 28, .n 30 29
  (.mv (.t 3)), .n 31 29 (.len (.t 30)), .n 32 29 (.faddr 5 (.t 4)), .n 33 29 (.load none (.t 32)), .n 34 29 (.len (.t 33)), .n 35 29 (.bin .neq (.t 31) (.t 34)), .o 36 (.pick (.t
  29) (.b true) (.t 35)), .m 22 36]) (.cond (.t 22) (.seq (.region [.o 8 (.mv (.const (.slc none 0 0 true 0))), .o 9 (.mv (.i 15))]) .ret) (.seq (.region [.f 38 3 4, .f 39 0 38,
  .l 40 39, .f 41 3 4, .f 42 1 41, .l 43 42, .m 44 2, .o 45 (.bslice [(.int .i64 0)] 1 1 [(0, (1, (.t 44)))]), .o 46 (.call (.func 47) [.t 40, .t 43, .t 45]), .o 47 (.un .not (.t
  46)), .m 48 47, .n 49 48 (.mv (.t 1)), .n 50 48 (.mkfn 52 [] [.t 4]), .n 51 48 (.call (.func 45) [.t 49, .t 50]), .o 52 (.pick (.t 48) (.b true) (.t 51)), .m 37 52]) (.cond (.t
  37) (.seq (.region [.o 8 (.mv (.const (.slc none 0 0 true 0))), .o 9 (.mv (.i 3))]) .ret) .skip))))))) (.seq (.seq (.region [.f 53 5 4, .l 54 53, .o 55 (.len (.t 54)), .o 56
  (.mv (.i 0))]) (.block 1 (.loop (.seq (.region [.o 57 (.bin .lss (.t 56) (.t 55))]) (.seq (.cond (.t 57) .skip (.exit 1)) (.seq (.block 2 (.seq (.region [.m 58 56, .o 59
  (.iaddrS 2 (.t 54) (.t 56)), .a 60 2 59, .o 12 (.alloc [(.int .i64 0), (.int .i64 0)]), .m 11 58, .s 2 12 60]) (.seq (.draw [.f 61 0 12, .l 62 61, .f 63 1 12, .l 64 63, .m 65 3,
  .m 66 11, .o 67 (.iaddrS 1 (.t 65) (.t 66)), .l 68 67, .o 69 (.bslice [(.int .i64 0)] 1 1 [(0, (1, (.t 68)))]), .o 70 (.call (.func 47) [.t 62, .t 64, .t 69]), .o 71 (.un .not
  (.t 70))] [(1, 8), (3, 8)]) (.cond (.t 71) (.seq (.region [.o 8 (.mv (.const (.slc none 0 0 true 0))), .o 9 (.mv (.i 3))]) .ret) .skip)))) (.region [.o 72 (.bin .add (.t 56) (.i
  1)), .m 56 72]))))))) (.seq (.region [.o 13 (.mv (.const (.slc none 0 0 true 0)))]) (.seq (.seq (.region [.m 73 1, .o 74 (.len (.t 73)), .o 75 (.mv (.i 0))]) (.block 3 (.loop
  (.seq (.region [.o 76 (.bin .lss (.t 75) (.t 74))]) (.seq (.cond (.t 76) .skip (.exit 3)) (.seq (.block 4 (.seq (.region [.m 77 75, .o 78 (.iaddrS 1 (.t 73) (.t 75)), .l 79 78,
  .m 14 77, .m 15 79]) (.seq (.region [.m 80 2, .m 81 15, .f 82 1 4, .l 83 82, .o 84 (.bin .mul (.t 81) (.t 83)), .o 85 (.bin .add (.t 80) (.t 84)), .m 2 85]) (.seq (.seq (.region
  [.m 86 2, .f 87 0 4, .l 88 87, .o 89 (.bin .gtr (.t 86) (.t 88))]) (.cond (.t 89) (.seq (.region [.o 8 (.mv (.const (.slc none 0 0 true 0))), .o 9 (.mv (.i 10))]) .ret) .skip))
  (.seq (.region [.m 90 2, .m 91 3, .m 92 14, .o 93 (.iaddrS 1 (.t 91) (.t 92)), .l 94 93, .o 95 (.bin .sub (.t 90) (.t 94)), .m 2 95]) (.seq (.seq (.region [.m 96 2, .o 97 (.bin
  .lss (.t 96) (.i 0))]) (.cond (.t 97) (.seq (.region [.o 8 (.mv (.const (.slc none 0 0 true 0))), .o 9 (.mv (.i 20))]) .ret) .skip)) (.region [.m 98 13, .m 99 13, .o 100 (.len
  (.t 99)), .m 101 13, .o 102 (.len (.t 101)), .o 103 (.slc 1 (.t 98) none (some (.t 100)) (some (.t 102))), .m 104 2, .o 105 (.bslice [(.int .i64 0)] 1 1 [(0, (1, (.t 104)))]),
  .o 106 (.app 1 8 (.t 103) (.t 105)), .m 13 106]))))))) (.region [.o 107 (.bin .add (.t 75) (.i 1)), .m 75 107]))))))) (.seq (.region [.m 108 13, .m 8 108, .o 9 (.mv (.i 0))])
  .ret)))))))⟩
def af24 : AFn := ⟨124, [(.tmp 8), (.tmp 9)], (.seq (.region [.o 4 (.box (.t 0)), .o 8 (.mv (.const (.slc none 0 0 true 0))), .o 9 (.mv (.i 0))]) (.seq (.seq (.region [.a 14 7 4, .o 15 (.call
  (.func 21) [.t 14]), .o 16 (.bin .neq (.t 15) (.i 0))]) (.cond (.t 16) (.seq (.region [.a 17 7 4, .o 18 (.call (.func 21) [.t 17]), .o 8 (.mv (.const (.slc none 0 0 true 0))),
  .m 9 18]) .ret) .skip)) (.seq (.seq (.region [.m 19 1, .o 20 (.len (.t 19)), .f 21 5 4, .l 22 21, .o 23 (.len (.t 22)), .o 24 (.bin .neq (.t 20) (.t 23)), .m 25 24, .n 26 25
  (.mv (.t 3)), .n 27 25 (.len (.t 26)), .n 28 25 (.faddr 5 (.t 4)), .n 29 25 (.load none (.t 28)), .n 30 25 (.len (.t 29)), .n 31 25 (.bin .neq (.t 27) (.t 30)), .o 32 (.pick (.t
  25) (.b true) (.t 31))]) (.cond (.t 32) (.seq (.region [.o 8 (.mv (.const (.slc none 0 0 true 0))), .o 9 (.mv (.i 15))]) .ret) .skip)) (.seq (.seq (.region [.m 33 2, .f 34 3 4,
  .f 35 0 34, .l 36 35, .o 37 (.bin .lss (.t 33) (.t 36)), .m 38 37, .n 39 38 (.mv (.t 2)), .n 40 38 (.faddr 3 (.t 4)), .n 41 38 (.faddr 1 (.t 40)), .n 42 38 (.load none (.t 41)),
  .n 43 38 (.bin .gtr (.t 39) (.t 42)), .o 44 (.pick (.t 38) (.b true) (.t 43))]) (.cond (.t 44) (.seq (.region [.o 8 (.mv (.const (.slc none 0 0 true 0))), .o 9 (.mv (.i 3))])
  .ret) .skip)) (.seq (.seq (.region [.o 10 (.mv (.i 0))]) (.block 0 (.loop (.seq (.seq (.region [.m 45 10, .m 46 1, .o 47 (.len (.t 46)), .o 48 (.bin .lss (.t 45) (.t 47))])
  (.cond (.t 48) .skip (.exit 0))) (.seq (.block 1 (.seq (.draw [.m 51 1, .m 52 10, .o 53 (.iaddrS 1 (.t 51) (.t 52)), .l 54 53, .o 55 (.bin .lss (.t 54) (.i 0)), .m 56 55, .n 57
  56 (.mv (.t 1)), .n 58 56 (.mv (.t 10)), .n 59 56 (.iaddrS 1 (.t 57) (.t 58)), .n 60 56 (.load none (.t 59)), .n 61 56 (.faddr 2 (.t 4)), .n 62 56 (.load none (.t 61)), .n 63 56
  (.bin .gtr (.t 60) (.t 62)), .o 64 (.pick (.t 56) (.b true) (.t 63)), .m 65 64, .n 66 65 (.mv (.t 3)), .n 67 65 (.mv (.t 10)), .n 68 65 (.iaddrS 1 (.t 66) (.t 67)), .n 69 65
  (.load none (.t 68)), .n 70 65 (.faddr 5 (.t 4)), .n 71 65 (.load none (.t 70)), .n 72 65 (.mv (.t 10)), .n 73 65 (.iaddrS 2 (.t 71) (.t 72)), .n 74 65 (.faddr 0 (.t 73)), .n 75
  65 (.load none (.t 74)), .n 76 65 (.bin .lss (.t 69) (.t 75)), .o 77 (.pick (.t 65) (.b true) (.t 76)), .m 78 77, .n 79 78 (.mv (.t 3)), .n 80 78 (.mv (.t 10)), .n 81 78
  (.iaddrS 1 (.t 79) (.t 80)), .n 82 78 (.load none (.t 81)), .n 83 78 (.faddr 5 (.t 4)), .n 84 78 (.load none (.t 83)), .n 85 78 (.mv (.t 10)), .n 86 78 (.iaddrS 2 (.t 84) (.t
  85)), .n 87 78 (.faddr 1 (.t 86)), .n 88 78 (.load none (.t 87)), .n 89 78 (.bin .gtr (.t 82) (.t 88)), .o 90 (.pick (.t 78) (.b true) (.t 89))] []) (.cond (.t 90) (.seq
  (.region [.o 8 (.mv (.const (.slc none 0 0 true 0))), .o 9 (.mv (.i 3))]) .ret) .skip))) (.region [.m 49 10, .o 50 (.bin .add (.t 49) (.i 1)), .m 10 50])))))) (.seq (.region [.o
  11 (.mv (.const (.slc none 0 0 true 0)))]) (.seq (.region [.m 91 2, .m 12 91]) (.seq (.seq (.region [.o 13 (.mv (.i 0))]) (.block 2 (.loop (.seq (.seq (.region [.m 92 13, .m 93
  1, .o 94 (.len (.t 93)), .o 95 (.bin .lss (.t 92) (.t 94))]) (.cond (.t 95) .skip (.exit 2))) (.seq (.block 3 (.seq (.draw [.m 98 12, .m 99 1, .m 100 13, .o 101 (.iaddrS 1 (.t
  99) (.t 100)), .l 102 101, .f 103 1 4, .l 104 103, .o 105 (.bin .mul (.t 102) (.t 104)), .o 106 (.bin .add (.t 98) (.t 105)), .m 12 106] []) (.seq (.seq (.region [.m 107 12, .f
  108 0 4, .l 109 108, .o 110 (.bin .gtr (.t 107) (.t 109))]) (.cond (.t 110) (.seq (.region [.o 8 (.mv (.const (.slc none 0 0 true 0))), .o 9 (.mv (.i 10))]) .ret) .skip)) (.seq
  (.region [.m 111 12, .m 112 3, .m 113 13, .o 114 (.iaddrS 1 (.t 112) (.t 113)), .l 115 114, .o 116 (.bin .sub (.t 111) (.t 115)), .m 12 116]) (.seq (.seq (.region [.m 117 12, .o
  118 (.bin .lss (.t 117) (.i 0))]) (.cond (.t 118) (.seq (.region [.o 8 (.mv (.const (.slc none 0 0 true 0))), .o 9 (.mv (.i 20))]) .ret) .skip)) (.region [.m 119 11, .m 120 12,
  .o 121 (.bslice [(.int .i64 0)] 1 1 [(0, (1, (.t 120)))]), .o 122 (.app 1 8 (.t 119) (.t 121)), .m 11 122])))))) (.region [.m 96 13, .o 97 (.bin .add (.t 96) (.i 1)), .m 13
  97])))))) (.seq (.region [.m 123 11, .m 8 123, .o 9 (.mv (.i 0))]) .ret)))))))))⟩
def af25 : AFn := ⟨26, [(.tmp 4)], (.seq (.region [.o 4 (.mv (.b false))]) (.seq (.seq (.region [.m 6 0, .o 7 (.len (.t 6)), .m 8 1, .o 9 (.len (.t 8)), .o 10 (.bin .neq (.t 7) (.t 9))]) (.cond (.t
  10) (.seq (.region [.o 4 (.mv (.b false))]) .ret) .skip)) (.seq (.seq (.region [.o 5 (.mv (.i 0))]) (.block 0 (.loop (.seq (.seq (.region [.m 11 5, .m 12 0, .o 13 (.len (.t 12)),
   .o 14 (.bin .lss (.t 11) (.t 13))]) (.cond (.t 14) .skip (.exit 0))) (.seq (.block 1 (.seq (.draw [.m 17 0, .m 18 5, .o 19 (.iaddrS 1 (.t 17) (.t 18)), .l 20 19, .m 21 1, .m 22
  5, .o 23 (.iaddrS 1 (.t 21) (.t 22)), .l 24 23, .o 25 (.bin .neq (.t 20) (.t 24))] []) (.cond (.t 25) (.seq (.region [.o 4 (.mv (.b false))]) .ret) .skip))) (.region [.m 15 5,
  .o 16 (.bin .add (.t 15) (.i 1)), .m 5 16])))))) (.seq (.region [.o 4 (.mv (.b true))]) .ret))))⟩
def af26 : AFn := ⟨31, [(.tmp 2), (.tmp 3), (.tmp 4)], (.seq (.region [.o 1 (.box (.t 0)), .o 2 (.mv (.const (.slc none 0 0 true 0))), .o 3 (.mv (.i 0)), .o 4 (.mv (.i 0))]) (.seq (.region [.a 10 7
  1, .o 11 (.call (.func 53) [.t 10]), .m 9 11, .e 12 9 0, .e 13 9 1, .e 14 9 2, .m 5 12, .m 6 13, .m 7 14]) (.seq (.seq (.region [.m 15 7, .o 16 (.bin .neq (.t 15) (.i 0))])
  (.cond (.t 16) (.seq (.region [.m 17 7, .o 2 (.mv (.const (.slc none 0 0 true 0))), .o 3 (.mv (.i 0)), .m 4 17]) .ret) .skip)) (.seq (.region [.m 18 6, .o 19 (.len (.t 18)), .o
  20 (.mkslc [(.int .i64 0)] 8 (.t 19) (.t 19)), .m 8 20]) (.seq (.region [.m 21 8, .m 22 6, .o 23 (.copy 1 (.t 21) (.t 22))]) (.seq (.draw [.m 24 8, .m 25 5, .o 26 (.nilchk (.t
  25)), .f 27 8 26, .o 28 (.iaddrA 21 201 (.t 27) (.i 0)), .o 29 (.iaddrA 201 1 (.t 28) (.i 0)), .l 30 29, .m 2 24, .m 3 30, .o 4 (.mv (.i 0))] []) .ret))))))⟩
def af27 : AFn := ⟨96, [(.tmp 2), (.tmp 3), (.tmp 4)], (.seq (.region [.o 1 (.box (.t 0)), .o 2 (.mv (.const (.slc none 0 0 true 0))), .o 3 (.mv (.i 0)), .o 4 (.mv (.i 0))]) (.seq (.seq (.region
  [.a 11 7 1, .o 12 (.call (.func 21) [.t 11]), .o 13 (.bin .neq (.t 12) (.i 0))]) (.cond (.t 13) (.seq (.region [.a 14 7 1, .o 15 (.call (.func 21) [.t 14]), .o 2 (.mv (.const
  (.slc none 0 0 true 0))), .o 3 (.mv (.i 0)), .m 4 15]) .ret) .skip)) (.seq (.region [.a 16 7 1, .o 17 (.call (.func 54) [.t 16]), .m 5 17]) (.seq (.seq (.region [.m 18 5, .o 19
  (.iaddrS 1 (.t 18) (.i 0)), .l 20 19, .o 21 (.iaddrS 1 (.t 20) (.i 0)), .l 22 21, .o 23 (.bin .geq (.t 22) (.i 1125899906842624))]) (.cond (.t 23) (.seq (.region [.o 2 (.mv
  (.const (.slc none 0 0 true 0))), .o 3 (.mv (.i 0)), .o 4 (.mv (.i 13))]) .ret) .skip)) (.seq (.region [.a 24 7 1, .o 25 (.call (.func 44) [.t 24]), .m 6 25]) (.seq (.region [.o
  7 (.mv (.const (.slc none 0 0 true 0)))]) (.seq (.region [.o 8 (.mv (.i 0))]) (.seq (.seq (.region [.o 9 (.mv (.i 0))]) (.block 0 (.loop (.seq (.seq (.region [.m 26 9, .f 27 5 1,
   .l 28 27, .o 29 (.len (.t 28)), .o 30 (.bin .lss (.t 26) (.t 29))]) (.cond (.t 30) .skip (.exit 0))) (.seq (.block 1 (.seq (.region [.o 10 (.mv (.i 0))]) (.seq (.block 2 (.loop
  (.seq (.seq (.draw [.m 33 8, .m 34 10, .o 35 (.bin .add (.t 33) (.t 34)), .m 36 6, .m 37 9, .o 38 (.iaddrS 2 (.t 36) (.t 37)), .f 39 0 38, .l 40 39, .o 41 (.bin .lss (.t 35) (.t
  40)), .m 42 41, .n 43 42 (.mv (.t 8)), .n 44 42 (.mv (.t 10)), .n 45 42 (.bin .add (.t 43) (.t 44)), .n 46 42 (.mv (.t 6)), .n 47 42 (.mv (.t 9)), .n 48 42 (.iaddrS 2 (.t 46)
  (.t 47)), .n 49 42 (.faddr 1 (.t 48)), .n 50 42 (.load none (.t 49)), .n 51 42 (.bin .gtr (.t 45) (.t 50)), .o 52 (.pick (.t 42) (.b true) (.t 51)), .m 53 52, .n 54 53 (.mv (.t
  10)), .n 55 53 (.faddr 6 (.t 1)), .n 56 53 (.load none (.t 55)), .n 57 53 (.mv (.t 9)), .n 58 53 (.iaddrS 1 (.t 56) (.t 57)), .n 59 53 (.load none (.t 58)), .n 60 53 (.bin .mul
  (.t 54) (.t 59)), .n 61 53 (.mv (.t 5)), .n 62 53 (.mv (.t 9)), .n 63 53 (.bin .add (.t 62) (.i 1)), .n 64 53 (.iaddrS 1 (.t 61) (.t 63)), .n 65 53 (.load none (.t 64)), .n 66
  53 (.mv (.t 8)), .n 67 53 (.mv (.t 10)), .n 68 53 (.bin .add (.t 66) (.t 67)), .n 69 53 (.iaddrS 1 (.t 65) (.t 68)), .n 70 53 (.load none (.t 69)), .n 71 53 (.bin .add (.t 60)
  (.t 70)), .n 72 53 (.mv (.t 5)), .n 73 53 (.mv (.t 9)), .n 74 53 (.iaddrS 1 (.t 72) (.t 73)), .n 75 53 (.load none (.t 74)), .n 76 53 (.mv (.t 8)), .n 77 53 (.iaddrS 1 (.t 75)
  (.t 76)), .n 78 53 (.load none (.t 77)), .n 79 53 (.bin .neq (.t 71) (.t 78)), .o 80 (.pick (.t 53) (.b true) (.t 79))] []) (.cond (.t 80) .skip (.exit 2))) (.block 3 (.region
  [.m 81 10, .o 82 (.bin .add (.t 81) (.i 1)), .m 10 82]))))) (.seq (.region [.m 83 7, .m 84 10, .o 85 (.bslice [(.int .i64 0)] 1 1 [(0, (1, (.t 84)))]), .o 86 (.app 1 8 (.t 83)
  (.t 85)), .m 7 86]) (.region [.m 87 8, .m 88 10, .o 89 (.bin .add (.t 87) (.t 88)), .m 8 89]))))) (.region [.m 31 9, .o 32 (.bin .add (.t 31) (.i 1)), .m 9 32])))))) (.seq
  (.draw [.m 90 7, .m 91 5, .o 92 (.iaddrS 1 (.t 91) (.i 0)), .l 93 92, .o 94 (.iaddrS 1 (.t 93) (.i 0)), .l 95 94, .m 2 90, .m 3 95, .o 4 (.mv (.i 0))] []) .ret)))))))))⟩
def af28 : AFn := ⟨72, [(.tmp 2), (.tmp 3), (.tmp 4)], (.seq (.region [.o 1 (.box (.t 0)), .o 2 (.mv (.i 0)), .o 3 (.mv (.i 0)), .o 4 (.mv (.i 0))]) (.scope (.seq (.seq (.region [.a 12 7 1, .o 13
  (.call (.func 20) [.t 12]), .m 5 13]) (.seq (.region [.m 14 5, .o 15 (.bin .neq (.t 14) (.i 0))]) (.cond (.t 15) (.seq (.region [.m 16 5, .o 2 (.mv (.i 0)), .o 3 (.mv (.i 0)),
  .m 4 16]) .ret) .skip))) (.seq (.region [.a 17 7 1, .o 18 (.call (.func 43) [.t 17]), .m 6 18]) (.seq (.region [.o 7 (.mv (.i 0)), .o 8 (.mv (.i (-1)))]) (.seq .skip (.seq (.seq
  (.region [.o 9 (.mv (.i (-1)))]) (.block 0 (.loop (.seq (.seq (.region [.m 19 9, .m 20 6, .o 21 (.nilchk (.t 20)), .f 22 7 21, .l 23 22, .o 24 (.len (.t 23)), .o 25 (.bin .lss
  (.t 19) (.t 24))]) (.cond (.t 25) .skip (.exit 0))) (.seq (.block 1 (.seq (.region [.o 10 (.mv (.i 0))]) (.seq (.seq (.region [.m 28 9, .o 29 (.bin .geq (.t 28) (.i 0))]) (.cond
  (.t 29) (.region [.m 30 6, .o 31 (.nilchk (.t 30)), .f 32 7 31, .l 33 32, .m 34 9, .o 35 (.iaddrS 2 (.t 33) (.t 34)), .f 36 1 35, .l 37 36, .m 10 37]) .skip)) (.seq (.region [.m
  38 9, .o 39 (.mnx true [.i 0, .t 38]), .m 11 39]) (.block 2 (.loop (.seq (.seq (.region [.m 40 11, .m 41 6, .o 42 (.nilchk (.t 41)), .f 43 7 42, .l 44 43, .o 45 (.len (.t 44)),
  .o 46 (.bin .lss (.t 40) (.t 45))]) (.cond (.t 46) .skip (.exit 2))) (.seq (.block 3 (.seq (.draw [.m 49 6, .o 50 (.nilchk (.t 49)), .f 51 7 50, .l 52 51, .m 53 11, .o 54
  (.iaddrS 2 (.t 52) (.t 53)), .f 55 0 54, .l 56 55, .m 57 10, .m 58 11, .m 59 9, .o 60 (.bin .sub (.t 58) (.t 59)), .f 61 2 1, .l 62 61, .o 63 (.bin .mul (.t 60) (.t 62)), .o 64
  (.bin .add (.t 57) (.t 63)), .o 65 (.bin .gtr (.t 56) (.t 64))] []) (.cond (.t 65) (.seq (.region [.m 66 9, .m 67 11, .m 7 66, .m 8 67]) (.exit 0)) .skip))) (.region [.m 47 11,
  .o 48 (.bin .add (.t 47) (.i 1)), .m 11 48]))))))))) (.region [.m 26 9, .o 27 (.bin .add (.t 26) (.i 1)), .m 9 27])))))) (.seq (.seq (.region [.m 68 8, .o 69 (.bin .lss (.t 68)
  (.i 0))]) (.cond (.t 69) (.seq (.region [.o 2 (.mv (.i 0)), .o 3 (.mv (.i 0)), .o 4 (.mv (.i 5))]) .ret) .skip)) (.seq (.region [.m 70 7, .m 71 8, .m 2 70, .m 3 71, .o 4 (.mv
  (.i 0))]) .ret)))))))))⟩
def af29 : AFn := ⟨53, [(.tmp 2), (.tmp 3), (.tmp 4)], (.seq (.region [.o 1 (.box (.t 0)), .o 2 (.mv (.i 0)), .o 3 (.mv (.i 0)), .o 4 (.mv (.i 0))]) (.seq (.seq (.region [.a 9 7 1, .o 10 (.call
  (.func 21) [.t 9]), .o 11 (.bin .neq (.t 10) (.i 0))]) (.cond (.t 11) (.seq (.region [.a 12 7 1, .o 13 (.call (.func 21) [.t 12]), .o 2 (.mv (.i 0)), .o 3 (.mv (.i 0)), .m 4
  13]) .ret) .skip)) (.seq (.region [.a 14 7 1, .o 15 (.call (.func 44) [.t 14]), .m 5 15]) (.seq (.seq (.region [.o 6 (.mv (.i (-1)))]) (.block 0 (.loop (.seq (.seq (.region [.m
  16 6, .m 17 5, .o 18 (.len (.t 17)), .o 19 (.bin .lss (.t 16) (.t 18))]) (.cond (.t 19) .skip (.exit 0))) (.seq (.block 1 (.seq (.region [.o 7 (.mv (.i 0))]) (.seq (.seq
  (.region [.m 22 6, .o 23 (.bin .geq (.t 22) (.i 0))]) (.cond (.t 23) (.region [.m 24 5, .m 25 6, .o 26 (.iaddrS 2 (.t 24) (.t 25)), .f 27 1 26, .l 28 27, .m 7 28]) .skip)) (.seq
  (.region [.m 29 6, .o 30 (.mnx true [.i 0, .t 29]), .m 8 30]) (.block 2 (.loop (.seq (.seq (.region [.m 31 8, .m 32 5, .o 33 (.len (.t 32)), .o 34 (.bin .lss (.t 31) (.t 33))])
  (.cond (.t 34) .skip (.exit 2))) (.seq (.block 3 (.seq (.draw [.m 37 5, .m 38 8, .o 39 (.iaddrS 2 (.t 37) (.t 38)), .f 40 0 39, .l 41 40, .m 42 7, .f 43 2 1, .l 44 43, .m 45 8,
  .m 46 6, .o 47 (.bin .sub (.t 45) (.t 46)), .o 48 (.bin .mul (.t 44) (.t 47)), .o 49 (.bin .add (.t 42) (.t 48)), .o 50 (.bin .gtr (.t 41) (.t 49))] []) (.cond (.t 50) (.seq
  (.region [.m 51 6, .m 52 8, .m 2 51, .m 3 52, .o 4 (.mv (.i 0))]) .ret) .skip))) (.region [.m 35 8, .o 36 (.bin .add (.t 35) (.i 1)), .m 8 36]))))))))) (.region [.m 20 6, .o 21
  (.bin .add (.t 20) (.i 1)), .m 6 21])))))) (.seq (.region [.o 2 (.mv (.i 0)), .o 3 (.mv (.i 0)), .o 4 (.mv (.i 5))]) .ret)))))⟩
def af30 : AFn := ⟨26, [(.tmp 4)], (.seq (.region [.o 4 (.mv (.b false))]) (.seq (.seq (.region [.m 6 0, .o 7 (.len (.t 6)), .m 8 1, .o 9 (.len (.t 8)), .o 10 (.bin .neq (.t 7) (.t 9))]) (.cond (.t
  10) (.seq (.region [.o 4 (.mv (.b false))]) .ret) .skip)) (.seq (.seq (.region [.o 5 (.mv (.i 0))]) (.block 0 (.loop (.seq (.seq (.region [.m 11 5, .m 12 0, .o 13 (.len (.t 12)),
   .o 14 (.bin .lss (.t 11) (.t 13))]) (.cond (.t 14) .skip (.exit 0))) (.seq (.block 1 (.seq (.draw [.m 17 0, .m 18 5, .o 19 (.iaddrS 1 (.t 17) (.t 18)), .l 20 19, .m 21 1, .m 22
  5, .o 23 (.iaddrS 1 (.t 21) (.t 22)), .l 24 23, .o 25 (.bin .neq (.t 20) (.t 24))] []) (.cond (.t 25) (.seq (.region [.o 4 (.mv (.b false))]) .ret) .skip))) (.region [.m 15 5,
  .o 16 (.bin .add (.t 15) (.i 1)), .m 5 16])))))) (.seq (.region [.o 4 (.mv (.b true))]) .ret))))⟩
def af31 : AFn := ⟨80, [(.tmp 4), (.tmp 5)], (.seq (.region [.o 2 (.box (.t 0)), .o 4 (.mv (.i 0)), .o 5 (.mv (.i 0))]) (.seq (.region [.a 14 7 2, .o 15 (.call (.func 20) [.t 14]), .m 6 15]) (.seq
  (.block 0 (.seq (.region [.m 17 6, .o 18 (.bin .neq (.t 17) (.i 0)), .m 16 18]) (.cond (.t 16) (.seq (.region [.m 19 6, .o 4 (.mv (.i 0)), .m 5 19]) .ret) (.seq (.region [.m 21
  1, .o 22 (.len (.t 21)), .f 23 5 2, .l 24 23, .o 25 (.len (.t 24)), .o 26 (.bin .neq (.t 22) (.t 25)), .m 20 26]) (.cond (.t 20) (.seq (.region [.o 4 (.mv (.i 0)), .o 5 (.mv (.i
  15))]) .ret) (.seq (.region [.m 28 1, .o 29 (.call (.func 47) [.i 0, .i 100000, .t 28]), .o 30 (.un .not (.t 29)), .m 27 30]) (.cond (.t 27) (.seq (.region [.o 4 (.mv (.i 0)),
  .o 5 (.mv (.i 3))]) .ret) .skip))))))) (.seq (.region [.o 7 (.alloc [(.int .i64 0)]), .o 8 (.alloc [(.int .i64 0)]), ⟨none, (.store 1 (.t 7) (.i 0)), none⟩, ⟨none, (.store 1 (.t
  8) (.i 0)), none⟩]) (.seq (.region [.a 31 7 2, .o 32 (.call (.func 43) [.t 31]), .o 9 (.alloc [(.ptr none)]), .s 1 9 32]) (.seq (.seq (.region [.m 33 1, .o 34 (.call (.func 55)
  [.t 33])]) (.block 1 (.rangeF (.t 34) [35, 36] (.seq (.region [.m 10 35]) (.region [.m 11 36])) (.block 2 (.seq (.region [.l 37 9, .o 38 (.nilchk (.t 37)), .f 39 7 38, .l 40 39,
  .m 41 10, .o 42 (.iaddrS 2 (.t 40) (.t 41)), .a 43 2 42, .o 12 (.alloc [(.int .i64 0), (.int .i64 0)]), .s 2 12 43]) (.seq (.seq (.region [.m 44 11, .l 45 8, .o 46 (.bin .gtr
  (.t 44) (.t 45))]) (.cond (.t 46) (.region [.l 47 7, .f 48 0 12, .l 49 48, .m 50 11, .l 51 8, .o 52 (.bin .sub (.t 50) (.t 51)), .o 53 (.bin .mul (.t 49) (.t 52)), .o 54 (.bin
  .add (.t 47) (.t 53)), .s 1 7 54]) (.region [.l 55 7, .f 56 1 12, .l 57 56, .l 58 8, .m 59 11, .o 60 (.bin .sub (.t 58) (.t 59)), .o 61 (.bin .mul (.t 57) (.t 60)), .o 62 (.bin
  .sub (.t 55) (.t 61)), .s 1 7 62]))) (.seq (.seq (.region [.m 63 11, .f 64 6 2, .l 65 64, .m 66 10, .o 67 (.iaddrS 1 (.t 65) (.t 66)), .l 68 67, .o 69 (.bin .sub (.t 63) (.t
  68)), .m 13 69]) (.seq (.region [.m 70 13, .o 71 (.bin .gtr (.t 70) (.i 0))]) (.cond (.t 71) (.region [.l 72 7, .f 73 2 2, .l 74 73, .m 75 13, .o 76 (.bin .mul (.t 74) (.t 75)),
  .o 77 (.bin .sub (.t 72) (.t 76)), .s 1 7 77]) .skip))) (.region [.m 78 11, .s 1 8 78])))))))) (.seq (.region [.l 79 7, .m 4 79, .o 5 (.mv (.i 0))]) .ret)))))))⟩
def af32 : AFn := ⟨105, [(.tmp 4), (.tmp 5)], (.seq (.region [.o 2 (.box (.t 0)), .o 4 (.mv (.i 0)), .o 5 (.mv (.i 0))]) (.seq (.seq (.region [.a 11 7 2, .o 12 (.call (.func 21) [.t 11]), .o 13
  (.bin .neq (.t 12) (.i 0))]) (.cond (.t 13) (.seq (.region [.a 14 7 2, .o 15 (.call (.func 21) [.t 14]), .o 4 (.mv (.i 0)), .m 5 15]) .ret) .skip)) (.seq (.seq (.region [.m 16 1,
   .o 17 (.len (.t 16)), .f 18 5 2, .l 19 18, .o 20 (.len (.t 19)), .o 21 (.bin .neq (.t 17) (.t 20))]) (.cond (.t 21) (.seq (.region [.o 4 (.mv (.i 0)), .o 5 (.mv (.i 15))])
  .ret) .skip)) (.seq (.seq (.region [.o 6 (.mv (.i 0))]) (.block 0 (.loop (.seq (.seq (.region [.m 22 6, .m 23 1, .o 24 (.len (.t 23)), .o 25 (.bin .lss (.t 22) (.t 24))]) (.cond
  (.t 25) .skip (.exit 0))) (.seq (.block 1 (.seq (.region [.m 28 1, .m 29 6, .o 30 (.iaddrS 1 (.t 28) (.t 29)), .l 31 30, .o 32 (.bin .lss (.t 31) (.i 0)), .m 33 32, .n 34 33
  (.mv (.t 1)), .n 35 33 (.mv (.t 6)), .n 36 33 (.iaddrS 1 (.t 34) (.t 35)), .n 37 33 (.load none (.t 36)), .n 38 33 (.bin .gtr (.t 37) (.i 100000)), .o 39 (.pick (.t 33) (.b
  true) (.t 38))]) (.cond (.t 39) (.seq (.region [.o 4 (.mv (.i 0)), .o 5 (.mv (.i 3))]) .ret) .skip))) (.region [.m 26 6, .o 27 (.bin .add (.t 26) (.i 1)), .m 6 27])))))) (.seq
  (.region [.a 40 7 2, .o 41 (.call (.func 44) [.t 40]), .m 7 41]) (.seq (.region [.o 8 (.mv (.i 0))]) (.seq (.seq (.region [.o 9 (.mv (.i 0))]) (.block 2 (.loop (.seq (.seq
  (.region [.m 42 9, .m 43 1, .o 44 (.len (.t 43)), .o 45 (.bin .lss (.t 42) (.t 44))]) (.cond (.t 45) .skip (.exit 2))) (.seq (.block 3 (.seq (.region [.o 10 (.mv (.i 0))]) (.seq
  (.seq (.region [.m 48 9, .o 49 (.bin .add (.t 48) (.i 1)), .m 50 1, .o 51 (.len (.t 50)), .o 52 (.bin .lss (.t 49) (.t 51))]) (.cond (.t 52) (.region [.m 53 1, .m 54 9, .o 55
  (.bin .add (.t 54) (.i 1)), .o 56 (.iaddrS 1 (.t 53) (.t 55)), .l 57 56, .m 10 57]) .skip)) (.seq (.draw [.m 58 8, .m 59 7, .m 60 9, .o 61 (.iaddrS 2 (.t 59) (.t 60)), .f 62 0
  61, .l 63 62, .m 64 1, .m 65 9, .o 66 (.iaddrS 1 (.t 64) (.t 65)), .l 67 66, .m 68 10, .o 69 (.bin .sub (.t 67) (.t 68)), .o 70 (.mnx true [.i 0, .t 69]), .o 71 (.bin .mul (.t
  63) (.t 70)), .o 72 (.bin .add (.t 58) (.t 71)), .m 8 72] []) (.seq (.draw [.m 73 8, .m 74 7, .m 75 9, .o 76 (.iaddrS 2 (.t 74) (.t 75)), .f 77 1 76, .l 78 77, .m 79 10, .m 80 1,
   .m 81 9, .o 82 (.iaddrS 1 (.t 80) (.t 81)), .l 83 82, .o 84 (.bin .sub (.t 79) (.t 83)), .o 85 (.mnx true [.i 0, .t 84]), .o 86 (.bin .mul (.t 78) (.t 85)), .o 87 (.bin .sub
  (.t 73) (.t 86)), .m 8 87] []) (.draw [.m 88 8, .f 89 2 2, .l 90 89, .m 91 1, .m 92 9, .o 93 (.iaddrS 1 (.t 91) (.t 92)), .l 94 93, .f 95 6 2, .l 96 95, .m 97 9, .o 98 (.iaddrS
  1 (.t 96) (.t 97)), .l 99 98, .o 100 (.bin .sub (.t 94) (.t 99)), .o 101 (.mnx true [.i 0, .t 100]), .o 102 (.bin .mul (.t 90) (.t 101)), .o 103 (.bin .sub (.t 88) (.t 102)), .m
  8 103] [])))))) (.region [.m 46 9, .o 47 (.bin .add (.t 46) (.i 1)), .m 9 47])))))) (.seq (.region [.m 104 8, .m 4 104, .o 5 (.mv (.i 0))]) .ret))))))))⟩
def af33 : AFn := ⟨19, [(.tmp 2), (.tmp 3)], (.seq (.region [.o 1 (.box (.t 0)), .o 2 (.mv (.const (.slc none 0 0 true 0))), .o 3 (.mv (.i 0))]) (.seq (.region [.a 8 7 1, .o 9 (.call (.func 53) [.t
  8]), .m 7 9, .e 10 7 0, .e 11 7 1, .e 12 7 2, .m 4 10, .m 5 11, .m 6 12]) (.seq (.seq (.region [.m 13 6, .o 14 (.bin .neq (.t 13) (.i 0))]) (.cond (.t 14) (.seq (.region [.m 15
  6, .o 2 (.mv (.const (.slc none 0 0 true 0))), .m 3 15]) .ret) .skip)) (.seq (.region [.m 16 4, .m 17 5, .o 18 (.call (.func 56) [.t 16, .t 17]), .m 2 18, .o 3 (.mv (.i 0))])
  .ret))))⟩
def af34 : AFn := ⟨11, [(.tmp 2)], (.seq (.region [.o 1 (.box (.t 0)), .o 2 (.mv (.b false))]) (.seq (.region [.a 3 7 1, .o 4 (.call (.func 14) [.t 3]), .o 5 (.un .not (.t 4)), .m 6 5, .y 7 6
  (.load (some 7) (.t 1)), .y 8 6 (.call (.func 21) [.t 7]), .y 9 6 (.bin .eql (.t 8) (.i 0)), .o 10 (.pick (.t 6) (.t 9) (.b false)), .m 2 10]) .ret))⟩
def af35 : AFn := ⟨64, [(.tmp 4)], (.seq (.region [.o 2 (.box (.t 0)), .o 4 (.mv (.const (.slc none 0 0 true 0)))]) (.seq (.region [.a 12 7 2, .o 13 (.call (.func 17) [.t 12]), .m 11 13, .e 14 11 0,
   .e 15 11 1, .m 5 14, .m 6 15]) (.seq (.region [.o 7 (.mv (.const (.slc none 0 0 true 0)))]) (.seq (.region [.o 8 (.mv (.i 0))]) (.seq (.seq (.region [.o 9 (.mv (.i 0))])
  (.block 0 (.loop (.seq (.seq (.region [.m 16 9, .m 17 5, .o 18 (.len (.t 17)), .o 19 (.bin .lss (.t 16) (.t 18))]) (.cond (.t 19) .skip (.exit 0))) (.seq (.block 1 (.seq
  (.region [.m 22 5, .m 23 9, .o 24 (.iaddrS 2 (.t 22) (.t 23)), .f 25 0 24, .l 26 25, .m 27 8, .o 28 (.bin .sub (.t 26) (.t 27)), .o 29 (.mnx true [.i 0, .t 28]), .m 10 29])
  (.seq (.seq (.region [.m 30 1, .o 31 (.len (.t 30)), .o 32 (.bin .gtr (.t 31) (.i 0))]) (.cond (.t 32) (.region [.m 33 10, .m 34 1, .m 35 9, .m 36 1, .o 37 (.len (.t 36)), .o 38
  (.bin .rem (.t 35) (.t 37)), .o 39 (.iaddrS 1 (.t 34) (.t 38)), .l 40 39, .o 41 (.conv .i64 (.t 40)), .o 42 (.bin .rem (.t 41) (.i 4)), .o 43 (.bin .add (.t 33) (.t 42)), .m 10
  43]) .skip)) (.seq (.draw [.m 44 10, .f 45 2 2, .l 46 45, .m 47 5, .m 48 9, .o 49 (.iaddrS 2 (.t 47) (.t 48)), .f 50 1 49, .l 51 50, .m 52 8, .o 53 (.bin .sub (.t 51) (.t 52)),
  .o 54 (.mnx false [.t 44, .t 46, .t 53]), .o 55 (.mnx true [.i 0, .t 54]), .m 10 55] []) (.seq (.region [.m 56 7, .m 57 10, .o 58 (.bslice [(.int .i64 0)] 1 1 [(0, (1, (.t
  57)))]), .o 59 (.app 1 8 (.t 56) (.t 58)), .m 7 59]) (.region [.m 60 8, .m 61 10, .o 62 (.bin .add (.t 60) (.t 61)), .m 8 62])))))) (.region [.m 20 9, .o 21 (.bin .add (.t 20)
  (.i 1)), .m 9 21])))))) (.seq (.region [.m 63 7, .m 4 63]) .ret))))))⟩
def af36 : AFn := ⟨62, [(.tmp 4), (.tmp 5)], (.seq (.region [.o 2 (.box (.t 0)), .o 4 (.mv (.i 0)), .o 5 (.mv (.const (.slc none 0 0 true 0)))]) (.seq (.region [.f 10 3 2, .a 11 2 10, .o 12
  (.bslice [(.int .i64 0), (.int .i64 0)] 1 2 [(0, (2, (.t 11)))]), .f 13 5 2, .l 14 13, .o 15 (.app 2 16 (.t 12) (.t 14)), .m 6 15]) (.seq (.region [.o 7 (.mv (.const (.slc none
  0 0 true 0)))]) (.seq (.seq (.region [.o 8 (.mv (.i 0))]) (.block 0 (.loop (.seq (.seq (.region [.m 16 8, .m 17 6, .o 18 (.len (.t 17)), .o 19 (.bin .lss (.t 16) (.t 18))])
  (.cond (.t 19) .skip (.exit 0))) (.seq (.block 1 (.seq (.region [.m 22 6, .m 23 8, .o 24 (.iaddrS 2 (.t 22) (.t 23)), .f 25 0 24, .l 26 25, .m 9 26]) (.seq (.seq (.region [.m 27
  1, .o 28 (.len (.t 27)), .o 29 (.bin .gtr (.t 28) (.i 0))]) (.cond (.t 29) (.draw [.m 30 9, .m 31 1, .m 32 8, .m 33 1, .o 34 (.len (.t 33)), .o 35 (.bin .rem (.t 32) (.t 34)),
  .o 36 (.iaddrS 1 (.t 31) (.t 35)), .l 37 36, .o 38 (.conv .i64 (.t 37)), .m 39 6, .m 40 8, .o 41 (.iaddrS 2 (.t 39) (.t 40)), .f 42 1 41, .l 43 42, .m 44 6, .m 45 8, .o 46
  (.iaddrS 2 (.t 44) (.t 45)), .f 47 0 46, .l 48 47, .o 49 (.bin .sub (.t 43) (.t 48)), .o 50 (.bin .add (.t 49) (.i 1)), .o 51 (.bin .rem (.t 38) (.t 50)), .o 52 (.bin .add (.t
  30) (.t 51)), .m 9 52] []) .skip)) (.region [.m 53 7, .m 54 9, .o 55 (.bslice [(.int .i64 0)] 1 1 [(0, (1, (.t 54)))]), .o 56 (.app 1 8 (.t 53) (.t 55)), .m 7 56])))) (.region
  [.m 20 8, .o 21 (.bin .add (.t 20) (.i 1)), .m 8 21])))))) (.seq (.draw [.m 57 7, .o 58 (.iaddrS 1 (.t 57) (.i 0)), .l 59 58, .m 60 7, .o 61 (.slc 1 (.t 60) (some (.i 1)) none
  none), .m 4 59, .m 5 61] []) .ret)))))⟩
def af37 : AFn := ⟨41, [(.tmp 4)], (.seq (.region [.o 4 (.mv (.b false))]) (.seq (.seq (.region [.o 5 (.mv (.i 0))]) (.block 0 (.loop (.seq (.seq (.region [.m 6 5, .m 7 0, .o 8 (.len (.t 7)), .o 9
  (.bin .lss (.t 6) (.t 8)), .m 10 9, .y 11 10 (.mv (.t 5)), .y 12 10 (.mv (.t 1)), .y 13 10 (.len (.t 12)), .y 14 10 (.bin .lss (.t 11) (.t 13)), .o 15 (.pick (.t 10) (.t 14) (.b
  false))]) (.cond (.t 15) .skip (.exit 0))) (.seq (.block 1 (.seq (.draw [.m 18 0, .m 19 5, .o 20 (.iaddrS 1 (.t 18) (.t 19)), .l 21 20, .m 22 1, .m 23 5, .o 24 (.iaddrS 1 (.t
  22) (.t 23)), .l 25 24, .o 26 (.bin .neq (.t 21) (.t 25))] []) (.cond (.t 26) (.seq (.draw [.m 27 0, .m 28 5, .o 29 (.iaddrS 1 (.t 27) (.t 28)), .l 30 29, .m 31 1, .m 32 5, .o
  33 (.iaddrS 1 (.t 31) (.t 32)), .l 34 33, .o 35 (.bin .lss (.t 30) (.t 34)), .m 4 35] []) .ret) .skip))) (.region [.m 16 5, .o 17 (.bin .add (.t 16) (.i 1)), .m 5 17]))))))
  (.seq (.region [.m 36 0, .o 37 (.len (.t 36)), .m 38 1, .o 39 (.len (.t 38)), .o 40 (.bin .lss (.t 37) (.t 39)), .m 4 40]) .ret)))⟩
def af38 : AFn := ⟨26, [(.cell 6 (some 2))], (.seq (.region [.o 3 (.box (.t 0)), .o 6 (.alloc [(.int .i64 0), (.int .i64 0)])]) (.seq (.region [.f 7 1 3, .l 8 7, .f 9 0 3, .l 10 9, .m 11 1, .o 12
  (.conv .i64 (.t 11)), .o 13 (.bin .add (.t 10) (.t 12)), .o 14 (.mnx false [.t 8, .t 13]), .f 15 0 3, .s 1 15 14]) (.seq (.region [.f 16 0 3, .l 17 16, .f 18 1 3, .l 19 18, .m
  20 2, .o 21 (.conv .i64 (.t 20)), .o 22 (.bin .sub (.t 19) (.t 21)), .o 23 (.mnx true [.t 17, .t 22]), .f 24 1 3, .s 1 24 23]) (.seq (.region [.a 25 2 3, .s 2 6 25]) .ret))))⟩
def af39 : AFn := ⟨18, [(.tmp 2)], (.seq (.region [.o 2 (.mv (.i 0))]) (.seq (.region [.o 3 (.mv (.i 0))]) (.seq (.seq (.region [.o 4 (.mv (.i 0))]) (.block 0 (.loop (.seq (.seq (.region [.m 5 4,
  .m 6 0, .o 7 (.len (.t 6)), .o 8 (.bin .lss (.t 5) (.t 7))]) (.cond (.t 8) .skip (.exit 0))) (.seq (.block 1 (.region [.m 11 3, .m 12 0, .m 13 4, .o 14 (.iaddrS 1 (.t 12) (.t
  13)), .l 15 14, .o 16 (.bin .add (.t 11) (.t 15)), .m 3 16])) (.region [.m 9 4, .o 10 (.bin .add (.t 9) (.i 1)), .m 4 10])))))) (.seq (.region [.m 17 3, .m 2 17]) .ret))))⟩
def af40 : AFn := ⟨8, [(.cell 4 (some 2))], (.seq (.region [.o 4 (.alloc [(.int .i64 0), (.int .i64 0)])]) (.seq (.region [.m 5 0, .m 6 1, .o 7 (.build [(.int .i64 0), (.int .i64 0)] [(0, (1, (.t
  5))), (1, (1, (.t 6)))]), .s 2 4 7]) .ret))⟩
def af41 : AFn := ⟨8, [(.cell 0 (some 7))], (.seq (.region [.o 0 (.alloc [(.int .i64 0), (.int .i64 0), (.int .i64 0), (.int .i64 0), (.int .i64 0), (.slc none 0 0 true 0), (.slc none 0 0 true
  0)])]) (.seq (.region [.o 1 (.call (.func 40) [.i 40, .i 50]), .o 2 (.call (.func 40) [.i 20, .i 30]), .o 3 (.call (.func 40) [.i 30, .i 40]), .o 4 (.call (.func 40) [.i 20, .i
  50]), .o 5 (.bslice [(.int .i64 0), (.int .i64 0), (.int .i64 0), (.int .i64 0), (.int .i64 0), (.int .i64 0)] 3 2 [(0, (2, (.t 2))), (2, (2, (.t 3))), (4, (2, (.t 4)))]), .o 6
  (.bslice [(.int .i64 0), (.int .i64 0), (.int .i64 0)] 3 1 [(0, (1, (.i 5))), (1, (1, (.i 9))), (2, (1, (.i 4)))]), .o 7 (.build [(.int .i64 0), (.int .i64 0), (.int .i64 0),
  (.int .i64 0), (.int .i64 0), (.slc none 0 0 true 0), (.slc none 0 0 true 0)] [(0, (1, (.i 100))), (1, (1, (.i 30))), (2, (1, (.i 2))), (3, (2, (.t 1))), (5, (1, (.t 5))), (6,
  (1, (.t 6)))]), .s 7 0 7]) .ret))⟩
def af42 : AFn := ⟨5, [(.cell 0 (some 7))], (.seq (.region [.o 0 (.alloc [(.int .i64 0), (.int .i64 0), (.int .i64 0), (.int .i64 0), (.int .i64 0), (.slc none 0 0 true 0), (.slc none 0 0 true
  0)])]) (.seq (.region [.o 2 (.call (.func 41) []), .o 1 (.alloc [(.int .i64 0), (.int .i64 0), (.int .i64 0), (.int .i64 0), (.int .i64 0), (.slc none 0 0 true 0), (.slc none 0
  0 true 0)]), .s 7 1 2]) (.seq (.region [.f 3 0 1, ⟨none, (.store 1 (.t 3) (.i 60)), none⟩]) (.seq (.region [.a 4 7 1, .s 7 0 4]) .ret))))⟩
noncomputable def af43 : AFn := ⟨72, [(.tmp 2)], (.seq (.region [.o 1 (.box (.t 0)), .o 2 (.mv (.const (.ptr none)))]) (.seq (.region [.a 9 7 1, .o 10 (.build ((zeroL Try.prog 75).getD []) [(0, (7, (.t 9)))]),
  .o 11 (.box (.t 10)), .m 3 11]) (.seq (.region [.o 12 (.build [(.int .i64 0), (.int .i64 0)] []), .o 4 (.alloc [(.int .i64 0), (.int .i64 0)]), .s 2 4 12]) (.seq (.seq (.region
  [.f 13 5 1, .l 14 13, .o 15 (.len (.t 14)), .o 16 (.mv (.i 0))]) (.block 0 (.loop (.seq (.region [.o 17 (.bin .lss (.t 16) (.t 15))]) (.seq (.cond (.t 17) .skip (.exit 0)) (.seq
  (.block 1 (.seq (.region [.o 18 (.iaddrS 2 (.t 14) (.t 16)), .a 19 2 18, .o 6 (.alloc [(.int .i64 0), (.int .i64 0)]), .s 2 6 19]) (.seq (.region [.f 20 0 1, .l 21 20, .f 22 3 1,
   .f 23 1 22, .l 24 23, .o 25 (.bin .sub (.t 21) (.t 24)), .f 26 0 4, .l 27 26, .o 28 (.bin .add (.t 25) (.t 27)), .f 29 1 1, .l 30 29, .o 31 (.bin .quo (.t 28) (.t 30)), .m 7
  31]) (.seq (.region [.f 32 0 4, .l 33 32, .f 34 0 6, .l 35 34, .o 36 (.bin .add (.t 33) (.t 35)), .f 37 0 4, .s 1 37 36]) (.seq (.region [.f 38 1 4, .l 39 38, .f 40 1 6, .l 41
  40, .o 42 (.bin .add (.t 39) (.t 41)), .f 43 1 4, .s 1 43 42]) (.seq (.region [.f 44 1 4, .l 45 44, .f 46 3 1, .f 47 0 46, .l 48 47, .o 49 (.bin .sub (.t 45) (.t 48)), .f 50 1 1,
   .l 51 50, .o 52 (.bin .add (.t 49) (.t 51)), .o 53 (.bin .sub (.t 52) (.i 1)), .o 54 (.mnx true [.i 0, .t 53]), .f 55 1 1, .l 56 55, .o 57 (.bin .quo (.t 54) (.t 56)), .m 8
  57]) (.region [.m 58 3, .m 59 3, .o 60 (.nilchk (.t 59)), .f 61 7 60, .l 62 61, .m 63 8, .m 64 7, .o 65 (.build [(.int .i64 0), (.int .i64 0)] [(0, (1, (.t 63))), (1, (1, (.t
  64)))]), .o 66 (.bslice [(.int .i64 0), (.int .i64 0)] 1 2 [(0, (2, (.t 65)))]), .o 67 (.app 2 16 (.t 62) (.t 66)), .o 68 (.nilchk (.t 58)), .f 69 7 68, .s 1 69 67])))))))
  (.region [.o 70 (.bin .add (.t 16) (.i 1)), .m 16 70]))))))) (.seq (.region [.m 71 3, .m 2 71]) .ret)))))⟩
def af44 : AFn := ⟨59, [(.tmp 2)], (.seq (.region [.o 1 (.box (.t 0)), .o 2 (.mv (.const (.slc none 0 0 true 0)))]) (.seq (.region [.o 3 (.mv (.const (.slc none 0 0 true 0)))]) (.seq (.draw [.f 8 3
  1, .f 9 0 8, .l 10 9, .o 11 (.un .neg (.t 10)), .f 12 0 1, .l 13 12, .f 14 3 1, .f 15 1 14, .l 16 15, .o 17 (.bin .sub (.t 13) (.t 16)), .m 4 11, .m 5 17] []) (.seq (.seq
  (.region [.o 6 (.mv (.i 0))]) (.block 0 (.loop (.seq (.seq (.region [.m 18 6, .f 19 5 1, .l 20 19, .o 21 (.len (.t 20)), .o 22 (.bin .lss (.t 18) (.t 21))]) (.cond (.t 22) .skip
  (.exit 0))) (.seq (.block 1 (.seq (.region [.m 25 4, .f 26 5 1, .l 27 26, .m 28 6, .o 29 (.iaddrS 2 (.t 27) (.t 28)), .f 30 1 29, .l 31 30, .o 32 (.bin .add (.t 25) (.t 31)), .m
  4 32]) (.seq (.region [.o 7 (.mv (.i 0))]) (.seq (.seq (.region [.m 33 4, .o 34 (.bin .gtr (.t 33) (.i 0))]) (.cond (.t 34) (.region [.m 35 4, .o 36 (.bin .sub (.t 35) (.i 1)),
  .f 37 1 1, .l 38 37, .o 39 (.bin .quo (.t 36) (.t 38)), .o 40 (.bin .add (.t 39) (.i 1)), .m 7 40]) .skip)) (.seq (.region [.m 41 3, .m 42 7, .m 43 5, .f 44 1 1, .l 45 44, .o 46
  (.bin .quo (.t 43) (.t 45)), .o 47 (.build [(.int .i64 0), (.int .i64 0)] [(0, (1, (.t 42))), (1, (1, (.t 46)))]), .o 48 (.bslice [(.int .i64 0), (.int .i64 0)] 1 2 [(0, (2, (.t
  47)))]), .o 49 (.app 2 16 (.t 41) (.t 48)), .m 3 49]) (.region [.m 50 5, .f 51 5 1, .l 52 51, .m 53 6, .o 54 (.iaddrS 2 (.t 52) (.t 53)), .f 55 0 54, .l 56 55, .o 57 (.bin .add
  (.t 50) (.t 56)), .m 5 57])))))) (.region [.m 23 6, .o 24 (.bin .add (.t 23) (.i 1)), .m 6 24])))))) (.seq (.region [.m 58 3, .m 2 58]) .ret)))))⟩
def af45 : AFn := ⟨9, [(.tmp 4)], (.seq (.region [.o 4 (.mv (.b false))]) (.seq (.region [.m 5 0, .m 6 1, .o 7 (.call (.func 57) [.t 5, .t 6]), .o 8 (.bin .geq (.t 7) (.i 0)), .m 4 8]) .ret))⟩
def af46 : AFn := ⟨12, [(.tmp 3)], (.seq (.region [.o 3 (.mv (.b false))]) (.seq (.region [.m 4 0, .o 5 (.bin .lss (.t 4) (.i 0)), .m 6 5, .n 7 6 (.mv (.t 0)), .n 8 6 (.faddr 2 (.t 1)), .n 9 6
  (.load none (.t 8)), .n 10 6 (.bin .gtr (.t 7) (.t 9)), .o 11 (.pick (.t 6) (.b true) (.t 10)), .m 3 11]) .ret))⟩
def af47 : AFn := ⟨11, [(.tmp 6)], (.seq (.region [.o 3 (.box (.t 0)), .o 4 (.box (.t 1)), .o 6 (.mv (.b false))]) (.seq (.region [.m 7 2, .o 8 (.mkfn 59 [] [.t 3, .t 4]), .o 9 (.call (.func 58)
  [.t 7, .t 8]), .o 10 (.un .not (.t 9)), .m 6 10]) .ret))⟩
def af48 : AFn := ⟨22, [(.tmp 6)], (.seq (.region [.o 3 (.box (.t 0)), .o 6 (.mv (.b false))]) (.seq (.region [.m 7 1, .m 8 2, .f 9 0 3, .l 10 9, .f 11 1 3, .l 12 11, .o 13 (.bslice [(.int .i64 0),
  (.int .i64 0)] 2 1 [(0, (1, (.t 10))), (1, (1, (.t 12)))]), .o 14 (.call (.func 47) [.t 7, .t 8, .t 13]), .m 15 14, .y 16 15 (.faddr 0 (.t 3)), .y 17 15 (.load none (.t 16)), .y
  18 15 (.faddr 1 (.t 3)), .y 19 15 (.load none (.t 18)), .y 20 15 (.bin .leq (.t 17) (.t 19)), .o 21 (.pick (.t 15) (.t 20) (.b false)), .m 6 21]) .ret))⟩
def af49 : AFn := ⟨9, [(.tmp 4)], (.seq (.region [.o 4 (.mv (.b false))]) (.seq (.region [.m 5 0, .m 6 1, .o 7 (.call (.func 60) [.t 5, .t 6]), .o 8 (.bin .geq (.t 7) (.i 0)), .m 4 8]) .ret))⟩
def af50 : AFn := ⟨6, [(.tmp 2)], (.seq (.region [.o 1 (.box (.t 0)), .o 2 (.mv (.b false))]) (.seq (.region [.a 3 2 1, .o 4 (.call (.func 48) [.t 3, .i 0, .i 100000]), .o 5 (.un .not (.t 4)), .m 2
  5]) .ret))⟩
def af51 : AFn := ⟨24, [(.tmp 6)], (.seq (.region [.o 3 (.box (.t 0)), .o 6 (.mv (.b false))]) (.seq (.region [.f 7 0 3, .l 8 7, .m 9 1, .o 10 (.bin .geq (.t 8) (.t 9)), .m 11 10, .y 12 11 (.faddr
  0 (.t 3)), .y 13 11 (.load none (.t 12)), .y 14 11 (.faddr 1 (.t 3)), .y 15 11 (.load none (.t 14)), .y 16 11 (.bin .leq (.t 13) (.t 15)), .o 17 (.pick (.t 11) (.t 16) (.b
  false)), .m 18 17, .y 19 18 (.faddr 1 (.t 3)), .y 20 18 (.load none (.t 19)), .y 21 18 (.mv (.t 2)), .y 22 18 (.bin .leq (.t 20) (.t 21)), .o 23 (.pick (.t 18) (.t 22) (.b
  false)), .m 6 23]) .ret))⟩
def af52 : AFn := ⟨12, [(.tmp 3)], (.seq (.region [.o 3 (.mv (.b false))]) (.seq (.region [.m 4 0, .o 5 (.bin .lss (.t 4) (.i 0)), .m 6 5, .n 7 6 (.mv (.t 0)), .n 8 6 (.faddr 2 (.t 1)), .n 9 6
  (.load none (.t 8)), .n 10 6 (.bin .gtr (.t 7) (.t 9)), .o 11 (.pick (.t 6) (.b true) (.t 10)), .m 3 11]) .ret))⟩
def af53 : AFn := ⟨27, [(.tmp 2), (.tmp 3), (.tmp 4)], (.seq (.region [.o 1 (.box (.t 0)), .o 2 (.mv (.const (.ptr none))), .o 3 (.mv (.const (.slc none 0 0 true 0))), .o 4 (.mv (.i 0))]) (.seq
  (.seq (.region [.a 9 7 1, .o 10 (.call (.func 20) [.t 9]), .m 5 10]) (.seq (.region [.m 11 5, .o 12 (.bin .neq (.t 11) (.i 0))]) (.cond (.t 12) (.seq (.region [.m 13 5, .o 2
  (.mv (.const (.ptr none))), .o 3 (.mv (.const (.slc none 0 0 true 0))), .m 4 13]) .ret) .skip))) (.seq (.region [.a 14 7 1, .o 15 (.call (.func 43) [.t 14]), .m 6 15]) (.seq
  (.region [.m 16 6, .o 17 (.call (.func 61) [.t 16])]) (.seq (.region [.m 19 6, .o 20 (.call (.func 62) [.t 19]), .m 18 20, .e 21 18 0, .e 22 18 1, .m 7 21, .m 8 22]) (.seq (.seq
  (.region [.m 23 8, .o 24 (.un .not (.t 23))]) (.cond (.t 24) (.seq (.region [.o 2 (.mv (.const (.ptr none))), .o 3 (.mv (.const (.slc none 0 0 true 0))), .o 4 (.mv (.i 13))])
  .ret) .skip)) (.seq (.region [.m 25 6, .m 26 7, .m 2 25, .m 3 26, .o 4 (.mv (.i 0))]) .ret)))))))⟩
def af54 : AFn := ⟨121, [(.tmp 2)], (.seq (.region [.o 1 (.box (.t 0)), .o 2 (.mv (.const (.slc none 0 0 true 0)))]) (.seq (.region [.a 9 7 1, .o 10 (.call (.func 44) [.t 9]), .m 3 10]) (.seq
  (.region [.f 11 5 1, .l 12 11, .o 13 (.len (.t 12)), .m 4 13]) (.seq (.region [.m 14 4, .o 15 (.bin .add (.t 14) (.i 1)), .o 16 (.mkslc [(.slc none 0 0 true 0)] 24 (.t 15) (.t
  15)), .m 5 16]) (.seq (.seq (.region [.m 17 4, .m 6 17]) (.block 0 (.loop (.seq (.seq (.region [.m 18 6, .o 19 (.bin .geq (.t 18) (.i 0))]) (.cond (.t 19) .skip (.exit 0)))
  (.seq (.block 1 (.seq (.region [.m 22 5, .m 23 6, .m 24 4, .f 25 2 1, .l 26 25, .o 27 (.bin .mul (.t 24) (.t 26)), .o 28 (.bin .add (.t 27) (.i 1)), .o 29 (.mkslc [(.int .i64
  0)] 8 (.t 28) (.t 28)), .o 30 (.iaddrS 1 (.t 22) (.t 23)), .s 1 30 29]) (.seq (.region [.o 7 (.mv (.i 0))]) (.block 2 (.loop (.seq (.seq (.region [.m 31 7, .m 32 5, .m 33 6, .o
  34 (.iaddrS 1 (.t 32) (.t 33)), .l 35 34, .o 36 (.len (.t 35)), .o 37 (.bin .lss (.t 31) (.t 36)), .m 38 37, .y 39 38 (.mv (.t 6)), .y 40 38 (.mv (.t 4)), .y 41 38 (.bin .lss
  (.t 39) (.t 40)), .o 42 (.pick (.t 38) (.t 41) (.b false))]) (.cond (.t 42) .skip (.exit 2))) (.seq (.block 3 (.seq (.region [.m 45 5, .m 46 6, .o 47 (.iaddrS 1 (.t 45) (.t 46)),
   .l 48 47, .m 49 7, .o 50 (.iaddrS 1 (.t 48) (.t 49)), ⟨none, (.store 1 (.t 50) (.i 1125899906842624)), none⟩]) (.seq (.region [.o 8 (.mv (.i 0))]) (.block 4 (.loop (.seq (.seq
  (.region [.m 51 8, .f 52 2 1, .l 53 52, .o 54 (.bin .leq (.t 51) (.t 53)), .m 55 54, .y 56 55 (.mv (.t 7)), .y 57 55 (.mv (.t 8)), .y 58 55 (.bin .add (.t 56) (.t 57)), .y 59 55
  (.mv (.t 5)), .y 60 55 (.mv (.t 6)), .y 61 55 (.iaddrS 1 (.t 59) (.t 60)), .y 62 55 (.load none (.t 61)), .y 63 55 (.len (.t 62)), .y 64 55 (.bin .lss (.t 58) (.t 63)), .o 65
  (.pick (.t 55) (.t 64) (.b false))]) (.cond (.t 65) .skip (.exit 4))) (.seq (.block 5 (.seq (.region [.m 68 7, .m 69 8, .o 70 (.bin .add (.t 68) (.t 69)), .m 71 3, .m 72 6, .o
  73 (.iaddrS 2 (.t 71) (.t 72)), .f 74 0 73, .l 75 74, .o 76 (.bin .geq (.t 70) (.t 75)), .m 77 76, .y 78 77 (.mv (.t 7)), .y 79 77 (.mv (.t 8)), .y 80 77 (.bin .add (.t 78) (.t
  79)), .y 81 77 (.mv (.t 3)), .y 82 77 (.mv (.t 6)), .y 83 77 (.iaddrS 2 (.t 81) (.t 82)), .y 84 77 (.faddr 1 (.t 83)), .y 85 77 (.load none (.t 84)), .y 86 77 (.bin .leq (.t 80)
  (.t 85)), .o 87 (.pick (.t 77) (.t 86) (.b false))]) (.cond (.t 87) (.draw [.m 88 5, .m 89 6, .o 90 (.iaddrS 1 (.t 88) (.t 89)), .l 91 90, .m 92 7, .m 93 5, .m 94 6, .o 95
  (.iaddrS 1 (.t 93) (.t 94)), .l 96 95, .m 97 7, .o 98 (.iaddrS 1 (.t 96) (.t 97)), .l 99 98, .m 100 8, .f 101 6 1, .l 102 101, .m 103 6, .o 104 (.iaddrS 1 (.t 102) (.t 103)), .l
  105 104, .o 106 (.bin .mul (.t 100) (.t 105)), .m 107 5, .m 108 6, .o 109 (.bin .add (.t 108) (.i 1)), .o 110 (.iaddrS 1 (.t 107) (.t 109)), .l 111 110, .m 112 7, .m 113 8, .o
  114 (.bin .add (.t 112) (.t 113)), .o 115 (.iaddrS 1 (.t 111) (.t 114)), .l 116 115, .o 117 (.bin .add (.t 106) (.t 116)), .o 118 (.mnx false [.t 99, .t 117]), .o 119 (.iaddrS 1
  (.t 91) (.t 92)), .s 1 119 118] []) .skip))) (.region [.m 66 8, .o 67 (.bin .add (.t 66) (.i 1)), .m 8 67])))))))) (.region [.m 43 7, .o 44 (.bin .add (.t 43) (.i 1)), .m 7
  44])))))))) (.region [.m 20 6, .o 21 (.bin .sub (.t 20) (.i 1)), .m 6 21])))))) (.seq (.region [.m 120 5, .m 2 120]) .ret))))))⟩
def af55 : AFn := ⟨4, [(.tmp 2)], (.seq (.region [.o 1 (.box (.t 0)), .o 2 (.mv (.const .nilfn))]) (.seq (.region [.o 3 (.mkfn 63 [] [.t 1]), .m 2 3]) .ret))⟩
def af56 : AFn := ⟨125, [(.tmp 4)], (.seq (.region [.o 4 (.mv (.const (.slc none 0 0 true 0)))]) (.seq (.region [.m 15 1, .o 16 (.len (.t 15)), .m 5 16]) (.seq (.region [.m 17 5, .o 18 (.mkslc
  [(.int .i64 0)] 8 (.t 17) (.t 17)), .m 6 18]) (.seq (.region [.m 19 0, .o 20 (.nilchk (.t 19)), .f 21 0 20, .f 22 6 21, .l 23 22, .o 24 (.call (.func 64) [.t 23]), .m 7 24])
  (.seq (.seq (.region [.m 25 6, .o 26 (.len (.t 25)), .o 27 (.mv (.i 0))]) (.block 0 (.loop (.seq (.region [.o 28 (.bin .lss (.t 27) (.t 26))]) (.seq (.cond (.t 28) .skip (.exit
  0)) (.seq (.block 1 (.seq (.region [.m 29 27, .m 8 29]) (.region [.m 30 6, .m 31 8, .m 32 7, .o 33 (.iaddrS 1 (.t 30) (.t 31)), .s 1 33 32]))) (.region [.o 34 (.bin .add (.t 27)
  (.i 1)), .m 27 34]))))))) (.seq (.region [.m 35 0, .o 36 (.mkfn 65 [.t 35] []), .m 9 36]) (.block 2 (.loop (.block 3 (.seq (.region [.m 37 6, .o 38 (.call (.func 66) [.t 37]),
  .m 10 38]) (.seq (.region [.o 11 (.mv (.i 0))]) (.seq (.seq (.region [.m 39 1, .o 40 (.len (.t 39)), .o 41 (.mv (.i 0))]) (.block 4 (.loop (.seq (.region [.o 42 (.bin .lss (.t
  41) (.t 40))]) (.seq (.cond (.t 42) .skip (.exit 4)) (.seq (.block 5 (.seq (.region [.m 43 41, .o 44 (.iaddrS 1 (.t 39) (.t 41)), .l 45 44, .m 12 43, .m 13 45]) (.seq (.region
  [.m 46 11, .m 47 13, .o 48 (.bin .add (.t 46) (.t 47)), .m 11 48]) (.seq (.region [.o 14 (.mv (.i 0))]) (.seq (.seq (.region [.m 49 12, .o 50 (.bin .add (.t 49) (.i 1)), .m 51 5,
   .o 52 (.bin .lss (.t 50) (.t 51))]) (.cond (.t 52) (.region [.m 53 6, .m 54 12, .o 55 (.bin .add (.t 54) (.i 1)), .o 56 (.iaddrS 1 (.t 53) (.t 55)), .l 57 56, .m 14 57])
  .skip)) (.seq (.seq (.region [.m 58 13, .m 59 0, .o 60 (.nilchk (.t 59)), .f 61 0 60, .f 62 2 61, .l 63 62, .o 64 (.bin .lss (.t 58) (.t 63))]) (.cond (.t 64) (.draw [.m 65 6,
  .m 66 12, .m 67 6, .m 68 12, .o 69 (.iaddrS 1 (.t 67) (.t 68)), .l 70 69, .m 71 0, .o 72 (.nilchk (.t 71)), .f 73 0 72, .f 74 6 73, .l 75 74, .m 76 12, .o 77 (.iaddrS 1 (.t 75)
  (.t 76)), .l 78 77, .o 79 (.mnx false [.t 70, .t 78]), .o 80 (.iaddrS 1 (.t 65) (.t 66)), .s 1 80 79] []) .skip)) (.seq (.seq (.region [.m 81 11, .m 82 0, .o 83 (.nilchk (.t
  82)), .f 84 7 83, .l 85 84, .m 86 12, .o 87 (.iaddrS 2 (.t 85) (.t 86)), .f 88 0 87, .l 89 88, .o 90 (.bin .gtr (.t 81) (.t 89))]) (.cond (.t 90) (.region [.m 91 6, .m 92 12, .m
  93 6, .m 94 12, .o 95 (.iaddrS 1 (.t 93) (.t 94)), .l 96 95, .m 97 14, .o 98 (.mnx false [.t 96, .t 97]), .o 99 (.iaddrS 1 (.t 91) (.t 92)), .s 1 99 98]) .skip)) (.seq (.region
  [.m 100 9, .m 101 12, .m 102 11, .o 103 (.call (.t 100) [.t 101, .t 102]), .m 104 103, .y 105 104 (.mv (.t 12)), .y 106 104 (.bin .add (.t 105) (.i 1)), .y 107 104 (.mv (.t 5)),
  .y 108 104 (.bin .lss (.t 106) (.t 107)), .o 109 (.pick (.t 104) (.t 108) (.b false))]) (.cond (.t 109) (.region [.m 110 6, .m 111 12, .o 112 (.bin .add (.t 111) (.i 1)), .m 113
  14, .m 114 6, .m 115 12, .o 116 (.iaddrS 1 (.t 114) (.t 115)), .l 117 116, .o 118 (.mnx false [.t 113, .t 117]), .o 119 (.iaddrS 1 (.t 110) (.t 112)), .s 1 119 118])
  .skip))))))))) (.region [.o 120 (.bin .add (.t 41) (.i 1)), .m 41 120]))))))) (.seq (.region [.m 121 6, .m 122 10, .o 123 (.call (.func 67) [.t 121, .t 122])]) (.cond (.t 123)
  (.seq (.region [.m 124 6, .m 4 124]) .ret) .skip))))))))))))))⟩
def af57 : AFn := ⟨19, [(.tmp 4)], (.seq (.region [.o 4 (.mv (.i 0))]) (.seq (.seq (.region [.m 6 0, .o 7 (.len (.t 6)), .o 8 (.mv (.i 0))]) (.block 0 (.loop (.seq (.region [.o 9 (.bin .lss (.t 8)
  (.t 7))]) (.seq (.cond (.t 9) .skip (.exit 0)) (.seq (.block 1 (.seq (.region [.m 10 8, .m 5 10]) (.seq (.region [.m 11 1, .m 12 0, .m 13 5, .o 14 (.iaddrS 1 (.t 12) (.t 13)),
  .l 15 14, .o 16 (.call (.t 11) [.t 15])]) (.cond (.t 16) (.seq (.region [.m 17 5, .m 4 17]) .ret) .skip)))) (.region [.o 18 (.bin .add (.t 8) (.i 1)), .m 8 18]))))))) (.seq
  (.region [.o 4 (.mv (.i (-1)))]) .ret)))⟩
def af58 : AFn := ⟨9, [(.tmp 4)], (.seq (.region [.o 4 (.mv (.b false))]) (.seq (.region [.m 5 0, .m 6 1, .o 7 (.call (.func 68) [.t 5, .t 6]), .o 8 (.bin .geq (.t 7) (.i 0)), .m 4 8]) .ret))⟩
def af59 : AFn := ⟨13, [(.tmp 4)], (.seq (.region [.o 4 (.mv (.b false))]) (.seq (.region [.m 5 0, .l 6 1, .o 7 (.bin .lss (.t 5) (.t 6)), .m 8 7, .n 9 8 (.mv (.t 0)), .n 10 8 (.load none (.t 2)),
  .n 11 8 (.bin .gtr (.t 9) (.t 10)), .o 12 (.pick (.t 8) (.b true) (.t 11)), .m 4 12]) .ret))⟩
def af60 : AFn := ⟨19, [(.tmp 4)], (.seq (.region [.o 4 (.mv (.i 0))]) (.seq (.seq (.region [.m 6 0, .o 7 (.len (.t 6)), .o 8 (.mv (.i 0))]) (.block 0 (.loop (.seq (.region [.o 9 (.bin .lss (.t 8)
  (.t 7))]) (.seq (.cond (.t 9) .skip (.exit 0)) (.seq (.block 1 (.seq (.region [.m 10 8, .m 5 10]) (.seq (.region [.m 11 1, .m 12 0, .m 13 5, .o 14 (.iaddrS 2 (.t 12) (.t 13)),
  .a 15 2 14, .o 16 (.call (.t 11) [.t 15])]) (.cond (.t 16) (.seq (.region [.m 17 5, .m 4 17]) .ret) .skip)))) (.region [.o 18 (.bin .add (.t 8) (.i 1)), .m 8 18]))))))) (.seq
  (.region [.o 4 (.mv (.i (-1)))]) .ret)))⟩
def af61 : AFn := ⟨118, [], (.seq (.region [.o 1 (.box (.t 0))]) (.seq (.region [.l 10 1, .o 11 .mkmap, .o 12 (.nilchk (.t 10)), .f 13 4229 12, .s 1 13 11]) (.seq (.draw [.l 14 1, .l 15 1, .o 16
  (.nilchk (.t 15)), .f 17 0 16, .f 18 5 17, .l 19 18, .o 20 (.len (.t 19)), .o 21 (.nilchk (.t 14)), .f 22 8 21, .o 23 (.iaddrA 21 201 (.t 22) (.t 20)), .o 24 (.slcA 201 1 (.t
  23) none none none), ⟨none, (.clrS [(.int .i64 0)] (.t 24)), none⟩] []) (.seq (.region [.o 2 (.mv (.func 69))]) (.seq (.region [.l 25 1, .o 26 (.nilchk (.t 25)), .f 27 0 26, .f
  28 5 27, .l 29 28, .o 30 (.len (.t 29)), .o 31 (.bin .sub (.t 30) (.i 1)), .o 3 (.alloc [(.int .i64 0)]), .s 1 3 31]) (.block 0 (.loop (.seq (.seq (.region [.l 32 3, .o 33 (.bin
  .geq (.t 32) (.i 0))]) (.cond (.t 33) .skip (.exit 0))) (.seq (.block 1 (.seq (.seq (.region [.o 36 (.mv (.i 0))]) (.block 2 (.loop (.seq (.region [.o 37 (.bin .lss (.t 36) (.i
  201))]) (.seq (.cond (.t 37) .skip (.exit 2)) (.seq (.block 3 (.seq (.region [.m 38 36, .m 4 38]) (.draw [.l 39 1, .l 40 3, .m 41 4, .o 42 (.nilchk (.t 39)), .f 43 8 42, .o 44
  (.iaddrA 21 201 (.t 43) (.t 40)), .o 45 (.iaddrA 201 1 (.t 44) (.t 41)), ⟨none, (.store 1 (.t 45) (.i 1125899906842624)), none⟩] []))) (.region [.o 46 (.bin .add (.t 36) (.i 1)),
   .m 36 46]))))))) (.seq (.region [.o 5 (.alloc [(.int .i64 0)]), ⟨none, (.store 1 (.t 5) (.i 0)), none⟩]) (.block 4 (.loop (.seq (.seq (.draw [.l 47 5, .l 48 3, .l 49 1, .o 50
  (.nilchk (.t 49)), .f 51 0 50, .f 52 2 51, .l 53 52, .o 54 (.bin .mul (.t 48) (.t 53)), .o 55 (.bin .leq (.t 47) (.t 54))] []) (.cond (.t 55) .skip (.exit 4))) (.seq (.block 5
  (.seq (.region [.l 58 3, .l 59 5, .o 60 (.build [(.int .i64 0), (.int .i64 0)] [(0, (1, (.t 58))), (1, (1, (.t 59)))]), .o 6 (.alloc [(.int .i64 0), (.int .i64 0)]), .s 2 6 60])
  (.seq (.region [.o 61 (.build [(.int .i64 0), (.int .i64 0)] [(0, (1, (.i 0))), (1, (1, (.i 1125899906842624)))]), .o 62 (.bslice [(.int .i64 0), (.int .i64 0)] 1 2 [(0, (2, (.t
  61)))]), .o 7 (.alloc [(.slc none 0 0 true 0)]), .s 1 7 62]) (.seq (.seq (.region [.l 63 1, .a 64 2 6, .o 65 (.call (.func 70) [.t 63, .t 64])]) (.block 6 (.rangeF (.t 65) [66]
  (.region [.m 8 66]) (.block 7 (.draw [.l 67 7, .m 68 8, .m 69 8, .l 70 1, .o 71 (.nilchk (.t 70)), .f 72 0 71, .f 73 6 72, .l 74 73, .l 75 3, .o 76 (.iaddrS 1 (.t 74) (.t 75)),
  .l 77 76, .o 78 (.bin .mul (.t 69) (.t 77)), .l 79 1, .l 80 3, .o 81 (.bin .add (.t 80) (.i 1)), .l 82 5, .m 83 8, .o 84 (.bin .add (.t 82) (.t 83)), .o 85 (.nilchk (.t 79)), .f
  86 8 85, .o 87 (.iaddrA 21 201 (.t 86) (.t 81)), .o 88 (.iaddrA 201 1 (.t 87) (.t 84)), .l 89 88, .o 90 (.bin .add (.t 78) (.t 89)), .o 91 (.build [(.int .i64 0), (.int .i64 0)]
  [(0, (1, (.t 68))), (1, (1, (.t 90)))]), .o 92 (.bslice [(.int .i64 0), (.int .i64 0)] 1 2 [(0, (2, (.t 91)))]), .o 93 (.app 2 16 (.t 67) (.t 92)), .s 1 7 93] [(0, 25)])))))
  (.seq (.region [.l 94 7, .m 95 2, .o 96 (.call (.func 71) [.t 94, .t 95]), .o 9 (.alloc [(.int .i64 0), (.int .i64 0)]), .s 2 9 96]) (.seq (.region [.f 97 1 9, .l 98 97, .o 99
  (.bin .lss (.t 98) (.i 1125899906842624))]) (.cond (.t 99) (.seq (.draw [.l 100 1, .l 101 3, .l 102 5, .f 103 1 9, .l 104 103, .o 105 (.nilchk (.t 100)), .f 106 8 105, .o 107
  (.iaddrA 21 201 (.t 106) (.t 101)), .o 108 (.iaddrA 201 1 (.t 107) (.t 102)), .s 1 108 104] []) (.draw [.l 109 1, .o 110 (.nilchk (.t 109)), .f 111 4229 110, .l 112 111, .a 113
  2 6, .f 114 0 9, .l 115 114, ⟨none, (.mapup true [.int, .int] (.t 112) (.t 113) (.t 115)), none⟩] [])) .skip))))))) (.seq (.seq (.region [.l 116 5]) (.region [.o 5 (.alloc
  [(.int .i64 0)]), .s 1 5 116])) (.region [.l 56 5, .o 57 (.bin .add (.t 56) (.i 1)), .s 1 5 57]))))))))) (.seq (.seq (.region [.l 117 3]) (.region [.o 3 (.alloc [(.int .i64 0)]),
   .s 1 3 117])) (.region [.l 34 3, .o 35 (.bin .sub (.t 34) (.i 1)), .s 1 3 35])))))))))))⟩
def af62 : AFn := ⟨64, [(.tmp 2), (.tmp 3)], (.seq (.region [.o 2 (.mv (.const (.slc none 0 0 true 0))), .o 3 (.mv (.b false))]) (.seq (.region [.m 9 0, .o 10 (.nilchk (.t 9)), .f 11 8 10, .o 12
  (.iaddrA 21 201 (.t 11) (.i 0)), .a 13 201 12, .o 4 (.alloc [(.int .i64 0), (.int .i64 0), (.int .i64 0), (.int .i64 0), (.int .i64 0), (.int .i64 0), (.int .i64 0), (.int .i64
  0), (.int .i64 0), (.int .i64 0), (.int .i64 0), (.int .i64 0), (.int .i64 0), (.int .i64 0), (.int .i64 0), (.int .i64 0), (.int .i64 0), (.int .i64 0), (.int .i64 0), (.int
  .i64 0), (.int .i64 0), (.int .i64 0), (.int .i64 0), (.int .i64 0), (.int .i64 0), (.int .i64 0), (.int .i64 0), (.int .i64 0), (.int .i64 0), (.int .i64 0), (.int .i64 0),
  (.int .i64 0), (.int .i64 0), (.int .i64 0), (.int .i64 0), (.int .i64 0), (.int .i64 0), (.int .i64 0), (.int .i64 0), (.int .i64 0), (.int .i64 0), (.int .i64 0), (.int .i64
  0), (.int .i64 0), (.int .i64 0), (.int .i64 0), (.int .i64 0), (.int .i64 0), (.int .i64 0), (.int .i64 0), (.int .i64 0), (.int .i64 0), (.int .i64 0), (.int .i64 0), (.int
  .i64 0), (.int .i64 0), (.int .i64 0), (.int .i64 0), (.int .i64 0), (.int .i64 0), (.int .i64 0), (.int .i64 0), (.int .i64 0), (.int .i64 0), (.int .i64 0), (.int .i64 0),
  (.int .i64 0), (.int .i64 0), (.int .i64 0), (.int .i64 0), (.int .i64 0), (.int .i64 0), (.int .i64 0), (.int .i64 0), (.int .i64 0), (.int .i64 0), (.int .i64 0), (.int .i64
  0), (.int .i64 0), (.int .i64 0), (.int .i64 0), (.int .i64 0), (.int .i64 0), (.int .i64 0), (.int .i64 0), (.int .i64 0), (.int .i64 0), (.int .i64 0), (.int .i64 0), (.int
  .i64 0), (.int .i64 0), (.int .i64 0), (.int .i64 0), (.int .i64 0), (.int .i64 0), (.int .i64 0), (.int .i64 0), (.int .i64 0), (.int .i64 0), (.int .i64 0), (.int .i64 0),
  (.int .i64 0), (.int .i64 0), (.int .i64 0), (.int .i64 0), (.int .i64 0), (.int .i64 0), (.int .i64 0), (.int .i64 0), (.int .i64 0), (.int .i64 0), (.int .i64 0), (.int .i64
  0), (.int .i64 0), (.int .i64 0), (.int .i64 0), (.int .i64 0), (.int .i64 0), (.int .i64 0), (.int .i64 0), (.int .i64 0), (.int .i64 0), (.int .i64 0), (.int .i64 0), (.int
  .i64 0), (.int .i64 0), (.int .i64 0), (.int .i64 0), (.int .i64 0), (.int .i64 0), (.int .i64 0), (.int .i64 0), (.int .i64 0), (.int .i64 0), (.int .i64 0), (.int .i64 0),
  (.int .i64 0), (.int .i64 0), (.int .i64 0), (.int .i64 0), (.int .i64 0), (.int .i64 0), (.int .i64 0), (.int .i64 0), (.int .i64 0), (.int .i64 0), (.int .i64 0), (.int .i64
  0), (.int .i64 0), (.int .i64 0), (.int .i64 0), (.int .i64 0), (.int .i64 0), (.int .i64 0), (.int .i64 0), (.int .i64 0), (.int .i64 0), (.int .i64 0), (.int .i64 0), (.int
  .i64 0), (.int .i64 0), (.int .i64 0), (.int .i64 0), (.int .i64 0), (.int .i64 0), (.int .i64 0), (.int .i64 0), (.int .i64 0), (.int .i64 0), (.int .i64 0), (.int .i64 0),
  (.int .i64 0), (.int .i64 0), (.int .i64 0), (.int .i64 0), (.int .i64 0), (.int .i64 0), (.int .i64 0), (.int .i64 0), (.int .i64 0), (.int .i64 0), (.int .i64 0), (.int .i64
  0), (.int .i64 0), (.int .i64 0), (.int .i64 0), (.int .i64 0), (.int .i64 0), (.int .i64 0), (.int .i64 0), (.int .i64 0), (.int .i64 0), (.int .i64 0), (.int .i64 0), (.int
  .i64 0), (.int .i64 0), (.int .i64 0), (.int .i64 0), (.int .i64 0), (.int .i64 0), (.int .i64 0)]), .s 201 4 13]) (.seq (.seq (.region [.o 14 (.mv (.i 0))]) (.block 0 (.loop
  (.seq (.region [.o 15 (.bin .lss (.t 14) (.i 201))]) (.seq (.cond (.t 15) .skip (.exit 0)) (.seq (.block 1 (.seq (.region [.m 16 14, .m 5 16]) (.region [.m 17 5, .o 18 (.iaddrA
  201 1 (.t 4) (.t 17)), ⟨none, (.store 1 (.t 18) (.i 1125899906842624)), none⟩]))) (.region [.o 19 (.bin .add (.t 14) (.i 1)), .m 14 19]))))))) (.seq (.seq (.draw [.m 20 0, .o 21
  (.nilchk (.t 20)), .f 22 8 21, .o 23 (.iaddrA 21 201 (.t 22) (.i 0)), .a 24 201 23, .a 25 201 4, .o 26 (.eqf false true [.int, .int, .int, .int, .int, .int, .int, .int, .int,
  .int, .int, .int, .int, .int, .int, .int, .int, .int, .int, .int, .int, .int, .int, .int, .int, .int, .int, .int, .int, .int, .int, .int, .int, .int, .int, .int, .int, .int,
  .int, .int, .int, .int, .int, .int, .int, .int, .int, .int, .int, .int, .int, .int, .int, .int, .int, .int, .int, .int, .int, .int, .int, .int, .int, .int, .int, .int, .int,
  .int, .int, .int, .int, .int, .int, .int, .int, .int, .int, .int, .int, .int, .int, .int, .int, .int, .int, .int, .int, .int, .int, .int, .int, .int, .int, .int, .int, .int,
  .int, .int, .int, .int, .int, .int, .int, .int, .int, .int, .int, .int, .int, .int, .int, .int, .int, .int, .int, .int, .int, .int, .int, .int, .int, .int, .int, .int, .int,
  .int, .int, .int, .int, .int, .int, .int, .int, .int, .int, .int, .int, .int, .int, .int, .int, .int, .int, .int, .int, .int, .int, .int, .int, .int, .int, .int, .int, .int,
  .int, .int, .int, .int, .int, .int, .int, .int, .int, .int, .int, .int, .int, .int, .int, .int, .int, .int, .int, .int, .int, .int, .int, .int, .int, .int, .int, .int, .int,
  .int, .int, .int, .int, .int, .int, .int, .int, .int, .int, .int, .int, .int, .int, .int, .int, .int, .int] (.t 24) (.t 25))] []) (.cond (.t 26) (.seq (.region [.o 2 (.mv
  (.const (.slc none 0 0 true 0))), .o 3 (.mv (.b false))]) .ret) .skip)) (.seq (.region [.o 6 (.mv (.const (.slc none 0 0 true 0)))]) (.seq (.seq (.region [.o 27 (.build [(.int
  .i64 0), (.int .i64 0)] []), .o 7 (.alloc [(.int .i64 0), (.int .i64 0)]), .s 2 7 27]) (.block 2 (.loop (.seq (.seq (.draw [.a 28 2 7, .m 29 0, .o 30 (.nilchk (.t 29)), .f 31 0
  30, .f 32 5 31, .l 33 32, .o 34 (.len (.t 33)), .f 35 1 7, .l 36 35, .o 37 (.build [(.int .i64 0), (.int .i64 0)] [(0, (1, (.t 34))), (1, (1, (.t 36)))]), .o 38 (.eqf true true
  [.int, .int] (.t 28) (.t 37))] []) (.cond (.t 38) .skip (.exit 2))) (.seq (.block 3 (.seq (.draw [.m 39 0, .o 40 (.nilchk (.t 39)), .f 41 4229 40, .l 42 41, .a 43 2 7, .o 44
  (.look true [.int, .int] (.int .i64 0) (.t 42) (.t 43) false), .m 8 44] []) (.seq (.draw [.m 45 0, .o 46 (.nilchk (.t 45)), .f 47 4229 46, .l 48 47, .a 49 2 7, ⟨none, (.del true
  [.int, .int] (.t 48) (.t 49)), none⟩] []) (.seq (.region [.m 50 6, .m 51 8, .o 52 (.bslice [(.int .i64 0)] 1 1 [(0, (1, (.t 51)))]), .o 53 (.app 1 8 (.t 50) (.t 52)), .m 6 53])
  (.region [.f 54 0 7, .l 55 54, .o 56 (.bin .add (.t 55) (.i 1)), .f 57 1 7, .l 58 57, .m 59 8, .o 60 (.bin .add (.t 58) (.t 59)), .o 61 (.build [(.int .i64 0), (.int .i64 0)]
  [(0, (1, (.t 56))), (1, (1, (.t 60)))]), .s 2 7 61]))))) (.seq (.region [.a 62 2 7]) (.region [.o 7 (.alloc [(.int .i64 0), (.int .i64 0)]), .s 2 7 62]))))))) (.seq (.region [.m
  63 6, .m 2 63, .o 3 (.mv (.b true))]) .ret)))))))⟩
def af63 : AFn := ⟨19, [], (.seq (.region [.l 4 1, .o 5 (.len (.t 4)), .o 6 (.bin .sub (.t 5) (.i 1)), .m 3 6]) (.block 0 (.loop (.seq (.seq (.region [.m 7 3, .o 8 (.bin .geq (.t 7) (.i 0))])
  (.cond (.t 8) .skip (.exit 0))) (.seq (.block 1 (.seq (.region [.m 11 0, .m 12 3, .l 13 1, .m 14 3, .o 15 (.iaddrS 1 (.t 13) (.t 14)), .l 16 15, .o 17 (.call (.t 11) [.t 12, .t
  16]), .o 18 (.un .not (.t 17))]) (.cond (.t 18) .ret .skip))) (.region [.m 9 3, .o 10 (.bin .sub (.t 9) (.i 1)), .m 3 10]))))))⟩
def af64 : AFn := ⟨25, [(.tmp 2)], (.seq (.region [.o 2 (.mv (.i 0))]) (.seq (.seq (.region [.m 5 0, .o 6 (.len (.t 5)), .o 7 (.bin .lss (.t 6) (.i 1))]) (.cond (.t 7) (.region [⟨(some 8), (.mkif 9
  (.const (.str ⟨#[115, 108, 105, 99, 101, 115, 46, 77, 97, 120, 58, 32, 101, 109, 112, 116, 121, 32, 108, 105, 115, 116]⟩))), none⟩, ⟨none, .bad, none⟩]) .skip)) (.seq (.region
  [.m 9 0, .o 10 (.iaddrS 1 (.t 9) (.i 0)), .l 11 10, .m 3 11]) (.seq (.seq (.region [.o 4 (.mv (.i 1))]) (.block 0 (.loop (.seq (.seq (.region [.m 12 4, .m 13 0, .o 14 (.len (.t
  13)), .o 15 (.bin .lss (.t 12) (.t 14))]) (.cond (.t 15) .skip (.exit 0))) (.seq (.block 1 (.region [.m 18 3, .m 19 0, .m 20 4, .o 21 (.iaddrS 1 (.t 19) (.t 20)), .l 22 21, .o
  23 (.mnx true [.t 18, .t 22]), .m 3 23])) (.region [.m 16 4, .o 17 (.bin .add (.t 16) (.i 1)), .m 4 17])))))) (.seq (.region [.m 24 3, .m 2 24]) .ret)))))⟩
def af65 : AFn := ⟨17, [(.tmp 6)], (.seq (.region [.o 6 (.mv (.b false))]) (.seq (.region [.m 7 2, .m 8 0, .o 9 (.nilchk (.t 8)), .f 10 7 9, .l 11 10, .m 12 1, .o 13 (.iaddrS 2 (.t 11) (.t 12)), .f
  14 1 13, .l 15 14, .o 16 (.bin .lss (.t 7) (.t 15)), .m 6 16]) .ret))⟩
def af66 : AFn := ⟨8, [(.tmp 2)], (.seq (.region [.o 2 (.mv (.const (.slc none 0 0 true 0)))]) (.seq (.seq (.region [.m 3 0, .o 4 (.eqn false 0 (.t 3) (.const (.slc none 0 0 true 0)))]) (.cond (.t
  4) (.seq (.region [.o 2 (.mv (.const (.slc none 0 0 true 0)))]) .ret) .skip)) (.seq (.region [.o 5 (.bslice [] 0 1 []), .m 6 0, .o 7 (.app 1 8 (.t 5) (.t 6)), .m 2 7]) .ret)))⟩
def af67 : AFn := ⟨26, [(.tmp 4)], (.seq (.region [.o 4 (.mv (.b false))]) (.seq (.seq (.region [.m 6 0, .o 7 (.len (.t 6)), .m 8 1, .o 9 (.len (.t 8)), .o 10 (.bin .neq (.t 7) (.t 9))]) (.cond (.t
  10) (.seq (.region [.o 4 (.mv (.b false))]) .ret) .skip)) (.seq (.seq (.region [.m 11 0, .o 12 (.len (.t 11)), .o 13 (.mv (.i 0))]) (.block 0 (.loop (.seq (.region [.o 14 (.bin
  .lss (.t 13) (.t 12))]) (.seq (.cond (.t 14) .skip (.exit 0)) (.seq (.block 1 (.seq (.region [.m 15 13, .m 5 15]) (.seq (.draw [.m 16 0, .m 17 5, .o 18 (.iaddrS 1 (.t 16) (.t
  17)), .l 19 18, .m 20 1, .m 21 5, .o 22 (.iaddrS 1 (.t 20) (.t 21)), .l 23 22, .o 24 (.bin .neq (.t 19) (.t 23))] []) (.cond (.t 24) (.seq (.region [.o 4 (.mv (.b false))])
  .ret) .skip)))) (.region [.o 25 (.bin .add (.t 13) (.i 1)), .m 13 25]))))))) (.seq (.region [.o 4 (.mv (.b true))]) .ret))))⟩
def af68 : AFn := ⟨19, [(.tmp 4)], (.seq (.region [.o 4 (.mv (.i 0))]) (.seq (.seq (.region [.m 6 0, .o 7 (.len (.t 6)), .o 8 (.mv (.i 0))]) (.block 0 (.loop (.seq (.region [.o 9 (.bin .lss (.t 8)
  (.t 7))]) (.seq (.cond (.t 9) .skip (.exit 0)) (.seq (.block 1 (.seq (.region [.m 10 8, .m 5 10]) (.seq (.region [.m 11 1, .m 12 0, .m 13 5, .o 14 (.iaddrS 1 (.t 12) (.t 13)),
  .l 15 14, .o 16 (.call (.t 11) [.t 15])]) (.cond (.t 16) (.seq (.region [.m 17 5, .m 4 17]) .ret) .skip)))) (.region [.o 18 (.bin .add (.t 8) (.i 1)), .m 8 18]))))))) (.seq
  (.region [.o 4 (.mv (.i (-1)))]) .ret)))⟩
def af69 : AFn := ⟨5, [(.tmp 2)], (.seq (.region [.o 1 (.box (.t 0)), .o 2 (.mv (.i 0))]) (.seq (.region [.f 3 1 1, .l 4 3, .m 2 4]) .ret))⟩
def af70 : AFn := ⟨15, [(.tmp 4)], (.seq (.region [.o 2 (.box (.t 0)), .o 3 (.box (.t 1)), .o 4 (.mv (.const .nilfn))]) (.seq (.draw [.l 6 2, .o 7 (.nilchk (.t 6)), .f 8 7 7, .l 9 8, .f 10 0 3, .l
  11 10, .o 12 (.iaddrS 2 (.t 9) (.t 11)), .a 13 2 12, .o 5 (.alloc [(.int .i64 0), (.int .i64 0)]), .s 2 5 13] [(0, 8), (3, 8), (5, 8), (7, 8)]) (.seq (.region [.o 14 (.mkfn 72
  [] [.t 2, .t 3, .t 5]), .m 4 14]) .ret)))⟩
def af71 : AFn := ⟨28, [(.cell 4 (some 2))], (.seq (.region [.o 4 (.alloc [(.int .i64 0), (.int .i64 0)])]) (.seq (.region [.m 8 0, .o 9 (.iaddrS 2 (.t 8) (.i 0)), .a 10 2 9, .o 5 (.alloc [(.int
  .i64 0), (.int .i64 0)]), .s 2 5 10]) (.seq (.seq (.region [.m 11 0, .o 12 (.slc 2 (.t 11) (some (.i 1)) none none), .o 13 (.len (.t 12)), .o 14 (.mv (.i 0))]) (.block 0 (.loop
  (.seq (.region [.o 15 (.bin .lss (.t 14) (.t 13))]) (.seq (.cond (.t 15) .skip (.exit 0)) (.seq (.block 1 (.seq (.region [.o 16 (.iaddrS 2 (.t 12) (.t 14)), .a 17 2 16, .o 7
  (.alloc [(.int .i64 0), (.int .i64 0)]), .s 2 7 17]) (.seq (.draw [.m 18 1, .a 19 2 7, .o 20 (.call (.t 18) [.t 19]), .m 21 1, .a 22 2 5, .o 23 (.call (.t 21) [.t 22]), .o 24
  (.bin .lss (.t 20) (.t 23))] [(2, 4)]) (.cond (.t 24) (.region [.a 25 2 7, .s 2 5 25]) .skip)))) (.region [.o 26 (.bin .add (.t 14) (.i 1)), .m 14 26]))))))) (.seq (.region [.a
  27 2 5, .s 2 4 27]) .ret))))⟩
def af72 : AFn := ⟨37, [], (.seq (.region [.l 7 1, .o 8 (.nilchk (.t 7)), .f 9 0 8, .f 10 2 9, .l 11 10, .o 12 (.bin .add (.t 11) (.i 1)), .o 13 (.mv (.i 0))]) (.block 0 (.loop (.seq (.region [.o
  14 (.bin .lss (.t 13) (.t 12))]) (.seq (.cond (.t 14) .skip (.exit 0)) (.seq (.block 1 (.seq (.region [.m 15 13, .m 5 15]) (.seq (.region [.f 16 1 2, .l 17 16, .m 18 5, .o 19
  (.bin .add (.t 17) (.t 18)), .m 6 19]) (.seq (.region [.m 20 6, .f 21 0 3, .l 22 21, .o 23 (.bin .geq (.t 20) (.t 22)), .m 24 23, .y 25 24 (.mv (.t 6)), .y 26 24 (.faddr 1 (.t
  3)), .y 27 24 (.load none (.t 26)), .y 28 24 (.bin .leq (.t 25) (.t 27)), .o 29 (.pick (.t 24) (.t 28) (.b false)), .m 30 29, .y 31 30 (.mv (.t 0)), .y 32 30 (.mv (.t 5)), .y 33
  30 (.call (.t 31) [.t 32]), .y 34 30 (.un .not (.t 33)), .o 35 (.pick (.t 30) (.t 34) (.b false))]) (.cond (.t 35) .ret .skip))))) (.region [.o 36 (.bin .add (.t 13) (.i 1)), .m
  13 36])))))))⟩
noncomputable def tblL : List (Nat × AFn) := [(3, af3), (4, af4), (5, af5), (6, af6), (7, af7), (8, af8), (9, af9), (10, af10), (11, af11), (12, af12), (13, af13), (14, af14), (15, af15), (16, af16), (17, af17), (18, af18), (19, af19), (20, af20), (21, af21), (22, af22), (23, af23), (24, af24), (25, af25), (26, af26), (27, af27), (28, af28), (29, af29), (30, af30), (31, af31), (32, af32), (33, af33), (34, af34), (35, af35), (36, af36), (37, af37), (38, af38), (39, af39), (40, af40), (41, af41), (42, af42), (43, af43), (44, af44), (45, af45), (46, af46), (47, af47), (48, af48), (49, af49), (50, af50), (51, af51), (52, af52), (53, af53), (54, af54), (55, af55), (56, af56), (57, af57), (58, af58), (59, af59), (60, af60), (61, af61), (62, af62), (63, af63), (64, af64), (65, af65), (66, af66), (67, af67), (68, af68), (69, af69), (70, af70), (71, af71), (72, af72)]
noncomputable def tbl : Nat → Option AFn := look1 tblL
end Go.Ax
