/- Part 13 of what is proved in the last text (packed by a program of mine). -/
import Derived.Test.YtfoffehokhkohaaGreatProg
import Derived.Test.YtfoffehokhkohaaGreatK10
import Derived.Test.YtfoffehokhkohaaGreatK11
import Derived.Test.YtfoffehokhkohaaGreatK12
set_option linter.all false
set_option maxRecDepth 20000
set_option maxHeartbeats 4000000
namespace Go.Proofs.YtfoffehokhkohaaGreat
open Go
def c150 : SC :=
 Rg [j 2 (.box 90 (t 0)),j 4 (.mov (Ki .u32 0)),j 5 (Mi 0)] (Rg [j 6 (.mov Kn)] (.seq (Rg [j 9 (Fa 1 2),j 10 (L1 9),j 11 (Ln 10),j 12 (Mi 0)] (.block 0 (.loop (Rg [j 13 (Bt .lss 12 11)] (.seq (.cond (t 13) Sk (.exit 0)) (.seq (.block 1 (Rg [M 14 12,j 15 (Ia 1 10 12),j 16 (L1 15),M 7 14,M 8 16] (Rg [M 17 6,M 18 8,j 19 (.callF 55 [(t 17),(t 18),(ci 8)]),M 6 19] (Rg [j 20 (.loadN 4 (t 2)),j 21 (Ca 93 20),j 22 (.un .not (t 21))] (.cond (t 22) (.reg [M 23 6,j 24 (Fa 2 2),j 25 (L1 24),M 26 7,j 27 (Ia 1 25 26),j 28 (L1 27),j 29 (.callF 55 [(t 23),(t 28),(ci 8)]),M 6 29]) Sk))))) (.reg [j 30 (Bc .add 12 1),M 12 30]))))))) (Rg [M 31 1,j 32 (Fa 0 2),j 33 (L1 32),j 34 (Fa 3 2),j 35 (L1 34),M 36 6,j 37 (.b2s (t 36)),j 38 (.build [zi .u8 0,.nils,zs] [((0,1),(t 33)),((1,1),(t 35)),((2,1),(t 37))]),j 39 (Cb 16 31 38),j 40 (Ex 39 0),j 41 (Ex 39 1),M 4 40,M 5 41] Rt)))
theorem F150 : Fun Tryz.prog 150 42 c150 [.tmp 4,.tmp 5] := fF Tryz.func150
def c151 : SC :=
 Rg [j 2 (.mov Kn)] (.seq (Rg [M 3 0,j 4 (.bin .eql .slice (t 3) Kn)] (.cond (t 4) (Rg [j 2 (.mov Kn)] Rt) Sk)) (Rg [j 5 (.bslice 34 0 [.nat .u64] []),M 6 0,j 7 (.app 34 8 [.nat .u64] (t 5) (t 6)),M 2 7] Rt))
theorem F151 : Fun Tryz.prog 151 8 c151 [.tmp 2] := fF Tryz.func151
def c152 : SC :=
 Rg [j 2 (.mov Kn)] (.seq (Rg [M 3 0,j 4 (.bin .eql .slice (t 3) Kn)] (.cond (t 4) (Rg [j 2 (.mov Kn)] Rt) Sk)) (Rg [j 5 (.bslice 30 0 [.nat .u32] []),M 6 0,j 7 (.app 30 4 [.nat .u32] (t 5) (t 6)),M 2 7] Rt))
theorem F152 : Fun Tryz.prog 152 8 c152 [.tmp 2] := fF Tryz.func152
def c153 : SC :=
 Rg [j 2 (.mov Kf)] (Rg [M 3 0,M 4 0,j 5 (Bt .neq 3 4),M 2 5] Rt)
theorem F153 : Fun Tryz.prog 153 6 c153 [.tmp 2] := fF Tryz.func153
def c154 : SC :=
 Rg [j 4 (Mi 0)] (.seq (Rg [M 6 0,j 7 (Ln 6),j 8 (Mi 0)] (.block 0 (.loop (Rg [j 9 (Bt .lss 8 7)] (.seq (.cond (t 9) Sk (.exit 0)) (.seq (.block 1 (Rg [M 10 8,M 5 10] (Rg [M 11 1,M 12 0,M 13 5,j 14 (Ia 1 12 13),j 15 (L1 14),j 16 (Bt .eql 11 15)] (.cond (t 16) (Rg [M 17 5,M 4 17] Rt) Sk)))) (.reg [j 18 (Bc .add 8 1),M 8 18]))))))) (Rg [j 4 (Mi (-1))] Rt))
theorem F154 : Fun Tryz.prog 154 19 c154 [.tmp 4] := fF Tryz.func154
def c155 : SC :=
 Rg [j 2 (.mov (Ki .u32 0))] (Rg [j 3 (.callF 181 []),M 4 0,j 5 (Cb 180 3 4),M 2 5] Rt)
theorem F155 : Fun Tryz.prog 155 6 c155 [.tmp 2] := fF Tryz.func155
def c156 : SC :=
 Rg [j 2 (.mov (.const .nilFunc))] (Rg [M 3 0,j 4 (.nilck (t 3)),j 5 (Fa 3 4),j 6 (L1 5),j 7 (Ca 182 6),M 2 7] Rt)
theorem F156 : Fun Tryz.prog 156 8 c156 [.tmp 2] := fF Tryz.func156
def c157 : SC :=
 Rg [j 2 (.alloc 113 [zi .u8 0,zi .u64 0,zs]),j 3 (Mi 0)] (Rg [M 10 0,j 11 (.len true (t 10)),j 12 (Ca 106 11),M 4 12] (.seq (Rg [M 13 4,j 14 (Bc .eql 13 0)] (.cond (t 14) (Rg [j 15 (.loadN 3 (t 2)),j0 (.storeN 3 (t 2) (t 15)),j 3 (Mi 2)] Rt) Sk)) (Rg [M 16 0,j 17 (.s2b 5 (t 16)),M 5 17] (Rg [M 18 5,j 19 (Ln 18),j 20 (Bc .sub 19 4),M 6 20] (.seq (.seq (.any (.pure 0 (M 21 5) (.pure 1 (M 22 6) (.pure 2 (j 23 (.slice 1 (t 21) none (some (t 22)) none)) (.pure 5 (M 26 5) (.pure 6 (M 27 6) (.pure 7 (j 28 (.slice 1 (t 26) (some (t 27)) none none)) (.eff 3 (j 24 (Ca 155 23)) [] (.pure 4 (j 25 (.conv .u64 (t 24))) (.eff 8 (j 29 (Ca 183 28)) [] (.pure 9 (j 30 (Bt .neq 25 29)) .done) .stop)) .stop)))))))) (.cond (t 30) (Rg [j 31 (.loadN 3 (t 2)),j0 (.storeN 3 (t 2) (t 31)),j 3 (Mi 10)] Rt) Sk)) (Rg [M 32 5,j 33 (.slice 1 (t 32) (some (ci 2)) (some (ci 4)) none),j 34 (Ca 183 33),j 35 (.conv .i64 (t 34)),M 7 35] (.seq (Rg [M 36 7,M 37 4,j 38 (Bt .gtr 36 37)] (.cond (t 38) (Rg [j 39 (.loadN 3 (t 2)),j0 (.storeN 3 (t 2) (t 39)),j 3 (Mi 4)] Rt) Sk)) (.seq (.any (.pure 0 (M 40 5) (.pure 1 (j 41 (.iaddr 1 (t 40) (ci 0))) (.load 2 (j 42 (L1 41)) (.pure 3 (M 43 5) (.pure 4 (j 44 (.slice 1 (t 43) (some (ci 4)) (some (ci 12)) none)) (.pure 6 (M 46 0) (.pure 7 (M 47 7) (.pure 8 (j 48 (.bin .add .no (ci 12) (t 47))) (.pure 9 (j 49 (.sliceStr (t 46) (some (ci 12)) (some (t 48)))) (.eff 5 (j 45 (Ca 183 44)) [j 42 (L1 41)] (.pure 10 (j 50 (.build [zi .u8 0,zi .u64 0,zs] [((0,1),(t 42)),((1,1),(t 45)),((2,1),(t 49))])) (.eff 11 (j0 (.storeN 3 (t 2) (t 50))) [] .done .stop)) .stop))))))))))) (.seq (Rg [M 52 0,j 53 (.len true (t 52)),j 54 (.loadN 3 (t 2)),j 55 (Cb 108 53 54),M 51 55,j 56 (Ex 51 0),j 57 (Ex 51 1),M 8 56,M 9 57] (Rg [M 58 9,j 59 (Bc .neq 58 0),M 60 59,jg 61 (Mv 8) 60 false,jg 62 (Mv 0) 60 false,jg 63 (Bt .neq 61 62) 60 false,j 64 (.pick (t 60) Kt (t 63))] (.cond (t 64) (Rg [j 65 (.build [zi .u8 0,zi .u64 0,zs] []),j0 (.storeN 3 (t 2) (t 65)),
 j 3 (Mi 4)] Rt) Sk))) (Rg [j 66 (.loadN 3 (t 2)),j0 (.storeN 3 (t 2) (t 66)),j 3 (Mi 0)] Rt))))))))))
theorem F157 : Fun Tryz.prog 157 67 c157 [.cell (.loadN 3 (t 2)),.tmp 3] := fF Tryz.func157
def c158 : SC :=
 Rg [j 2 (.mov Kp)] (Rg [M 3 0,j 4 (Ca 184 3),j 5 (.build [.nils] [((0,1),(t 4))]),j 6 (.box 267 (t 5)),M 2 6] Rt)
theorem F158 : Fun Tryz.prog 158 7 c158 [.tmp 2] := fF Tryz.func158
def c159 : SC :=
 Rg [j 4 (.mov (Ki .u64 0)),j 5 (Mi 0)] (.seq (.block 0 (Rg [M 9 0,j 10 (.bin .eql .ptr (t 9) Kp),M 8 10] (.cond (t 8) (Rg [j 4 (.mov (Ki .u64 0)),j 5 (Mi 1)] Rt) (Rg [M 12 1,j 13 (Bc .lss 12 1),M 14 13,jg 15 (Mv 1) 14 false,jg 16 (Bc .gtr 15 8) 14 false,j 17 (.pick (t 14) Kt (t 16)),M 11 17] (.cond (t 11) (Rg [j 4 (.mov (Ki .u64 0)),j 5 (Mi 2)] Rt) Sk))))) (Rg [M 19 0,M 20 1,j 21 (Cb 185 19 20),M 18 21,j 22 (Ex 18 0),j 23 (Ex 18 1),M 6 22,M 7 23] (Rg [M 24 6,j 25 (Ca 183 24),M 26 7,M 4 25,M 5 26] Rt)))
theorem F159 : Fun Tryz.prog 159 27 c159 [.tmp 4,.tmp 5] := fF Tryz.func159
def c160 : SC :=
 Rg [j 4 (.mov Kn),j 5 (Mi 0)] (.seq (.block 0 (Rg [M 9 0,j 10 (.bin .eql .ptr (t 9) Kp),M 8 10] (.cond (t 8) (Rg [j 4 (.mov Kn),j 5 (Mi 1)] Rt) (Rg [M 12 1,j 13 (Bc .lss 12 0),M 11 13] (.cond (t 11) (Rg [j 4 (.mov Kn),j 5 (Mi 2)] Rt) Sk))))) (Rg [M 15 0,M 16 1,j 17 (Cb 185 15 16),M 14 17,j 18 (Ex 14 0),j 19 (Ex 14 1),M 6 18,M 7 19] (Rg [M 20 6,j 21 (Ca 184 20),M 22 7,M 4 21,M 5 22] Rt)))
theorem F160 : Fun Tryz.prog 160 23 c160 [.tmp 4,.tmp 5] := fF Tryz.func160
def c161 : SC :=
 Rg [j 2 (Mi 0)] (.seq (Rg [M 3 0,j 4 (.bin .eql .ptr (t 3) Kp)] (.cond (t 4) (Rg [j 2 (Mi 0)] Rt) Sk)) (Rg [M 5 0,j 6 (.nilck (t 5)),j 7 (Fa 0 6),j 8 (L1 7),j 9 (Ln 8),M 2 9] Rt))
theorem F161 : Fun Tryz.prog 161 10 c161 [.tmp 2] := fF Tryz.func161
def c162 : SC :=
 Rg [j 8 (.mov Kf)] (.seq (Rg [M 13 1,j 14 (Ln 13),j 15 (Mi 0)] (.block 0 (.loop (Rg [j 16 (Bt .lss 15 14)] (.seq (.cond (t 16) Sk (.exit 0)) (.seq (.block 1 (Rg [j 17 (Ia 1 13 15),j 18 (L1 17),M 10 18] (.seq (Rg [M 19 10,j 20 (.bin .eql .no (t 19) (Ki .u32 0))] (.cond (t 20) (.exit 1) Sk)) (Rg [j 22 (L1 2),M 23 10,j 24 (Cb 59 22 23),M 21 24,j 25 (Ex 21 0),j 26 (Ex 21 1),j 11 (.alloc 43 [zi .u8 0,.nils,zs]),j0 (.storeN 3 (t 11) (t 25)),M 12 26] (.seq (Rg [M 27 12,j 28 (Bc .neq 27 0)] (.cond (t 28) (Rg [j 29 (L1 3),M 30 12,j 31 (.nilck (t 29)),j0 (.store1 (t 31) (t 30))] (Rg [j 8 (.mov Kf)] Rt)) Sk)) (.seq (Rg [M 32 0,M 33 10,j 34 (.callV (t 32) [(t 33)]),j 35 (.un .not (t 34))] (.cond (t 35) (Rg [j 8 (.mov Kf)] Rt) Sk)) (.seq (Rg [j 36 (L1 4),M 37 10,j 38 (Ia 1 36 37),j 39 (L1 38)] (.cond (t 39) (.exit 1) Sk)) (Rg [j 40 (L1 4),M 41 10,j 42 (Ia 1 40 41),j0 (.store1 (t 42) Kt)] (Rg [j 43 (L1 5),M 44 0,j 45 (Fa 1 11),j 46 (L1 45),j 47 (.callV (t 43) [(t 44),(t 46)]),j 48 (.un .not (t 47))] (.cond (t 48) (Rg [j 8 (.mov Kf)] Rt) Sk)))))))))) (.reg [j 49 (Bc .add 15 1),M 15 49]))))))) (Rg [j 8 (.mov Kt)] Rt))
theorem F162 : Fun Tryz.prog 162 50 c162 [.tmp 8] := fF Tryz.func162
def c163 : SC :=
 .reg [j 4 (L1 1),M 5 0,j 6 (L1 2),j 7 (.callV (t 4) [(t 5),(t 6)])]
theorem F163 : Fun Tryz.prog 163 8 c163 [] := fF Tryz.func163
def c164 : SC :=
 Rg [j 2 (.box 181 (t 0)),j 3 (.box 3 (t 1)),j 4 (.mov (.const .nilFunc))] (.seq (Rg [j 5 (L1 3),j 6 (Bc .lss 5 1)] (.cond (t 6) (.reg [j 7 (.iface 9 (.const (.string ⟨#[99,97,110,110,111,116,32,98,101,32,108,101,115,115,32,116,104,97,110,32,49]⟩))),j0 (.panic)]) Sk)) (Rg [j 8 (.mkfn (.func 186) [] [(t 2),(t 3)]),M 4 8] Rt))
theorem F164 : Fun Tryz.prog 164 9 c164 [.tmp 4] := fF Tryz.func164
def c176 : SC :=
 Rg [j 2 (.alloc 39 [.nils]),j 3 (.mov Kf)] (.seq (Rg [M 5 0,j 6 (.s2b 5 (t 5)),j 7 (.callF 192 [(t 6),(ci 8)])] (.block 0 (.rangeF (t 7) [8] (.reg [M 4 8]) (.block 1 (.any (.load 0 (j 9 (L1 2)) (.pure 1 (M 10 4) (.eff 2 (j 11 (Ca 183 10)) [j 9 (L1 2)] (.eff 3 (j 12 (.bslice 34 1 [.nat .u64] [(0,(t 11))])) [j 9 (L1 2)] (.eff 4 (j 13 (.app 34 8 [.nat .u64] (t 9) (t 12))) [] (.eff 5 (j0 (.store1 (t 2) (t 13))) [] .done .stop) .stop) .stop) .stop)))))))) (Rg [j 14 (L1 2),M 15 0,j 16 (.len true (t 15)),j 17 (Bc .rem 16 8),j 18 (Bc .eql 17 0),j0 (.store1 (t 2) (t 14)),M 3 18] Rt))
theorem F176 : Fun Tryz.prog 176 19 c176 [.cell (.load1 (t 2)),.tmp 3] := fF Tryz.func176
def c177 : SC :=
 Rg [j 2 (.box 39 (t 0)),j 3 (.box 3 (t 1)),j 4 (.mov (.const .nilFunc))] (.seq (Rg [j 5 (L1 3),j 6 (Bc .lss 5 1)] (.cond (t 6) (.reg [j 7 (.iface 9 (.const (.string ⟨#[99,97,110,110,111,116,32,98,101,32,108,101,115,115,32,116,104,97,110,32,49]⟩))),j0 (.panic)]) Sk)) (Rg [j 8 (.mkfn (.func 193) [] [(t 2),(t 3)]),M 4 8] Rt))
theorem F177 : Fun Tryz.prog 177 9 c177 [.tmp 4] := fF Tryz.func177
def c180 : SC :=
 Rg [j 2 (.box 262 (t 0)),j 4 (.mov (Ki .u32 0))] (Rg [j 5 (.loadA 256 (t 2)),M 6 1,j 7 (.callF 195 [(t 5),(Ki .u32 4294967295),(t 6)]),j 8 (.un .xor (t 7)),M 4 8] Rt)
theorem F180 : Fun Tryz.prog 180 9 c180 [.tmp 4] := fF Tryz.func180
def c181 : SC :=
 Rg [j 0 (.allocA 262 256 [.nat .u32])] (.seq (Rg [j 3 (Mi 0)] (.block 0 (.loop (Rg [j 4 (Bc .lss 3 256)] (.seq (.cond (t 4) Sk (.exit 0)) (.seq (.block 1 (Rg [M 5 3,M 1 5] (Rg [M 6 1,j 7 (.conv .u32 (t 6)),M 2 7] (.seq (Rg [j 8 (Mi 0)] (.block 2 (.loop (Rg [j 9 (Bc .lss 8 8)] (.seq (.cond (t 9) Sk (.exit 2)) (.seq (.block 3 (.reg [M 10 2,j 11 (.bin .shr .no (t 10) (Ki .u64 1)),M 12 2,j 13 (.bin .and .no (t 12) (Ki .u32 1)),j 14 (.bin .mul .no (Ki .u32 2197175160) (t 13)),j 15 (Bt .xor 11 14),M 2 15])) (.reg [j 16 (Bc .add 8 1),M 8 16]))))))) (.reg [M 17 1,M 18 2,j 19 (.iaddrA 256 1 (t 0) (t 17)),j0 (.store1 (t 19) (t 18))]))))) (.reg [j 20 (Bc .add 3 1),M 3 20]))))))) (Rg [j 21 (.loadA 256 (t 0)),j0 (.storeA 256 (t 0) (t 21))] Rt))
theorem F181 : Fun Tryz.prog 181 22 c181 [.cell (.loadA 256 (t 0))] := fF Tryz.func181
def c182 : SC :=
 Rg [j 1 (.box 138 (t 0)),j 2 (.mov (.const .nilFunc))] (Rg [j 3 (.mkfn (.func 196) [] [(t 1)]),M 2 3] Rt)
theorem F182 : Fun Tryz.prog 182 4 c182 [.tmp 2] := fF Tryz.func182
def c183 : SC :=
 Rg [j 2 (.alloc 34 [zi .u64 0])] (.seq (Rg [M 5 0,j 6 (Ln 5),j 7 (Bc .gtr 6 8)] (.cond (t 7) (Rg [j0 (.store1 (t 2) (Ki .u64 0))] Rt) Sk)) (.seq (Rg [M 8 0,j 9 (Ca 197 8)] (.block 0 (.rangeF (t 9) [10,11] (.reg [M 4 11]) (.block 1 (.reg [j 12 (L1 2),j 13 (.bin .shl .no (t 12) (Ki .u64 8)),M 14 4,j 15 (.conv .u64 (t 14)),j 16 (Bt .or 13 15),j0 (.store1 (t 2) (t 16))]))))) (Rg [j 17 (L1 2),j0 (.store1 (t 2) (t 17))] Rt)))
theorem F183 : Fun Tryz.prog 183 18 c183 [.cell (.load1 (t 2))] := fF Tryz.func183
def c184 : SC :=
 Rg [j 2 (.mov Kn)] (.seq (Rg [M 3 0,j 4 (.bin .eql .slice (t 3) Kn)] (.cond (t 4) (Rg [j 2 (.mov Kn)] Rt) Sk)) (Rg [j 5 (.bslice 5 0 [.b8] []),M 6 0,j 7 (.app 5 1 [.b8] (t 5) (t 6)),M 2 7] Rt))
theorem F184 : Fun Tryz.prog 184 8 c184 [.tmp 2] := fF Tryz.func184
def c185 : SC :=
 Rg [j 4 (.mov Kn),j 5 (Mi 0)] (.seq (Rg [M 7 0,j 8 (.nilck (t 7)),j 9 (Fa 0 8),j 10 (L1 9),j 11 (Ln 10),M 12 1,j 13 (Bt .lss 11 12)] (.cond (t 13) (Rg [j 4 (.mov Kn),j 5 (Mi 7)] Rt) Sk)) (Rg [M 14 0,j 15 (.nilck (t 14)),j 16 (Fa 0 15),j 17 (L1 16),M 18 1,M 19 1,j 20 (.slice 1 (t 17) none (some (t 18)) (some (t 19))),M 6 20] (Rg [M 21 0,M 22 0,j 23 (.nilck (t 22)),j 24 (Fa 0 23),j 25 (L1 24),M 26 1,j 27 (.slice 1 (t 25) (some (t 26)) none none),j 28 (.nilck (t 21)),j 29 (Fa 0 28),j0 (.store1 (t 29) (t 27))] (Rg [M 30 6,M 4 30,j 5 (Mi 0)] Rt))))
theorem F185 : Fun Tryz.prog 185 31 c185 [.tmp 4,.tmp 5] := fF Tryz.func185
def c186 : SC :=
 Rg [j 4 (Mi 0)] (.block 0 (.loop (.seq (Rg [M 6 4,j 7 (L1 1),j 8 (Ln 7),j 9 (Bt .lss 6 8)] (.cond (t 9) Sk (.exit 0))) (.seq (.block 1 (.seq (.any (.load 0 (j 13 (L1 2)) (.load 1 (j 14 (L1 1)) (.pure 2 (M 15 4) (.pure 3 (j 16 (.slice 1 (t 14) (some (t 15)) none none)) (.pure 4 (j 17 (Ln 16)) (.pure 5 (j 18 (.min (t 13) (t 17))) (.pure 6 (M 5 18) .done)))))))) (Rg [M 19 0,j 20 (L1 1),M 21 4,M 22 4,M 23 5,j 24 (Bt .add 22 23),M 25 4,M 26 5,j 27 (Bt .add 25 26),j 28 (.slice 1 (t 20) (some (t 21)) (some (t 24)) (some (t 27))),j 29 (.callV (t 19) [(t 28)]),j 30 (.un .not (t 29))] (.cond (t 30) Rt Sk)))) (.reg [M 10 4,j 11 (L1 2),j 12 (Bt .add 10 11),M 4 12])))))
theorem F186 : Fun Tryz.prog 186 31 c186 [] := fF Tryz.func186
def c192 : SC :=
 Rg [j 2 (.box 109 (t 0)),j 3 (.box 3 (t 1)),j 4 (.mov (.const .nilFunc))] (.seq (Rg [j 5 (L1 3),j 6 (Bc .lss 5 1)] (.cond (t 6) (.reg [j 7 (.iface 9 (.const (.string ⟨#[99,97,110,110,111,116,32,98,101,32,108,101,115,115,32,116,104,97,110,32,49]⟩))),j0 (.panic)]) Sk)) (Rg [j 8 (.mkfn (.func 200) [] [(t 2),(t 3)]),M 4 8] Rt))
theorem F192 : Fun Tryz.prog 192 9 c192 [.tmp 4] := fF Tryz.func192
def c193 : SC :=
 Rg [j 4 (Mi 0)] (.block 0 (.loop (.seq (Rg [M 6 4,j 7 (L1 1),j 8 (Ln 7),j 9 (Bt .lss 6 8)] (.cond (t 9) Sk (.exit 0))) (.seq (.block 1 (.seq (.any (.load 0 (j 13 (L1 2)) (.load 1 (j 14 (L1 1)) (.pure 2 (M 15 4) (.pure 3 (j 16 (.slice 1 (t 14) (some (t 15)) none none)) (.pure 4 (j 17 (Ln 16)) (.pure 5 (j 18 (.min (t 13) (t 17))) (.pure 6 (M 5 18) .done)))))))) (Rg [M 19 0,j 20 (L1 1),M 21 4,M 22 4,M 23 5,j 24 (Bt .add 22 23),M 25 4,M 26 5,j 27 (Bt .add 25 26),j 28 (.slice 1 (t 20) (some (t 21)) (some (t 24)) (some (t 27))),j 29 (.callV (t 19) [(t 28)]),j 30 (.un .not (t 29))] (.cond (t 30) Rt Sk)))) (.reg [M 10 4,j 11 (L1 2),j 12 (Bt .add 10 11),M 4 12])))))
theorem F193 : Fun Tryz.prog 193 31 c193 [] := fF Tryz.func193
def c195 : SC :=
 Rg [j 3 (.box 262 (t 0)),j 6 (.mov (Ki .u32 0))] (.seq (Rg [M 9 2,j 10 (Ln 9),j 11 (Mi 0)] (.block 0 (.loop (Rg [j 12 (Bt .lss 11 10)] (.seq (.cond (t 12) Sk (.exit 0)) (.seq (.block 1 (Rg [j 13 (Ia 1 9 11),j 14 (L1 13),M 8 14] (.reg [M 15 1,j 16 (.bin .shr .no (t 15) (Ki .u64 8)),M 17 1,j 18 (.conv .u8 (t 17)),M 19 8,j 20 (Bt .xor 18 19),j 21 (.iaddrA 256 1 (t 3) (t 20)),j 22 (L1 21),j 23 (Bt .xor 16 22),M 1 23]))) (.reg [j 24 (Bc .add 11 1),M 11 24]))))))) (Rg [M 25 1,M 6 25] Rt))
theorem F195 : Fun Tryz.prog 195 26 c195 [.tmp 6] := fF Tryz.func195
def c196 : SC :=
 Rg [j 4 (L1 1),j 5 (Ln 4),j 6 (Bc .sub 5 1),M 3 6] (.block 0 (.loop (.seq (Rg [M 7 3,j 8 (Bc .geq 7 0)] (.cond (t 8) Sk (.exit 0))) (.seq (.block 1 (Rg [M 11 0,M 12 3,j 13 (L1 1),M 14 3,j 15 (Ia 2 13 14),j 16 (.loadN 2 (t 15)),j 17 (.callV (t 11) [(t 12),(t 16)]),j 18 (.un .not (t 17))] (.cond (t 18) Rt Sk))) (.reg [M 9 3,j 10 (Bc .sub 9 1),M 3 10])))))
theorem F196 : Fun Tryz.prog 196 19 c196 [] := fF Tryz.func196
def c197 : SC :=
 Rg [j 1 (.box 109 (t 0)),j 2 (.mov (.const .nilFunc))] (Rg [j 3 (.mkfn (.func 201) [] [(t 1)]),M 2 3] Rt)
theorem F197 : Fun Tryz.prog 197 4 c197 [.tmp 2] := fF Tryz.func197
def c200 : SC :=
 Rg [j 4 (Mi 0)] (.block 0 (.loop (.seq (Rg [M 6 4,j 7 (L1 1),j 8 (Ln 7),j 9 (Bt .lss 6 8)] (.cond (t 9) Sk (.exit 0))) (.seq (.block 1 (.seq (.any (.load 0 (j 13 (L1 2)) (.load 1 (j 14 (L1 1)) (.pure 2 (M 15 4) (.pure 3 (j 16 (.slice 1 (t 14) (some (t 15)) none none)) (.pure 4 (j 17 (Ln 16)) (.pure 5 (j 18 (.min (t 13) (t 17))) (.pure 6 (M 5 18) .done)))))))) (Rg [M 19 0,j 20 (L1 1),M 21 4,M 22 4,M 23 5,j 24 (Bt .add 22 23),M 25 4,M 26 5,j 27 (Bt .add 25 26),j 28 (.slice 1 (t 20) (some (t 21)) (some (t 24)) (some (t 27))),j 29 (.callV (t 19) [(t 28)]),j 30 (.un .not (t 29))] (.cond (t 30) Rt Sk)))) (.reg [M 10 4,j 11 (L1 2),j 12 (Bt .add 10 11),M 4 12])))))
theorem F200 : Fun Tryz.prog 200 31 c200 [] := fF Tryz.func200
def c201 : SC :=
 Rg [j 4 (L1 1),j 5 (Ln 4),j 6 (Bc .sub 5 1),M 3 6] (.block 0 (.loop (.seq (Rg [M 7 3,j 8 (Bc .geq 7 0)] (.cond (t 8) Sk (.exit 0))) (.seq (.block 1 (Rg [M 11 0,M 12 3,j 13 (L1 1),M 14 3,j 15 (Ia 1 13 14),j 16 (L1 15),j 17 (.callV (t 11) [(t 12),(t 16)]),j 18 (.un .not (t 17))] (.cond (t 18) Rt Sk))) (.reg [M 9 3,j 10 (Bc .sub 9 1),M 3 10])))))
theorem F201 : Fun Tryz.prog 201 19 c201 [] := fF Tryz.func201
end Go.Proofs.YtfoffehokhkohaaGreat
namespace Go.Proofs.YtfoffehokhkohaaGreat
open Go
theorem DenH.takeC {Γ : Ctx} {hp : List Ch} {w : World} (k : Nat) (hk : Γ.b0.length ≤ k) (hc : hsCL k (hp.take k) = true) (h : DenH Γ hp w) : DenH Γ (hp.take k) w := by
 obtain ⟨S, d⟩ := h
 refine ⟨fun i x => i < k ∧ S i x, d.fr, ?_, ?_, ?_, ?_, ?_, ?_⟩
 ·intro i c hi
  rw [List.getElem?_take] at hi
  split at hi
  ·rename_i hik
   have h1 := d.ch i c hi
   have e : (fun x => i < k ∧ S i x) = S i := by funext x; simp [hik]
   rw [e]
   have hb : bases hp = bases (hp.take k) ++ bases (hp.drop k) := by rw [← bases_append, List.take_append_drop]
   rw [hb] at h1
   have hcc : c.hsC (bases (hp.take k)).length = true := by
    have := hsCL_at hc i c (by rw [List.getElem?_take, if_pos hik]; exact hi)
    by_cases hkl : k ≤ hp.length
    ·simpa [Nat.min_eq_left hkl] using this
    ·have h2 : hp.take k = hp := List.take_of_length_le (by omega)
     rw [h2, bases_length]
     cases c <;> simp only [Ch.hsC] at this ⊢
     have := h1.2.1
     rw [h2] at this
     have h3 : hp.drop k = [] := List.drop_eq_nil_iff.2 (by omega)
     rw [h3] at this
     simpa [bases] using this
   have := holds_bs (Y := []) hcc h1
   rwa [List.append_nil] at this
  ·cases hi
 ·rintro i j x ⟨_, h1⟩ ⟨_, h2⟩
  exact d.dj i j x h1 h2
 ·rintro i x ⟨_, h1⟩ hx
  exact d.own i x h1 hx
 ·rintro i x ⟨_, h1⟩
  exact d.dom i x h1
 ·rintro i x ⟨hik, h1⟩
  have := d.out i x h1
  simp; omega
 ·obtain ⟨bs, hb⟩ := d.pre
  refine ⟨(bases (hp.take k)).drop Γ.b0.length, ?_⟩
  have : bases (hp.take k) = (bases hp).take k := by simp [bases, List.map_take]
  rw [this, hb, List.take_append, List.take_of_length_le hk, List.drop_left]
theorem Cl.take {Γ : Ctx} {R : KV} {v : SV} {hp : List Ch} (k : Nat) (v' : SV) (hk : Γ.b0.length = k) (hc : hsCL k (hp.take k) = true) (hv : v'.hs k = true) (he : eqV v v') (hkl : Nat.ble k hp.length = true) (h : R v' (hp.take k)) : Cl Γ R v hp := by
 refine ⟨⟨v', hp.take k, fun w hd => ⟨hd.takeC k (by omega) hc, ?_⟩, ?_, h⟩⟩
 ·have hkl := Nat.le_of_ble_eq_true hkl
  rw [eqV_ok he]
  have hb : bases hp = bases (hp.take k) ++ bases (hp.drop k) := by rw [← bases_append, List.take_append_drop]
  rw [hb]
  exact den_ext _ _ v' (by simpa [Nat.min_eq_left hkl] using hv)
 ·have hkl := Nat.le_of_ble_eq_true hkl
  simpa [Nat.min_eq_left hkl] using hv
theorem spec_cl {P : Program} (hm : P.follows .mixedOrders = true) {f n : Nat} {sc : SC} {rs : List RS} (F : Fun P f n sc rs) {hpl : List Ch} {args : List SV} {R : KV} (hs : hsCL hpl.length hpl = true) (ha : SV.hsL hpl.length args = true)
  (hn : Nat.ble args.length n = true)
  (h : ∀ Γ : Ctx, Γ.P = P → Γ.b0.length = hpl.length → sx Γ sc ⟨n, initT 0 args, hpl, []⟩ (sfin Γ rs (Cl Γ R)) (fun _ _ => False) (sfin Γ rs (Cl Γ R))) : FnSpec P f hpl args R :=
 spec_by hm F hs ha hn (fun _ : Unit => hpl) (fun _ => args) (fun _ => rfl) (fun _ => ha) (fun _ _ h => ⟨(), h⟩) (fun _ Γ => h Γ)
theorem wr_u32_range (n : Int) : 0 ≤ wr .u32 n ∧ wr .u32 n < 4294967296 := by
 simp only [wr, IntKind.wrap, IntKind.bits, IntKind.signed]
 simp
 omega
theorem wr_u8_range (n : Int) : 0 ≤ wr .u8 n ∧ wr .u8 n < 256 := wr_u8 n
theorem xor32_range (a b : Int) : 0 ≤ ari .xor .u32 a b ∧ ari .xor .u32 a b < 4294967296 := wr_u32_range _
theorem xor8_range (a b : Int) : 0 ≤ ari .xor .u8 a b ∧ ari .xor .u8 a b < 256 := wr_u8_range _
theorem sub2 {Γ : Ctx} {st st' : St} (σ : List Nat) (k : Nat) (hk : Γ.b0.length = k) (hup : isUp 0 k σ = true) (hkl : Nat.ble k st'.hp.length = true) (hnd : onceG σ st'.hp = true) (hn : st'.n = st.n) (hdf : st.df = []) (hdf' : st'.df = [])
  (hhs : hsT st'.hp.length st'.tm = true) (hhc : hsCL st'.hp.length st'.hp = true) (h : eqCs st.hp σ σ st'.hp ∧ eqTs st.tm σ st'.tm) : Sub Γ st st' :=
 sub_by σ k hk hup hkl hnd hn hdf hdf' hhs hhc h.1 h.2
theorem toI_lt {a b : Nat} (h : decide (toI a < toI b) = true) : a < b := by
 have := of_decide_eq_true h
 simp only [toI] at this
 omega
theorem toI_nlt {a b : Nat} (h : decide (toI a < toI b) = false) : b ≤ a := by
 have := of_decide_eq_false h
 simp only [toI] at this
 omega
theorem toI_toNat (a : Nat) : (toI a).toNat = a := by simp [toI]
theorem toI_u8 (x : UInt8) : 0 ≤ toI x.toNat ∧ toI x.toNat < 256 := by
 have := x.toNat_lt
 simp only [toI]
 omega
def nilA (cts : List CT) : Ch := .arr none (fun _ => 0) (fun _ => 0) (zeroCols (fun _ => 0) cts) true
theorem zeroCols_ok (cts : List CT) : Cols.ok (zeroCols (fun _ => 0) cts) 0 := by
 induction cts with
 | nil => intro c hc; simp [zeroCols] at hc
 | cons c l ih =>
  intro d hd
  simp only [zeroCols, List.mem_cons] at hd
  rcases hd with rfl | hd
  ·cases c <;> simp [CT.zero, Col.vals]
  ·exact ih d hd
theorem DenH.pushN {Γ : Ctx} {hp : List Ch} {w : World} (cts : List CT) (h : DenH Γ hp w) : DenH Γ (appL hp [nilA cts]) w := by
 rw [appL_eq]
 obtain ⟨S, d⟩ := h
 refine ⟨S, d.fr, ?_, d.dj, d.own, d.dom, fun i x hx => by have := d.out i x hx; simp; omega, by obtain ⟨bs, hb⟩ := d.pre; exact ⟨bs ++ bases [nilA cts], by rw [bases_append, hb, List.append_assoc]⟩⟩
 intro i c hi
 by_cases hlt : i < hp.length
 ·rw [List.getElem?_append_left hlt] at hi
  rw [bases_append]
  exact (d.ch i c hi).ext
 ·rw [List.getElem?_append_right (by omega)] at hi
  have hi0 : i = hp.length := by
   have := (List.getElem?_eq_some_iff.1 hi).1
   simp at this; omega
  subst hi0
  simp at hi
  subst hi
  exact ⟨zeroCols_ok cts, rfl, rfl, fun x hx => by have := d.out _ x hx; omega⟩
theorem extB_push0 (hp : List Ch) (cts : List CT) : ExtB hp (appL hp [nilA cts]) := ⟨bases [nilA cts], by rw [appL_eq, bases_append]⟩
theorem callP_nil {Γ : Ctx} {f : FuncId} {args args' : List SV} {hp : List Ch} {K : KV} (cts : List CT) (ha : SV.hsL hp.length args = true) (he : eqVs args args') (h : CallP Γ f args' (appL hp [nilA cts]) K) : CallP Γ f args hp K := by
 refine ⟨fun w hd => ?_⟩
 have h1 := h.h w (hd.pushN cts)
 rw [← eqVs_ok he, (extB_push0 hp cts).denL ha] at h1
 refine h1.mono ?_
 rintro e w' ⟨x, hp', g1, g2, g3, g4, g5⟩
 exact ⟨x, hp', g1, g2, g3, (extB_push0 hp cts).trans g4, g5⟩
theorem Cl.nil {Γ : Ctx} {R : KV} {v : SV} {hp : List Ch} (cts : List CT) (hv : v.hs hp.length = true) (h : Cl Γ R v (appL hp [nilA cts])) : Cl Γ R v hp := by
 obtain ⟨v', hp', h1, h2, h3⟩ := h.h
 refine ⟨⟨v', hp', fun w hd => ?_, h2, h3⟩⟩
 obtain ⟨g1, g2⟩ := h1 w (hd.pushN cts)
 exact ⟨g1, by rw [← (extB_push0 hp cts).den hv]; exact g2⟩
theorem Sub.nil {Γ : Ctx} {n : Nat} {tm : List (Nat × SV)} {hp : List Ch} {st' : St} (cts : List CT) (h : Sub Γ ⟨n, tm, appL hp [nilA cts], []⟩ st') : Sub Γ ⟨n, tm, hp, []⟩ st' := by
 intro a w hd
 refine h a w ⟨⟨hd.t.size, hd.t.df, by simp, fun t x hx => ?_⟩, hd.h.pushN cts⟩
 obtain ⟨g1, g2⟩ := hd.t.tm t x hx
 exact ⟨by rw [(extB_push0 hp cts).den g2]; exact g1, hs_mono (extB_push0 hp cts).le x g2⟩
theorem FnSpec.know {P : Program} {f : FuncId} {hpl : List Ch} {args : List SV} {R : KV} (φ : Prop) (hs : hsCL hpl.length hpl = true) (ha : SV.hsL hpl.length args = true) (hφ : ∀ (Γ : Ctx) (w : World), DenH Γ hpl w → φ) (h : φ → FnSpec P f hpl args R) : FnSpec P f hpl args R :=
 ⟨hs, ha, fun w D hd => (h (hφ _ w hd)).run w D hd⟩
theorem DenH.none {Γ : Ctx} {hp : List Ch} {w : World} {n sp : Th Nat} {cs : List Col} {ex : Bool} {ad : Option Addr} (k : Nat) (hk : nth hp k = some (.arr ad n sp cs ex)) (h : DenH Γ hp w) : ad = none → n () = 0 ∧ sp () = 0 := by
 rintro rfl
 rw [nth_eq] at hk
 obtain ⟨S, hS⟩ := h.at hk
 exact ⟨hS.2.1, hS.2.2.1⟩
theorem callP_eq {Γ : Ctx} {f : FuncId} {args args' : List SV} {hp hp' : List Ch} {K : KV} (src : List Src) (k : Nat) (hk : Γ.b0.length = k) (hup : isUp 0 k (keys src) = true) (hkl : Nat.ble k hp'.length = true) (hn : (unders src hp').Nodup) (hhc : hsCL hp'.length hp' = true)
  (hid : keys src = upTo 0 hp.length) (hl : hp'.length = hp.length) (h : srcP hp (keys src) src hp' ∧ eqVs args args') (hc : CallP Γ f args' hp' K) : CallP Γ f args hp K := by
 refine ⟨fun w hd => ?_⟩
 obtain ⟨h1, h2⟩ := view_by src k hk hup hkl hn hhc h.1 hd
 have hb : bases hp' = bases hp := by
  apply List.ext_getElem?
  intro i
  by_cases hi : i < hp.length
  ·have h3 := (h1 i (by omega)).2
   have e : nthD (keys src) i = i := by rw [hid]; simp [nthD, nth_eq, upTo_get 0 hp.length i hi]
   rw [e] at h3
   exact h3.symm
  ·rw [List.getElem?_eq_none (by simp; omega), List.getElem?_eq_none (by simp; omega)]
 have h3 := hc.h w h2
 rw [← eqVs_ok h.2, hb] at h3
 refine h3.mono ?_
 rintro e w' ⟨x, hp2, g1, g2, g3, ⟨bs, g4⟩, g5⟩
 exact ⟨x, hp2, g1, g2, g3, ⟨bs, by rw [g4, hb]⟩, g5⟩
theorem BR.no {c : Th Bool} {t f : Th Prop} (h : c () = false) (k : f ()) : BR c t f := ⟨fun hc => absurd (h.symm.trans hc) (by simp), fun _ => k⟩
theorem BR.yes {c : Th Bool} {t f : Th Prop} (h : c () = true) (k : t ()) : BR c t f := ⟨fun _ => k, fun hc => absurd (h.symm.trans hc) (by simp)⟩
theorem eqF {a b : Int} (h : a ≠ b) : (a == b) = false := by simpa using h
theorem eqT {a b : Int} (h : a = b) : (a == b) = true := by simpa using h
theorem neF {a b : Int} (h : a = b) : (a != b) = false := by simpa using h
theorem neT {a b : Int} (h : a ≠ b) : (a != b) = true := by simpa using h
theorem Cl.tk {Γ : Ctx} {R : KV} {v : SV} {hp : List Ch} (k : Nat) (hk : Γ.b0.length = k) (hc : hsCL k (hp.take k) = true) (hv : v.hs k = true) (hkl : Nat.ble k hp.length = true) (h : R v (hp.take k)) : Cl Γ R v hp := by
 refine ⟨⟨v, hp.take k, fun w hd => ⟨hd.takeC k (by omega) hc, ?_⟩, ?_, h⟩⟩
 ·have hkl := Nat.le_of_ble_eq_true hkl
  have hb : bases hp = bases (hp.take k) ++ bases (hp.drop k) := by rw [← bases_append, List.take_append_drop]
  rw [hb]
  exact den_ext _ _ v (by simpa [Nat.min_eq_left hkl] using hv)
 ·have hkl := Nat.le_of_ble_eq_true hkl
  simpa [Nat.min_eq_left hkl] using hv
theorem Cl.byd {Γ : Ctx} {R : KV} {v v' : SV} {hp hp' : List Ch} (src : List Src) (k : Nat) (hk : Γ.b0.length = k) (hup : isUp 0 k (keys src) = true) (hkl : Nat.ble k hp'.length = true) (hn : (unders src hp').Nodup) (hhc : hsCL hp'.length hp' = true)
  (hs : srcP hp (keys src) src hp') (hv : v'.hs hp'.length = true) (he : v.den (bases hp) = (v'.ren (keys src)).den (bases hp)) (h : R v' hp') : Cl Γ R v hp := by
 refine ⟨⟨v', hp', fun w hd => ?_, hv, h⟩⟩
 obtain ⟨h1, h2⟩ := view_by src k hk hup hkl hn hhc hs hd
 exact ⟨h2, by rw [he, (den_ren h1 v' hv).1]⟩
theorem callV_byE {Γ : Ctx} {P : Program} (hΓ : Γ.P = P) {l : Nat} {hpc hpl : List Ch} {args argsl : List SV} {K R : KV} (spec : YSpec P l hpl argsl R) (σ : List Nat) (hnd : σ.Nodup) (hsel : selP hpc σ σ hpl) (hargs : eqVs args (SV.renL σ argsl))
  (hK : ∀ x hpl', R x hpl' → ownOk hpl hpl' = true ∧ K (x.ren (ren' hpc hpl' σ)) (after hpc hpl hpl' σ)) : CallV Γ (.fn (.yield l) [] []) args hpc K := by
 have h := callV_by hΓ spec σ hnd hsel rfl hK
 refine ⟨fun w hd => ?_⟩
 have h1 := h.h w hd
 rw [← eqVs_ok hargs] at h1
 exact h1
theorem spec_lift {P : Program} {f : FuncId} {hpl : List Ch} {args : List SV} {R : KV} (hs : hsCL hpl.length hpl = true) (ha : SV.hsL hpl.length args = true)
  {α : Type} (hp0 : α → List Ch) (args0 : α → List SV) (hargs : ∀ q, SV.denL (bases (hp0 q)) (args0 q) = SV.denL (bases hpl) args) (hpre : ∀ (Γ : Ctx) (w : World), DenH Γ hpl w → ∃ q, DenH Γ (hp0 q) w)
  (h : ∀ (q : α) (Γ : Ctx), Γ.P = P → Γ.b0.length = hpl.length → CallP Γ f (args0 q) (hp0 q) (Cl Γ R)) : FnSpec P f hpl args R := by
 refine ⟨hs, ha, fun w D hd => ?_⟩
 obtain ⟨q, hdq⟩ := hpre _ w hd
 have h1 := (h q ⟨P, w, D, bases hpl⟩ rfl (by simp)).h w hdq
 rw [hargs q] at h1
 refine h1.mono ?_
 rintro e w' ⟨v, hp', rfl, hv, hd', _, ⟨⟨v', hp2, g2, g3, g4⟩⟩⟩
 obtain ⟨g5, g6⟩ := g2 w' hd'
 exact ⟨v', hp2, by rw [g6], g3, g5, (let ⟨_, d⟩ := g5; d.pre), g4⟩
def sfinD (Γ : Ctx) (rs : List RS) (R : KV) (st : St) : Prop :=
 match st.df with
 | [] => sres' Γ rs st.tm st.hp fun vs hp => match vs with
  | [v] => R v hp
  | vs => R (.tup vs) hp
 | _ => False
theorem specD_cl {P : Program} (hm : P.follows .mixedOrders = true) {f n : Nat} {sc : SC} {rs : List RS} (F : Fun P f n sc rs) {hpl : List Ch} {args : List SV} {R : KV} (hs : hsCL hpl.length hpl = true) (ha : SV.hsL hpl.length args = true)
  (hn : Nat.ble args.length n = true)
  (h : ∀ Γ : Ctx, Γ.P = P → Γ.b0.length = hpl.length → sx Γ sc ⟨n, initT 0 args, hpl, []⟩ (sfinD Γ rs (Cl Γ R)) (fun _ _ => False) (sfinD Γ rs (Cl Γ R))) : FnSpecD P f hpl args R := by
 refine ⟨hs, ha, fun w D hd => ?_⟩
 obtain ⟨fn, c, h1, h2, h3, h4, h5, h6⟩ := F.h
 subst h6
 have hn := Nat.le_of_ble_eq_true hn
 have hcall : (callFunc f (SV.denL (bases hpl) args).toArray).run P w = .ok (.enter f (SV.denL (bases hpl) args).toArray) w := by
  have h3' : ¬ fn.name = "runtime.NumGoroutine" := by simpa using h3
  simp [callFunc, h1, h2, h3']
 refine ⟨hcall, ?_⟩
 have hden : Den ⟨P, w, D, bases hpl⟩ ⟨fn.ntmps, initT 0 args, hpl, []⟩ { tmps := (SV.denL (bases hpl) args).toArray ++ Array.replicate (fn.ntmps - (SV.denL (bases hpl) args).toArray.size) undef, defers := [] } w := by
  refine ⟨⟨by simp; omega, rfl, by simp, fun t x hx => ?_⟩, hd⟩
  obtain ⟨_, h8⟩ := look_initT 0 args t x hx
  simp only [Nat.sub_zero] at h8
  have hlt := (List.getElem?_eq_some_iff.1 h8).1
  refine ⟨?_, ?_⟩
  ·rw [Array.getElem?_append_left (by simpa using hlt)]
   simp [denL_map, h8]
  ·rw [hsL_all, List.all_eq_true] at ha
   exact ha x (List.mem_of_getElem? h8)
 have hx := sx_ok hm c (F := Fence.wide) (n := 0) (Γ := ⟨P, w, D, bases hpl⟩) rfl wideF_wide (d := true) (.inl rfl) sc _ _ _ _ _ w h4 (h _ rfl (by simp)) hden
 have fin : ∀ a w', Aft ⟨P, w, D, bases hpl⟩ (sfinD ⟨P, w, D, bases hpl⟩ rs (Cl ⟨P, w, D, bases hpl⟩ R)) a w' → a.defers = [] ∧ ∃ v, (results fn a.tmps).run P w' = .ok v w' ∧ CallPost ⟨P, w, D, bases hpl⟩ hpl R (.returned v) w' := by
  rintro a w' ⟨st, h7, h8⟩
  unfold sfinD at h7
  split at h7
  ·rename_i hdf
   obtain ⟨vs, hp', g1, g2, g3, g4, g5⟩ := sres_ok h5 h7 h8.t.tm h8.h
   have post : ∀ v, v.hs hp'.length = true → Cl ⟨P, w, D, bases hpl⟩ R v hp' → CallPost ⟨P, w, D, bases hpl⟩ hpl R (.returned (v.den (bases hp'))) w' := by
    rintro v hv ⟨⟨v', hp2, k2, k3, k4⟩⟩
    obtain ⟨k5, k6⟩ := k2 w' g3
    exact ⟨v', hp2, by rw [k6], k3, k5, (let ⟨_, d⟩ := k5; d.pre), k4⟩
   refine ⟨by rw [h8.t.df, hdf]; rfl, _, results_run fn a.tmps _ g1, ?_⟩
   split at g5
   ·rename_i v
    have := post v (by simpa [SV.hsL] using g2) g5
    simpa [SV.denL, retV] using this
   ·rename_i hne
    have := post (.tup vs) g2 g5
    match vs, hne with
    | [], _ => simpa [SV.denL, SV.den, retV] using this
    | [v], hne => exact (hne v rfl).elim
    | u :: v :: vs, _ => simpa [SV.denL, SV.den, retV] using this
  ·exact h7.elim
 have hb := callsDIn_of_wp (F := Fence.wide) (n := 0) (P := P) (u := .returning) (R := CallPost ⟨P, w, D, bases hpl⟩ hpl R) h1 h2 trivial (wpIn_mono hx (by
  rintro e a w' hq
  cases e with
  | normal => exact fin a w' hq
  | ret => exact fin a w' hq
  | exit id => obtain ⟨_, h, _⟩ := hq; exact h.elim
  | goto l => exact hq.elim
  | panic ch => exact hq.elim
  | outgrown => exact hq.elim))
 exact hb
theorem loop1 {Γ : Ctx} {body : St → KS → Prop} {st : St} (h : body st (fun st' => ∃ _ : Unit, True ∧ (0 : Nat) < 0 ∧ Sub Γ st' st)) : LoopP Γ body st :=
 ⟨⟨Unit, fun _ => True, fun _ => st, fun _ => 0, (), trivial, fun _ _ h => h, fun _ _ => h⟩⟩
end Go.Proofs.YtfoffehokhkohaaGreat
set_option maxRecDepth 20000
namespace Go.Proofs.YtfoffehokhkohaaGreat
open Go
theorem mixed : Tryz.prog.follows .mixedOrders = true := by kernel_rfl
def crc1 (v : Int) : Int := ari .xor .u32 (ari .shr .u32 v 1) (ari .mul .u32 2197175160 (ari .and .u32 v 1))
def crcN : Nat → Int → Int
 | 0, v => v
 | k + 1, v => crc1 (crcN k v)
def crcE (i : Nat) : Nat := (crcN 8 (wr .u32 (toI i))).toNat
def crcTab : List Nat := (List.range 256).map crcE
def crcUp (s : Int) (x : UInt8) : Int := ari .xor .u32 (ari .shr .u32 s 8) (toI (crcTab.getD (ari .xor .u8 (wr .u8 s) (toI x.toNat)).toNat 0))
def crcOf (l : List UInt8) : Int := ari .xor .u32 4294967295 (l.foldl crcUp 4294967295)
theorem crcN_range (k i : Nat) : 0 ≤ crcN k (wr .u32 (toI i)) ∧ crcN k (wr .u32 (toI i)) < 4294967296 := by
 cases k with
 | zero => exact wr_u32_range _
 | succ k => exact xor32_range _ _
theorem crcOf_range (l : List UInt8) : 0 ≤ crcOf l ∧ crcOf l < 4294967296 := xor32_range _ _
theorem range_map_set {α : Type} (f : Nat → α) (n i : Nat) (z : α) (h : i < n) :
  ((List.range i).map f ++ List.replicate (n - i) z).set i (f i) = (List.range (i + 1)).map f ++ List.replicate (n - (i + 1)) z := by
 rw [List.set_append_right _ _ (by simp)]
 simp only [List.length_map, List.length_range, Nat.sub_self]
 rw [show n - i = (n - (i + 1)) + 1 by omega, List.replicate_succ, List.set_cons_zero, List.range_succ, List.map_append]
 simp
theorem crc_Table : FnSpec Tryz.prog 181 [] [] (fun v hp => v = .av .u32 (fun _ => crcTab) ∧ hp = []) := by
 refine spec_cl mixed F181 rfl rfl rfl (fun Γ hΓ hb => ?_)
 cbv
 intro b
 cbv
 refine loopJ (fun (i : Nat) => i ≤ 256) (fun i => ⟨22, [(0, .ep 0 (fun _ => 0) 0), (3, .int .i64 fun _ => toI i)], [.arr (some ⟨b, 0, none⟩) (fun _ => 256) (fun _ => 0) [.nat .u32 fun _ => (List.range i).map crcE ++ List.replicate (256 - i) 0] true], []⟩) (fun i => 256 - i) 0 (by omega) (sub2 [0] 0 hb rfl rfl rfl rfl rfl rfl rfl rfl ?_) ?_
 ·cbv
  (repeat' first | with_reducible rfl | exact (show Ch.base _ = _ from rfl) | ((try simp only [toI, inI, List.length_nil] at *); omega) | exact trivial | refine ⟨?_, ?_⟩ | refine ⟨?_⟩ | intro _)
  simp
 ·intro i hi
  cbv
  refine ⟨fun hc => ?_, fun hc => ?_⟩
  ·replace hc := of_decide_eq_true hc
   cbv
   refine loopJ (fun (k : Nat) => k ≤ 8) (fun k => ⟨22, [(0, .ep 0 (fun _ => 0) 0), (1, .int .i64 fun _ => toI i), (2, .int .u32 fun _ => crcN k (wr .u32 (toI i))), (3, .int .i64 fun _ => toI i), (8, .int .i64 fun _ => toI k)], [.arr (some ⟨b, 0, none⟩) (fun _ => 256) (fun _ => 0) [.nat .u32 fun _ => (List.range i).map crcE ++ List.replicate (256 - i) 0] true], []⟩) (fun k => 8 - k) 0 (by omega) (sub2 [0] 0 hb rfl rfl rfl rfl rfl rfl rfl rfl ?_) ?_
   ·cbv
    (repeat' first | with_reducible rfl | exact (show Ch.base _ = _ from rfl) | ((try simp only [toI, inI, List.length_nil] at *); omega) | exact trivial | refine ⟨?_, ?_⟩ | refine ⟨?_⟩ | intro _)
    rfl
   ·intro k hk
    cbv
    refine ⟨fun hd => ?_, fun hd => ?_⟩
    ·replace hd := of_decide_eq_true hd
     cbv
     refine ⟨rf, ?_⟩
     cbv
     refine .mk rf ?_
     cbv
     refine ⟨k + 1, by exact om, by exact om, sub2 [0] 0 hb rfl rfl rfl rfl rfl rfl rfl rfl ?_⟩
     cbv
     (repeat' first | with_reducible rfl | exact (show Ch.base _ = _ from rfl) | ((try simp only [toI, inI, List.length_nil] at *); omega) | exact trivial | refine ⟨?_, ?_⟩ | refine ⟨?_⟩ | intro _)
     all_goals rfl
    ·replace hd := of_decide_eq_false hd
     have : k = 8 := by exact om
     subst this
     cbv
     refine ⟨rf, ?_⟩
     cbv
     refine ⟨⟨rf, (crcN_range 8 i).1⟩, ?_⟩
     cbv
     refine .mk rf ?_
     cbv
     refine ⟨i + 1, by exact om, by exact om, sub2 [0] 0 hb rfl rfl rfl rfl rfl rfl rfl rfl ?_⟩
     cbv
     (repeat' first | with_reducible rfl | exact (show Ch.base _ = _ from rfl) | ((try simp only [toI, inI, List.length_nil] at *); omega) | exact trivial | refine ⟨?_, ?_⟩ | refine ⟨?_⟩ | intro _)
     show List.set _ (0 + (toI i).toNat) (crcE i) = _
     rw [toI_toNat, Nat.zero_add]
     exact range_map_set crcE 256 i 0 om
  ·replace hc := of_decide_eq_false hc
   have : i = 256 := by exact om
   subst this
   cbv
   refine ⟨rf, ?_⟩
   cbv
   refine ⟨⟨by simp, by omega, by omega⟩, ?_⟩
   cbv
   refine ⟨rf, ?_⟩
   cbv
   refine Cl.take 0 _ hb rfl rfl ?_ rfl ⟨rfl, rfl⟩
   cbv
   refine ⟨?_⟩
   simp [crcTab, overC]
def subl {α : Type} (l : List α) (off len : Nat) : List α := (l.drop off).take len
theorem subl_length {α : Type} (l : List α) (off len : Nat) (h : off + len ≤ l.length) : (subl l off len).length = len := by
 simp [subl]; omega
theorem subl_take {α : Type} (l : List α) (off len i : Nat) (h : off + len ≤ l.length) (hi : i < len) (d : α) : (subl l off len).take (i + 1) = (subl l off len).take i ++ [l.getD (off + i) d] := by
 have hl := subl_length l off len h
 rw [List.take_add_one]
 congr 1
 have e : (subl l off len)[i]? = l[off + i]? := by
  unfold subl
  rw [List.getElem?_take, if_pos hi, List.getElem?_drop]
 rw [e, List.getElem?_eq_getElem (by omega)]
 simp [List.getD_eq_getElem?_getD, List.getElem?_eq_getElem (show off + i < l.length by omega)]
theorem crc_Update (ad a : Option Addr) (n sp off len ext : Nat) (l : List UInt8) (s : Int) (hs : 0 ≤ s ∧ s < 4294967296) (hl : l.length = n) (h : off + len ≤ n) (hlen : len < 4611686018427387904) :
  FnSpec Tryz.prog 195 [.arr ad (fun _ => n) (fun _ => sp) [.b8 fun _ => l] false] [.av .u32 (fun _ => crcTab), .int .u32 fun _ => s, .sl 0 (fun _ => a) (fun _ => off) (fun _ => len) (fun _ => ext)]
   (fun v hp => v = .int .u32 (fun _ => (subl l off len).foldl crcUp s) ∧ hp = [.arr ad (fun _ => n) (fun _ => sp) [.b8 fun _ => l] false]) := by
 refine spec_cl mixed F195 rfl rfl rfl (fun Γ hΓ hb => ?_)
 cbv
 intro b
 cbv
 refine loopJ (fun (i : Nat) => i ≤ len) (fun i => ⟨26, [(1, .int .u32 fun _ => ((subl l off len).take i).foldl crcUp s), (3, .ep 1 (fun _ => 0) 0), (9, .sl 0 (fun _ => a) (fun _ => off) (fun _ => len) (fun _ => ext)), (10, .int .i64 fun _ => toI len), (11, .int .i64 fun _ => toI i)], [.arr ad (fun _ => n) (fun _ => sp) [.b8 fun _ => l] false, .arr (some ⟨b, 0, none⟩) (fun _ => 256) (fun _ => 0) [.nat .u32 fun _ => crcTab] true], []⟩) (fun i => len - i) 0 (by omega) (sub2 [0, 1] 1 hb rfl rfl rfl rfl rfl rfl rfl rfl ?_) ?_
 ·cbv
  (repeat' first | with_reducible rfl | exact (show Ch.base _ = _ from rfl) | ((try simp only [toI, inI, List.length_nil] at *); omega) | exact trivial | refine ⟨?_, ?_⟩ | refine ⟨?_⟩ | intro _)
  all_goals simp [crcTab]
 ·intro i hi
  cbv
  refine ⟨fun hc => ?_, fun hc => ?_⟩
  ·replace hc := toI_lt hc
   cbv
   refine ⟨rf, ?_⟩
   cbv
   refine ⟨rf, ?_⟩
   cbv
   refine ⟨rf, ?_⟩
   cbv
   have h8 : ∀ a b : Int, 0 ≤ ari .xor .u8 a b ∧ ari .xor .u8 a b < 256 := xor8_range
   refine ⟨⟨(h8 _ _).1, (h8 _ _).2, ?_⟩, ?_⟩
   ·have := h8 (wr .u8 (((subl l off len).take i).foldl crcUp s)) (toI (l.getD (off + (toI i).toNat) 0).toNat)
    simp only [toI] at *
    omega
   cbv
   refine ⟨?_, ?_⟩
   ·have := h8 (wr .u8 (((subl l off len).take i).foldl crcUp s)) (toI (l.getD (off + (toI i).toNat) 0).toNat)
    simp only [toI] at *
    omega
   cbv
   refine .mk rf ?_
   cbv
   refine ⟨i + 1, by exact om, by exact om, sub2 [0, 1] 1 hb rfl rfl rfl rfl rfl rfl rfl rfl ?_⟩
   cbv
   (repeat' first | with_reducible rfl | exact (show Ch.base _ = _ from rfl) | ((try simp only [toI, inI, List.length_nil] at *); omega) | exact trivial | refine ⟨?_, ?_⟩ | refine ⟨?_⟩ | intro _)
   rw [subl_take l off len i (by omega) hc 0, List.foldl_append]
   show _ = crcUp _ _
   unfold crcUp
   rw [toI_toNat, Nat.zero_add]
  ·replace hc := toI_nlt hc
   have : i = len := by omega
   subst this
   cbv
   refine Cl.take 1 _ hb rfl rfl ?_ rfl ⟨rfl, rfl⟩
   cbv
   refine ⟨?_⟩
   rw [List.take_of_length_le (by rw [subl_length _ _ _ (by omega)]; omega)]
theorem crc_Sum (ad a : Option Addr) (n sp off len ext : Nat) (l : List UInt8) (hl : l.length = n) (h : off + len ≤ n) (hlen : len < 4611686018427387904) :
  FnSpec Tryz.prog 180 [.arr ad (fun _ => n) (fun _ => sp) [.b8 fun _ => l] false] [.av .u32 (fun _ => crcTab), .sl 0 (fun _ => a) (fun _ => off) (fun _ => len) (fun _ => ext)]
   (fun v hp => v = .int .u32 (fun _ => crcOf (subl l off len)) ∧ hp = [.arr ad (fun _ => n) (fun _ => sp) [.b8 fun _ => l] false]) := by
 refine spec_cl mixed F180 rfl rfl rfl (fun Γ hΓ hb => ?_)
 cbv
 intro b
 cbv
 refine ⟨⟨by simp, by simp [crcTab], by omega⟩, ?_⟩
 cbv
 refine callP_by hΓ (crc_Update ad a n sp off len ext l 4294967295 (by omega) hl h hlen) [0] (by simp) ⟨⟨_, rfl, .inl rfl⟩, trivial⟩ rfl ?_
 rintro x hp' ⟨rfl, rfl⟩
 refine ⟨rfl, ?_⟩
 cbv
 refine Cl.take 1 _ hb rfl rfl ?_ rfl ⟨rfl, rfl⟩
 cbv
 exact ⟨rfl⟩
theorem crc_Of (ad a : Option Addr) (n sp off len ext : Nat) (l : List UInt8) (hl : l.length = n) (h : off + len ≤ n) (hlen : len < 4611686018427387904) :
  FnSpec Tryz.prog 155 [.arr ad (fun _ => n) (fun _ => sp) [.b8 fun _ => l] false] [.sl 0 (fun _ => a) (fun _ => off) (fun _ => len) (fun _ => ext)]
   (fun v hp => v = .int .u32 (fun _ => crcOf (subl l off len)) ∧ hp = [.arr ad (fun _ => n) (fun _ => sp) [.b8 fun _ => l] false]) := by
 refine spec_of mixed F155 rfl rfl rfl (fun Γ hΓ hb => ?_)
 cbv
 refine callP_by hΓ crc_Table [] (by simp) trivial rfl ?_
 rintro x hp' ⟨rfl, rfl⟩
 refine ⟨rfl, ?_⟩
 cbv
 refine callP_by hΓ (crc_Sum ad a n sp off len ext l hl h hlen) [0] (by simp) ⟨⟨_, rfl, .inl rfl⟩, trivial⟩ rfl ?_
 rintro x hp' ⟨rfl, rfl⟩
 refine ⟨rfl, ?_⟩
 cbv
end Go.Proofs.YtfoffehokhkohaaGreat
set_option maxRecDepth 20000
namespace Go.Proofs.YtfoffehokhkohaaGreat
open Go
def ofLE : List UInt8 → Nat
 | [] => 0
 | x :: l => x.toNat + 256 * ofLE l
theorem ofLE_lt (l : List UInt8) : ofLE l < 256 ^ l.length := by
 induction l with
 | nil => simp [ofLE]
 | cons x l ih =>
  have := x.toNat_lt
  simp only [ofLE, List.length_cons, Nat.pow_succ]
  omega
def leB (x n : Nat) : List UInt8 := (List.range n).map fun i => UInt8.ofNat (x / 256 ^ i)
@[simp] theorem leB_length (x n : Nat) : (leB x n).length = n := by simp [leB]
theorem leB_succ (x n : Nat) : leB x (n + 1) = UInt8.ofNat x :: leB (x / 256) n := by
 unfold leB
 rw [List.range_succ_eq_map]
 simp only [List.map_cons, Nat.pow_zero, Nat.div_one, List.map_map, List.cons.injEq, true_and]
 apply List.map_congr_left
 intro i _
 simp only [Function.comp, Nat.succ_eq_add_one, Nat.pow_succ]
 rw [Nat.div_div_eq_div_mul, Nat.mul_comm]
theorem ofLE_leB (x n : Nat) : ofLE (leB x n) = x % 256 ^ n := by
 induction n generalizing x with
 | zero => simp [leB, ofLE, Nat.mod_one]
 | succ n ih =>
  rw [leB_succ, ofLE, ih]
  have h1 : (UInt8.ofNat x).toNat = x % 256 := by simp [UInt8.toNat_ofNat']
  rw [h1, Nat.pow_succ, Nat.mul_comm (256 ^ n) 256, Nat.mod_mul]
theorem or_shl8 (v x : Int) (hv : 0 ≤ v ∧ v < 72057594037927936) (hx : 0 ≤ x ∧ x < 256) : ari .or .u64 (ari .shl .u64 v 8) (wr .u64 x) = x + 256 * v := by
 have e1 : ari .shl .u64 v 8 = v * 256 := by
  have : ari .shl .u64 v 8 = wr .u64 (v * 2 ^ (Nat.min (8 : Int).toNat 64)) := rfl
  rw [this]
  have e : (2 : Int) ^ (Nat.min (8 : Int).toNat 64) = 256 := by decide
  rw [e]
  exact wr_u64 (by omega) (by omega)
 rw [e1, wr_u64 (by omega) (by omega)]
 obtain ⟨v, rfl⟩ := Int.eq_ofNat_of_zero_le hv.1
 obtain ⟨x, rfl⟩ := Int.eq_ofNat_of_zero_le hx.1
 have e2 : ari .or .u64 ((v : Int) * 256) (x : Int) = wr .u64 ((BitVec.ofInt 64 ((v : Int) * 256) ||| BitVec.ofInt 64 (x : Int)).toNat) := rfl
 rw [e2]
 have h3 : (BitVec.ofInt 64 ((v : Int) * 256) ||| BitVec.ofInt 64 (x : Int)).toNat = x + 256 * v := by
  rw [BitVec.toNat_or]
  have a1 : (BitVec.ofInt 64 ((v : Int) * 256)).toNat = v * 256 := by
   rw [show ((v : Int) * 256) = ((v * 256 : Nat) : Int) by omega, BitVec.ofInt_natCast, BitVec.toNat_ofNat]
   omega
  have a2 : (BitVec.ofInt 64 (x : Int)).toNat = x := by
   rw [BitVec.ofInt_natCast, BitVec.toNat_ofNat]
   omega
  rw [a1, a2]
  have := Nat.two_pow_add_eq_or_of_lt (i := 8) (b := x) (by omega) v
  rw [Nat.mul_comm v 256, ← this]
  omega
 rw [h3]
 rw [wr_u64 (by omega) (by omega)]
 omega
def bwd (l : List UInt8) (off len k : Nat) : List SV := [.int .i64 fun _ => toI len - 1 - toI k, .int .u8 fun _ => toI (l.getD (off + (toI len - 1 - toI k).toNat) 0).toNat]
theorem backward_b (ad a : Option Addr) (n sp off len ext b ty : Nat) (l : List UInt8) (hl : l.length = n) (h : off + len ≤ n) (hlen : len < 4611686018427387904) :
  ISpec Tryz.prog 201 [.box b ty [.sl 1 (fun _ => a) (fun _ => off) (fun _ => len) (fun _ => ext)] true, .arr ad (fun _ => n) (fun _ => sp) [.b8 fun _ => l] false] [] [.bp 0 0] ((List.range len).map (bwd l off len)) := by
 refine ⟨let ⟨fn, c, h1, h2, h3, _⟩ := F201.h; ⟨fn, c, h1, h2, h3⟩, rfl, ?_, rfl, rfl, fun lo Y Z hY => ?_⟩
 ·intro xs hx
  obtain ⟨k, _, rfl⟩ := List.mem_map.1 hx
  rfl
 refine spec_cl mixed F201 rfl rfl rfl (fun Γ hΓ hb => ?_)
 cbv
 refine ⟨rf, ?_⟩
 cbv
 refine loopJ (fun (k : Nat) => k ≤ len) (fun k => ⟨19, [(0, .fn (.yield lo) [] []), (1, .bp 0 0), (3, .int .i64 fun _ => toI len - 1 - toI k)], [.box b ty [.sl 1 (fun _ => a) (fun _ => off) (fun _ => len) (fun _ => ext)] true, .arr ad (fun _ => n) (fun _ => sp) [.b8 fun _ => l] false, .res fun _ => Y k], []⟩) (fun k => len - k) 0 (by omega) (sub2 [0, 1, 2] 3 hb rfl rfl rfl rfl rfl rfl rfl rfl ?_) ?_
 ·cbv
  exact rf
 ·intro k hk
  cbv
  refine ⟨fun hc => ?_, fun hc => ?_⟩
  ·replace hc := of_decide_eq_true hc
   have hkl : k < len := by exact om
   cbv
   refine ⟨rf, ?_⟩
   cbv
   refine ⟨rf, ?_⟩
   cbv
   refine callV_by hΓ (hY k (bwd l off len k) (by simp [hkl])) [0, 1, 2] (by simp) ⟨⟨_, rfl, .inl rfl⟩, ⟨_, rfl, .inl rfl⟩, ⟨_, rfl, .inl rfl⟩, trivial⟩ rfl ?_
   rintro x hp' (⟨rfl, rfl⟩ | ⟨rfl, rfl⟩)
   ·refine ⟨rfl, ?_⟩
    cbv
    refine ⟨rf, ?_⟩
    cbv
    refine ⟨k + 1, by exact om, by exact om, sub2 [0, 1, 2] 3 hb rfl rfl rfl rfl rfl rfl rfl rfl ?_⟩
    cbv
    exact rf
   ·refine ⟨rfl, ?_⟩
    cbv
    exact Cl.same rfl (.inr rfl)
  ·replace hc := of_decide_eq_false hc
   have : k = len := by exact om
   subst this
   cbv
   exact Cl.same rfl (.inl (by simp [appL]))
theorem backward_b0 (ad a : Option Addr) (n sp off len ext : Nat) (l : List UInt8) :
  FnSpec Tryz.prog 197 [.arr ad (fun _ => n) (fun _ => sp) [.b8 fun _ => l] false] [.sl 0 (fun _ => a) (fun _ => off) (fun _ => len) (fun _ => ext)]
   (fun v hp => ∃ b, v = .fn (.func 201) [] [.bp 1 0] ∧ hp = [.arr ad (fun _ => n) (fun _ => sp) [.b8 fun _ => l] false, .box b 109 [.sl 0 (fun _ => a) (fun _ => off) (fun _ => len) (fun _ => ext)] true]) := by
 refine spec_of mixed F197 rfl rfl rfl (fun Γ hΓ hb => ?_)
 cbv
 intro b
 cbv
 exact ⟨b, rfl, rfl⟩
theorem octet_Of (ad a : Option Addr) (n sp off len ext : Nat) (l : List UInt8) (hl : l.length = n) (h : off + len ≤ n) (hlen : len ≤ 8) :
  FnSpec Tryz.prog 183 [.arr ad (fun _ => n) (fun _ => sp) [.b8 fun _ => l] false] [.sl 0 (fun _ => a) (fun _ => off) (fun _ => len) (fun _ => ext)]
   (fun v hp => v = .int .u64 (fun _ => toI (ofLE (subl l off len))) ∧ hp = [.arr ad (fun _ => n) (fun _ => sp) [.b8 fun _ => l] false]) := by
 refine spec_cl mixed F183 rfl rfl rfl (fun Γ hΓ hb => ?_)
 cbv
 intro bv
 cbv
 refine ⟨fun hc => ?_, fun hc => ?_⟩
 ·replace hc := of_decide_eq_true hc
  exfalso; exact om
 cbv
 refine callP_by hΓ (backward_b0 ad a n sp off len ext l) [0] (by simp) ⟨⟨_, rfl, .inl rfl⟩, trivial⟩ rfl ?_
 rintro x hp' ⟨b, rfl, rfl⟩
 refine ⟨rfl, ?_⟩
 cbv
 have hll := subl_length l off len (by omega)
 refine ⟨_, fun _ _ h => h, ?_⟩
 cbv
 refine RangeP0.to ?_
 refine ⟨[2, 0, 4, 1], [.box b 109 [.sl 1 (fun _ => a) (fun _ => off) (fun _ => len) (fun _ => ext)] true, .arr ad (fun _ => n) (fun _ => sp) [.b8 fun _ => l] false], [.box bv 34 [.int .u64 fun _ => 0] true], [(2, .bp 3 0)], [], [.bp 0 0],
  by simp, rfl, rfl, ⟨rfl, trivial⟩, rfl, by simp, fun rd rr => ⟨⟨_, rfl, .inl rfl⟩, ⟨_, rfl, .inl rfl⟩, ⟨_, rfl, .inl rfl⟩, ⟨_, rfl, .inl rfl⟩, trivial⟩, ?_⟩
 refine ⟨Int, Empty, fun k q => q = toI (ofLE ((subl l off len).drop (len - k))), fun q => [.box bv 34 [.int .u64 fun _ => q] true], fun e => e.elim, fun e => e.elim, _, 0,
  hΓ ▸ backward_b ad a n sp off len ext b 109 l hl h (by omega), ?_, ?_, rfl, fun q => ⟨rfl, rfl, [], rfl⟩, fun e => e.elim, ?_, ?_, fun e => e.elim⟩
 ·intro xs hx
  obtain ⟨k, _, rfl⟩ := List.mem_map.1 hx
  rfl
 ·show (0 : Int) = toI (ofLE ((subl l off len).drop (len - 0)))
  rw [Nat.sub_zero, List.drop_of_length_le (by omega)]; rfl
 ·rintro k q xs Γ' r1 r2 hk hq hΓ' hb'
  have hkl : k < len := by
   have := (List.getElem?_eq_some_iff.1 hk).1
   simpa using this
  have hxs : xs = bwd l off len k := by
   simp [hkl] at hk
   exact hk.symm
  subst hxs
  have hv := ofLE_lt ((subl l off len).drop (len - k))
  rw [List.length_drop, hll] at hv
  have hp : (256 : Nat) ^ (len - (len - k)) ≤ 72057594037927936 := by
   have : (256 : Nat) ^ (len - (len - k)) ≤ 256 ^ 7 := Nat.pow_le_pow_right (by omega) (by omega)
   omega
  have hx := (l.getD (off + (toI len - 1 - toI k).toNat) 0).toNat_lt
  cbv
  refine ⟨⟨rfl⟩, ?_⟩
  cbv
  refine ⟨rf, ?_⟩
  cbv
  refine RoundTo.by [.box bv 34 [.int .u64 fun _ => toI (ofLE ((subl l off len).drop (len - (k + 1))))] true] [.one 0, .one 1, .one 2, .one 3] 3 hb' rfl rfl (nodup_of rfl) rfl ?_ ⟨_, rfl, rfl⟩
  cbv
  (repeat' first | with_reducible rfl | exact (show Ch.base _ = _ from rfl) | ((try simp only [toI, inI, List.length_nil] at *); omega) | exact trivial | refine ⟨?_, ?_⟩ | refine ⟨?_⟩ | intro _)
  have e1 : (subl l off len).drop (len - (k + 1)) = l.getD (off + (toI len - 1 - toI k).toNat) 0 :: (subl l off len).drop (len - k) := by
   have e3 : len - (k + 1) < (subl l off len).length := by omega
   rw [List.drop_eq_getElem_cons e3]
   congr 1
   ·have e4 : (toI len - 1 - toI k).toNat = len - (k + 1) := by simp only [toI]; omega
    rw [e4]
    have e5 : (subl l off len)[len - (k + 1)]? = l[off + (len - (k + 1))]? := by
     unfold subl
     rw [List.getElem?_take, if_pos (by omega), List.getElem?_drop]
    rw [List.getElem?_eq_getElem e3] at e5
    rw [List.getD_eq_getElem?_getD, ← e5]
    rfl
   ·congr 1; omega
  rw [e1, hq]
  refine (or_shl8 _ _ ⟨by simp only [toI]; omega, by simp only [toI]; omega⟩ (toI_u8 _)).trans ?_
  simp only [ofLE, toI]
  omega
 ·rintro q hq d rr r'
  refine ⟨rfl, ?_⟩
  have hq : q = toI (ofLE (subl l off len)) := by
   have : q = toI (ofLE ((subl l off len).drop (len - ((List.range len).map (bwd l off len)).length))) := hq
   simpa using this
  cbv
  refine ⟨rfl, ?_⟩
  cbv
  refine Cl.take 1 (.int .u64 fun _ => toI (ofLE (subl l off len))) hb rfl rfl ?_ rfl ⟨rfl, rfl⟩
  exact ⟨hq⟩
theorem shr_byte (x i : Nat) (hi : i < 8) : UInt8.ofNat (wr .u8 (ari .shr .u64 (toI x) (8 * toI i))).toNat = UInt8.ofNat (x / 256 ^ i) := by
 have e1 : ari .shr .u64 (toI x) (8 * toI i) = toI (x / 256 ^ i) := by
  have : ari .shr .u64 (toI x) (8 * toI i) = (toI x).fdiv (2 ^ (Nat.min (8 * toI i).toNat 64)) := rfl
  rw [this]
  have e : Nat.min (8 * toI i).toNat 64 = 8 * i := by
   have : (8 * toI i).toNat = 8 * i := by simp only [toI]; omega
   rw [this]
   exact Nat.min_eq_left (by omega)
  rw [e]
  have e2 : (2 : Int) ^ (8 * i) = ((256 ^ i : Nat) : Int) := by
   have : (256 : Nat) ^ i = 2 ^ (8 * i) := by rw [Nat.pow_mul]
   rw [this]
   exact (Int.natCast_pow 2 (8 * i)).symm
  rw [e2]
  simp only [toI]
  rw [Int.fdiv_eq_ediv_of_nonneg _ (Int.natCast_nonneg _)]
  exact (Int.natCast_ediv x (256 ^ i)).symm
 rw [e1]
 apply UInt8.toNat_inj.1
 rw [UInt8.toNat_ofNat', UInt8.toNat_ofNat']
 have h2 : wr .u8 (toI (x / 256 ^ i)) = toI (x / 256 ^ i % 256) := by
  simp only [wr, IntKind.wrap, IntKind.bits, IntKind.signed, toI]
  generalize x / 256 ^ i = y
  simp
 rw [h2, toI_toNat, Nat.mod_mod]
theorem leB_snoc (x i : Nat) : leB x (i + 1) = leB x i ++ [UInt8.ofNat (x / 256 ^ i)] := by
 simp [leB, List.range_succ]
theorem octet_Put (x n : Nat) (l : List UInt8) (a ad : Option Addr) (len sp : Nat) (h1 : 1 ≤ n) (h8 : n ≤ 8) (hll : l.length = len) (hl : len ≤ 1000000000000) :
  FnSpec Tryz.prog 55 [.arr ad (fun _ => len) (fun _ => sp) [.b8 fun _ => l] true]
   [.sl 0 (fun _ => a) (fun _ => 0) (fun _ => len) (fun _ => sp), .int .u64 fun _ => toI x, .int .i64 fun _ => toI n]
   (fun v hp => ∃ (a' ad' : Option Addr) (sp' : Nat), v = .sl 1 (fun _ => a') (fun _ => 0) (fun _ => len + n) (fun _ => sp') ∧
    hp = [.gone ad 1, .arr ad' (fun _ => len + n) (fun _ => sp') [.b8 fun _ => l ++ leB x n] true]) := by
 refine spec_of mixed F55 rfl rfl rfl (fun Γ hΓ hb => ?_)
 cbv
 refine ⟨fun h => ?_, fun h => ?_⟩
 ·exfalso; replace h := of_decide_eq_true h; exact om
 cbv
 refine ⟨fun h' => ?_, fun h' => ?_⟩
 ·exfalso; replace h' := of_decide_eq_true h'; exact om
 cbv
 refine loopJ (α := Nat × Option Addr × Option Addr × Nat) (fun (i, _, _, _) => i ≤ n) (fun (i, a', ad', sp') => ⟨29, [(0, .sl 1 (fun _ => a') (fun _ => 0) (fun _ => len + i) (fun _ => sp')), (1, .int .u64 fun _ => toI x), (15, .int .i64 fun _ => toI n), (16, .int .i64 fun _ => toI i)],
  [.gone ad 1, .arr ad' (fun _ => len + i) (fun _ => sp') [.b8 fun _ => l ++ leB x i] true], []⟩) (fun (i, _, _, _) => n - i) (0, a, ad, sp) (Nat.zero_le _) (sub2 [0, 0] 1 hb rfl rfl rfl rfl rfl rfl rfl rfl ?_) ?_
 ·cbv
  (repeat' first | with_reducible rfl | exact (show Ch.base _ = _ from rfl) | ((try simp only [toI, inI, List.length_nil] at *); omega) | exact trivial | refine ⟨?_, ?_⟩ | refine ⟨?_⟩ | intro _)
  simp [leB]
 ·rintro ⟨i, a', ad', sp'⟩ hi
  have hi : i ≤ n := hi
  cbv
  refine ⟨fun hc => ?_, fun hc => ?_⟩
  ·replace hc := toI_lt hc
   cbv
   refine ⟨rf, ?_⟩
   cbv
   refine ⟨rf, ?_⟩
   cbv
   refine ⟨⟨⟨wr_u8 _, trivial⟩, trivial⟩, fun b => ?_⟩
   cbv
   refine .any ⟨rf, fun a2 a3 ext2 _ => ?_⟩
   cbv
   refine .mk rf ?_
   cbv
   refine ⟨(i + 1, a3, a2, ext2), show i + 1 ≤ n by omega, show n - (i + 1) < n - i by omega, sub2 [0, 3] 1 hb rfl rfl rfl rfl rfl rfl rfl rfl ?_⟩
   cbv
   (repeat' first | with_reducible rfl | exact (show Ch.base _ = _ from rfl) | ((try simp only [toI, inI, List.length_nil] at *); omega) | exact trivial | refine ⟨?_, ?_⟩ | refine ⟨?_⟩ | intro _)
   rw [leB_snoc, ← shr_byte x i (by omega), ← List.append_assoc]
   congr 1
   rw [List.take_of_length_le (by simp [hll])]
   rfl
  ·replace hc := toI_nlt hc
   have : i = n := by omega
   subst this
   cbv
   exact ⟨a', ad', sp', rfl, rfl⟩
theorem octet_PutIn (x n : Nat) (l : List UInt8) (a ad : Option Addr) (N off len ext sp : Nat) (h1 : 1 ≤ n) (h8 : n ≤ 8) (hl : l.length = N) (hN : N ≤ 1000000000000) (hfit : off + len + n ≤ N) (hext : n ≤ ext) :
  FnSpec Tryz.prog 55 [.arr ad (fun _ => N) (fun _ => sp) [.b8 fun _ => l] true]
   [.sl 0 (fun _ => a) (fun _ => off) (fun _ => len) (fun _ => ext), .int .u64 fun _ => toI x, .int .i64 fun _ => toI n]
   (fun v hp => v = .sl 0 (fun _ => a) (fun _ => off) (fun _ => len + n) (fun _ => ext - n) ∧
    hp = [.arr ad (fun _ => N) (fun _ => sp) [.b8 fun _ => overC l (off + len) (leB x n)] true]) := by
 refine spec_cl mixed F55 rfl rfl rfl (fun Γ hΓ hb => ?_)
 cbv
 refine ⟨fun h => ?_, fun h => ?_⟩
 ·exfalso; replace h := of_decide_eq_true h; exact om
 cbv
 refine ⟨fun h' => ?_, fun h' => ?_⟩
 ·exfalso; replace h' := of_decide_eq_true h'; exact om
 cbv
 refine loopJ (fun (i : Nat) => i ≤ n) (fun i => ⟨29, [(0, .sl 0 (fun _ => a) (fun _ => off) (fun _ => len + i) (fun _ => ext - i)), (1, .int .u64 fun _ => toI x), (15, .int .i64 fun _ => toI n), (16, .int .i64 fun _ => toI i)],
  [.arr ad (fun _ => N) (fun _ => sp) [.b8 fun _ => overC l (off + len) (leB x i)] true], []⟩) (fun i => n - i) 0 (Nat.zero_le _) (sub2 [0] 1 hb rfl rfl rfl rfl rfl rfl rfl rfl ?_) ?_
 ·cbv
  (repeat' first | with_reducible rfl | exact (show Ch.base _ = _ from rfl) | ((try simp only [toI, inI, List.length_nil] at *); omega) | exact trivial | refine ⟨?_, ?_⟩ | refine ⟨?_⟩ | intro _)
  simp [leB, overC]
 ·rintro i hi
  cbv
  refine ⟨fun hc => ?_, fun hc => ?_⟩
  ·replace hc := toI_lt hc
   cbv
   refine ⟨rf, ?_⟩
   cbv
   refine ⟨rf, ?_⟩
   cbv
   refine ⟨⟨⟨wr_u8 _, trivial⟩, trivial⟩, fun b => ?_⟩
   cbv
   refine .inn ⟨rf, ?_⟩
   cbv
   refine .mk rf ?_
   cbv
   refine ⟨i + 1, show i + 1 ≤ n by omega, show n - (i + 1) < n - i by omega, sub2 [0] 1 hb rfl rfl rfl rfl rfl rfl rfl rfl ?_⟩
   cbv
   (repeat' first | with_reducible rfl | exact (show Ch.base _ = _ from rfl) | ((try simp only [toI, inI, List.length_nil] at *); omega) | exact trivial | refine ⟨?_, ?_⟩ | refine ⟨?_⟩ | intro _)
   have hs := shr_byte x i (by omega)
   have e : overC (overC l (off + len) (leB x i)) (off + (len + i)) [UInt8.ofNat (x / 256 ^ i)] = overC l (off + len) (leB x (i + 1)) := by
    unfold overC
    rw [leB_snoc]
    have e1 : (List.take (off + len) l ++ leB x i).length = off + (len + i) := by simp; omega
    have e2 : List.take (off + (len + i)) (List.take (off + len) l ++ leB x i ++ List.drop (off + len + (leB x i).length) l) = List.take (off + len) l ++ leB x i := by
     rw [List.take_append_of_le_length (by omega), List.take_of_length_le (by omega)]
    rw [e2, List.drop_append, e1]
    have e3 : List.drop (off + (len + i) + 1) (List.take (off + len) l ++ leB x i) = [] := List.drop_eq_nil_iff.2 (by omega)
    simp only [List.length_cons, List.length_nil, List.length_append, leB_length, Nat.zero_add, e3, List.nil_append, List.append_assoc, List.drop_drop]
    congr 4
    omega
   rw [← e]
   show overC _ _ (List.take 1 (List.drop 0 [UInt8.ofNat _])) = _
   simp only [List.drop_zero, List.take_succ_cons, List.take_nil]
   congr 2
  ·replace hc := toI_nlt hc
   have : i = n := by omega
   subst this
   cbv
   exact Cl.same rfl ⟨rfl, rfl⟩
end Go.Proofs.YtfoffehokhkohaaGreat
