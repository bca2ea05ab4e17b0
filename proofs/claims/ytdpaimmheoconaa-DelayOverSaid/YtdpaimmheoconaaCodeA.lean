import Derived.Test.YtdpaimmheoconaaAmP
import Derived.Test.YtdpaimmheoconaaProg
import Derived.KernelRfl
set_option linter.unusedVariables false
set_option linter.unusedSimpArgs false
set_option maxRecDepth 100000
namespace Go.Proofs.Hx
open Go Go.Proofs
def zN (n : Int) : AOpd := .c (.lit (.int .i64 n))
def zM (d x : Nat) : yU := ⟨some d, .mv (.t x), none⟩
def zH (d x g : Nat) (w : Bool) : yU := ⟨some d, .mv (.t x), some (g, w)⟩
def zF (d : Nat) (o : AOp) : yU := ⟨some d, o, none⟩
def zG (d g : Nat) (w : Bool) (o : AOp) : yU := ⟨some d, o, some (g, w)⟩
def zS (o : AOp) : yU := ⟨none, o, none⟩
def zD (d x : Nat) : yU := ⟨some d, .load false 1 (.t x), none⟩
def zV (d : Nat) (g : Bool) (n x : Nat) : yU := ⟨some d, .load g n (.t x), none⟩
def zA (d o x : Nat) : yU := ⟨some d, .fieldAddr o (.t x), none⟩
def zI (d s x y : Nat) : yU := ⟨some d, .idxAddr none s (.t x) (.t y), none⟩
def zB (d : Nat) (o : BinOp) (x y : Nat) : yU := ⟨some d, .bin o (.t x) (.t y), none⟩
def zC (d : Nat) (o : BinOp) (x : Nat) (n : Int) : yU := ⟨some d, .bin o (.t x) (zN n), none⟩
def zX (d x i : Nat) : yU := ⟨some d, .ext (.t x) i, none⟩
def zE (d x : Nat) : yU := ⟨some d, .len none (.t x), none⟩
def zP (d c a : Nat) : yU := ⟨some d, .pick (.t c) (.t a) (.c (.lit (.bool false))), none⟩
def zQ (d c a : Nat) : yU := ⟨some d, .pick (.t c) (.c (.lit (.bool true))) (.t a), none⟩
def zO (d : Nat) (b : Bool) : yU := ⟨some d, .mv (.c (.lit (.bool b))), none⟩
def zK (d : Nat) (n : Int) : yU := ⟨some d, .mv (zN n), none⟩
def zJ (d x : Nat) : yU := ⟨some d, .nilchk (.t x), none⟩
def zL (d : Nat) (q : Bool) (f : Nat) (l : List Nat) : yU := ⟨some d, .call q (.c (.fn f [])) (l.map .t), none⟩
def zU (d x g : Nat) (w : Bool) : yU := ⟨some d, .load false 1 (.t x), some (g, w)⟩
def zW (d s x y g : Nat) (w : Bool) : yU := ⟨some d, .idxAddr none s (.t x) (.t y), some (g, w)⟩
def zY (d : Nat) (o : BinOp) (x y g : Nat) (w : Bool) : yU := ⟨some d, .bin o (.t x) (.t y), some (g, w)⟩
abbrev zR (l : List yU) : ACode := .ops l []
attribute [push_cast] zN zM zH zF zG zS zD zV zA zI zB zC zX zE zP zQ zO zK zJ zL zU zW zY
theorem qM : Try.prog.follows .mixedOrders = true := by kernel_rfl
def r3_0 := [zF 2 (.box (.t 0)), zF 3 (.box (.t 1)), zO 4 false]
def r3_1 := [zA 18 0 2, zD 19 18, zE 20 19, zC 21 .gtr 20 60]
def r3_2 := [zL 22 false 12 [], zM 4 22]
def r3_3 := [zA 24 0 2, zD 25 24, zV 26 true 13 3, zL 27 false 13 [25, 26], zM 23 27, zX 28 23 0, zX 29 23 1, zM 5 28, zM 6 29]
def r3_4 := [zM 30 6, zC 31 .neq 30 0]
def r3_5 := [zL 32 false 12 [], zM 4 32]
def r3_6 := [zV 34 true 6 2, zV 35 true 13 3, zM 36 5, zL 37 false 14 [34, 35, 36], zM 33 37, zX 38 33 0, zX 39 33 1, zX 40 33 2, zM 7 38, zM 8 39, zM 9 40]
def r3_7 := [zM 41 9, zC 42 .neq 41 0]
def r3_8 := [zM 43 9, zC 44 .eql 43 21, zM 45 44, zH 46 9 45 false, zG 47 45 false (.bin .eql (.t 46) (zN 50)), zQ 48 45 47, zM 49 48, zH 50 7 49 true, zG 51 49 true (.bin .eql (.t 50) (zN 0)), zP 52 49 51, zM 53 52, zH 54 8 53 true, zG 55 53 true (.bin .eql (.t 54) (zN 0)), zP 56 53 55, zM 57 56, zG 58 57 true (.call false (.c (.fn 12 [])) []), zP 59 57 58, zM 4 59]
def r3_9 := [zA 60 1 2, zD 61 60, zF 62 (.bin .neq (.t 61) (.c (.lit (.int .i8 0)))), zM 10 62]
def r3_10 := [zK 11 0]
def r3_11 := [zM 63 11, zA 64 0 2, zD 65 64, zE 66 65, zB 67 .lss 63 66, zM 68 67, zH 69 11 68 true, zH 70 5 68 true, zG 71 68 true (.len none (.t 70)), zY 72 .lss 69 71 68 true, zP 73 68 72]
def r3_12 := [zA 77 0 2, zD 78 77, zM 79 11, zI 80 5 78 79, zA 81 0 80, zD 82 81, zL 83 false 15 [82], zM 76 83, zX 84 76 0, zX 85 76 1, zM 12 84, zM 13 85]
def r3_13 := [zM 86 5, zM 87 11, zI 88 1 86 87, zD 89 88, zM 90 12, zA 91 4 3, zF 92 (.idxAddr (some 4) 1 (.t 91) (.t 90)), zD 93 92, zM 94 12, zA 95 8 3, zF 96 (.idxAddr (some 4) 1 (.t 95) (.t 94)), zD 97 96, zF 98 (.maxs [(.t 93), (.t 97)]), zB 99 .add 89 98, zM 14 99]
def r3_14 := [zA 100 1 2, zD 101 100, zF 102 (.bin .eql (.t 101) (.c (.lit (.int .i8 2))))]
def r3_15 := [zM 103 5, zM 104 11, zI 105 1 103 104, zD 106 105, zM 107 12, zA 108 4 3, zF 109 (.idxAddr (some 4) 1 (.t 108) (.t 107)), zD 110 109, zB 111 .add 106 110, zM 14 111]
def r3_16 := [zA 113 0 2, zD 114 113, zM 115 11, zI 116 5 114 115, zV 117 true 5 116, zL 118 false 16 [117], zM 112 118, zX 119 112 0, zX 120 112 1, zM 15 119, zM 16 120]
def r3_17 := [zA 121 1 2, zD 122 121, zF 123 (.bin .eql (.t 122) (.c (.lit (.int .i8 2)))), zM 124 123, zH 125 14 124 true, zH 126 7 124 true, zY 127 .gtr 125 126 124 true, zP 128 124 127, zM 129 128, zG 130 129 false (.fieldAddr 1 (.t 2)), zU 131 130 129 false, zG 132 129 false (.bin .neq (.t 131) (.c (.lit (.int .i8 2)))), zH 133 132 129 false, zH 134 14 133 true, zH 135 8 133 true, zY 136 .gtr 134 135 133 true, zG 137 129 false (.pick (.t 133) (.t 136) (.c (.lit (.bool false)))), zQ 138 129 137, zM 139 138, zH 140 10 139 false, zH 141 140 139 false, zG 142 141 true (.fieldAddr 1 (.t 2)), zU 143 142 141 true, zG 144 141 true (.bin .neq (.t 143) (.c (.lit (.int .i8 3)))), zG 145 139 false (.pick (.t 141) (.t 144) (.c (.lit (.bool false)))), zH 146 145 139 false, zH 147 16 146 true, zG 148 139 false (.pick (.t 146) (.t 147) (.c (.lit (.bool false)))), zH 149 148 139 false, zH 150 15 149 true, zG 151 149 true (.fieldAddr 2 (.t 2)), zU 152 151 149 true, zY 153 .eql 150 152 149 true, zG 154 139 false (.pick (.t 149) (.t 153) (.c (.lit (.bool false)))), zH 155 154 139 false, zH 156 5 155 true, zH 157 11 155 true, zW 158 1 156 157 155 true, zU 159 158 155 true, zH 160 12 155 true, zG 161 155 true (.fieldAddr 4 (.t 3)), zG 162 155 true (.idxAddr (some 4) 1 (.t 161) (.t 160)), zU 163 162 155 true, zY 164 .add 159 163 155 true, zH 165 7 155 true, zY 166 .gtr 164 165 155 true, zG 167 139 false (.pick (.t 155) (.t 166) (.c (.lit (.bool false)))), zQ 168 139 167]
def r3_18 := [zO 4 false]
def r3_19 := [zM 74 11, zC 75 .add 74 1, zM 11 75]
def l3_0 : ACode := (.seq (.seq (zR r3_11) (.cond (.t 73) .skip (.exit 0))) (.seq (.block 1 (.seq (zR r3_12) (.seq (zR r3_13) (.seq (.seq (zR r3_14) (.cond (.t 102) (zR r3_15) .skip)) (.seq (zR r3_16) (.seq (zR r3_17) (.cond (.t 168) (.seq (zR r3_18) .ret) .skip))))))) (zR r3_19)))
def r3_20 := [zA 169 8 3, zF 170 (.idxAddr (some 4) 1 (.t 169) (zN 3)), zD 171 170, zC 172 .sub 171 1, zA 173 12 3, zD 174 173, zB 175 .sub 172 174, zM 17 175]
def r3_21 := [zA 176 1 2, zD 177 176]
def r3_22 := [zF 179 (.bin .eql (.t 177) (.c (.lit (.int .i8 3)))), zM 178 179]
def r3_23 := [zM 180 7, zC 181 .eql 180 (-1), zM 182 181, zG 183 182 true (.call false (.c (.fn 12 [])) []), zP 184 182 183, zM 4 184]
def r3_24 := [zF 186 (.bin .eql (.t 177) (.c (.lit (.int .i8 2)))), zM 185 186]
def r3_25 := [zM 187 7, zM 188 17, zF 189 (.maxs [(zN 0), (.t 188)]), zB 190 .geq 187 189, zM 191 190, zH 192 8 191 true, zH 193 7 191 true, zG 194 191 true (.bin .add (.t 193) (zN 1)), zY 195 .eql 192 194 191 true, zP 196 191 195, zM 197 196, zG 198 197 true (.call false (.c (.fn 12 [])) []), zP 199 197 198, zM 4 199]
def r3_26 := [zM 200 7, zM 201 17, zF 202 (.maxs [(zN 0), (.t 201)]), zB 203 .geq 200 202, zM 204 203, zH 205 8 204 true, zH 206 7 204 true, zG 207 204 true (.bin .add (.t 206) (zN 1)), zG 208 204 true (.fieldAddr 12 (.t 3)), zU 209 208 204 true, zY 210 .add 207 209 204 true, zY 211 .eql 205 210 204 true, zP 212 204 211, zM 213 212, zG 214 213 true (.call false (.c (.fn 12 [])) []), zP 215 213 214, zM 4 215]
def ac3 : ACode := (.seq (zR r3_0) (.seq (.seq (zR r3_1) (.cond (.t 21) (.seq (zR r3_2) .ret) .skip)) (.seq (zR r3_3) (.seq (.seq (zR r3_4) (.cond (.t 31) (.seq (zR r3_5) .ret) .skip)) (.seq (zR r3_6) (.seq (.seq (zR r3_7) (.cond (.t 42) (.seq (zR r3_8) .ret) .skip)) (.seq (zR r3_9) (.seq (.seq (zR r3_10) (.block 0 (.loop l3_0))) (.seq (zR r3_20) (.seq (.seq (zR r3_21) (.block 2 (.seq (zR r3_22) (.cond (.t 178) (.seq (zR r3_23) .ret) (.seq (zR r3_24) (.cond (.t 185) (.seq (zR r3_25) .ret) .skip)))))) (.seq (zR r3_26) .ret)))))))))))
def re3 : List AOp := [(.mv (.t 4))]
theorem cf3 : cFn Try.prog 3 = some (216, ac3, re3) := by kernel_rfl
def r12_0 := [zO 0 false]
def r12_1 := [zF 15 (.build [(.lit (.int .i64 0)), (.lit (.int .i64 0)), (.lit (.int .i64 0)), (.lit (.int .i64 0))] [(0, (1, (zN 1))), (1, (1, (zN 1))), (2, (1, (zN 1))), (3, (1, (zN 1)))]), zF 16 (.build [(.lit (.int .i64 0)), (.lit (.int .i64 0)), (.lit (.int .i64 0)), (.lit (.int .i64 0))] [(0, (1, (zN 1))), (1, (1, (zN 3))), (2, (1, (zN 2))), (3, (1, (zN 1)))]), zF 17 (.build [(.lit (.int .i64 0)), (.lit (.int .i64 0)), (.lit (.int .i64 0)), (.lit (.int .i64 0))] [(0, (1, (zN 1))), (1, (1, (zN 1))), (2, (1, (zN 1))), (3, (1, (zN 1)))]), zF 18 (.build [(.lit (.int .i64 0)), (.lit (.int .i64 0)), (.lit (.int .i64 0)), (.lit (.int .i64 0)), (.lit (.int .i64 0)), (.lit (.int .i64 0)), (.lit (.int .i64 0)), (.lit (.int .i64 0)), (.lit (.int .i64 0)), (.lit (.int .i64 0)), (.lit (.int .i64 0)), (.lit (.int .i64 0)), (.lit (.int .i64 0))] [(0, (4, (.t 15))), (4, (4, (.t 16))), (8, (4, (.t 17))), (12, (1, (zN 2)))]), zF 1 (.alloc [(.lit (.int .i64 0)), (.lit (.int .i64 0)), (.lit (.int .i64 0)), (.lit (.int .i64 0)), (.lit (.int .i64 0)), (.lit (.int .i64 0)), (.lit (.int .i64 0)), (.lit (.int .i64 0)), (.lit (.int .i64 0)), (.lit (.int .i64 0)), (.lit (.int .i64 0)), (.lit (.int .i64 0)), (.lit (.int .i64 0))]), zS (.store 13 (.t 1) (.t 18))]
def r12_2 := [zF 19 (.build [(.lit (.int .i8 0)), (.lit (.int .u8 0)), (.lit (.int .u8 0)), (.lit (.int .u8 0)), (.lit (.int .i64 0))] [(0, (1, (.c (.lit (.int .i8 12))))), (1, (1, (.c (.lit (.int .u8 1))))), (2, (1, (.c (.lit (.int .u8 2))))), (3, (1, (.c (.lit (.int .u8 3)))))]), zF 20 (.buildSl 5 1 [(.lit (.int .i8 0)), (.lit (.int .u8 0)), (.lit (.int .u8 0)), (.lit (.int .u8 0)), (.lit (.int .i64 0))] [(0, (5, (.t 19)))]), zF 21 (.build [.nil, (.lit (.int .i8 0)), (.lit (.int .u8 0)), .nil, (.lit (.int .i64 0)), (.lit (.int .i64 0))] [(0, (1, (.t 20))), (1, (1, (.c (.lit (.int .i8 1))))), (2, (1, (.c (.lit (.int .u8 1)))))]), zF 2 (.alloc [.nil, (.lit (.int .i8 0)), (.lit (.int .u8 0)), .nil, (.lit (.int .i64 0)), (.lit (.int .i64 0))]), zS (.store 6 (.t 2) (.t 21))]
def r12_3 := [zV 23 true 6 2, zV 24 true 13 1, zF 25 (.buildSl 1 1 [(.lit (.int .i64 0))] [(0, (1, (zN 0)))]), zL 26 false 14 [23, 24, 25], zM 22 26, zX 27 22 0, zX 28 22 1, zX 29 22 2, zM 3 27, zM 4 28, zM 5 29]
def r12_4 := [zA 30 2 2, zS (.store 1 (.t 30) (.c (.lit (.int .u8 2))))]
def r12_5 := [zV 32 true 6 2, zV 33 true 13 1, zF 34 (.buildSl 1 1 [(.lit (.int .i64 0))] [(0, (1, (zN 0)))]), zL 35 false 14 [32, 33, 34], zM 31 35, zX 36 31 0, zX 37 31 1, zX 38 31 2, zM 6 36, zM 7 37, zM 8 38]
def r12_6 := [zV 40 true 6 2, zV 41 true 13 1, zF 42 (.buildSl 1 1 [(.lit (.int .i64 0))] [(0, (1, (zN (-1))))]), zL 43 false 14 [40, 41, 42], zM 39 43, zX 44 39 0, zX 45 39 1, zX 46 39 2, zM 9 44, zM 10 45, zM 11 46]
def r12_7 := [zF 48 (.build [.nil, (.lit (.int .i8 0)), (.lit (.int .u8 0)), .nil, (.lit (.int .i64 0)), (.lit (.int .i64 0))] [(1, (1, (.c (.lit (.int .i8 3)))))]), zV 49 true 13 1, zF 50 (.call false (.c (.fn 14 [])) [(.t 48), (.t 49), (.c .nil)]), zM 47 50, zX 51 47 0, zX 52 47 1, zX 53 47 2, zM 12 51, zM 13 52, zM 14 53]
def r12_8 := [zM 54 5, zC 55 .eql 54 0, zM 56 55, zH 57 3 56 true, zG 58 56 true (.bin .eql (.t 57) (zN 3)), zP 59 56 58, zM 60 59, zH 61 4 60 true, zG 62 60 true (.bin .eql (.t 61) (zN 6)), zP 63 60 62, zM 64 63, zH 65 8 64 true, zG 66 64 true (.bin .eql (.t 65) (zN 0)), zP 67 64 66, zM 68 67, zH 69 6 68 true, zG 70 68 true (.bin .eql (.t 69) (zN 0)), zP 71 68 70, zM 72 71, zH 73 7 72 true, zG 74 72 true (.bin .eql (.t 73) (zN 3)), zP 75 72 74, zM 76 75, zH 77 11 76 true, zG 78 76 true (.bin .eql (.t 77) (zN 160)), zP 79 76 78, zM 80 79, zH 81 12 80 true, zG 82 80 true (.bin .eql (.t 81) (zN (-1))), zP 83 80 82, zM 84 83, zH 85 13 84 true, zG 86 84 true (.bin .eql (.t 85) (zN 0)), zP 87 84 86, zM 88 87, zH 89 14 88 true, zG 90 88 true (.bin .eql (.t 89) (zN 0)), zP 91 88 90, zM 0 91]
def ac12 : ACode := (.seq (zR r12_0) (.seq (zR r12_1) (.seq (zR r12_2) (.seq (zR r12_3) (.seq (zR r12_4) (.seq (zR r12_5) (.seq (zR r12_6) (.seq (zR r12_7) (.seq (zR r12_8) .ret)))))))))
def re12 : List AOp := [(.mv (.t 0))]
theorem cf12 : cFn Try.prog 12 = some (92, ac12, re12) := by kernel_rfl
def r13_0 := [zF 3 (.box (.t 1)), zF 4 (.mv (.c .nil)), zK 5 0]
def r13_1 := [zM 16 0, zV 17 true 13 3, zL 18 false 50 [16, 17], zM 15 18, zX 19 15 0, zX 20 15 1, zM 6 19, zM 7 20]
def r13_2 := [zM 21 7, zC 22 .neq 21 0]
def r13_3 := [zM 23 7, zF 4 (.mv (.c .nil)), zM 5 23]
def r13_4 := [zM 24 0, zV 25 true 13 3, zL 26 false 51 [24, 25]]
def r13_5 := [zF 4 (.mv (.c .nil)), zK 5 21]
def r13_6 := [zM 27 0, zV 28 true 13 3, zL 29 false 52 [27, 28], zM 8 29]
def r13_7 := [zM 30 8, zF 31 (.mkbf 53 [(.t 30)]), zM 9 31]
def r13_8 := [zM 32 8, zJ 33 32, zA 34 16 33, zD 35 34, zF 36 (.mkbf 54 [(.t 35)]), zM 10 36]
def r13_9 := [zM 37 0, zE 38 37, zK 11 0, zM 12 38]
def r13_10 := [zM 39 12, zC 40 .gtr 39 0]
def r13_11 := [zM 43 6, zE 44 43, zK 45 0]
def r13_12 := [zB 46 .lss 45 44]
def r13_13 := [zI 47 1 43 45, zD 48 47, zM 14 48]
def r13_14 := [zM 49 8, zJ 50 49, zA 51 15 50, zD 52 51, zM 53 14, zI 54 1 52 53, zD 55 54, zC 56 .geq 55 0, zM 57 56, zH 58 9 57 false, zH 59 14 57 false, zH 60 11 57 false, zG 61 57 false (.call false (.t 58) [(.t 59), (.t 60)]), zG 62 57 false (.un .not (.t 61)), zQ 63 57 62, zM 64 63, zH 65 10 64 false, zH 66 0 64 false, zH 67 14 64 false, zW 68 5 66 67 64 false, zG 69 64 false (.load true 5 (.t 68)), zG 70 64 false (.call false (.c (.fn 55 [])) [(.t 69)]), zH 71 11 64 false, zG 72 64 false (.call false (.t 65) [(.t 70), (.t 71)]), zG 73 64 false (.un .not (.t 72)), zQ 74 64 73]
def r13_15 := [zM 75 8, zJ 76 75, zA 77 15 76, zD 78 77, zM 79 14, zM 80 11, zI 81 1 78 79, zS (.store 1 (.t 81) (.t 80))]
def r13_16 := [zM 82 12, zC 83 .sub 82 1, zM 12 83]
def r13_17 := [zM 84 12, zC 85 .gtr 84 0]
def r13_18 := [zC 86 .add 45 1, zM 45 86]
def l13_0 : ACode := (.seq (zR r13_12) (.seq (.cond (.t 46) .skip (.exit 2)) (.seq (.block 3 (.seq (zR r13_13) (.seq (.seq (zR r13_14) (.cond (.t 74) (.exit 3) .skip)) (.seq (zR r13_15) (.seq (zR r13_16) (.seq (zR r13_17) (.cond (.t 85) (.exit 1000000) .skip))))))) (zR r13_18))))
def l13_1 : ACode := (.block 1000000 (.seq (.seq (zR r13_11) (.block 2 (.loop l13_0))) (.exit 2000000)))
def r13_19 := [zM 41 11, zC 42 .add 41 1, zM 11 42]
def l13_2 : ACode := (.seq (.seq (zR r13_10) (.cond (.t 40) .skip (.exit 0))) (.seq (.block 1 (.block 2000000 (.loop l13_1))) (zR r13_19)))
def r13_20 := [zM 87 8, zJ 88 87, zA 89 15 88, zD 90 89, zM 4 90, zK 5 0]
def ac13 : ACode := (.seq (zR r13_0) (.seq (zR r13_1) (.seq (.seq (zR r13_2) (.cond (.t 22) (.seq (zR r13_3) .ret) .skip)) (.seq (.seq (zR r13_4) (.cond (.t 26) (.seq (zR r13_5) .ret) .skip)) (.seq (zR r13_6) (.seq (zR r13_7) (.seq (zR r13_8) (.seq (.seq (zR r13_9) (.block 0 (.loop l13_2))) (.seq (zR r13_20) .ret)))))))))
def re13 : List AOp := [(.mv (.t 4)), (.mv (.t 5))]
theorem cf13 : cFn Try.prog 13 = some (91, ac13, re13) := by kernel_rfl
def r14_0 := [zF 3 (.box (.t 0)), zF 4 (.box (.t 1)), zK 6 0, zK 7 0, zK 8 0]
def r14_1 := [zV 12 true 13 4, zL 13 false 56 [12], zM 9 13]
def r14_2 := [zM 15 9, zC 16 .neq 15 0, zM 14 16]
def r14_3 := [zM 17 9, zK 6 0, zK 7 0, zM 8 17]
def r14_4 := [zA 19 0 4, zF 20 (.idxAddr (some 4) 1 (.t 19) (zN 3)), zD 21 20, zC 22 .eql 21 0, zM 18 22]
def r14_5 := [zK 6 0, zK 7 0, zK 8 21]
def r14_6 := [zA 24 1 3, zD 25 24, zF 26 (.bin .lss (.t 25) (.c (.lit (.int .i8 0)))), zM 23 26]
def r14_7 := [zA 27 1 3, zD 28 27, zF 29 (.bin .gtr (.t 28) (.c (.lit (.int .i8 3)))), zM 23 29]
def r14_8 := [zA 30 1 3, zD 31 30, zF 32 (.bin .neq (.t 31) (.c (.lit (.int .i8 0)))), zM 33 32, zG 34 33 true (.fieldAddr 2 (.t 3)), zU 35 34 33 true, zG 36 33 true (.bin .geq (.t 35) (.c (.lit (.int .u8 32)))), zP 37 33 36, zM 23 37]
def r14_9 := [zK 6 0, zK 7 0, zK 8 50]
def r14_10 := [zA 39 0 3, zD 40 39, zV 41 true 13 4, zM 42 2, zL 43 false 57 [40, 41, 42], zF 44 (.un .not (.t 43)), zM 38 44]
def r14_11 := [zK 6 0, zK 7 0, zK 8 160]
def r14_12 := [zA 45 8 4, zF 46 (.idxAddr (some 4) 1 (.t 45) (zN 3)), zD 47 46, zC 48 .sub 47 1, zA 49 12 4, zD 50 49, zB 51 .sub 48 50, zF 52 (.maxs [(zN 0), (.t 51)]), zM 10 52]
def r14_13 := [zA 53 0 3, zD 54 53, zV 55 true 13 4, zM 56 2, zA 57 2 3, zD 58 57, zL 59 false 58 [54, 55, 56, 58], zF 11 (.alloc [(.lit (.int .i64 0)), (.lit (.int .i64 0)), (.lit (.int .i64 0))]), zS (.store 3 (.t 11) (.t 59))]
def r14_14 := [zA 60 1 3, zD 61 60]
def r14_15 := [zF 63 (.bin .eql (.t 61) (.c (.lit (.int .i8 3)))), zM 62 63]
def r14_16 := [zA 64 0 11, zD 65 64, zK 6 (-1), zM 7 65, zK 8 0]
def r14_17 := [zF 67 (.bin .eql (.t 61) (.c (.lit (.int .i8 2)))), zM 66 67]
def r14_18 := [zM 68 10, zA 69 1 11, zD 70 69, zF 71 (.maxs [(.t 68), (.t 70)]), zM 6 71]
def r14_19 := [zM 72 6, zM 73 6, zC 74 .add 73 1, zM 6 72, zM 7 74, zK 8 0]
def r14_20 := [zF 76 (.bin .eql (.t 61) (.c (.lit (.int .i8 1)))), zM 75 76]
def r14_21 := [zM 77 10, zA 78 2 11, zD 79 78, zF 80 (.maxs [(.t 77), (.t 79)]), zM 10 80]
def r14_22 := [zA 81 0 11, zD 82 81, zM 83 10, zC 84 .add 83 1, zA 85 12 4, zD 86 85, zB 87 .add 84 86, zF 88 (.maxs [(.t 82), (.t 87)]), zM 7 88]
def r14_23 := [zM 89 7, zC 90 .sub 89 1, zA 91 12 4, zD 92 91, zB 93 .sub 90 92, zM 94 7, zM 6 93, zM 7 94, zK 8 0]
def ac14 : ACode := (.seq (zR r14_0) (.seq (.seq (zR r14_1) (.block 0 (.seq (zR r14_2) (.cond (.t 14) (.seq (zR r14_3) .ret) (.seq (zR r14_4) (.cond (.t 18) (.seq (zR r14_5) .ret) (.seq (.seq (zR r14_6) (.cond (.t 23) .skip (.seq (zR r14_7) (.cond (.t 23) .skip (zR r14_8))))) (.cond (.t 23) (.seq (zR r14_9) .ret) (.seq (zR r14_10) (.cond (.t 38) (.seq (zR r14_11) .ret) .skip)))))))))) (.seq (zR r14_12) (.seq (zR r14_13) (.seq (.seq (zR r14_14) (.block 1 (.seq (zR r14_15) (.cond (.t 62) (.seq (zR r14_16) .ret) (.seq (zR r14_17) (.cond (.t 66) (.seq (zR r14_18) (.seq (zR r14_19) .ret)) (.seq (zR r14_20) (.cond (.t 75) (zR r14_21) .skip)))))))) (.seq (zR r14_22) (.seq (zR r14_23) .ret)))))))
def re14 : List AOp := [(.mv (.t 6)), (.mv (.t 7)), (.mv (.t 8))]
theorem cf14 : cFn Try.prog 14 = some (95, ac14, re14) := by kernel_rfl
def r15_0 := [zK 2 0, zO 3 false]
def r15_1 := [zM 7 0, zL 8 false 59 [7], zM 6 8, zX 9 6 0, zX 10 6 1, ⟨(some 4), (.alloc [(.lit (.string ⟨#[]⟩)), (.lit (.int .i8 0)), (.lit (.bool false)), (.lit (.bool false)), (.lit (.bool false)), (.lit (.bool false)), (.lit (.bool false)), (.lit (.bool false))]), none⟩, zS (.store 8 (.t 4) (.t 9)), zM 5 10]
def r15_2 := [zM 11 5, zF 12 (.un .not (.t 11)), zM 13 12, zG 14 13 false (.fieldAddr 1 (.t 4)), zU 15 14 13 false, zG 16 13 false (.bin .lss (.t 15) (.c (.lit (.int .i8 0)))), zQ 17 13 16]
def r15_3 := [zK 2 0, zO 3 false]
def r15_4 := [zA 18 1 4, zD 19 18, zF 20 (.conv .i64 (.t 19)), zM 2 20, zO 3 true]
def ac15 : ACode := (.seq (zR r15_0) (.seq (zR r15_1) (.seq (.seq (zR r15_2) (.cond (.t 17) (.seq (zR r15_3) .ret) .skip)) (.seq (zR r15_4) .ret))))
def re15 : List AOp := [(.mv (.t 2)), (.mv (.t 3))]
theorem cf15 : cFn Try.prog 15 = some (21, ac15, re15) := by kernel_rfl
def r16_0 := [zF 1 (.box (.t 0)), zF 2 (.mv (.c (.lit (.int .u8 0)))), zO 3 false]
def r16_1 := [zA 7 0 1, zD 8 7, zL 9 false 59 [8], zM 6 9, zX 10 6 0, zX 11 6 1, ⟨(some 4), (.alloc [(.lit (.string ⟨#[]⟩)), (.lit (.int .i8 0)), (.lit (.bool false)), (.lit (.bool false)), (.lit (.bool false)), (.lit (.bool false)), (.lit (.bool false)), (.lit (.bool false))]), none⟩, zS (.store 8 (.t 4) (.t 10)), zM 5 11]
def r16_2 := [zA 12 2 4, zD 13 12, zF 14 (.un .not (.t 13)), zM 15 14, zG 16 15 false (.load true 5 (.t 1)), zG 17 15 false (.call false (.c (.fn 60 [])) [(.t 16)]), zG 18 15 false (.bin .neq (.t 17) (zN 0)), zQ 19 15 18]
def r16_3 := [zF 2 (.mv (.c (.lit (.int .u8 0)))), zO 3 false]
def r16_4 := [zA 20 1 1, zD 21 20, zM 2 21, zO 3 true]
def ac16 : ACode := (.seq (zR r16_0) (.seq (zR r16_1) (.seq (.seq (zR r16_2) (.cond (.t 19) (.seq (zR r16_3) .ret) .skip)) (.seq (zR r16_4) .ret))))
def re16 : List AOp := [(.mv (.t 2)), (.mv (.t 3))]
theorem cf16 : cFn Try.prog 16 = some (22, ac16, re16) := by kernel_rfl
def r42_0 := [zF 1 (.box (.t 0)), zF 2 (.mv (.c .nil))]
def r42_1 := [zA 7 0 1, zD 8 7, zL 9 false 59 [8], zM 6 9, zX 10 6 0, zX 11 6 1, ⟨(some 3), (.alloc [(.lit (.string ⟨#[]⟩)), (.lit (.int .i8 0)), (.lit (.bool false)), (.lit (.bool false)), (.lit (.bool false)), (.lit (.bool false)), (.lit (.bool false)), (.lit (.bool false))]), none⟩, zS (.store 8 (.t 3) (.t 10)), zM 4 11]
def r42_2 := [zV 12 true 5 1, zL 13 false 60 [12], zC 14 .neq 13 0]
def r42_3 := [zF 2 (.mv (.c .nil))]
def r42_4 := [zA 15 2 1, zD 16 15, zA 17 3 1, zD 18 17, zF 19 (.buildSl 1 2 [(.lit (.int .u8 0)), (.lit (.int .u8 0))] [(0, (1, (.t 16))), (1, (1, (.t 18)))]), zM 5 19]
def r42_5 := [zA 21 3 3, zD 22 21, zM 23 22, zG 24 23 true (.fieldAddr 4 (.t 3)), zU 25 24 23 true, zP 26 23 25, zM 27 26, zG 28 27 true (.fieldAddr 2 (.t 1)), zU 29 28 27 true, zG 30 27 true (.fieldAddr 3 (.t 1)), zU 31 30 27 true, zY 32 .neq 29 31 27 true, zP 33 27 32, zM 20 33]
def r42_6 := [zM 34 5, zM 2 34]
def r42_7 := [zA 36 3 3, zD 37 36, zM 35 37]
def r42_8 := [zM 38 5, zF 39 (.slice none 1 (.t 38) none (some (zN 1)) (some (zN 1))), zM 2 39]
def r42_9 := [zA 41 4 3, zD 42 41, zM 40 42]
def r42_10 := [zM 43 5, zF 44 (.slice none 1 (.t 43) (some (zN 1)) (some (zN 2)) (some (zN 2))), zM 2 44]
def r42_11 := [zF 2 (.mv (.c .nil))]
def ac42 : ACode := (.seq (zR r42_0) (.seq (zR r42_1) (.seq (.seq (zR r42_2) (.cond (.t 14) (.seq (zR r42_3) .ret) .skip)) (.seq (zR r42_4) (.seq (.block 0 (.seq (zR r42_5) (.cond (.t 20) (.seq (zR r42_6) .ret) (.seq (zR r42_7) (.cond (.t 35) (.seq (zR r42_8) .ret) (.seq (zR r42_9) (.cond (.t 40) (.seq (zR r42_10) .ret) .skip))))))) (.seq (zR r42_11) .ret))))))
def re42 : List AOp := [(.mv (.t 2))]
theorem cf42 : cFn Try.prog 42 = some (45, ac42, re42) := by kernel_rfl
def r50_0 := [zF 3 (.box (.t 1)), zF 4 (.mv (.c .nil)), zK 5 0]
def r50_1 := [zM 9 0, zV 10 true 13 3, zL 11 false 82 [9, 10], zM 8 11, zX 12 8 0, zX 13 8 1, zM 6 12, zM 7 13]
def r50_2 := [zM 14 7, zC 15 .neq 14 0]
def r50_3 := [zM 16 7, zF 4 (.mv (.c .nil)), zM 5 16]
def r50_4 := [zM 17 6, zF 18 (.call false (.c (.fn 83 [])) [(.t 17), (.c (.fn 84 []))]), zM 4 18, zK 5 0]
def ac50 : ACode := (.seq (zR r50_0) (.seq (zR r50_1) (.seq (.seq (zR r50_2) (.cond (.t 15) (.seq (zR r50_3) .ret) .skip)) (.seq (zR r50_4) .ret))))
def re50 : List AOp := [(.mv (.t 4)), (.mv (.t 5))]
theorem cf50 : cFn Try.prog 50 = some (19, ac50, re50) := by kernel_rfl
def r51_0 := [zF 3 (.box (.t 1)), zO 4 false]
def r51_1 := [zM 7 0, zE 8 7, zK 9 0]
def r51_2 := [zB 10 .lss 9 8]
def r51_3 := [zI 11 5 7 9, zV 12 true 5 11, zF 6 (.alloc [(.lit (.int .i8 0)), (.lit (.int .u8 0)), (.lit (.int .u8 0)), (.lit (.int .u8 0)), (.lit (.int .i64 0))]), zS (.store 5 (.t 6) (.t 12))]
def r51_4 := [zV 13 true 5 6, zL 14 false 55 [13], zA 15 0 3, zF 16 (.idxAddr (some 4) 1 (.t 15) (.t 14)), zD 17 16, zC 18 .eql 17 0]
def r51_5 := [zO 4 true]
def r51_6 := [zC 19 .add 9 1, zM 9 19]
def l51_0 : ACode := (.seq (zR r51_2) (.seq (.cond (.t 10) .skip (.exit 0)) (.seq (.block 1 (.seq (zR r51_3) (.seq (zR r51_4) (.cond (.t 18) (.seq (zR r51_5) .ret) .skip)))) (zR r51_6))))
def r51_7 := [zO 4 false]
def ac51 : ACode := (.seq (zR r51_0) (.seq (.seq (zR r51_1) (.block 0 (.loop l51_0))) (.seq (zR r51_7) .ret)))
def re51 : List AOp := [(.mv (.t 4))]
theorem cf51 : cFn Try.prog 51 = some (20, ac51, re51) := by kernel_rfl
def r52_0 := [zF 3 (.box (.t 1)), zF 4 (.mv (.c (.lit (.pointer none))))]
def r52_1 := [zM 11 0, zV 12 true 13 3, zM 13 0, zE 14 13, zF 15 (.mksl 1 24 [.nil] (.t 14) (.t 14)), zM 16 0, zE 17 16, zF 18 (.mksl 1 8 [(.lit (.int .i64 0))] (.t 17) (.t 17)), zF 19 (.build [.nil, (.lit (.int .i64 0)), (.lit (.int .i64 0)), (.lit (.int .i64 0)), (.lit (.int .i64 0)), (.lit (.int .i64 0)), (.lit (.int .i64 0)), (.lit (.int .i64 0)), (.lit (.int .i64 0)), (.lit (.int .i64 0)), (.lit (.int .i64 0)), (.lit (.int .i64 0)), (.lit (.int .i64 0)), (.lit (.int .i64 0)), .nil, .nil, (.lit (.pointer none))] [(0, (1, (.t 11))), (1, (13, (.t 12))), (14, (1, (.t 15))), (15, (1, (.t 18)))]), zF 20 (.box (.t 19)), zM 5 20]
def r52_2 := [zM 22 0, zV 23 true 13 3, zL 24 false 85 [22, 23], zM 21 24, zX 25 21 0, zX 26 21 1, zM 6 25, zM 7 26]
def r52_3 := [zM 27 6, zE 28 27, zK 29 0]
def r52_4 := [zB 30 .lss 29 28]
def r52_5 := [zI 31 5 27 29, zV 32 true 5 31, zF 9 (.alloc [(.lit (.int .i64 0)), (.lit (.int .i64 0)), (.lit (.int .i64 0)), (.lit (.int .i64 0)), (.lit (.int .i8 0))]), zS (.store 5 (.t 9) (.t 32))]
def r52_6 := [zM 33 5, zJ 34 33, zA 35 14 34, zD 36 35, zA 37 1 9, zD 38 37, zM 39 5, zJ 40 39, zA 41 14 40, zD 42 41, zA 43 1 9, zD 44 43, zI 45 1 42 44, zD 46 45, zV 47 true 5 9, zF 48 (.buildSl 5 1 [(.lit (.int .i64 0)), (.lit (.int .i64 0)), (.lit (.int .i64 0)), (.lit (.int .i64 0)), (.lit (.int .i8 0))] [(0, (5, (.t 47)))]), zF 49 (.append 5 40 (.t 46) (.t 48)), zI 50 1 36 38, zS (.store 1 (.t 50) (.t 49))]
def r52_7 := [zC 51 .add 29 1, zM 29 51]
def l52_0 : ACode := (.seq (zR r52_4) (.seq (.cond (.t 30) .skip (.exit 0)) (.seq (.block 1 (.seq (zR r52_5) (.ops r52_6 [(35, 48), (35, 49), (35, 46), (37, 48), (37, 49), (37, 46), (41, 48), (43, 48), (45, 48)]))) (zR r52_7))))
def r52_8 := [zM 52 5, zJ 53 52, zA 54 15 53, zD 55 54, zE 56 55, zK 57 0]
def r52_9 := [zB 58 .lss 57 56]
def r52_10 := [zM 59 57, zM 10 59]
def r52_11 := [zM 60 5, zJ 61 60, zA 62 15 61, zD 63 62, zM 64 10, zI 65 1 63 64, zS (.store 1 (.t 65) (zN (-1)))]
def r52_12 := [zC 66 .add 57 1, zM 57 66]
def l52_1 : ACode := (.seq (zR r52_9) (.seq (.cond (.t 58) .skip (.exit 2)) (.seq (.block 3 (.seq (zR r52_10) (zR r52_11))) (zR r52_12))))
def r52_13 := [zM 68 5, zV 69 true 13 3, zL 70 false 86 [69], zM 67 70, zX 71 67 0, zX 72 67 1, zJ 73 68, zA 74 16 73, zS (.store 1 (.t 74) (.t 71))]
def r52_14 := [zM 75 5, zM 4 75]
def ac52 : ACode := (.seq (zR r52_0) (.seq (.ops r52_1 [(3, 15), (3, 18)]) (.seq (zR r52_2) (.seq (.seq (zR r52_3) (.block 0 (.loop l52_0))) (.seq (.seq (zR r52_8) (.block 2 (.loop l52_1))) (.seq (zR r52_13) (.seq (zR r52_14) .ret)))))))
def re52 : List AOp := [(.mv (.t 4))]
theorem cf52 : cFn Try.prog 52 = some (76, ac52, re52) := by kernel_rfl
def r53_0 := [zO 6 false]
def r53_1 := [zM 10 0, zJ 11 10, zA 12 14 11, zD 13 12, zM 14 1, zI 15 1 13 14, zD 16 15, zE 17 16, zK 18 0]
def r53_2 := [zB 19 .lss 18 17]
def r53_3 := [zI 20 5 16 18, zV 21 true 5 20, zF 8 (.alloc [(.lit (.int .i64 0)), (.lit (.int .i64 0)), (.lit (.int .i64 0)), (.lit (.int .i64 0)), (.lit (.int .i8 0))]), zS (.store 5 (.t 8) (.t 21))]
def r53_4 := [zM 22 0, zJ 23 22, zA 24 15 23, zD 25 24, zA 26 0 8, zD 27 26, zI 28 1 25 27, zD 29 28, zM 9 29]
def r53_5 := [zM 30 9, zC 31 .lss 30 0, zM 32 31, zH 33 9 32 false, zG 34 32 false (.fieldAddr 2 (.t 8)), zU 35 34 32 false, zY 36 .add 33 35 32 false, zH 37 2 32 false, zY 38 .gtr 36 37 32 false, zQ 39 32 38]
def r53_6 := [zO 6 false]
def r53_7 := [zC 40 .add 18 1, zM 18 40]
def l53_0 : ACode := (.seq (zR r53_2) (.seq (.cond (.t 19) .skip (.exit 0)) (.seq (.block 1 (.seq (zR r53_3) (.seq (zR r53_4) (.seq (zR r53_5) (.cond (.t 39) (.seq (zR r53_6) .ret) .skip))))) (zR r53_7))))
def r53_8 := [zO 6 true]
def ac53 : ACode := (.seq (zR r53_0) (.seq (.seq (zR r53_1) (.block 0 (.loop l53_0))) (.seq (zR r53_8) .ret)))
def re53 : List AOp := [(.mv (.t 6))]
theorem cf53 : cFn Try.prog 53 = some (41, ac53, re53) := by kernel_rfl
def r54_0 := [zO 6 false]
def r54_1 := [zM 9 0, zM 10 1, zM 11 2, zL 12 false 87 [9, 10, 11], zF 13 (.un .not (.t 12))]
def r54_2 := [zO 6 false]
def r54_3 := [zM 14 0, zM 15 1, zM 16 2, zL 17 false 88 [14, 15, 16], zF 18 (.mop .range [(.t 17)])]
def r54_4 := [zF 19 (.mop .next [(.t 18)]), zX 20 19 0]
def r54_5 := [zF 21 (.mop .entry [(.t 18)]), zX 22 21 0, zX 23 21 1, zF 7 (.alloc [(.lit (.int .i64 0)), (.lit (.int .i64 0))]), zF 8 (.alloc [(.lit (.int .i64 0))]), zS (.store 2 (.t 7) (.t 22)), zS (.store 1 (.t 8) (.t 23))]
def r54_6 := [zM 24 0, zJ 25 24, zA 26 15 25, zD 27 26, zV 28 true 2 7, zM 29 0, zJ 30 29, zA 31 15 30, zD 32 31, zV 33 true 2 7, zF 34 (.mop (.look true [(0, 0), (1, 0)] 2 (.agg [(.lit (.int .i64 0))])) [(.t 32), (.t 33)]), zF 35 (.field false 0 1 (.t 34)), zA 36 0 8, zD 37 36, zB 38 .add 35 37, zF 39 (.build [(.lit (.int .i64 0))] [(0, (1, (.t 38)))]), zS (.mop (.put true [(0, 0), (1, 0)] 2) [(.t 27), (.t 28), (.t 39)])]
def l54_0 : ACode := (.seq (zR r54_4) (.seq (.cond (.t 20) .skip (.exit 0)) (.block 1 (.seq (zR r54_5) (zR r54_6)))))
def r54_7 := [zO 6 true]
def ac54 : ACode := (.seq (zR r54_0) (.seq (.seq (zR r54_1) (.cond (.t 13) (.seq (zR r54_2) .ret) .skip)) (.seq (.seq (zR r54_3) (.block 0 (.loop l54_0))) (.seq (zR r54_7) .ret))))
def re54 : List AOp := [(.mv (.t 6))]
theorem cf54 : cFn Try.prog 54 = some (40, ac54, re54) := by kernel_rfl
def r55_0 := [zF 1 (.box (.t 0)), zK 2 0]
def r55_1 := [zA 6 0 1, zD 7 6, zL 8 false 15 [7], zM 5 8, zX 9 5 0, zX 10 5 1, zM 3 9, zM 4 10]
def r55_2 := [zM 11 3, zM 2 11]
def ac55 : ACode := (.seq (zR r55_0) (.seq (zR r55_1) (.seq (zR r55_2) .ret)))
def re55 : List AOp := [(.mv (.t 2))]
theorem cf55 : cFn Try.prog 55 = some (12, ac55, re55) := by kernel_rfl
def r56_0 := [zF 1 (.box (.t 0)), zK 2 0]
def r56_1 := [zF 3 (.mv (.c (.fn 89 [])))]
def r56_2 := [zK 5 0]
def r56_3 := [zC 6 .lss 5 4]
def r56_4 := [zM 7 5, zM 4 7]
def r56_5 := [zM 8 3, zM 9 4, zA 10 0 1, zF 11 (.idxAddr (some 4) 1 (.t 10) (.t 9)), zD 12 11, zF 13 (.call false (.t 8) [(.t 12), (zN 0), (zN 8)]), zF 14 (.un .not (.t 13)), zM 15 14, zH 16 3 15 false, zH 17 4 15 false, zG 18 15 false (.fieldAddr 4 (.t 1)), zG 19 15 false (.idxAddr (some 4) 1 (.t 18) (.t 17)), zU 20 19 15 false, zG 21 15 false (.call false (.t 16) [(.t 20), (zN 1), (zN 8)]), zG 22 15 false (.un .not (.t 21)), zQ 23 15 22, zM 24 23, zH 25 3 24 false, zH 26 4 24 false, zG 27 24 false (.fieldAddr 8 (.t 1)), zG 28 24 false (.idxAddr (some 4) 1 (.t 27) (.t 26)), zU 29 28 24 false, zG 30 24 false (.call false (.t 25) [(.t 29), (zN 1), (zN 4)]), zG 31 24 false (.un .not (.t 30)), zQ 32 24 31]
def r56_6 := [zK 2 20]
def r56_7 := [zC 33 .add 5 1, zM 5 33]
def l56_0 : ACode := (.seq (zR r56_3) (.seq (.cond (.t 6) .skip (.exit 0)) (.seq (.block 1 (.seq (zR r56_4) (.seq (zR r56_5) (.cond (.t 32) (.seq (zR r56_6) .ret) .skip)))) (zR r56_7))))
def r56_8 := [zM 34 3, zA 35 12 1, zD 36 35, zF 37 (.call false (.t 34) [(.t 36), (zN 0), (zN 4)]), zF 38 (.un .not (.t 37))]
def r56_9 := [zK 2 20]
def r56_10 := [zK 2 0]
def ac56 : ACode := (.seq (zR r56_0) (.seq (zR r56_1) (.seq (.seq (zR r56_2) (.block 0 (.loop l56_0))) (.seq (.seq (zR r56_8) (.cond (.t 38) (.seq (zR r56_9) .ret) .skip)) (.seq (zR r56_10) .ret)))))
def re56 : List AOp := [(.mv (.t 2))]
theorem cf56 : cFn Try.prog 56 = some (39, ac56, re56) := by kernel_rfl
def r57_0 := [zF 4 (.box (.t 1)), zO 6 false]
def r57_1 := [zM 15 0, zV 16 true 13 4, zL 17 false 85 [15, 16], zM 14 17, zX 18 14 0, zX 19 14 1, zM 7 18, zM 8 19]
def r57_2 := [zM 20 8, zC 21 .neq 20 0, zM 22 21, zH 23 0 22 false, zG 24 22 false (.load true 13 (.t 4)), zG 25 22 false (.call false (.c (.fn 51 [])) [(.t 23), (.t 24)]), zQ 26 22 25, zM 27 26, zH 28 2 27 false, zG 29 27 false (.len none (.t 28)), zH 30 0 27 false, zG 31 27 false (.len none (.t 30)), zY 32 .neq 29 31 27 false, zQ 33 27 32]
def r57_3 := [zO 6 false]
def r57_4 := [zM 34 0, zV 35 true 13 4, zL 36 false 52 [34, 35], zM 9 36]
def r57_5 := [zM 37 2, zE 38 37, zK 39 0]
def r57_6 := [zB 40 .lss 39 38]
def r57_7 := [zM 41 39, zI 42 1 37 39, zD 43 42, zM 10 41, zM 11 43]
def r57_8 := [zM 44 11, zC 45 .lss 44 0, zM 46 45, zH 47 11 46 false, zG 48 46 false (.bin .gtr (.t 47) (zN 65536)), zQ 49 46 48]
def r57_9 := [zO 6 false]
def r57_10 := [zM 50 9, zJ 51 50, zA 52 15 51, zD 53 52, zM 54 10, zM 55 11, zI 56 1 53 54, zS (.store 1 (.t 56) (.t 55))]
def r57_11 := [zC 57 .add 39 1, zM 39 57]
def l57_0 : ACode := (.seq (zR r57_6) (.seq (.cond (.t 40) .skip (.exit 0)) (.seq (.block 1 (.seq (zR r57_7) (.seq (.seq (zR r57_8) (.cond (.t 49) (.seq (zR r57_9) .ret) .skip)) (zR r57_10)))) (zR r57_11))))
def r57_12 := [zM 58 2, zE 59 58, zK 60 0]
def r57_13 := [zB 61 .lss 60 59]
def r57_14 := [zM 62 60, zI 63 1 58 60, zD 64 63, zM 12 62, zM 13 64]
def r57_15 := [zM 65 9, zM 66 12, zM 67 13, zL 68 false 53 [65, 66, 67], zF 69 (.un .not (.t 68)), zM 70 69, zH 71 9 70 false, zG 72 70 false (.nilchk (.t 71)), zG 73 70 false (.fieldAddr 16 (.t 72)), zU 74 73 70 false, zH 75 0 70 false, zH 76 12 70 false, zW 77 5 75 76 70 false, zG 78 70 false (.load true 5 (.t 77)), zG 79 70 false (.call true (.c (.fn 55 [])) [(.t 78)]), zH 80 13 70 false, zG 81 70 false (.call false (.c (.fn 54 [])) [(.t 74), (.t 79), (.t 80)]), zG 82 70 false (.un .not (.t 81)), zQ 83 70 82]
def r57_16 := [zO 6 false]
def r57_17 := [zC 84 .add 60 1, zM 60 84]
def l57_1 : ACode := (.seq (zR r57_13) (.seq (.cond (.t 61) .skip (.exit 2)) (.seq (.block 3 (.seq (zR r57_14) (.seq (zR r57_15) (.cond (.t 83) (.seq (zR r57_16) .ret) .skip)))) (zR r57_17))))
def r57_18 := [zO 6 true]
def ac57 : ACode := (.seq (zR r57_0) (.seq (.seq (zR r57_1) (.seq (zR r57_2) (.cond (.t 33) (.seq (zR r57_3) .ret) .skip))) (.seq (zR r57_4) (.seq (.seq (zR r57_5) (.block 0 (.loop l57_0))) (.seq (.seq (zR r57_12) (.block 2 (.loop l57_1))) (.seq (zR r57_18) .ret))))))
def re57 : List AOp := [(.mv (.t 6))]
theorem cf57 : cFn Try.prog 57 = some (85, ac57, re57) := by kernel_rfl
def r58_0 := [zF 5 (.box (.t 1)), zF 8 (.alloc [(.lit (.int .i64 0)), (.lit (.int .i64 0)), (.lit (.int .i64 0))])]
def r58_1 := [zM 16 0, zE 17 16, zK 18 0]
def r58_2 := [zB 19 .lss 18 17]
def r58_3 := [zM 20 18, zI 21 5 16 18, zV 22 true 5 21, zF 10 (.alloc [(.lit (.int .i8 0)), (.lit (.int .u8 0)), (.lit (.int .u8 0)), (.lit (.int .u8 0)), (.lit (.int .i64 0))]), zM 9 20, zS (.store 5 (.t 10) (.t 22))]
def r58_4 := [zA 24 0 10, zD 25 24, zL 26 false 15 [25], zM 23 26, zX 27 23 0, zX 28 23 1, zM 11 27, zM 12 28]
def r58_5 := [zM 29 2, zM 30 9, zI 31 1 29 30, zD 32 31, zM 33 11, zA 34 4 5, zF 35 (.idxAddr (some 4) 1 (.t 34) (.t 33)), zD 36 35, zB 37 .add 32 36, zM 13 37]
def r58_6 := [zA 38 0 8, zD 39 38, zM 40 13, zM 41 2, zM 42 9, zI 43 1 41 42, zD 44 43, zM 45 11, zA 46 8 5, zF 47 (.idxAddr (some 4) 1 (.t 46) (.t 45)), zD 48 47, zB 49 .add 44 48, zF 50 (.maxs [(.t 39), (.t 40), (.t 49)]), zA 51 0 8, zS (.store 1 (.t 51) (.t 50))]
def r58_7 := [zA 52 1 8, zD 53 52, zM 54 13, zF 55 (.maxs [(.t 53), (.t 54)]), zA 56 1 8, zS (.store 1 (.t 56) (.t 55))]
def r58_8 := [zV 58 true 5 10, zL 59 false 16 [58], zM 57 59, zX 60 57 0, zX 61 57 1, zM 14 60, zM 15 61]
def r58_9 := [zM 62 15, zM 63 62, zH 64 14 63 true, zH 65 3 63 true, zY 66 .eql 64 65 63 true, zP 67 63 66]
def r58_10 := [zM 68 13, zA 69 2 8, zS (.store 1 (.t 69) (.t 68))]
def r58_11 := [zC 70 .add 18 1, zM 18 70]
def l58_0 : ACode := (.seq (zR r58_2) (.seq (.cond (.t 19) .skip (.exit 0)) (.seq (.block 1 (.seq (zR r58_3) (.seq (zR r58_4) (.seq (zR r58_5) (.seq (zR r58_6) (.seq (zR r58_7) (.seq (zR r58_8) (.seq (zR r58_9) (.cond (.t 67) (zR r58_10) .skip))))))))) (zR r58_11))))
def r58_12 := [zV 71 true 3 8, zS (.store 3 (.t 8) (.t 71))]
def ac58 : ACode := (.seq (zR r58_0) (.seq (.seq (zR r58_1) (.block 0 (.loop l58_0))) (.seq (zR r58_12) .ret)))
def re58 : List AOp := [(.load true 3 (.t 8))]
theorem cf58 : cFn Try.prog 58 = some (72, ac58, re58) := by kernel_rfl
def r59_0 : List yU := [⟨(some 2), (.alloc [(.lit (.string ⟨#[]⟩)), (.lit (.int .i8 0)), (.lit (.bool false)), (.lit (.bool false)), (.lit (.bool false)), (.lit (.bool false)), (.lit (.bool false)), (.lit (.bool false))]), none⟩, zO 3 false]
def r59_1 := [zM 5 0, zF 6 (.bin .lss (.t 5) (.c (.lit (.int .i8 0)))), zM 7 6, zH 8 0 7 false, zG 9 7 false (.bin .geq (.t 8) (.c (.lit (.int .i8 24)))), zQ 10 7 9]
def r59_2 : List yU := [⟨(some 11), (.build [(.lit (.string ⟨#[]⟩)), (.lit (.int .i8 0)), (.lit (.bool false)), (.lit (.bool false)), (.lit (.bool false)), (.lit (.bool false)), (.lit (.bool false)), (.lit (.bool false))] []), none⟩, zS (.store 8 (.t 2) (.t 11)), zO 3 false]
def r59_3 := [zL 12 false 90 [], zM 13 0, zF 14 (.idx true 24 8 (.t 12) (.t 13)), ⟨(some 4), (.alloc [(.lit (.string ⟨#[]⟩)), (.lit (.int .i8 0)), (.lit (.bool false)), (.lit (.bool false)), (.lit (.bool false)), (.lit (.bool false)), (.lit (.bool false)), (.lit (.bool false))]), none⟩, zS (.store 8 (.t 4) (.t 14))]
def r59_4 := [zV 15 true 8 4, zA 16 7 4, zD 17 16, zS (.store 8 (.t 2) (.t 15)), zM 3 17]
def ac59 : ACode := (.seq (zR r59_0) (.seq (.seq (zR r59_1) (.cond (.t 10) (.seq (zR r59_2) .ret) .skip)) (.seq (zR r59_3) (.seq (.ops r59_4 [(16, 2)]) .ret))))
def re59 : List AOp := [(.load true 8 (.t 2)), (.mv (.t 3))]
theorem cf59 : cFn Try.prog 59 = some (18, ac59, re59) := by kernel_rfl
def r60_0 := [zF 1 (.box (.t 0)), zK 2 0]
def r60_1 := [zA 6 0 1, zD 7 6, zL 8 false 59 [7], zM 5 8, zX 9 5 0, zX 10 5 1, ⟨(some 3), (.alloc [(.lit (.string ⟨#[]⟩)), (.lit (.int .i8 0)), (.lit (.bool false)), (.lit (.bool false)), (.lit (.bool false)), (.lit (.bool false)), (.lit (.bool false)), (.lit (.bool false))]), none⟩, zS (.store 8 (.t 3) (.t 9)), zM 4 10]
def r60_2 := [zM 12 4, zF 13 (.un .not (.t 12)), zM 11 13]
def r60_3 := [zA 14 1 1, zD 15 14, zF 16 (.bin .gtr (.t 15) (.c (.lit (.int .u8 31)))), zM 11 16]
def r60_4 := [zA 17 2 1, zD 18 17, zF 19 (.bin .gtr (.t 18) (.c (.lit (.int .u8 31)))), zM 11 19]
def r60_5 := [zA 20 3 1, zD 21 20, zF 22 (.bin .gtr (.t 21) (.c (.lit (.int .u8 31)))), zM 11 22]
def r60_6 := [zA 23 4 1, zD 24 23, zF 25 (.call false (.c (.fn 91 [])) [(.t 24), (zN 32)]), zF 26 (.un .not (.t 25)), zM 11 26]
def r60_7 := [zK 2 30]
def r60_8 := [zA 28 2 3, zD 29 28, zF 30 (.un .not (.t 29)), zM 31 30, zG 32 31 true (.fieldAddr 1 (.t 1)), zU 33 32 31 true, zG 34 31 true (.bin .neq (.t 33) (.c (.lit (.int .u8 0)))), zP 35 31 34, zM 27 35]
def r60_9 := [zA 36 3 3, zD 37 36, zF 38 (.un .not (.t 37)), zM 39 38, zG 40 39 true (.fieldAddr 2 (.t 1)), zU 41 40 39 true, zG 42 39 true (.bin .neq (.t 41) (.c (.lit (.int .u8 0)))), zP 43 39 42, zM 27 43]
def r60_10 := [zA 44 4 3, zD 45 44, zF 46 (.un .not (.t 45)), zM 47 46, zG 48 47 true (.fieldAddr 5 (.t 3)), zU 49 48 47 true, zG 50 47 true (.un .not (.t 49)), zP 51 47 50, zM 52 51, zG 53 52 true (.fieldAddr 3 (.t 1)), zU 54 53 52 true, zG 55 52 true (.bin .neq (.t 54) (.c (.lit (.int .u8 0)))), zP 56 52 55, zM 27 56]
def r60_11 := [zA 57 6 3, zD 58 57, zF 59 (.un .not (.t 58)), zM 60 59, zG 61 60 true (.fieldAddr 4 (.t 1)), zU 62 61 60 true, zG 63 60 true (.bin .neq (.t 62) (zN 0)), zP 64 60 63, zM 27 64]
def r60_12 := [zK 2 30]
def r60_13 := [zK 2 0]
def ac60 : ACode := (.seq (zR r60_0) (.seq (zR r60_1) (.seq (.block 0 (.seq (.seq (zR r60_2) (.cond (.t 11) .skip (.seq (zR r60_3) (.cond (.t 11) .skip (.seq (zR r60_4) (.cond (.t 11) .skip (.seq (zR r60_5) (.cond (.t 11) .skip (zR r60_6))))))))) (.cond (.t 11) (.seq (zR r60_7) .ret) (.seq (.seq (zR r60_8) (.cond (.t 27) .skip (.seq (zR r60_9) (.cond (.t 27) .skip (.seq (zR r60_10) (.cond (.t 27) .skip (zR r60_11))))))) (.cond (.t 27) (.seq (zR r60_12) .ret) .skip))))) (.seq (zR r60_13) .ret))))
def re60 : List AOp := [(.mv (.t 2))]
theorem cf60 : cFn Try.prog 60 = some (65, ac60, re60) := by kernel_rfl
def r82_0 := [zF 3 (.box (.t 1)), zF 4 (.mv (.c .nil)), zK 5 0]
def r82_1 := [zM 18 0, zV 19 true 13 3, zL 20 false 85 [18, 19], zM 17 20, zX 21 17 0, zX 22 17 1, zM 6 21, zM 7 22]
def r82_2 := [zM 23 7, zC 24 .neq 23 0]
def r82_3 := [zM 25 7, zF 4 (.mv (.c .nil)), zM 5 25]
def r82_4 := [zM 26 0, zE 27 26, zF 28 (.mksl 1 24 [.nil] (.t 27) (.t 27)), zM 8 28]
def r82_5 := [zM 29 6, zE 30 29, zK 31 0]
def r82_6 := [zB 32 .lss 31 30]
def r82_7 := [zI 33 5 29 31, zV 34 true 5 33, zF 10 (.alloc [(.lit (.int .i64 0)), (.lit (.int .i64 0)), (.lit (.int .i64 0)), (.lit (.int .i64 0)), (.lit (.int .i8 0))]), zS (.store 5 (.t 10) (.t 34))]
def r82_8 := [zM 35 8, zA 36 0 10, zD 37 36, zM 38 8, zA 39 0 10, zD 40 39, zI 41 1 38 40, zD 42 41, zV 43 true 5 10, zF 44 (.buildSl 5 1 [(.lit (.int .i64 0)), (.lit (.int .i64 0)), (.lit (.int .i64 0)), (.lit (.int .i64 0)), (.lit (.int .i8 0))] [(0, (5, (.t 43)))]), zF 45 (.append 5 40 (.t 42) (.t 44)), zI 46 1 35 37, zS (.store 1 (.t 46) (.t 45))]
def r82_9 := [zC 47 .add 31 1, zM 31 47]
def l82_0 : ACode := (.seq (zR r82_6) (.seq (.cond (.t 32) .skip (.exit 0)) (.seq (.block 1 (.seq (zR r82_7) (.ops r82_8 [(36, 44), (36, 45), (36, 42), (39, 44), (41, 44)]))) (zR r82_9))))
def r82_10 := [zM 48 0, zE 49 48, zF 50 (.mksl 1 8 [(.lit (.int .i64 0))] (.t 49) (.t 49)), zM 11 50]
def r82_11 := [zM 51 0, zE 52 51, zC 53 .sub 52 1, zM 12 53]
def r82_12 := [zM 54 12, zC 55 .geq 54 0]
def r82_13 := [zM 59 0, zM 60 12, zI 61 5 59 60, zA 62 0 61, zD 63 62, zL 64 false 15 [63], zM 58 64, zX 65 58 0, zX 66 58 1, zM 13 65, zM 14 66]
def r82_14 := [zM 67 11, zM 68 12, zM 69 13, zA 70 4 3, zF 71 (.idxAddr (some 4) 1 (.t 70) (.t 69)), zD 72 71, zI 73 1 67 68, zS (.store 1 (.t 73) (.t 72))]
def r82_15 := [zM 74 8, zM 75 12, zI 76 1 74 75, zD 77 76, zE 78 77, zK 79 0]
def r82_16 := [zB 80 .lss 79 78]
def r82_17 := [zI 81 5 77 79, zV 82 true 5 81, zF 16 (.alloc [(.lit (.int .i64 0)), (.lit (.int .i64 0)), (.lit (.int .i64 0)), (.lit (.int .i64 0)), (.lit (.int .i8 0))]), zS (.store 5 (.t 16) (.t 82))]
def r82_18 := [zM 83 11, zM 84 12, zM 85 11, zM 86 12, zI 87 1 85 86, zD 88 87, zA 89 2 16, zD 90 89, zM 91 11, zA 92 1 16, zD 93 92, zI 94 1 91 93, zD 95 94, zB 96 .add 90 95, zF 97 (.maxs [(.t 88), (.t 96)]), zI 98 1 83 84, zS (.store 1 (.t 98) (.t 97))]
def r82_19 := [zC 99 .add 79 1, zM 79 99]
def l82_1 : ACode := (.seq (zR r82_16) (.seq (.cond (.t 80) .skip (.exit 4)) (.seq (.block 5 (.seq (zR r82_17) (zR r82_18))) (zR r82_19))))
def r82_20 := [zM 56 12, zC 57 .sub 56 1, zM 12 57]
def l82_2 : ACode := (.seq (.seq (zR r82_12) (.cond (.t 55) .skip (.exit 2))) (.seq (.block 3 (.seq (zR r82_13) (.seq (zR r82_14) (.seq (zR r82_15) (.block 4 (.loop l82_1)))))) (zR r82_20)))
def r82_21 := [zM 100 11, zM 4 100, zK 5 0]
def ac82 : ACode := (.seq (zR r82_0) (.seq (zR r82_1) (.seq (.seq (zR r82_2) (.cond (.t 24) (.seq (zR r82_3) .ret) .skip)) (.seq (zR r82_4) (.seq (.seq (zR r82_5) (.block 0 (.loop l82_0))) (.seq (zR r82_10) (.seq (.seq (zR r82_11) (.block 2 (.loop l82_2))) (.seq (zR r82_21) .ret))))))))
def re82 : List AOp := [(.mv (.t 4)), (.mv (.t 5))]
theorem cf82 : cFn Try.prog 82 = some (101, ac82, re82) := by kernel_rfl
def r83_0 := [zF 2 (.box (.t 0)), zF 3 (.box (.t 1)), zF 4 (.mv (.c .nil))]
def r83_1 := [zD 7 2, zE 8 7, zF 9 (.mksl 1 8 [(.lit (.int .i64 0))] (.t 8) (.t 8)), zM 5 9]
def r83_2 := [zM 10 5, zE 11 10, zK 12 0]
def r83_3 := [zB 13 .lss 12 11]
def r83_4 := [zM 14 12, zM 6 14]
def r83_5 := [zM 15 5, zM 16 6, zM 17 6, zI 18 1 15 16, zS (.store 1 (.t 18) (.t 17))]
def r83_6 := [zC 19 .add 12 1, zM 12 19]
def l83_0 : ACode := (.seq (zR r83_3) (.seq (.cond (.t 13) .skip (.exit 0)) (.seq (.block 1 (.seq (zR r83_4) (zR r83_5))) (zR r83_6))))
def r83_7 := [zM 20 5, zF 21 (.mkfn 109 [(.t 3), (.t 2)]), zL 22 false 108 [20, 21]]
def r83_8 := [zM 23 5, zM 4 23]
def ac83 : ACode := (.seq (zR r83_0) (.seq (zR r83_1) (.seq (.seq (zR r83_2) (.block 0 (.loop l83_0))) (.seq (zR r83_7) (.seq (zR r83_8) .ret)))))
def re83 : List AOp := [(.mv (.t 4))]
theorem cf83 : cFn Try.prog 83 = some (24, ac83, re83) := by kernel_rfl
def r84_0 := [zK 4 0]
def r84_1 := [zM 5 1, zM 6 0, zB 7 .sub 5 6, zM 4 7]
def ac84 : ACode := (.seq (zR r84_0) (.seq (zR r84_1) .ret))
def re84 : List AOp := [(.mv (.t 4))]
theorem cf84 : cFn Try.prog 84 = some (8, ac84, re84) := by kernel_rfl
def r85_0 := [zF 3 (.box (.t 1)), zF 4 (.mv (.c .nil)), zK 5 0]
def r85_1 := [zM 8 0, zV 9 true 13 3, zL 10 false 110 [8, 9], zM 6 10]
def r85_2 := [zM 11 6, zC 12 .neq 11 0]
def r85_3 := [zM 13 6, zF 4 (.mv (.c .nil)), zM 5 13]
def r85_4 := [zM 14 0, zV 15 true 13 3, zL 16 false 111 [14, 15], zM 7 16]
def r85_5 := [zM 17 7, zL 18 false 112 [17]]
def r85_6 := [zM 19 7, zJ 20 19, zA 21 16 20, zD 22 21, zM 4 22, zK 5 0]
def ac85 : ACode := (.seq (zR r85_0) (.seq (.seq (zR r85_1) (.seq (zR r85_2) (.cond (.t 12) (.seq (zR r85_3) .ret) .skip))) (.seq (zR r85_4) (.seq (zR r85_5) (.seq (zR r85_6) .ret)))))
def re85 : List AOp := [(.mv (.t 4)), (.mv (.t 5))]
theorem cf85 : cFn Try.prog 85 = some (23, ac85, re85) := by kernel_rfl
def r86_0 := [zF 1 (.box (.t 0)), zF 2 (.mv (.c (.lit (.pointer none)))), zK 3 0]
def r86_1 := [zV 5 true 13 1, zL 6 false 56 [5], zM 4 6]
def r86_2 := [zM 7 4, zC 8 .neq 7 0]
def r86_3 := [zM 9 4, zF 2 (.mv (.c (.lit (.pointer none)))), zM 3 9]
def r86_4 := [zV 10 true 13 1, zF 11 (.build [] []), zF 12 (.mkbf 113 [(.t 11)]), zF 13 (.mop .mk []), zF 14 (.build [(.lit (.int .i64 0)), (.lit (.int .i64 0)), (.lit (.int .i64 0)), (.lit (.int .i64 0)), (.lit (.int .i64 0)), (.lit (.int .i64 0)), (.lit (.int .i64 0)), (.lit (.int .i64 0)), (.lit (.int .i64 0)), (.lit (.int .i64 0)), (.lit (.int .i64 0)), (.lit (.int .i64 0)), (.lit (.int .i64 0)), (.lit .nilFunc), (.lit (.bool false)), (.lit (.map none))] [(0, (13, (.t 10))), (13, (1, (.t 12))), (15, (1, (.t 13)))]), zF 15 (.box (.t 14)), zM 2 15, zK 3 0]
def ac86 : ACode := (.seq (zR r86_0) (.seq (.seq (zR r86_1) (.seq (zR r86_2) (.cond (.t 8) (.seq (zR r86_3) .ret) .skip))) (.seq (zR r86_4) .ret)))
def re86 : List AOp := [(.mv (.t 2)), (.mv (.t 3))]
theorem cf86 : cFn Try.prog 86 = some (16, ac86, re86) := by kernel_rfl
def r87_0 := [zO 6 false]
def r87_1 := [zM 9 0, zF 10 (.peq false (.t 9) (.c (.lit (.pointer none)))), zM 11 10, zH 12 1 11 false, zG 13 11 false (.bin .lss (.t 12) (zN 0)), zQ 14 11 13, zM 15 14, zH 16 1 15 false, zG 17 15 false (.bin .geq (.t 16) (zN 4)), zQ 18 15 17, zM 19 18, zH 20 0 19 false, zG 21 19 false (.nilchk (.t 20)), zG 22 19 false (.fieldAddr 14 (.t 21)), zU 23 22 19 false, zG 24 19 false (.un .not (.t 23)), zH 25 24 19 false, zH 26 2 25 true, zG 27 25 true (.bin .lss (.t 26) (zN 0)), zH 28 27 25 true, zH 29 2 28 false, zG 30 28 false (.bin .gtr (.t 29) (zN 65536)), zG 31 25 true (.pick (.t 28) (.c (.lit (.bool true))) (.t 30)), zG 32 19 false (.pick (.t 25) (.t 31) (.c (.lit (.bool false)))), zQ 33 19 32]
def r87_2 := [zO 6 false]
def r87_3 := [zM 34 0, zM 35 1, zM 36 2, zL 37 false 88 [34, 35, 36], zF 38 (.mop .range [(.t 37)])]
def r87_4 := [zF 39 (.mop .next [(.t 38)]), zX 40 39 0]
def r87_5 := [zF 41 (.mop .entry [(.t 38)]), zX 42 41 0, zX 43 41 1, zF 7 (.alloc [(.lit (.int .i64 0)), (.lit (.int .i64 0))]), zF 8 (.alloc [(.lit (.int .i64 0))]), zS (.store 2 (.t 7) (.t 42)), zS (.store 1 (.t 8) (.t 43))]
def r87_6 := [zM 44 0, zJ 45 44, zA 46 15 45, zD 47 46, zV 48 true 2 7, zF 49 (.mop (.look true [(0, 0), (1, 0)] 2 (.agg [(.lit (.int .i64 0))])) [(.t 47), (.t 48)]), zF 50 (.field false 0 1 (.t 49)), zA 51 0 8, zD 52 51, zB 53 .add 50 52, zM 54 0, zM 55 1, zJ 56 54, zA 57 0 56, zA 58 0 57, zF 59 (.idxAddr (some 4) 1 (.t 58) (.t 55)), zD 60 59, zB 61 .gtr 53 60]
def r87_7 := [zO 6 false]
def l87_0 : ACode := (.seq (zR r87_4) (.seq (.cond (.t 40) .skip (.exit 0)) (.block 1 (.seq (zR r87_5) (.seq (zR r87_6) (.cond (.t 61) (.seq (zR r87_7) .ret) .skip))))))
def r87_8 := [zO 6 true]
def ac87 : ACode := (.seq (zR r87_0) (.seq (.seq (zR r87_1) (.cond (.t 33) (.seq (zR r87_2) .ret) .skip)) (.seq (.seq (zR r87_3) (.block 0 (.loop l87_0))) (.seq (zR r87_8) .ret))))
def re87 : List AOp := [(.mv (.t 6))]
theorem cf87 : cFn Try.prog 87 = some (62, ac87, re87) := by kernel_rfl
def r88_0 := [zF 6 (.mv (.c (.lit (.map none))))]
def r88_1 := [zF 11 (.mop .mk []), zM 7 11]
def r88_2 := [zM 12 0, zJ 13 12, zA 14 13 13, zD 15 14, zM 16 2, zF 17 (.call false (.t 15) [(.t 16)]), zM 8 17]
def r88_3 := [zM 18 0, zM 19 1, zJ 20 18, zA 21 0 20, zA 22 8 21, zF 23 (.idxAddr (some 4) 1 (.t 22) (.t 19)), zD 24 23, zK 25 0]
def r88_4 := [zB 26 .lss 25 24]
def r88_5 := [zM 27 25, zM 9 27]
def r88_6 := [zM 28 1, zM 29 0, zJ 30 29, zA 31 13 30, zD 32 31, zM 33 8, zM 34 9, zB 35 .add 33 34, zF 36 (.call false (.t 32) [(.t 35)]), zF 37 (.build [(.lit (.int .i64 0)), (.lit (.int .i64 0))] [(0, (1, (.t 28))), (1, (1, (.t 36)))]), zF 10 (.alloc [(.lit (.int .i64 0)), (.lit (.int .i64 0))]), zS (.store 2 (.t 10) (.t 37))]
def r88_7 := [zM 38 7, zV 39 true 2 10, zM 40 7, zV 41 true 2 10, zF 42 (.mop (.look true [(0, 0), (1, 0)] 2 (.agg [(.lit (.int .i64 0))])) [(.t 40), (.t 41)]), zF 43 (.field false 0 1 (.t 42)), zC 44 .add 43 1, zF 45 (.build [(.lit (.int .i64 0))] [(0, (1, (.t 44)))]), zS (.mop (.put true [(0, 0), (1, 0)] 2) [(.t 38), (.t 39), (.t 45)])]
def r88_8 := [zC 46 .add 25 1, zM 25 46]
def l88_0 : ACode := (.seq (zR r88_4) (.seq (.cond (.t 26) .skip (.exit 0)) (.seq (.block 1 (.seq (zR r88_5) (.seq (zR r88_6) (zR r88_7)))) (zR r88_8))))
def r88_9 := [zM 47 7, zM 6 47]
def ac88 : ACode := (.seq (zR r88_0) (.seq (zR r88_1) (.seq (zR r88_2) (.seq (.seq (zR r88_3) (.block 0 (.loop l88_0))) (.seq (zR r88_9) .ret)))))
def re88 : List AOp := [(.mv (.t 6))]
theorem cf88 : cFn Try.prog 88 = some (48, ac88, re88) := by kernel_rfl
def r89_0 := [zO 6 false]
def r89_1 := [zM 7 1, zM 8 0, zB 9 .leq 7 8, zM 10 9, zH 11 0 10 true, zH 12 2 10 true, zY 13 .leq 11 12 10 true, zP 14 10 13, zM 6 14]
def ac89 : ACode := (.seq (zR r89_0) (.seq (zR r89_1) .ret))
def re89 : List AOp := [(.mv (.t 6))]
theorem cf89 : cFn Try.prog 89 = some (15, ac89, re89) := by kernel_rfl
def r90_0 : List yU := [⟨(some 0), (.alloc [(.lit (.string ⟨#[]⟩)), (.lit (.int .i8 0)), (.lit (.bool false)), (.lit (.bool false)), (.lit (.bool false)), (.lit (.bool false)), (.lit (.bool false)), (.lit (.bool false)), (.lit (.string ⟨#[]⟩)), (.lit (.int .i8 0)), (.lit (.bool false)), (.lit (.bool false)), (.lit (.bool false)), (.lit (.bool false)), (.lit (.bool false)), (.lit (.bool false)), (.lit (.string ⟨#[]⟩)), (.lit (.int .i8 0)), (.lit (.bool false)), (.lit (.bool false)), (.lit (.bool false)), (.lit (.bool false)), (.lit (.bool false)), (.lit (.bool false)), (.lit (.string ⟨#[]⟩)), (.lit (.int .i8 0)), (.lit (.bool false)), (.lit (.bool false)), (.lit (.bool false)), (.lit (.bool false)), (.lit (.bool false)), (.lit (.bool false)), (.lit (.string ⟨#[]⟩)), (.lit (.int .i8 0)), (.lit (.bool false)), (.lit (.bool false)), (.lit (.bool false)), (.lit (.bool false)), (.lit (.bool false)), (.lit (.bool false)), (.lit (.string ⟨#[]⟩)), (.lit (.int .i8 0)), (.lit (.bool false)), (.lit (.bool false)), (.lit (.bool false)), (.lit (.bool false)), (.lit (.bool false)), (.lit (.bool false)), (.lit (.string ⟨#[]⟩)), (.lit (.int .i8 0)), (.lit (.bool false)), (.lit (.bool false)), (.lit (.bool false)), (.lit (.bool false)), (.lit (.bool false)), (.lit (.bool false)), (.lit (.string ⟨#[]⟩)), (.lit (.int .i8 0)), (.lit (.bool false)), (.lit (.bool false)), (.lit (.bool false)), (.lit (.bool false)), (.lit (.bool false)), (.lit (.bool false)), (.lit (.string ⟨#[]⟩)), (.lit (.int .i8 0)), (.lit (.bool false)), (.lit (.bool false)), (.lit (.bool false)), (.lit (.bool false)), (.lit (.bool false)), (.lit (.bool false)), (.lit (.string ⟨#[]⟩)), (.lit (.int .i8 0)), (.lit (.bool false)), (.lit (.bool false)), (.lit (.bool false)), (.lit (.bool false)), (.lit (.bool false)), (.lit (.bool false)), (.lit (.string ⟨#[]⟩)), (.lit (.int .i8 0)), (.lit (.bool false)), (.lit (.bool false)), (.lit (.bool false)), (.lit (.bool false)), (.lit (.bool false)), (.lit (.bool false)), (.lit (.string ⟨#[]⟩)), (.lit (.int .i8 0)), (.lit (.bool false)), (.lit (.bool false)), (.lit (.bool false)), (.lit (.bool false)), (.lit (.bool false)), (.lit (.bool false)), (.lit (.string ⟨#[]⟩)), (.lit (.int .i8 0)), (.lit (.bool false)), (.lit (.bool false)), (.lit (.bool false)), (.lit (.bool false)), (.lit (.bool false)), (.lit (.bool false)), (.lit (.string ⟨#[]⟩)), (.lit (.int .i8 0)), (.lit (.bool false)), (.lit (.bool false)), (.lit (.bool false)), (.lit (.bool false)), (.lit (.bool false)), (.lit (.bool false)), (.lit (.string ⟨#[]⟩)), (.lit (.int .i8 0)), (.lit (.bool false)), (.lit (.bool false)), (.lit (.bool false)), (.lit (.bool false)), (.lit (.bool false)), (.lit (.bool false)), (.lit (.string ⟨#[]⟩)), (.lit (.int .i8 0)), (.lit (.bool false)), (.lit (.bool false)), (.lit (.bool false)), (.lit (.bool false)), (.lit (.bool false)), (.lit (.bool false)), (.lit (.string ⟨#[]⟩)), (.lit (.int .i8 0)), (.lit (.bool false)), (.lit (.bool false)), (.lit (.bool false)), (.lit (.bool false)), (.lit (.bool false)), (.lit (.bool false)), (.lit (.string ⟨#[]⟩)), (.lit (.int .i8 0)), (.lit (.bool false)), (.lit (.bool false)), (.lit (.bool false)), (.lit (.bool false)), (.lit (.bool false)), (.lit (.bool false)), (.lit (.string ⟨#[]⟩)), (.lit (.int .i8 0)), (.lit (.bool false)), (.lit (.bool false)), (.lit (.bool false)), (.lit (.bool false)), (.lit (.bool false)), (.lit (.bool false)), (.lit (.string ⟨#[]⟩)), (.lit (.int .i8 0)), (.lit (.bool false)), (.lit (.bool false)), (.lit (.bool false)), (.lit (.bool false)), (.lit (.bool false)), (.lit (.bool false)), (.lit (.string ⟨#[]⟩)), (.lit (.int .i8 0)), (.lit (.bool false)), (.lit (.bool false)), (.lit (.bool false)), (.lit (.bool false)), (.lit (.bool false)), (.lit (.bool false)), (.lit (.string ⟨#[]⟩)), (.lit (.int .i8 0)), (.lit (.bool false)), (.lit (.bool false)), (.lit (.bool false)), (.lit (.bool false)), (.lit (.bool false)), (.lit (.bool false)), (.lit (.string ⟨#[]⟩)), (.lit (.int .i8 0)), (.lit (.bool false)), (.lit (.bool false)), (.lit (.bool false)), (.lit (.bool false)), (.lit (.bool false)), (.lit (.bool false)), (.lit (.string ⟨#[]⟩)), (.lit (.int .i8 0)), (.lit (.bool false)), (.lit (.bool false)), (.lit (.bool false)), (.lit (.bool false)), (.lit (.bool false)), (.lit (.bool false))]), none⟩]
def r90_1 := [zF 1 (.mv (.c (.fn 114 [])))]
def r90_2 : List yU := [⟨(some 2), (.build [(.lit (.string ⟨#[]⟩)), (.lit (.int .i8 0)), (.lit (.bool false)), (.lit (.bool false)), (.lit (.bool false)), (.lit (.bool false)), (.lit (.bool false)), (.lit (.bool false))] [(0, (1, (.c (.lit (.string ⟨#[110, 111, 112]⟩))))), (1, (1, (.c (.lit (.int .i8 (-1)))))), (7, (1, (.c (.lit (.bool true)))))]), none⟩, ⟨(some 3), (.build [(.lit (.string ⟨#[]⟩)), (.lit (.int .i8 0)), (.lit (.bool false)), (.lit (.bool false)), (.lit (.bool false)), (.lit (.bool false)), (.lit (.bool false)), (.lit (.bool false))] [(0, (1, (.c (.lit (.string ⟨#[99, 111, 110, 115, 116]⟩))))), (1, (1, (.c (.lit (.int .i8 0))))), (2, (1, (.c (.lit (.bool true))))), (3, (1, (.c (.lit (.bool false))))), (4, (1, (.c (.lit (.bool false))))), (5, (1, (.c (.lit (.bool false))))), (6, (1, (.c (.lit (.bool true))))), (7, (1, (.c (.lit (.bool true)))))]), none⟩, zM 4 1, ⟨(some 5), (.call false (.t 4) [(.c (.lit (.string ⟨#[97, 100, 100]⟩))), (.c (.lit (.int .i8 0)))]), none⟩, zM 6 1, ⟨(some 7), (.call false (.t 6) [(.c (.lit (.string ⟨#[115, 117, 98]⟩))), (.c (.lit (.int .i8 0)))]), none⟩, zM 8 1, ⟨(some 9), (.call false (.t 8) [(.c (.lit (.string ⟨#[97, 110, 100]⟩))), (.c (.lit (.int .i8 0)))]), none⟩, zM 10 1, ⟨(some 11), (.call false (.t 10) [(.c (.lit (.string ⟨#[111, 114]⟩))), (.c (.lit (.int .i8 0)))]), none⟩, zM 12 1, ⟨(some 13), (.call false (.t 12) [(.c (.lit (.string ⟨#[120, 111, 114]⟩))), (.c (.lit (.int .i8 0)))]), none⟩, zM 14 1, ⟨(some 15), (.call false (.t 14) [(.c (.lit (.string ⟨#[115, 104, 108]⟩))), (.c (.lit (.int .i8 0)))]), none⟩, zM 16 1, ⟨(some 17), (.call false (.t 16) [(.c (.lit (.string ⟨#[115, 104, 114]⟩))), (.c (.lit (.int .i8 0)))]), none⟩, zM 18 1, ⟨(some 19), (.call false (.t 18) [(.c (.lit (.string ⟨#[108, 101, 115, 115]⟩))), (.c (.lit (.int .i8 0)))]), none⟩, zM 20 1, ⟨(some 21), (.call false (.t 20) [(.c (.lit (.string ⟨#[101, 113, 117, 97, 108]⟩))), (.c (.lit (.int .i8 0)))]), none⟩, ⟨(some 22), (.build [(.lit (.string ⟨#[]⟩)), (.lit (.int .i8 0)), (.lit (.bool false)), (.lit (.bool false)), (.lit (.bool false)), (.lit (.bool false)), (.lit (.bool false)), (.lit (.bool false))] [(0, (1, (.c (.lit (.string ⟨#[109, 111, 118, 101]⟩))))), (1, (1, (.c (.lit (.int .i8 0))))), (2, (1, (.c (.lit (.bool true))))), (3, (1, (.c (.lit (.bool true))))), (4, (1, (.c (.lit (.bool false))))), (5, (1, (.c (.lit (.bool false))))), (6, (1, (.c (.lit (.bool false))))), (7, (1, (.c (.lit (.bool true)))))]), none⟩, zM 23 1, ⟨(some 24), (.call false (.t 23) [(.c (.lit (.string ⟨#[116, 105, 109, 101, 115]⟩))), (.c (.lit (.int .i8 1)))]), none⟩, zM 25 1, ⟨(some 26), (.call false (.t 25) [(.c (.lit (.string ⟨#[100, 105, 118, 105, 100, 101]⟩))), (.c (.lit (.int .i8 1)))]), none⟩, zM 27 1, ⟨(some 28), (.call false (.t 27) [(.c (.lit (.string ⟨#[114, 101, 115, 116]⟩))), (.c (.lit (.int .i8 1)))]), none⟩, ⟨(some 29), (.build [(.lit (.string ⟨#[]⟩)), (.lit (.int .i8 0)), (.lit (.bool false)), (.lit (.bool false)), (.lit (.bool false)), (.lit (.bool false)), (.lit (.bool false)), (.lit (.bool false))] [(0, (1, (.c (.lit (.string ⟨#[108, 111, 97, 100]⟩))))), (1, (1, (.c (.lit (.int .i8 2))))), (2, (1, (.c (.lit (.bool true))))), (3, (1, (.c (.lit (.bool true))))), (4, (1, (.c (.lit (.bool false))))), (5, (1, (.c (.lit (.bool false))))), (6, (1, (.c (.lit (.bool true))))), (7, (1, (.c (.lit (.bool true)))))]), none⟩, ⟨(some 30), (.build [(.lit (.string ⟨#[]⟩)), (.lit (.int .i8 0)), (.lit (.bool false)), (.lit (.bool false)), (.lit (.bool false)), (.lit (.bool false)), (.lit (.bool false)), (.lit (.bool false))] [(0, (1, (.c (.lit (.string ⟨#[115, 116, 111, 114, 101]⟩))))), (1, (1, (.c (.lit (.int .i8 2))))), (2, (1, (.c (.lit (.bool false))))), (3, (1, (.c (.lit (.bool true))))), (4, (1, (.c (.lit (.bool true))))), (5, (1, (.c (.lit (.bool false))))), (6, (1, (.c (.lit (.bool true))))), (7, (1, (.c (.lit (.bool true)))))]), none⟩, ⟨(some 31), (.build [(.lit (.string ⟨#[]⟩)), (.lit (.int .i8 0)), (.lit (.bool false)), (.lit (.bool false)), (.lit (.bool false)), (.lit (.bool false)), (.lit (.bool false)), (.lit (.bool false))] [(0, (1, (.c (.lit (.string ⟨#[112, 114, 105, 110, 116]⟩))))), (1, (1, (.c (.lit (.int .i8 2))))), (2, (1, (.c (.lit (.bool false))))), (3, (1, (.c (.lit (.bool true))))), (4, (1, (.c (.lit (.bool false))))), (5, (1, (.c (.lit (.bool false))))), (6, (1, (.c (.lit (.bool false))))), (7, (1, (.c (.lit (.bool true)))))]), none⟩, ⟨(some 32), (.build [(.lit (.string ⟨#[]⟩)), (.lit (.int .i8 0)), (.lit (.bool false)), (.lit (.bool false)), (.lit (.bool false)), (.lit (.bool false)), (.lit (.bool false)), (.lit (.bool false))] [(0, (1, (.c (.lit (.string ⟨#[106, 117, 109, 112]⟩))))), (1, (1, (.c (.lit (.int .i8 3))))), (2, (1, (.c (.lit (.bool false))))), (3, (1, (.c (.lit (.bool false))))), (4, (1, (.c (.lit (.bool false))))), (5, (1, (.c (.lit (.bool false))))), (6, (1, (.c (.lit (.bool true))))), (7, (1, (.c (.lit (.bool true)))))]), none⟩, ⟨(some 33), (.build [(.lit (.string ⟨#[]⟩)), (.lit (.int .i8 0)), (.lit (.bool false)), (.lit (.bool false)), (.lit (.bool false)), (.lit (.bool false)), (.lit (.bool false)), (.lit (.bool false))] [(0, (1, (.c (.lit (.string ⟨#[98, 114, 97, 110, 99, 104]⟩))))), (1, (1, (.c (.lit (.int .i8 3))))), (2, (1, (.c (.lit (.bool false))))), (3, (1, (.c (.lit (.bool true))))), (4, (1, (.c (.lit (.bool false))))), (5, (1, (.c (.lit (.bool false))))), (6, (1, (.c (.lit (.bool true))))), (7, (1, (.c (.lit (.bool true)))))]), none⟩, ⟨(some 34), (.build [(.lit (.string ⟨#[]⟩)), (.lit (.int .i8 0)), (.lit (.bool false)), (.lit (.bool false)), (.lit (.bool false)), (.lit (.bool false)), (.lit (.bool false)), (.lit (.bool false))] [(0, (1, (.c (.lit (.string ⟨#[104, 97, 108, 116]⟩))))), (1, (1, (.c (.lit (.int .i8 3))))), (2, (1, (.c (.lit (.bool false))))), (3, (1, (.c (.lit (.bool true))))), (4, (1, (.c (.lit (.bool false))))), (5, (1, (.c (.lit (.bool false))))), (6, (1, (.c (.lit (.bool false))))), (7, (1, (.c (.lit (.bool true)))))]), none⟩, ⟨(some 35), (.build [(.lit (.string ⟨#[]⟩)), (.lit (.int .i8 0)), (.lit (.bool false)), (.lit (.bool false)), (.lit (.bool false)), (.lit (.bool false)), (.lit (.bool false)), (.lit (.bool false))] [(0, (1, (.c (.lit (.string ⟨#[99, 111, 117, 110, 116]⟩))))), (1, (1, (.c (.lit (.int .i8 3))))), (2, (1, (.c (.lit (.bool false))))), (3, (1, (.c (.lit (.bool true))))), (4, (1, (.c (.lit (.bool false))))), (5, (1, (.c (.lit (.bool false))))), (6, (1, (.c (.lit (.bool true))))), (7, (1, (.c (.lit (.bool true)))))]), none⟩, ⟨(some 36), (.build [(.lit (.string ⟨#[]⟩)), (.lit (.int .i8 0)), (.lit (.bool false)), (.lit (.bool false)), (.lit (.bool false)), (.lit (.bool false)), (.lit (.bool false)), (.lit (.bool false))] [(0, (1, (.c (.lit (.string ⟨#[115, 104, 111, 114, 116]⟩))))), (1, (1, (.c (.lit (.int .i8 3))))), (2, (1, (.c (.lit (.bool false))))), (3, (1, (.c (.lit (.bool true))))), (4, (1, (.c (.lit (.bool false))))), (5, (1, (.c (.lit (.bool true))))), (6, (1, (.c (.lit (.bool true))))), (7, (1, (.c (.lit (.bool true)))))]), none⟩, ⟨(some 37), (.build [(.lit (.string ⟨#[]⟩)), (.lit (.int .i8 0)), (.lit (.bool false)), (.lit (.bool false)), (.lit (.bool false)), (.lit (.bool false)), (.lit (.bool false)), (.lit (.bool false))] [(0, (1, (.c (.lit (.string ⟨#[97, 103, 97, 105, 110]⟩))))), (1, (1, (.c (.lit (.int .i8 3))))), (2, (1, (.c (.lit (.bool false))))), (3, (1, (.c (.lit (.bool false))))), (4, (1, (.c (.lit (.bool false))))), (5, (1, (.c (.lit (.bool false))))), (6, (1, (.c (.lit (.bool true))))), (7, (1, (.c (.lit (.bool true)))))]), none⟩, ⟨(some 38), (.build [(.lit (.string ⟨#[]⟩)), (.lit (.int .i8 0)), (.lit (.bool false)), (.lit (.bool false)), (.lit (.bool false)), (.lit (.bool false)), (.lit (.bool false)), (.lit (.bool false)), (.lit (.string ⟨#[]⟩)), (.lit (.int .i8 0)), (.lit (.bool false)), (.lit (.bool false)), (.lit (.bool false)), (.lit (.bool false)), (.lit (.bool false)), (.lit (.bool false)), (.lit (.string ⟨#[]⟩)), (.lit (.int .i8 0)), (.lit (.bool false)), (.lit (.bool false)), (.lit (.bool false)), (.lit (.bool false)), (.lit (.bool false)), (.lit (.bool false)), (.lit (.string ⟨#[]⟩)), (.lit (.int .i8 0)), (.lit (.bool false)), (.lit (.bool false)), (.lit (.bool false)), (.lit (.bool false)), (.lit (.bool false)), (.lit (.bool false)), (.lit (.string ⟨#[]⟩)), (.lit (.int .i8 0)), (.lit (.bool false)), (.lit (.bool false)), (.lit (.bool false)), (.lit (.bool false)), (.lit (.bool false)), (.lit (.bool false)), (.lit (.string ⟨#[]⟩)), (.lit (.int .i8 0)), (.lit (.bool false)), (.lit (.bool false)), (.lit (.bool false)), (.lit (.bool false)), (.lit (.bool false)), (.lit (.bool false)), (.lit (.string ⟨#[]⟩)), (.lit (.int .i8 0)), (.lit (.bool false)), (.lit (.bool false)), (.lit (.bool false)), (.lit (.bool false)), (.lit (.bool false)), (.lit (.bool false)), (.lit (.string ⟨#[]⟩)), (.lit (.int .i8 0)), (.lit (.bool false)), (.lit (.bool false)), (.lit (.bool false)), (.lit (.bool false)), (.lit (.bool false)), (.lit (.bool false)), (.lit (.string ⟨#[]⟩)), (.lit (.int .i8 0)), (.lit (.bool false)), (.lit (.bool false)), (.lit (.bool false)), (.lit (.bool false)), (.lit (.bool false)), (.lit (.bool false)), (.lit (.string ⟨#[]⟩)), (.lit (.int .i8 0)), (.lit (.bool false)), (.lit (.bool false)), (.lit (.bool false)), (.lit (.bool false)), (.lit (.bool false)), (.lit (.bool false)), (.lit (.string ⟨#[]⟩)), (.lit (.int .i8 0)), (.lit (.bool false)), (.lit (.bool false)), (.lit (.bool false)), (.lit (.bool false)), (.lit (.bool false)), (.lit (.bool false)), (.lit (.string ⟨#[]⟩)), (.lit (.int .i8 0)), (.lit (.bool false)), (.lit (.bool false)), (.lit (.bool false)), (.lit (.bool false)), (.lit (.bool false)), (.lit (.bool false)), (.lit (.string ⟨#[]⟩)), (.lit (.int .i8 0)), (.lit (.bool false)), (.lit (.bool false)), (.lit (.bool false)), (.lit (.bool false)), (.lit (.bool false)), (.lit (.bool false)), (.lit (.string ⟨#[]⟩)), (.lit (.int .i8 0)), (.lit (.bool false)), (.lit (.bool false)), (.lit (.bool false)), (.lit (.bool false)), (.lit (.bool false)), (.lit (.bool false)), (.lit (.string ⟨#[]⟩)), (.lit (.int .i8 0)), (.lit (.bool false)), (.lit (.bool false)), (.lit (.bool false)), (.lit (.bool false)), (.lit (.bool false)), (.lit (.bool false)), (.lit (.string ⟨#[]⟩)), (.lit (.int .i8 0)), (.lit (.bool false)), (.lit (.bool false)), (.lit (.bool false)), (.lit (.bool false)), (.lit (.bool false)), (.lit (.bool false)), (.lit (.string ⟨#[]⟩)), (.lit (.int .i8 0)), (.lit (.bool false)), (.lit (.bool false)), (.lit (.bool false)), (.lit (.bool false)), (.lit (.bool false)), (.lit (.bool false)), (.lit (.string ⟨#[]⟩)), (.lit (.int .i8 0)), (.lit (.bool false)), (.lit (.bool false)), (.lit (.bool false)), (.lit (.bool false)), (.lit (.bool false)), (.lit (.bool false)), (.lit (.string ⟨#[]⟩)), (.lit (.int .i8 0)), (.lit (.bool false)), (.lit (.bool false)), (.lit (.bool false)), (.lit (.bool false)), (.lit (.bool false)), (.lit (.bool false)), (.lit (.string ⟨#[]⟩)), (.lit (.int .i8 0)), (.lit (.bool false)), (.lit (.bool false)), (.lit (.bool false)), (.lit (.bool false)), (.lit (.bool false)), (.lit (.bool false)), (.lit (.string ⟨#[]⟩)), (.lit (.int .i8 0)), (.lit (.bool false)), (.lit (.bool false)), (.lit (.bool false)), (.lit (.bool false)), (.lit (.bool false)), (.lit (.bool false)), (.lit (.string ⟨#[]⟩)), (.lit (.int .i8 0)), (.lit (.bool false)), (.lit (.bool false)), (.lit (.bool false)), (.lit (.bool false)), (.lit (.bool false)), (.lit (.bool false)), (.lit (.string ⟨#[]⟩)), (.lit (.int .i8 0)), (.lit (.bool false)), (.lit (.bool false)), (.lit (.bool false)), (.lit (.bool false)), (.lit (.bool false)), (.lit (.bool false)), (.lit (.string ⟨#[]⟩)), (.lit (.int .i8 0)), (.lit (.bool false)), (.lit (.bool false)), (.lit (.bool false)), (.lit (.bool false)), (.lit (.bool false)), (.lit (.bool false))] [(0, (8, (.t 2))), (8, (8, (.t 3))), (16, (8, (.t 5))), (24, (8, (.t 7))), (32, (8, (.t 9))), (40, (8, (.t 11))), (48, (8, (.t 13))), (56, (8, (.t 15))), (64, (8, (.t 17))), (72, (8, (.t 19))), (80, (8, (.t 21))), (88, (8, (.t 22))), (96, (8, (.t 24))), (104, (8, (.t 26))), (112, (8, (.t 28))), (120, (8, (.t 29))), (128, (8, (.t 30))), (136, (8, (.t 31))), (144, (8, (.t 32))), (152, (8, (.t 33))), (160, (8, (.t 34))), (168, (8, (.t 35))), (176, (8, (.t 36))), (184, (8, (.t 37)))]), none⟩, zS (.store 192 (.t 0) (.t 38))]
def ac90 : ACode := (.seq (zR r90_0) (.seq (zR r90_1) (.seq (zR r90_2) .ret)))
def re90 : List AOp := [(.load true 192 (.t 0))]
theorem cf90 : cFn Try.prog 90 = some (39, ac90, re90) := by kernel_rfl
def r91_0 := [zO 4 false]
def r91_1 := [zM 5 0, zF 6 (.conv .u64 (.t 5)), zM 7 1, zL 8 false 115 [6, 7], zM 9 0, zB 10 .eql 8 9, zM 4 10]
def ac91 : ACode := (.seq (zR r91_0) (.seq (zR r91_1) .ret))
def re91 : List AOp := [(.mv (.t 4))]
theorem cf91 : cFn Try.prog 91 = some (11, ac91, re91) := by kernel_rfl
def r108_0 := [zM 4 0, zM 5 0, zE 6 5, zM 7 1, zL 8 false 123 [4, 6, 7]]
def ac108 : ACode := (zR r108_0)
def re108 : List AOp := []
theorem cf108 : cFn Try.prog 108 = some (9, ac108, re108) := by kernel_rfl
def r109_0 := [zK 6 0]
def r109_1 := [zD 7 2, zD 8 3, zM 9 0, zI 10 1 8 9, zD 11 10, zD 12 3, zM 13 1, zI 14 1 12 13, zD 15 14, zF 16 (.call true (.t 7) [(.t 11), (.t 15)]), zM 6 16]
def ac109 : ACode := (.seq (zR r109_0) (.seq (zR r109_1) .ret))
def re109 : List AOp := [(.mv (.t 6))]
theorem cf109 : cFn Try.prog 109 = some (17, ac109, re109) := by kernel_rfl
def r110_0 := [zF 3 (.box (.t 1)), zK 4 0]
def r110_1 := [zV 8 true 13 3, zL 9 false 56 [8], zM 5 9]
def r110_2 := [zM 10 5, zC 11 .neq 10 0]
def r110_3 := [zM 12 5, zM 4 12]
def r110_4 := [zM 13 0, zE 14 13, zC 15 .gtr 14 1024]
def r110_5 := [zK 4 3]
def r110_6 := [zM 16 0, zE 17 16, zK 18 0]
def r110_7 := [zB 19 .lss 18 17]
def r110_8 := [zI 20 5 16 18, zV 21 true 5 20, zF 7 (.alloc [(.lit (.int .i8 0)), (.lit (.int .u8 0)), (.lit (.int .u8 0)), (.lit (.int .u8 0)), (.lit (.int .i64 0))]), zS (.store 5 (.t 7) (.t 21))]
def r110_9 := [zA 22 0 7, zD 23 22, zF 24 (.bin .lss (.t 23) (.c (.lit (.int .i8 1)))), zM 25 24, zG 26 25 false (.fieldAddr 0 (.t 7)), zU 27 26 25 false, zG 28 25 false (.bin .gtr (.t 27) (.c (.lit (.int .i8 17)))), zQ 29 25 28, zM 30 29, zG 31 30 false (.load true 5 (.t 7)), zG 32 30 false (.call false (.c (.fn 60 [])) [(.t 31)]), zG 33 30 false (.bin .neq (.t 32) (zN 0)), zQ 34 30 33]
def r110_10 := [zK 4 30]
def r110_11 := [zC 35 .add 18 1, zM 18 35]
def l110_0 : ACode := (.seq (zR r110_7) (.seq (.cond (.t 19) .skip (.exit 0)) (.seq (.block 1 (.seq (zR r110_8) (.seq (zR r110_9) (.cond (.t 34) (.seq (zR r110_10) .ret) .skip)))) (zR r110_11))))
def r110_12 := [zK 4 0]
def ac110 : ACode := (.seq (zR r110_0) (.seq (.seq (zR r110_1) (.seq (zR r110_2) (.cond (.t 11) (.seq (zR r110_3) .ret) .skip))) (.seq (.seq (zR r110_4) (.cond (.t 15) (.seq (zR r110_5) .ret) .skip)) (.seq (.seq (zR r110_6) (.block 0 (.loop l110_0))) (.seq (zR r110_12) .ret)))))
def re110 : List AOp := [(.mv (.t 4))]
theorem cf110 : cFn Try.prog 110 = some (36, ac110, re110) := by kernel_rfl
def r111_0 := [zF 3 (.box (.t 1)), zF 4 (.mv (.c (.lit (.pointer none))))]
def r111_1 := [zM 9 0, zV 10 true 13 3, zF 11 (.build [.nil, (.lit (.int .i64 0)), (.lit (.int .i64 0)), (.lit (.int .i64 0)), (.lit (.int .i64 0)), (.lit (.int .i64 0)), (.lit (.int .i64 0)), (.lit (.int .i64 0)), (.lit (.int .i64 0)), (.lit (.int .i64 0)), (.lit (.int .i64 0)), (.lit (.int .i64 0)), (.lit (.int .i64 0)), (.lit (.int .i64 0)), .nil, .nil, .nil] [(0, (1, (.t 9))), (1, (13, (.t 10)))]), zF 12 (.box (.t 11)), zM 5 12]
def r111_2 := [zM 13 0, zE 14 13, zK 15 0]
def r111_3 := [zB 16 .lss 15 14]
def r111_4 := [zM 17 15, zM 6 17]
def r111_5 := [zM 18 5, zM 19 5, zJ 20 19, zA 21 14 20, zD 22 21, zM 23 0, zM 24 6, zI 25 5 23 24, zV 26 true 5 25, zL 27 true 42 [26], zF 28 (.buildSl 1 1 [.nil] [(0, (1, (.t 27)))]), zF 29 (.append 1 24 (.t 22) (.t 28)), zJ 30 18, zA 31 14 30, zS (.store 1 (.t 31) (.t 29))]
def r111_6 := [zM 33 0, zM 34 6, zI 35 5 33 34, zV 36 true 5 35, zL 37 false 16 [36], zM 32 37, zX 38 32 0, zX 39 32 1, zM 7 38, zM 8 39]
def r111_7 := [zM 40 5, zM 41 5, zJ 42 41, zA 43 15 42, zD 44 43, zF 45 (.buildSl 1 1 [(.lit (.int .i64 0))] [(0, (1, (zN (-1))))]), zF 46 (.append 1 8 (.t 44) (.t 45)), zJ 47 40, zA 48 15 47, zS (.store 1 (.t 48) (.t 46))]
def r111_8 := [zM 49 8]
def r111_9 := [zM 50 5, zJ 51 50, zA 52 15 51, zD 53 52, zM 54 6, zM 55 7, zF 56 (.conv .i64 (.t 55)), zI 57 1 53 54, zS (.store 1 (.t 57) (.t 56))]
def r111_10 := [zC 58 .add 15 1, zM 15 58]
def l111_0 : ACode := (.seq (zR r111_3) (.seq (.cond (.t 16) .skip (.exit 0)) (.seq (.block 1 (.seq (zR r111_4) (.seq (.ops r111_5 [(21, 28)]) (.seq (zR r111_6) (.seq (zR r111_7) (.seq (zR r111_8) (.cond (.t 49) (zR r111_9) .skip))))))) (zR r111_10))))
def r111_11 := [zM 59 5, zM 4 59]
def ac111 : ACode := (.seq (zR r111_0) (.seq (zR r111_1) (.seq (.seq (zR r111_2) (.block 0 (.loop l111_0))) (.seq (zR r111_11) .ret))))
def re111 : List AOp := [(.mv (.t 4))]
theorem cf111 : cFn Try.prog 111 = some (60, ac111, re111) := by kernel_rfl
def r112_0 := [zF 2 (.alloc (List.replicate 32 (.lit (.int .i64 0))))]
def r112_1 := [zM 5 0, zJ 6 5, zA 7 0 6, zD 8 7, zE 9 8, zK 10 0]
def r112_2 := [zB 11 .lss 10 9]
def r112_3 := [zM 12 10, zM 3 12]
def r112_4 := [zM 13 3, zK 14 0]
def r112_5 := [zB 15 .lss 14 13]
def r112_6 := [zM 16 14, zM 4 16]
def r112_7 := [zM 17 0, zM 18 4, zM 19 3, zL 20 false 124 [17, 18, 19, 2]]
def r112_8 := [zM 21 0, zM 22 4, zM 23 3, zM 24 0, zM 25 4, zL 26 false 126 [24, 25], zF 27 (.build [(.lit (.int .i64 0)), (.lit (.int .i64 0)), (.lit (.int .i64 0)), (.lit (.int .i64 0)), (.lit (.int .i8 0))] [(2, (1, (.t 26))), (4, (1, (.c (.lit (.int .i8 0)))))]), zF 28 (.buildSl 5 1 [(.lit (.int .i64 0)), (.lit (.int .i64 0)), (.lit (.int .i64 0)), (.lit (.int .i64 0)), (.lit (.int .i8 0))] [(0, (5, (.t 27)))]), zF 29 (.call false (.c (.fn 125 [])) [(.t 21), (.t 22), (.t 23), (zN 0), (.t 28)])]
def r112_9 := [zM 30 0, zM 31 4, zM 32 3, zM 33 0, zJ 34 33, zA 35 0 34, zD 36 35, zM 37 4, zM 38 3, zL 39 false 128 [36, 37, 38], zF 40 (.call false (.c (.fn 127 [])) [(.t 30), (.t 31), (.t 32), (zN 0), (.t 39)])]
def r112_10 := [zC 41 .add 14 1, zM 14 41]
def l112_0 : ACode := (.seq (zR r112_5) (.seq (.cond (.t 15) .skip (.exit 2)) (.seq (.block 3 (.seq (zR r112_6) (.seq (.seq (zR r112_7) (.cond (.t 20) (zR r112_8) .skip)) (zR r112_9)))) (zR r112_10))))
def r112_11 := [zM 42 0, zJ 43 42, zA 44 15 43, zD 45 44, zM 46 3, zI 47 1 45 46, zD 48 47, zC 49 .geq 48 0]
def r112_12 := [zM 50 0, zJ 51 50, zA 52 15 51, zD 53 52, zM 54 3, zI 55 1 53 54, zD 56 55, zM 57 3, zC 58 .add 57 1, zF 59 (.idxAddr (some 32) 1 (.t 2) (.t 56)), zS (.store 1 (.t 59) (.t 58))]
def r112_13 := [zC 60 .add 10 1, zM 10 60]
def l112_1 : ACode := (.seq (zR r112_2) (.seq (.cond (.t 11) .skip (.exit 0)) (.seq (.block 1 (.seq (zR r112_3) (.seq (.seq (zR r112_4) (.block 2 (.loop l112_0))) (.seq (zR r112_11) (.cond (.t 49) (zR r112_12) .skip))))) (zR r112_13))))
def ac112 : ACode := (.seq (zR r112_0) (.seq (zR r112_1) (.block 0 (.loop l112_1))))
def re112 : List AOp := []
theorem cf112 : cFn Try.prog 112 = some (61, ac112, re112) := by kernel_rfl
def r113_0 := [zF 2 (.box (.t 0)), zK 4 0]
def r113_1 := [zM 5 1, zM 4 5]
def ac113 : ACode := (.seq (zR r113_0) (.seq (zR r113_1) .ret))
def re113 : List AOp := [(.mv (.t 4))]
theorem cf113 : cFn Try.prog 113 = some (6, ac113, re113) := by kernel_rfl
def r114_0 : List yU := [⟨(some 4), (.alloc [(.lit (.string ⟨#[]⟩)), (.lit (.int .i8 0)), (.lit (.bool false)), (.lit (.bool false)), (.lit (.bool false)), (.lit (.bool false)), (.lit (.bool false)), (.lit (.bool false))]), none⟩]
def r114_1 := [zM 5 0, zM 6 1, ⟨(some 7), (.build [(.lit (.string ⟨#[]⟩)), (.lit (.int .i8 0)), (.lit (.bool false)), (.lit (.bool false)), (.lit (.bool false)), (.lit (.bool false)), (.lit (.bool false)), (.lit (.bool false))] [(0, (1, (.t 5))), (1, (1, (.t 6))), (2, (1, (.c (.lit (.bool true))))), (3, (1, (.c (.lit (.bool true))))), (4, (1, (.c (.lit (.bool true))))), (5, (1, (.c (.lit (.bool false))))), (6, (1, (.c (.lit (.bool false))))), (7, (1, (.c (.lit (.bool true)))))]), none⟩, zS (.store 8 (.t 4) (.t 7))]
def ac114 : ACode := (.seq (zR r114_0) (.seq (zR r114_1) .ret))
def re114 : List AOp := [(.load true 8 (.t 4))]
theorem cf114 : cFn Try.prog 114 = some (8, ac114, re114) := by kernel_rfl
def r115_0 := [zK 4 0]
def r115_1 := [zM 6 1, zF 7 (.maxs [(.t 6), (zN 1)]), zF 8 (.mins [(.t 7), (zN 64)]), zF 9 (.bin .sub (zN 64) (.t 8)), zF 10 (.conv .u8 (.t 9)), zM 5 10]
def r115_2 := [zM 11 0, zM 12 5, zB 13 .shl 11 12, zF 14 (.conv .i64 (.t 13)), zM 15 5, zB 16 .shr 14 15, zM 4 16]
def ac115 : ACode := (.seq (zR r115_0) (.seq (zR r115_1) (.seq (zR r115_2) .ret)))
def re115 : List AOp := [(.mv (.t 4))]
theorem cf115 : cFn Try.prog 115 = some (17, ac115, re115) := by kernel_rfl
def r123_0 := [zK 6 20]
def r123_1 := [zM 10 6, zK 7 0, zM 8 10]
def r123_2 := [zM 11 8, zM 12 1, zB 13 .leq 11 12]
def r123_3 := [zM 14 0, zM 15 7, zM 16 8, zM 17 2, zL 18 false 143 [14, 15, 16, 17]]
def r123_4 := [zM 19 8, zM 7 19]
def r123_5 := [zM 20 8, zM 21 6, zB 22 .add 20 21, zM 8 22]
def l123_0 : ACode := (.seq (.seq (zR r123_2) (.cond (.t 13) .skip (.exit 0))) (.block 1 (.seq (zR r123_3) (.seq (zR r123_4) (zR r123_5)))))
def r123_6 := [zM 23 0, zM 24 7, zM 25 1, zM 26 2, zL 27 false 143 [23, 24, 25, 26]]
def r123_7 := [zM 28 6, zM 29 1, zB 30 .lss 28 29]
def r123_8 := [zM 31 6, zF 32 (.bin .mul (zN 2) (.t 31)), zK 7 0, zM 8 32]
def r123_9 := [zM 33 8, zM 34 1, zB 35 .leq 33 34]
def r123_10 := [zM 36 0, zM 37 7, zM 38 7, zM 39 6, zB 40 .add 38 39, zM 41 8, zM 42 2, zL 43 false 144 [36, 37, 40, 41, 42]]
def r123_11 := [zM 44 8, zM 7 44]
def r123_12 := [zM 45 8, zM 46 6, zF 47 (.bin .mul (zN 2) (.t 46)), zB 48 .add 45 47, zM 8 48]
def l123_1 : ACode := (.seq (.seq (zR r123_9) (.cond (.t 35) .skip (.exit 4))) (.block 5 (.seq (zR r123_10) (.seq (zR r123_11) (zR r123_12)))))
def r123_13 := [zM 49 7, zM 50 6, zB 51 .add 49 50, zM 9 51]
def r123_14 := [zM 52 9, zM 53 1, zB 54 .lss 52 53]
def r123_15 := [zM 55 0, zM 56 7, zM 57 9, zM 58 1, zM 59 2, zL 60 false 144 [55, 56, 57, 58, 59]]
def r123_16 := [zM 61 6, zC 62 .mul 61 2, zM 6 62]
def l123_2 : ACode := (.seq (.seq (zR r123_7) (.cond (.t 30) .skip (.exit 2))) (.block 3 (.seq (zR r123_8) (.seq (.block 4 (.loop l123_1)) (.seq (.seq (zR r123_13) (.seq (zR r123_14) (.cond (.t 54) (zR r123_15) .skip))) (zR r123_16))))))
def ac123 : ACode := (.seq (zR r123_0) (.seq (zR r123_1) (.seq (.block 0 (.loop l123_0)) (.seq (zR r123_6) (.block 2 (.loop l123_2))))))
def re123 : List AOp := []
theorem cf123 : cFn Try.prog 123 = some (63, ac123, re123) := by kernel_rfl
def r124_0 := [zO 8 false]
def r124_1 := [zM 11 0, zJ 12 11, zA 13 14 12, zD 14 13, zM 15 2, zI 16 1 14 15, zD 17 16, zE 18 17, zK 19 0]
def r124_2 := [zB 20 .lss 19 18]
def r124_3 := [zI 21 1 17 19, zD 22 21, zM 10 22]
def r124_4 := [zM 23 3, zM 24 10, zJ 25 23, zF 26 (.idxAddr (some 32) 1 (.t 25) (.t 24)), zD 27 26, zM 28 1, zC 29 .add 28 1, zB 30 .eql 27 29]
def r124_5 := [zO 8 true]
def r124_6 := [zC 31 .add 19 1, zM 19 31]
def l124_0 : ACode := (.seq (zR r124_2) (.seq (.cond (.t 20) .skip (.exit 0)) (.seq (.block 1 (.seq (zR r124_3) (.seq (zR r124_4) (.cond (.t 30) (.seq (zR r124_5) .ret) .skip)))) (zR r124_6))))
def r124_7 := [zO 8 false]
def ac124 : ACode := (.seq (zR r124_0) (.seq (.seq (zR r124_1) (.block 0 (.loop l124_0))) (.seq (zR r124_7) .ret)))
def re124 : List AOp := [(.mv (.t 8))]
theorem cf124 : cFn Try.prog 124 = some (32, ac124, re124) := by kernel_rfl
def r125_0 := [zM 12 4, zE 13 12, zK 14 0]
def r125_1 := [zB 15 .lss 14 13]
def r125_2 := [zI 16 5 12 14, zV 17 true 5 16, zF 11 (.alloc [(.lit (.int .i64 0)), (.lit (.int .i64 0)), (.lit (.int .i64 0)), (.lit (.int .i64 0)), (.lit (.int .i8 0))]), zS (.store 5 (.t 11) (.t 17))]
def r125_3 := [zM 18 1, zM 19 2, zM 20 3, zA 21 0 11, zS (.store 1 (.t 21) (.t 18)), zA 22 1 11, zS (.store 1 (.t 22) (.t 19)), zA 23 3 11, zS (.store 1 (.t 23) (.t 20))]
def r125_4 := [zM 24 0, zM 25 0, zJ 26 25, zA 27 16 26, zD 28 27, zV 29 true 5 11, zF 30 (.buildSl 5 1 [(.lit (.int .i64 0)), (.lit (.int .i64 0)), (.lit (.int .i64 0)), (.lit (.int .i64 0)), (.lit (.int .i8 0))] [(0, (5, (.t 29)))]), zF 31 (.append 5 40 (.t 28) (.t 30)), zJ 32 24, zA 33 16 32, zS (.store 1 (.t 33) (.t 31))]
def r125_5 := [zC 34 .add 14 1, zM 14 34]
def l125_0 : ACode := (.seq (zR r125_1) (.seq (.cond (.t 15) .skip (.exit 0)) (.seq (.block 1 (.seq (zR r125_2) (.seq (zR r125_3) (.ops r125_4 [(27, 30)])))) (zR r125_5))))
def ac125 : ACode := (.seq (zR r125_0) (.block 0 (.loop l125_0)))
def re125 : List AOp := []
theorem cf125 : cFn Try.prog 125 = some (35, ac125, re125) := by kernel_rfl
def r126_0 := [zK 4 0]
def r126_1 := [zM 8 0, zJ 9 8, zA 10 0 9, zD 11 10, zM 12 1, zI 13 5 11 12, zA 14 0 13, zD 15 14, zL 16 false 15 [15], zM 7 16, zX 17 7 0, zX 18 7 1, zM 5 17, zM 6 18]
def r126_2 := [zM 19 0, zM 20 5, zJ 21 19, zA 22 1 21, zA 23 4 22, zF 24 (.idxAddr (some 4) 1 (.t 23) (.t 20)), zD 25 24, zM 4 25]
def ac126 : ACode := (.seq (zR r126_0) (.seq (zR r126_1) (.seq (zR r126_2) .ret)))
def re126 : List AOp := [(.mv (.t 4))]
theorem cf126 : cFn Try.prog 126 = some (26, ac126, re126) := by kernel_rfl
def r127_0 := [zM 13 0, zJ 14 13, zA 15 15 14, zD 16 15, zM 17 2, zI 18 1 16 17, zD 19 18, zC 20 .geq 19 0, zM 21 20, zH 22 0 21 true, zH 23 1 21 true, zH 24 0 21 true, zG 25 21 true (.nilchk (.t 24)), zG 26 21 true (.fieldAddr 15 (.t 25)), zU 27 26 21 true, zH 28 2 21 true, zW 29 1 27 28 21 true, zU 30 29 21 true, zG 31 21 true (.call false (.c (.fn 145 [])) [(.t 22), (.t 23), (.t 30)]), zP 32 21 31]
def r127_1 := [zM 33 0, zM 34 1, zM 35 2, zM 36 3, zF 37 (.build [(.lit (.int .i64 0)), (.lit (.int .i64 0)), (.lit (.int .i64 0)), (.lit (.int .i64 0)), (.lit (.int .i8 0))] [(4, (1, (.c (.lit (.int .i8 1)))))]), zF 38 (.buildSl 5 1 [(.lit (.int .i64 0)), (.lit (.int .i64 0)), (.lit (.int .i64 0)), (.lit (.int .i64 0)), (.lit (.int .i8 0))] [(0, (5, (.t 37)))]), zL 39 false 125 [33, 34, 35, 36, 38]]
def r127_2 := [zM 40 0, zJ 41 40, zA 42 15 41, zD 43 42, zM 44 2, zI 45 1 43 44, zD 46 45, zC 47 .geq 46 0, zM 48 47, zH 49 0 48 true, zG 50 48 true (.nilchk (.t 49)), zG 51 48 true (.fieldAddr 15 (.t 50)), zU 52 51 48 true, zH 53 1 48 true, zW 54 1 52 53 48 true, zU 55 54 48 true, zH 56 0 48 true, zG 57 48 true (.nilchk (.t 56)), zG 58 48 true (.fieldAddr 15 (.t 57)), zU 59 58 48 true, zH 60 2 48 true, zW 61 1 59 60 48 true, zU 62 61 48 true, zY 63 .eql 55 62 48 true, zP 64 48 63]
def r127_3 := [zM 65 0, zM 66 1, zM 67 2, zM 68 3, zM 69 0, zM 70 1, zL 71 false 126 [69, 70], zM 72 0, zM 73 2, zL 74 false 126 [72, 73], zB 75 .sub 71 74, zC 76 .add 75 1, zF 77 (.maxs [(zN 0), (.t 76)]), zF 78 (.build [(.lit (.int .i64 0)), (.lit (.int .i64 0)), (.lit (.int .i64 0)), (.lit (.int .i64 0)), (.lit (.int .i8 0))] [(2, (1, (.t 77))), (4, (1, (.c (.lit (.int .i8 2)))))]), zF 79 (.buildSl 5 1 [(.lit (.int .i64 0)), (.lit (.int .i64 0)), (.lit (.int .i64 0)), (.lit (.int .i64 0)), (.lit (.int .i8 0))] [(0, (5, (.t 78)))]), zL 80 false 125 [65, 66, 67, 68, 79]]
def r127_4 := [zM 81 0, zJ 82 81, zA 83 0 82, zD 84 83, zM 85 1, zI 86 5 84 85, zA 87 0 86, zD 88 87, zF 89 (.bin .eql (.t 88) (.c (.lit (.int .i8 16)))), zM 90 0, zJ 91 90, zA 92 0 91, zD 93 92, zM 94 2, zI 95 5 93 94, zA 96 0 95, zD 97 96, zF 98 (.bin .eql (.t 97) (.c (.lit (.int .i8 16)))), zM 10 89, zM 11 98]
def r127_5 := [zM 99 4, zM 100 99, zH 101 10 100 true, zH 102 101 100 true, zH 103 11 102 false, zG 104 100 true (.pick (.t 102) (.c (.lit (.bool true))) (.t 103)), zP 105 100 104]
def r127_6 := [zF 106 (.build [(.lit (.int .i64 0)), (.lit (.int .i64 0)), (.lit (.int .i64 0)), (.lit (.int .i64 0)), (.lit (.int .i8 0))] [(4, (1, (.c (.lit (.int .i8 3)))))]), zF 12 (.alloc [(.lit (.int .i64 0)), (.lit (.int .i64 0)), (.lit (.int .i64 0)), (.lit (.int .i64 0)), (.lit (.int .i8 0))]), zS (.store 5 (.t 12) (.t 106))]
def r127_7 := [zM 108 10, zM 109 108, zH 110 11 109 true, zP 111 109 110, zM 107 111]
def r127_8 := [zA 112 2 12, zS (.store 1 (.t 112) (zN 1))]
def r127_9 := [zM 114 10, zM 113 114]
def r127_10 := [zM 115 0, zJ 116 115, zA 117 1 116, zA 118 4 117, zF 119 (.idxAddr (some 4) 1 (.t 118) (zN 2)), zD 120 119, zA 121 2 12, zS (.store 1 (.t 121) (.t 120))]
def r127_11 := [zM 122 0, zM 123 1, zM 124 2, zM 125 3, zV 126 true 5 12, zF 127 (.buildSl 5 1 [(.lit (.int .i64 0)), (.lit (.int .i64 0)), (.lit (.int .i64 0)), (.lit (.int .i64 0)), (.lit (.int .i8 0))] [(0, (5, (.t 126)))]), zL 128 false 125 [122, 123, 124, 125, 127]]
def r127_12 := [zM 129 0, zJ 130 129, zA 131 0 130, zD 132 131, zM 133 1, zI 134 5 132 133, zV 135 true 5 134, zL 136 false 146 [135], zM 137 136, zH 138 0 137 true, zG 139 137 true (.nilchk (.t 138)), zG 140 137 true (.fieldAddr 0 (.t 139)), zU 141 140 137 true, zH 142 2 137 true, zW 143 5 141 142 137 true, zG 144 137 true (.load true 5 (.t 143)), zG 145 137 true (.call false (.c (.fn 146 [])) [(.t 144)]), zP 146 137 145]
def r127_13 := [zM 147 0, zM 148 1, zM 149 2, zM 150 3, zF 151 (.build [(.lit (.int .i64 0)), (.lit (.int .i64 0)), (.lit (.int .i64 0)), (.lit (.int .i64 0)), (.lit (.int .i8 0))] [(2, (1, (zN 1))), (4, (1, (.c (.lit (.int .i8 4)))))]), zF 152 (.buildSl 5 1 [(.lit (.int .i64 0)), (.lit (.int .i64 0)), (.lit (.int .i64 0)), (.lit (.int .i64 0)), (.lit (.int .i8 0))] [(0, (5, (.t 151)))]), zL 153 false 125 [147, 148, 149, 150, 152]]
def ac127 : ACode := (.seq (.seq (zR r127_0) (.cond (.t 32) (zR r127_1) .skip)) (.seq (.seq (zR r127_2) (.cond (.t 64) (zR r127_3) .skip)) (.seq (zR r127_4) (.seq (.seq (zR r127_5) (.cond (.t 105) (.seq (zR r127_6) (.seq (.block 0 (.seq (zR r127_7) (.cond (.t 107) (zR r127_8) (.seq (zR r127_9) (.cond (.t 113) (zR r127_10) .skip))))) (zR r127_11))) .skip)) (.seq (zR r127_12) (.cond (.t 146) (zR r127_13) .skip))))))
def re127 : List AOp := []
theorem cf127 : cFn Try.prog 127 = some (154, ac127, re127) := by kernel_rfl
def r128_0 := [zO 6 false]
def r128_1 := [zM 7 1, zF 8 (.bin .leq (zN 0) (.t 7)), zM 9 8, zH 10 1 9 true, zH 11 2 9 true, zY 12 .lss 10 11 9 true, zP 13 9 12, zM 14 13, zH 15 2 14 true, zH 16 0 14 true, zG 17 14 true (.len none (.t 16)), zY 18 .lss 15 17 14 true, zP 19 14 18, zM 20 19, zH 21 0 20 true, zH 22 1 20 true, zH 23 2 20 true, zH 24 0 20 true, zH 25 1 20 true, zH 26 2 20 true, zG 27 20 true (.slice none 5 (.t 24) (some (.t 25)) (some (.t 26)) none), zG 28 20 true (.call false (.c (.fn 147 [])) [(.t 21), (.t 22), (.t 23), (.t 27)]), zP 29 20 28, zM 6 29]
def ac128 : ACode := (.seq (zR r128_0) (.seq (zR r128_1) .ret))
def re128 : List AOp := [(.mv (.t 6))]
theorem cf128 : cFn Try.prog 128 = some (30, ac128, re128) := by kernel_rfl
def r143_0 := [zM 10 1, zC 11 .add 10 1, zM 8 11]
def r143_1 := [zM 12 8, zM 13 2, zB 14 .lss 12 13]
def r143_2 := [zM 17 8, zM 9 17]
def r143_3 := [zM 18 9, zM 19 1, zB 20 .gtr 18 19, zM 21 20, zH 22 3 21 true, zH 23 0 21 true, zH 24 9 21 true, zW 25 1 23 24 21 true, zU 26 25 21 true, zH 27 0 21 true, zH 28 9 21 true, zG 29 21 true (.bin .sub (.t 28) (zN 1)), zW 30 1 27 29 21 true, zU 31 30 21 true, zG 32 21 true (.call true (.t 22) [(.t 26), (.t 31)]), zG 33 21 true (.bin .lss (.t 32) (zN 0)), zP 34 21 33]
def r143_4 := [zM 37 0, zM 38 9, zM 39 0, zM 40 9, zC 41 .sub 40 1, zM 42 0, zM 43 9, zC 44 .sub 43 1, zI 45 1 42 44, zD 46 45, zM 47 0, zM 48 9, zI 49 1 47 48, zD 50 49, zI 51 1 37 38, zS (.store 1 (.t 51) (.t 46)), zI 52 1 39 41, zS (.store 1 (.t 52) (.t 50))]
def r143_5 := [zM 35 9, zC 36 .sub 35 1, zM 9 36]
def l143_0 : ACode := (.seq (.seq (zR r143_3) (.cond (.t 34) .skip (.exit 2))) (.seq (.block 3 (zR r143_4)) (zR r143_5)))
def r143_6 := [zM 15 8, zC 16 .add 15 1, zM 8 16]
def l143_1 : ACode := (.seq (.seq (zR r143_1) (.cond (.t 14) .skip (.exit 0))) (.seq (.block 1 (.seq (zR r143_2) (.block 2 (.loop l143_0)))) (zR r143_6)))
def ac143 : ACode := (.seq (zR r143_0) (.block 0 (.loop l143_1)))
def re143 : List AOp := []
theorem cf143 : cFn Try.prog 143 = some (53, ac143, re143) := by kernel_rfl
def r144_0 := [zM 25 2, zM 26 1, zB 27 .sub 25 26, zC 28 .eql 27 1]
def r144_1 := [zM 29 2, zM 10 29]
def r144_2 := [zM 30 3, zM 11 30]
def r144_3 := [zM 31 10, zM 32 11, zB 33 .lss 31 32]
def r144_4 := [zM 34 10, zM 35 11, zB 36 .add 34 35, zF 37 (.conv .u64 (.t 36)), zF 38 (.bin .shr (.t 37) (.c (.lit (.int .u64 1)))), zF 39 (.conv .i64 (.t 38)), zM 12 39]
def r144_5 := [zM 40 4, zM 41 0, zM 42 12, zI 43 1 41 42, zD 44 43, zM 45 0, zM 46 1, zI 47 1 45 46, zD 48 47, zF 49 (.call true (.t 40) [(.t 44), (.t 48)]), zC 50 .lss 49 0]
def r144_6 := [zM 51 12, zC 52 .add 51 1, zM 10 52]
def r144_7 := [zM 53 12, zM 11 53]
def l144_0 : ACode := (.seq (.seq (zR r144_3) (.cond (.t 33) .skip (.exit 0))) (.block 1 (.seq (zR r144_4) (.seq (zR r144_5) (.cond (.t 50) (zR r144_6) (zR r144_7))))))
def r144_8 := [zM 54 1, zM 13 54]
def r144_9 := [zM 55 13, zM 56 10, zC 57 .sub 56 1, zB 58 .lss 55 57]
def r144_10 := [zM 61 0, zM 62 13, zM 63 0, zM 64 13, zC 65 .add 64 1, zM 66 0, zM 67 13, zC 68 .add 67 1, zI 69 1 66 68, zD 70 69, zM 71 0, zM 72 13, zI 73 1 71 72, zD 74 73, zI 75 1 61 62, zS (.store 1 (.t 75) (.t 70)), zI 76 1 63 65, zS (.store 1 (.t 76) (.t 74))]
def r144_11 := [zM 59 13, zC 60 .add 59 1, zM 13 60]
def l144_1 : ACode := (.seq (.seq (zR r144_9) (.cond (.t 58) .skip (.exit 2))) (.seq (.block 3 (zR r144_10)) (zR r144_11)))
def r144_12 := [zM 77 3, zM 78 2, zB 79 .sub 77 78, zC 80 .eql 79 1]
def r144_13 := [zM 81 1, zM 14 81]
def r144_14 := [zM 82 2, zM 15 82]
def r144_15 := [zM 83 14, zM 84 15, zB 85 .lss 83 84]
def r144_16 := [zM 86 14, zM 87 15, zB 88 .add 86 87, zF 89 (.conv .u64 (.t 88)), zF 90 (.bin .shr (.t 89) (.c (.lit (.int .u64 1)))), zF 91 (.conv .i64 (.t 90)), zM 16 91]
def r144_17 := [zM 92 4, zM 93 0, zM 94 2, zI 95 1 93 94, zD 96 95, zM 97 0, zM 98 16, zI 99 1 97 98, zD 100 99, zF 101 (.call true (.t 92) [(.t 96), (.t 100)]), zC 102 .lss 101 0, zF 103 (.un .not (.t 102))]
def r144_18 := [zM 104 16, zC 105 .add 104 1, zM 14 105]
def r144_19 := [zM 106 16, zM 15 106]
def l144_2 : ACode := (.seq (.seq (zR r144_15) (.cond (.t 85) .skip (.exit 4))) (.block 5 (.seq (zR r144_16) (.seq (zR r144_17) (.cond (.t 103) (zR r144_18) (zR r144_19))))))
def r144_20 := [zM 107 2, zM 17 107]
def r144_21 := [zM 108 17, zM 109 14, zB 110 .gtr 108 109]
def r144_22 := [zM 113 0, zM 114 17, zM 115 0, zM 116 17, zC 117 .sub 116 1, zM 118 0, zM 119 17, zC 120 .sub 119 1, zI 121 1 118 120, zD 122 121, zM 123 0, zM 124 17, zI 125 1 123 124, zD 126 125, zI 127 1 113 114, zS (.store 1 (.t 127) (.t 122)), zI 128 1 115 117, zS (.store 1 (.t 128) (.t 126))]
def r144_23 := [zM 111 17, zC 112 .sub 111 1, zM 17 112]
def l144_3 : ACode := (.seq (.seq (zR r144_21) (.cond (.t 110) .skip (.exit 6))) (.seq (.block 7 (zR r144_22)) (zR r144_23)))
def r144_24 := [zM 129 1, zM 130 3, zB 131 .add 129 130, zF 132 (.conv .u64 (.t 131)), zF 133 (.bin .shr (.t 132) (.c (.lit (.int .u64 1)))), zF 134 (.conv .i64 (.t 133)), zM 18 134]
def r144_25 := [zM 135 18, zM 136 2, zB 137 .add 135 136, zM 19 137]
def r144_26 := [zK 20 0, zK 21 0]
def r144_27 := [zM 138 2, zM 139 18, zB 140 .gtr 138 139]
def r144_28 := [zM 141 19, zM 142 3, zB 143 .sub 141 142, zM 20 143]
def r144_29 := [zM 144 18, zM 21 144]
def r144_30 := [zM 145 1, zM 20 145]
def r144_31 := [zM 146 2, zM 21 146]
def r144_32 := [zM 147 19, zC 148 .sub 147 1, zM 22 148]
def r144_33 := [zM 149 20, zM 150 21, zB 151 .lss 149 150]
def r144_34 := [zM 152 20, zM 153 21, zB 154 .add 152 153, zF 155 (.conv .u64 (.t 154)), zF 156 (.bin .shr (.t 155) (.c (.lit (.int .u64 1)))), zF 157 (.conv .i64 (.t 156)), zM 23 157]
def r144_35 := [zM 158 4, zM 159 0, zM 160 22, zM 161 23, zB 162 .sub 160 161, zI 163 1 159 162, zD 164 163, zM 165 0, zM 166 23, zI 167 1 165 166, zD 168 167, zF 169 (.call true (.t 158) [(.t 164), (.t 168)]), zC 170 .lss 169 0, zF 171 (.un .not (.t 170))]
def r144_36 := [zM 172 23, zC 173 .add 172 1, zM 20 173]
def r144_37 := [zM 174 23, zM 21 174]
def l144_4 : ACode := (.seq (.seq (zR r144_33) (.cond (.t 151) .skip (.exit 8))) (.block 9 (.seq (zR r144_34) (.seq (zR r144_35) (.cond (.t 171) (zR r144_36) (zR r144_37))))))
def r144_38 := [zM 175 19, zM 176 20, zB 177 .sub 175 176, zM 24 177]
def r144_39 := [zM 178 20, zM 179 2, zB 180 .lss 178 179, zM 181 180, zH 182 2 181 true, zH 183 24 181 true, zY 184 .lss 182 183 181 true, zP 185 181 184]
def r144_40 := [zM 186 0, zM 187 20, zM 188 2, zM 189 24, zM 190 4, zL 191 false 162 [186, 187, 188, 189, 190]]
def r144_41 := [zM 192 1, zM 193 20, zB 194 .lss 192 193, zM 195 194, zH 196 20 195 true, zH 197 18 195 true, zY 198 .lss 196 197 195 true, zP 199 195 198]
def r144_42 := [zM 200 0, zM 201 1, zM 202 20, zM 203 18, zM 204 4, zL 205 false 144 [200, 201, 202, 203, 204]]
def r144_43 := [zM 206 18, zM 207 24, zB 208 .lss 206 207, zM 209 208, zH 210 24 209 true, zH 211 3 209 true, zY 212 .lss 210 211 209 true, zP 213 209 212]
def r144_44 := [zM 214 0, zM 215 18, zM 216 24, zM 217 3, zM 218 4, zL 219 false 144 [214, 215, 216, 217, 218]]
def ac144 : ACode := (.seq (.seq (zR r144_0) (.cond (.t 28) (.seq (zR r144_1) (.seq (zR r144_2) (.seq (.block 0 (.loop l144_0)) (.seq (.seq (zR r144_8) (.block 2 (.loop l144_1))) .ret)))) .skip)) (.seq (.seq (zR r144_12) (.cond (.t 80) (.seq (zR r144_13) (.seq (zR r144_14) (.seq (.block 4 (.loop l144_2)) (.seq (.seq (zR r144_20) (.block 6 (.loop l144_3))) .ret)))) .skip)) (.seq (zR r144_24) (.seq (zR r144_25) (.seq (zR r144_26) (.seq (.seq (zR r144_27) (.cond (.t 140) (.seq (zR r144_28) (zR r144_29)) (.seq (zR r144_30) (zR r144_31)))) (.seq (zR r144_32) (.seq (.block 8 (.loop l144_4)) (.seq (zR r144_38) (.seq (.seq (zR r144_39) (.cond (.t 185) (zR r144_40) .skip)) (.seq (.seq (zR r144_41) (.cond (.t 199) (zR r144_42) .skip)) (.seq (zR r144_43) (.cond (.t 213) (zR r144_44) .skip)))))))))))))
def re144 : List AOp := []
theorem cf144 : cFn Try.prog 144 = some (220, ac144, re144) := by kernel_rfl
def r145_0 := [zO 6 false]
def r145_1 := [zM 9 0, zJ 10 9, zA 11 14 10, zD 12 11, zM 13 1, zI 14 1 12 13, zD 15 14, zE 16 15, zK 17 0]
def r145_2 := [zB 18 .lss 17 16]
def r145_3 := [zI 19 1 15 17, zD 20 19, zM 8 20]
def r145_4 := [zM 21 8, zF 22 (.conv .i64 (.t 21)), zM 23 2, zB 24 .eql 22 23]
def r145_5 := [zO 6 true]
def r145_6 := [zC 25 .add 17 1, zM 17 25]
def l145_0 : ACode := (.seq (zR r145_2) (.seq (.cond (.t 18) .skip (.exit 0)) (.seq (.block 1 (.seq (zR r145_3) (.seq (zR r145_4) (.cond (.t 24) (.seq (zR r145_5) .ret) .skip)))) (zR r145_6))))
def r145_7 := [zO 6 false]
def ac145 : ACode := (.seq (zR r145_0) (.seq (.seq (zR r145_1) (.block 0 (.loop l145_0))) (.seq (zR r145_7) .ret)))
def re145 : List AOp := [(.mv (.t 6))]
theorem cf145 : cFn Try.prog 145 = some (26, ac145, re145) := by kernel_rfl
def r146_0 := [zF 1 (.box (.t 0)), zO 2 false]
def r146_1 := [zA 3 0 1, zD 4 3, zF 5 (.bin .eql (.t 4) (.c (.lit (.int .i8 17)))), zM 6 5, zG 7 6 false (.fieldAddr 0 (.t 1)), zU 8 7 6 false, zG 9 6 false (.bin .eql (.t 8) (.c (.lit (.int .i8 13)))), zQ 10 6 9, zM 11 10, zG 12 11 false (.fieldAddr 0 (.t 1)), zU 13 12 11 false, zG 14 11 false (.bin .eql (.t 13) (.c (.lit (.int .i8 14)))), zQ 15 11 14, zM 2 15]
def ac146 : ACode := (.seq (zR r146_0) (.seq (zR r146_1) .ret))
def re146 : List AOp := [(.mv (.t 2))]
theorem cf146 : cFn Try.prog 146 = some (16, ac146, re146) := by kernel_rfl
def r147_0 := [zF 7 (.box (.t 3)), zO 8 false]
def r147_1 := [zM 12 0, zM 13 1, zI 14 5 12 13, zV 15 true 5 14, zM 16 0, zM 17 2, zI 18 5 16 17, zV 19 true 5 18, zF 9 (.alloc [(.lit (.int .i8 0)), (.lit (.int .u8 0)), (.lit (.int .u8 0)), (.lit (.int .u8 0)), (.lit (.int .i64 0))]), zF 10 (.alloc [(.lit (.int .i8 0)), (.lit (.int .u8 0)), (.lit (.int .u8 0)), (.lit (.int .u8 0)), (.lit (.int .i64 0))]), zS (.store 5 (.t 9) (.t 15)), zS (.store 5 (.t 10) (.t 19))]
def r147_2 := [zV 20 true 5 9, zL 21 false 163 [20], zF 22 (.un .not (.t 21)), zM 23 22, zG 24 23 false (.load true 5 (.t 10)), zG 25 23 false (.call false (.c (.fn 163 [])) [(.t 24)]), zG 26 23 false (.un .not (.t 25)), zQ 27 23 26, zM 28 27, zG 29 28 false (.fieldAddr 0 (.t 9)), zU 30 29 28 false, zG 31 28 false (.bin .eql (.t 30) (.c (.lit (.int .i8 15)))), zH 32 31 28 false, zG 33 32 true (.fieldAddr 0 (.t 10)), zU 34 33 32 true, zG 35 32 true (.bin .eql (.t 34) (.c (.lit (.int .i8 15)))), zG 36 28 false (.pick (.t 32) (.t 35) (.c (.lit (.bool false)))), zQ 37 28 36]
def r147_3 := [zO 8 false]
def r147_4 := [zF 38 (.mkfn 164 [(.t 7)]), zM 11 38]
def r147_5 := [zA 39 2 9, zD 40 39, zA 41 2 10, zD 42 41, zB 43 .neq 40 42, zM 44 43, zG 45 44 false (.fieldAddr 4 (.t 9)), zU 46 45 44 false, zG 47 44 false (.conv .u8 (.t 46)), zG 48 44 false (.fieldAddr 4 (.t 10)), zU 49 48 44 false, zG 50 44 false (.conv .u8 (.t 49)), zY 51 .eql 47 50 44 false, zQ 52 44 51, zM 53 52, zH 54 11 53 false, zG 55 53 false (.fieldAddr 2 (.t 9)), zU 56 55 53 false, zG 57 53 false (.call false (.t 54) [(.t 56)]), zQ 58 53 57, zM 8 58]
def ac147 : ACode := (.seq (zR r147_0) (.seq (.ops r147_1 [(14, 9), (14, 10), (18, 9), (18, 10)]) (.seq (.seq (zR r147_2) (.cond (.t 37) (.seq (zR r147_3) .ret) .skip)) (.seq (zR r147_4) (.seq (zR r147_5) .ret)))))
def re147 : List AOp := [(.mv (.t 8))]
theorem cf147 : cFn Try.prog 147 = some (59, ac147, re147) := by kernel_rfl
def r162_0 := [zM 12 2, zM 13 1, zB 14 .sub 12 13, zM 10 14]
def r162_1 := [zM 15 3, zM 16 2, zB 17 .sub 15 16, zM 11 17]
def r162_2 := [zM 18 10, zM 19 11, zB 20 .neq 18 19]
def r162_3 := [zM 21 10, zM 22 11, zB 23 .gtr 21 22]
def r162_4 := [zM 24 0, zM 25 2, zM 26 10, zB 27 .sub 25 26, zM 28 2, zM 29 11, zM 30 4, zL 31 false 169 [24, 27, 28, 29, 30]]
def r162_5 := [zM 32 10, zM 33 11, zB 34 .sub 32 33, zM 10 34]
def r162_6 := [zM 35 0, zM 36 2, zM 37 10, zB 38 .sub 36 37, zM 39 2, zM 40 11, zB 41 .add 39 40, zM 42 10, zB 43 .sub 41 42, zM 44 10, zM 45 4, zL 46 false 169 [35, 38, 43, 44, 45]]
def r162_7 := [zM 47 11, zM 48 10, zB 49 .sub 47 48, zM 11 49]
def l162_0 : ACode := (.seq (.seq (zR r162_2) (.cond (.t 20) .skip (.exit 0))) (.block 1 (.seq (zR r162_3) (.cond (.t 23) (.seq (zR r162_4) (zR r162_5)) (.seq (zR r162_6) (zR r162_7))))))
def r162_8 := [zM 50 0, zM 51 2, zM 52 10, zB 53 .sub 51 52, zM 54 2, zM 55 10, zM 56 4, zL 57 false 169 [50, 53, 54, 55, 56]]
def ac162 : ACode := (.seq (zR r162_0) (.seq (zR r162_1) (.seq (.block 0 (.loop l162_0)) (zR r162_8))))
def re162 : List AOp := []
theorem cf162 : cFn Try.prog 162 = some (58, ac162, re162) := by kernel_rfl
def r163_0 := [zF 1 (.box (.t 0)), zO 2 false]
def r163_1 := [zA 3 0 1, zD 4 3, zF 5 (.bin .eql (.t 4) (.c (.lit (.int .i8 15)))), zM 6 5, zG 7 6 false (.fieldAddr 0 (.t 1)), zU 8 7 6 false, zG 9 6 false (.bin .eql (.t 8) (.c (.lit (.int .i8 16)))), zQ 10 6 9, zM 11 10, zG 12 11 true (.load true 5 (.t 1)), zG 13 11 true (.call false (.c (.fn 60 [])) [(.t 12)]), zG 14 11 true (.bin .eql (.t 13) (zN 0)), zP 15 11 14, zM 2 15]
def ac163 : ACode := (.seq (zR r163_0) (.seq (zR r163_1) .ret))
def re163 : List AOp := [(.mv (.t 2))]
theorem cf163 : cFn Try.prog 163 = some (16, ac163, re163) := by kernel_rfl
def r164_0 := [zO 3 false]
def r164_1 := [zD 8 1, zE 9 8, zK 10 0]
def r164_2 := [zB 11 .lss 10 9]
def r164_3 := [zI 12 5 8 10, zV 13 true 5 12, zF 5 (.alloc [(.lit (.int .i8 0)), (.lit (.int .u8 0)), (.lit (.int .u8 0)), (.lit (.int .u8 0)), (.lit (.int .i64 0))]), zS (.store 5 (.t 5) (.t 13))]
def r164_4 := [zV 15 true 5 5, zL 16 false 16 [15], zM 14 16, zX 17 14 0, zX 18 14 1, zM 6 17, zM 7 18]
def r164_5 := [zM 19 7, zM 20 19, zH 21 6 20 true, zH 22 0 20 true, zY 23 .eql 21 22 20 true, zP 24 20 23]
def r164_6 := [zO 3 true]
def r164_7 := [zC 25 .add 10 1, zM 10 25]
def l164_0 : ACode := (.seq (zR r164_2) (.seq (.cond (.t 11) .skip (.exit 0)) (.seq (.block 1 (.seq (zR r164_3) (.seq (zR r164_4) (.seq (zR r164_5) (.cond (.t 24) (.seq (zR r164_6) .ret) .skip))))) (zR r164_7))))
def r164_8 := [zO 3 false]
def ac164 : ACode := (.seq (zR r164_0) (.seq (.seq (zR r164_1) (.block 0 (.loop l164_0))) (.seq (zR r164_8) .ret)))
def re164 : List AOp := [(.mv (.t 3))]
theorem cf164 : cFn Try.prog 164 = some (26, ac164, re164) := by kernel_rfl
def r169_0 := [zK 10 0]
def r169_1 := [zM 11 10, zM 12 3, zB 13 .lss 11 12]
def r169_2 := [zM 16 0, zM 17 1, zM 18 10, zB 19 .add 17 18, zM 20 0, zM 21 2, zM 22 10, zB 23 .add 21 22, zM 24 0, zM 25 2, zM 26 10, zB 27 .add 25 26, zI 28 1 24 27, zD 29 28, zM 30 0, zM 31 1, zM 32 10, zB 33 .add 31 32, zI 34 1 30 33, zD 35 34, zI 36 1 16 19, zS (.store 1 (.t 36) (.t 29)), zI 37 1 20 23, zS (.store 1 (.t 37) (.t 35))]
def r169_3 := [zM 14 10, zC 15 .add 14 1, zM 10 15]
def l169_0 : ACode := (.seq (.seq (zR r169_1) (.cond (.t 13) .skip (.exit 0))) (.seq (.block 1 (zR r169_2)) (zR r169_3)))
def ac169 : ACode := (.seq (zR r169_0) (.block 0 (.loop l169_0)))
def re169 : List AOp := []
theorem cf169 : cFn Try.prog 169 = some (38, ac169, re169) := by kernel_rfl
attribute [push_cast] r3_0 r3_1 r3_2 r3_3 r3_4 r3_5 r3_6 r3_7 r3_8 r3_9 r3_10 r3_11 r3_12 r3_13 r3_14 r3_15 r3_16 r3_17 r3_18 r3_19 r3_20 r3_21 r3_22 r3_23 r3_24 r3_25 r3_26 r12_0
   r12_1 r12_2 r12_3 r12_4 r12_5 r12_6 r12_7 r12_8 r13_0 r13_1 r13_2 r13_3 r13_4 r13_5 r13_6 r13_7 r13_8 r13_9 r13_10 r13_11 r13_12 r13_13 r13_14 r13_15 r13_16 r13_17 r13_18 r13_19
   r13_20 r14_0 r14_1 r14_2 r14_3 r14_4 r14_5 r14_6 r14_7 r14_8 r14_9 r14_10 r14_11 r14_12 r14_13 r14_14 r14_15 r14_16 r14_17 r14_18 r14_19 r14_20 r14_21 r14_22 r14_23 r15_0 r15_1
   r15_2 r15_3 r15_4 r16_0 r16_1 r16_2 r16_3 r16_4 r42_0 r42_1 r42_2 r42_3 r42_4 r42_5 r42_6 r42_7 r42_8 r42_9 r42_10 r42_11 r50_0 r50_1 r50_2 r50_3 r50_4 r51_0 r51_1 r51_2 r51_3
   r51_4 r51_5 r51_6 r51_7 r52_0 r52_1 r52_2 r52_3 r52_4 r52_5 r52_6 r52_7 r52_8 r52_9 r52_10 r52_11 r52_12 r52_13 r52_14 r53_0 r53_1 r53_2 r53_3 r53_4 r53_5 r53_6 r53_7 r53_8 r54_0
   r54_1 r54_2 r54_3 r54_4 r54_5 r54_6 r54_7 r55_0 r55_1 r55_2 r56_0 r56_1 r56_2 r56_3 r56_4 r56_5 r56_6 r56_7 r56_8 r56_9 r56_10 r57_0 r57_1 r57_2 r57_3 r57_4 r57_5 r57_6 r57_7
   r57_8 r57_9 r57_10 r57_11 r57_12 r57_13 r57_14 r57_15 r57_16 r57_17 r57_18 r58_0 r58_1 r58_2 r58_3 r58_4 r58_5 r58_6 r58_7 r58_8 r58_9 r58_10 r58_11 r58_12 r59_0 r59_1 r59_2
   r59_3 r59_4 r60_0 r60_1 r60_2 r60_3 r60_4 r60_5 r60_6 r60_7 r60_8 r60_9 r60_10 r60_11 r60_12 r60_13 r82_0 r82_1 r82_2 r82_3 r82_4 r82_5 r82_6 r82_7 r82_8 r82_9 r82_10 r82_11
   r82_12 r82_13 r82_14 r82_15 r82_16 r82_17 r82_18 r82_19 r82_20 r82_21 r83_0 r83_1 r83_2 r83_3 r83_4 r83_5 r83_6 r83_7 r83_8 r84_0 r84_1 r85_0 r85_1 r85_2 r85_3 r85_4 r85_5 r85_6
   r86_0 r86_1 r86_2 r86_3 r86_4 r87_0 r87_1 r87_2 r87_3 r87_4 r87_5 r87_6 r87_7 r87_8 r88_0 r88_1 r88_2 r88_3 r88_4 r88_5 r88_6 r88_7 r88_8 r88_9 r89_0 r89_1 r90_0 r90_1 r90_2
   r91_0 r91_1 r108_0 r109_0 r109_1 r110_0 r110_1 r110_2 r110_3 r110_4 r110_5 r110_6 r110_7 r110_8 r110_9 r110_10 r110_11 r110_12 r111_0 r111_1 r111_2 r111_3 r111_4 r111_5 r111_6
   r111_7 r111_8 r111_9 r111_10 r111_11 r112_0 r112_1 r112_2 r112_3 r112_4 r112_5 r112_6 r112_7 r112_8 r112_9 r112_10 r112_11 r112_12 r112_13 r113_0 r113_1 r114_0 r114_1 r115_0
   r115_1 r115_2 r123_0 r123_1 r123_2 r123_3 r123_4 r123_5 r123_6 r123_7 r123_8 r123_9 r123_10 r123_11 r123_12 r123_13 r123_14 r123_15 r123_16 r124_0 r124_1 r124_2 r124_3 r124_4
   r124_5 r124_6 r124_7 r125_0 r125_1 r125_2 r125_3 r125_4 r125_5 r126_0 r126_1 r126_2 r127_0 r127_1 r127_2 r127_3 r127_4 r127_5 r127_6 r127_7 r127_8 r127_9 r127_10 r127_11 r127_12
   r127_13 r128_0 r128_1 r143_0 r143_1 r143_2 r143_3 r143_4 r143_5 r143_6 r144_0 r144_1 r144_2 r144_3 r144_4 r144_5 r144_6 r144_7 r144_8 r144_9 r144_10 r144_11 r144_12 r144_13
   r144_14 r144_15 r144_16 r144_17 r144_18 r144_19 r144_20 r144_21 r144_22 r144_23 r144_24 r144_25 r144_26 r144_27 r144_28 r144_29 r144_30 r144_31 r144_32 r144_33 r144_34 r144_35
   r144_36 r144_37 r144_38 r144_39 r144_40 r144_41 r144_42 r144_43 r144_44 r145_0 r145_1 r145_2 r145_3 r145_4 r145_5 r145_6 r145_7 r146_0 r146_1 r147_0 r147_1 r147_2 r147_3 r147_4
   r147_5 r162_0 r162_1 r162_2 r162_3 r162_4 r162_5 r162_6 r162_7 r162_8 r163_0 r163_1 r164_0 r164_1 r164_2 r164_3 r164_4 r164_5 r164_6 r164_7 r164_8 r169_0 r169_1 r169_2 r169_3
end Go.Proofs.Hx
