import Derived.Test.YtcdibfkebojefaaAmP
import Derived.Test.YtcdibfkebojefaaProg
import Derived.KernelRfl
set_option linter.unusedVariables false
set_option linter.unusedSimpArgs false
set_option maxRecDepth 100000
namespace Go.Proofs.Hx
open Go Go.Proofs
def zN (n : Int) : AOpd := .c (.lit (.int .i64 n))
def zM (d x : Nat) : yW := ⟨some d, .mv (.t x), none⟩
def zH (d x g : Nat) (w : Bool) : yW := ⟨some d, .mv (.t x), some (g, w)⟩
def zF (d : Nat) (o : AOp) : yW := ⟨some d, o, none⟩
def zG (d g : Nat) (w : Bool) (o : AOp) : yW := ⟨some d, o, some (g, w)⟩
def zS (o : AOp) : yW := ⟨none, o, none⟩
def zD (d x : Nat) : yW := ⟨some d, .load false 1 (.t x), none⟩
def zV (d : Nat) (g : Bool) (n x : Nat) : yW := ⟨some d, .load g n (.t x), none⟩
def zA (d o x : Nat) : yW := ⟨some d, .fieldAddr o (.t x), none⟩
def zI (d s x y : Nat) : yW := ⟨some d, .idxAddr none s (.t x) (.t y), none⟩
def zB (d : Nat) (o : BinOp) (x y : Nat) : yW := ⟨some d, .bin o (.t x) (.t y), none⟩
def zC (d : Nat) (o : BinOp) (x : Nat) (n : Int) : yW := ⟨some d, .bin o (.t x) (zN n), none⟩
def zX (d x i : Nat) : yW := ⟨some d, .ext (.t x) i, none⟩
def zE (d x : Nat) : yW := ⟨some d, .len none (.t x), none⟩
def zP (d c a : Nat) : yW := ⟨some d, .pick (.t c) (.t a) (.c (.lit (.bool false))), none⟩
def zQ (d c a : Nat) : yW := ⟨some d, .pick (.t c) (.c (.lit (.bool true))) (.t a), none⟩
def zO (d : Nat) (b : Bool) : yW := ⟨some d, .mv (.c (.lit (.bool b))), none⟩
def zK (d : Nat) (n : Int) : yW := ⟨some d, .mv (zN n), none⟩
def zJ (d x : Nat) : yW := ⟨some d, .nilchk (.t x), none⟩
def zL (d : Nat) (q : Bool) (f : Nat) (l : List Nat) : yW := ⟨some d, .call q (.c (.fn f [])) (l.map .t), none⟩
def zU (d x g : Nat) (w : Bool) : yW := ⟨some d, .load false 1 (.t x), some (g, w)⟩
def zW (d s x y g : Nat) (w : Bool) : yW := ⟨some d, .idxAddr none s (.t x) (.t y), some (g, w)⟩
def zY (d : Nat) (o : BinOp) (x y g : Nat) (w : Bool) : yW := ⟨some d, .bin o (.t x) (.t y), some (g, w)⟩
abbrev zR (l : List yW) : ACode := .ops l []
attribute [push_cast] zN zM zH zF zG zS zD zV zA zI zB zC zX zE zP zQ zO zK zJ zL zU zW zY
theorem qN : Try.prog.follows .mixedOrders = true := by kernel_rfl
def r13_0 := [zF 3 (.box (.t 1)), zO 4 false]
def r13_1 := [zM 16 0, zE 17 16, zC 18 .gtr 17 60]
def r13_2 := [zL 19 false 43 [], zM 4 19]
def r13_3 := [zM 21 0, zV 22 true 13 3, zL 23 false 44 [21, 22], zM 20 23, zX 24 20 0, zX 25 20 1, zM 5 24, zM 6 25]
def r13_4 := [zM 27 0, zV 28 true 13 3, zL 29 false 40 [27, 28], zM 26 29, zX 30 26 0, zX 31 26 1, zM 7 30, zM 8 31]
def r13_5 := [zM 32 6, zC 33 .neq 32 0, zM 34 33, zH 35 8 34 false, zG 36 34 false (.bin .neq (.t 35) (zN 0)), zQ 37 34 36]
def r13_6 := [zM 38 6, zM 39 8, zB 40 .eql 38 39, zM 41 40, zH 42 8 41 false, zG 43 41 false (.bin .eql (.t 42) (zN 0)), zH 44 43 41 false, zH 45 6 44 true, zG 46 44 true (.bin .eql (.t 45) (zN 21)), zG 47 41 false (.pick (.t 44) (.t 46) (.c (.lit (.bool false)))), zQ 48 41 47, zM 49 48, zH 50 5 49 true, zG 51 49 true (.len none (.t 50)), zG 52 49 true (.bin .eql (.t 51) (zN 0)), zP 53 49 52, zM 54 53, zG 55 54 true (.call false (.c (.fn 43 [])) []), zP 56 54 55, zM 4 56]
def r13_7 := [zM 57 5, zE 58 57, zM 59 0, zE 60 59, zB 61 .neq 58 60]
def r13_8 := [zO 4 false]
def r13_9 := [zK 9 0]
def r13_10 := [zM 62 9, zM 63 0, zE 64 63, zB 65 .lss 62 64]
def r13_11 := [zM 69 0, zM 70 9, zI 71 5 69 70, zA 72 0 71, zD 73 72, zL 74 false 41 [73], zM 68 74, zX 75 68 0, zX 76 68 1, zM 10 75, zM 11 76]
def r13_12 := [zM 77 5, zM 78 9, zI 79 1 77 78, zD 80 79, zC 81 .lss 80 0, zM 82 81, zH 83 5 82 false, zH 84 9 82 false, zW 85 1 83 84 82 false, zU 86 85 82 false, zH 87 0 82 false, zG 88 82 false (.len none (.t 87)), zG 89 82 false (.bin .mul (zN 8) (.t 88)), zY 90 .gtr 86 89 82 false, zQ 91 82 90]
def r13_13 := [zO 4 false]
def r13_14 := [zK 12 0]
def r13_15 := [zM 92 12, zM 93 5, zM 94 9, zI 95 1 93 94, zD 96 95, zB 97 .lss 92 96]
def r13_16 := [zO 13 false]
def r13_17 := [zK 14 0]
def r13_18 := [zM 100 14, zM 101 7, zE 102 101, zB 103 .lss 100 102]
def r13_19 := [zM 106 13, zM 107 106, zH 108 7 107 false, zH 109 14 107 false, zW 110 5 108 109 107 false, zG 111 107 false (.fieldAddr 1 (.t 110)), zU 112 111 107 false, zH 113 9 107 false, zY 114 .eql 112 113 107 false, zH 115 114 107 false, zH 116 5 115 true, zH 117 7 115 true, zH 118 14 115 true, zW 119 5 117 118 115 true, zG 120 115 true (.fieldAddr 0 (.t 119)), zU 121 120 115 true, zW 122 1 116 121 115 true, zU 123 122 115 true, zH 124 7 115 true, zH 125 14 115 true, zW 126 5 124 125 115 true, zG 127 115 true (.fieldAddr 2 (.t 126)), zU 128 127 115 true, zY 129 .add 123 128 115 true, zH 130 12 115 true, zY 131 .gtr 129 130 115 true, zG 132 107 false (.pick (.t 115) (.t 131) (.c (.lit (.bool false)))), zQ 133 107 132, zM 13 133]
def r13_20 := [zM 104 14, zC 105 .add 104 1, zM 14 105]
def l13_0 : ACode := (.seq (.seq (zR r13_18) (.cond (.t 103) .skip (.exit 4))) (.seq (.block 5 (zR r13_19)) (zR r13_20)))
def r13_21 := [zK 15 0]
def r13_22 := [zM 134 15, zM 135 10, zA 136 8 3, zF 137 (.idxAddr (some 4) 1 (.t 136) (.t 135)), zD 138 137, zB 139 .lss 134 138]
def r13_23 := [zM 142 13, zM 143 142, zH 144 0 143 false, zG 145 143 false (.load true 13 (.t 3)), zH 146 5 143 false, zH 147 10 143 false, zH 148 12 143 false, zH 149 15 143 false, zY 150 .add 148 149 143 false, zG 151 143 false (.call true (.c (.fn 48 [])) [(.t 144), (.t 145), (.t 146), (.t 147), (.t 150)]), zH 152 10 143 false, zG 153 143 false (.fieldAddr 0 (.t 3)), zG 154 143 false (.idxAddr (some 4) 1 (.t 153) (.t 152)), zU 155 154 143 false, zY 156 .geq 151 155 143 false, zQ 157 143 156, zM 13 157]
def r13_24 := [zM 140 15, zC 141 .add 140 1, zM 15 141]
def l13_1 : ACode := (.seq (.seq (zR r13_22) (.cond (.t 139) .skip (.exit 6))) (.seq (.block 7 (zR r13_23)) (zR r13_24)))
def r13_25 := [zM 158 13, zF 159 (.un .not (.t 158))]
def r13_26 := [zO 4 false]
def r13_27 := [zM 98 12, zC 99 .add 98 1, zM 12 99]
def l13_2 : ACode := (.seq (.seq (zR r13_15) (.cond (.t 97) .skip (.exit 2))) (.seq (.block 3 (.seq (zR r13_16) (.seq (.seq (zR r13_17) (.block 4 (.loop l13_0))) (.seq (.seq (zR r13_21) (.block 6 (.loop l13_1))) (.seq (zR r13_25) (.cond (.t 159) (.seq (zR r13_26) .ret) .skip)))))) (zR r13_27)))
def r13_28 := [zM 66 9, zC 67 .add 66 1, zM 9 67]
def l13_3 : ACode := (.seq (.seq (zR r13_10) (.cond (.t 65) .skip (.exit 0))) (.seq (.block 1 (.seq (zR r13_11) (.seq (.seq (zR r13_12) (.cond (.t 91) (.seq (zR r13_13) .ret) .skip)) (.seq (zR r13_14) (.block 2 (.loop l13_2)))))) (zR r13_28)))
def r13_29 := [zL 160 false 43 [], zM 4 160]
def ac13 : ACode := (.seq (zR r13_0) (.seq (.seq (zR r13_1) (.cond (.t 18) (.seq (zR r13_2) .ret) .skip)) (.seq (zR r13_3) (.seq (zR r13_4) (.seq (.seq (zR r13_5) (.cond (.t 37) (.seq (zR r13_6) .ret) .skip)) (.seq (.seq (zR r13_7) (.cond (.t 61) (.seq (zR r13_8) .ret) .skip)) (.seq (.seq (zR r13_9) (.block 0 (.loop l13_3))) (.seq (zR r13_29) .ret))))))))
def re13 : List AOp := [(.mv (.t 4))]
theorem cf13 : cFn Try.prog 13 = some (161, ac13, re13) := by kernel_rfl
def r14_0 := [zF 3 (.box (.t 1)), zO 4 false]
def r14_1 := [zM 14 0, zE 15 14, zC 16 .gtr 15 60]
def r14_2 := [zL 17 false 43 [], zM 4 17]
def r14_3 := [zM 19 0, zV 20 true 13 3, zL 21 false 44 [19, 20], zM 18 21, zX 22 18 0, zX 23 18 1, zM 5 22, zM 6 23]
def r14_4 := [zM 24 6, zC 25 .neq 24 0]
def r14_5 := [zM 26 5, zE 27 26, zC 28 .eql 27 0, zM 29 28, zH 30 0 29 true, zG 31 29 true (.load true 13 (.t 3)), zH 32 5 29 true, zG 33 29 true (.call false (.c (.fn 46 [])) [(.t 30), (.t 31), (.t 32)]), zG 34 29 true (.un .not (.t 33)), zP 35 29 34, zM 36 35, zG 37 36 true (.call false (.c (.fn 43 [])) []), zP 38 36 37, zM 4 38]
def r14_6 := [zM 40 0, zV 41 true 13 3, zL 42 false 40 [40, 41], zM 39 42, zX 43 39 0, zX 44 39 1, zM 7 43, zM 8 44]
def r14_7 := [zM 45 5, zE 46 45, zM 47 0, zE 48 47, zB 49 .neq 46 48, zM 50 49, zH 51 0 50 false, zG 52 50 false (.load true 13 (.t 3)), zH 53 5 50 false, zG 54 50 false (.call false (.c (.fn 46 [])) [(.t 51), (.t 52), (.t 53)]), zG 55 50 false (.un .not (.t 54)), zQ 56 50 55]
def r14_8 := [zO 4 false]
def r14_9 := [zK 9 0]
def r14_10 := [zM 57 9, zM 58 7, zE 59 58, zB 60 .lss 57 59]
def r14_11 := [zM 63 5, zM 64 7, zM 65 9, zI 66 5 64 65, zA 67 1 66, zD 68 67, zI 69 1 63 68, zD 70 69, zM 71 5, zM 72 7, zM 73 9, zI 74 5 72 73, zA 75 0 74, zD 76 75, zI 77 1 71 76, zD 78 77, zM 79 7, zM 80 9, zI 81 5 79 80, zA 82 2 81, zD 83 82, zB 84 .add 78 83, zB 85 .lss 70 84]
def r14_12 := [zO 4 false]
def r14_13 := [zM 61 9, zC 62 .add 61 1, zM 9 62]
def l14_0 : ACode := (.seq (.seq (zR r14_10) (.cond (.t 60) .skip (.exit 0))) (.seq (.block 1 (.seq (zR r14_11) (.cond (.t 85) (.seq (zR r14_12) .ret) .skip))) (zR r14_13)))
def r14_14 := [zK 10 0]
def r14_15 := [zM 86 10, zM 87 0, zE 88 87, zB 89 .lss 86 88]
def r14_16 := [zM 93 0, zM 94 10, zI 95 5 93 94, zA 96 0 95, zD 97 96, zL 98 false 41 [97], zM 92 98, zX 99 92 0, zX 100 92 1, zM 11 99, zM 12 100]
def r14_17 := [zK 13 0]
def r14_18 := [zM 101 13, zM 102 11, zA 103 8 3, zF 104 (.idxAddr (some 4) 1 (.t 103) (.t 102)), zD 105 104, zB 106 .lss 101 105]
def r14_19 := [zM 109 0, zV 110 true 13 3, zM 111 5, zM 112 11, zM 113 5, zM 114 10, zI 115 1 113 114, zD 116 115, zM 117 13, zB 118 .add 116 117, zL 119 true 48 [109, 110, 111, 112, 118], zM 120 11, zA 121 0 3, zF 122 (.idxAddr (some 4) 1 (.t 121) (.t 120)), zD 123 122, zB 124 .gtr 119 123]
def r14_20 := [zO 4 false]
def r14_21 := [zM 107 13, zC 108 .add 107 1, zM 13 108]
def l14_1 : ACode := (.seq (.seq (zR r14_18) (.cond (.t 106) .skip (.exit 4))) (.seq (.block 5 (.seq (zR r14_19) (.cond (.t 124) (.seq (zR r14_20) .ret) .skip))) (zR r14_21)))
def r14_22 := [zM 90 10, zC 91 .add 90 1, zM 10 91]
def l14_2 : ACode := (.seq (.seq (zR r14_15) (.cond (.t 89) .skip (.exit 2))) (.seq (.block 3 (.seq (zR r14_16) (.seq (zR r14_17) (.block 4 (.loop l14_1))))) (zR r14_22)))
def r14_23 := [zL 125 false 43 [], zM 4 125]
def ac14 : ACode := (.seq (zR r14_0) (.seq (.seq (zR r14_1) (.cond (.t 16) (.seq (zR r14_2) .ret) .skip)) (.seq (zR r14_3) (.seq (.seq (zR r14_4) (.cond (.t 25) (.seq (zR r14_5) .ret) .skip)) (.seq (zR r14_6) (.seq (.seq (zR r14_7) (.cond (.t 56) (.seq (zR r14_8) .ret) .skip)) (.seq (.seq (zR r14_9) (.block 0 (.loop l14_0))) (.seq (.seq (zR r14_14) (.block 2 (.loop l14_2))) (.seq (zR r14_23) .ret)))))))))
def re14 : List AOp := [(.mv (.t 4))]
theorem cf14 : cFn Try.prog 14 = some (126, ac14, re14) := by kernel_rfl
def r34_0 := [zO 4 false]
def r34_1 := [zM 6 0, zE 7 6, zM 8 1, zE 9 8, zB 10 .neq 7 9]
def r34_2 := [zO 4 false]
def r34_3 := [zK 5 0]
def r34_4 := [zM 11 5, zM 12 0, zE 13 12, zB 14 .lss 11 13]
def r34_5 := [zM 17 0, zM 18 5, zI 19 1 17 18, zD 20 19, zM 21 1, zM 22 5, zI 23 1 21 22, zD 24 23, zB 25 .neq 20 24]
def r34_6 := [zO 4 false]
def r34_7 := [zM 15 5, zC 16 .add 15 1, zM 5 16]
def l34_0 : ACode := (.seq (.seq (zR r34_4) (.cond (.t 14) .skip (.exit 0))) (.seq (.block 1 (.seq (zR r34_5) (.cond (.t 25) (.seq (zR r34_6) .ret) .skip))) (zR r34_7)))
def r34_8 := [zO 4 true]
def ac34 : ACode := (.seq (zR r34_0) (.seq (.seq (zR r34_1) (.cond (.t 10) (.seq (zR r34_2) .ret) .skip)) (.seq (.seq (zR r34_3) (.block 0 (.loop l34_0))) (.seq (zR r34_8) .ret))))
def re34 : List AOp := [(.mv (.t 4))]
theorem cf34 : cFn Try.prog 34 = some (26, ac34, re34) := by kernel_rfl
def r36_0 := [zF 3 (.box (.t 1)), zF 4 (.mv (.c .nil)), zK 5 0]
def r36_1 := [zM 18 0, zV 19 true 13 3, zL 20 false 40 [18, 19], zM 17 20, zX 21 17 0, zX 22 17 1, zM 6 21, zM 7 22]
def r36_2 := [zM 23 7, zC 24 .neq 23 0]
def r36_3 := [zM 25 7, zF 4 (.mv (.c .nil)), zM 5 25]
def r36_4 := [zM 26 0, zE 27 26, zF 28 (.mksl 1 24 [.nil] (.t 27) (.t 27)), zM 8 28]
def r36_5 := [zM 29 6, zE 30 29, zK 31 0]
def r36_6 := [zB 32 .lss 31 30]
def r36_7 := [zI 33 5 29 31, zV 34 true 5 33, zF 10 (.alloc [(.lit (.int .i64 0)), (.lit (.int .i64 0)), (.lit (.int .i64 0)), (.lit (.int .i64 0)), (.lit (.int .i8 0))]), zS (.store 5 (.t 10) (.t 34))]
def r36_8 := [zM 35 8, zA 36 0 10, zD 37 36, zM 38 8, zA 39 0 10, zD 40 39, zI 41 1 38 40, zD 42 41, zV 43 true 5 10, zF 44 (.buildSl 5 1 [(.lit (.int .i64 0)), (.lit (.int .i64 0)), (.lit (.int .i64 0)), (.lit (.int .i64 0)), (.lit (.int .i8 0))] [(0, (5, (.t 43)))]), zF 45 (.append 5 40 (.t 42) (.t 44)), zI 46 1 35 37, zS (.store 1 (.t 46) (.t 45))]
def r36_9 := [zC 47 .add 31 1, zM 31 47]
def l36_0 : ACode := (.seq (zR r36_6) (.seq (.cond (.t 32) .skip (.exit 0)) (.seq (.block 1 (.seq (zR r36_7) (.ops r36_8 [(36, 44), (36, 45), (36, 42), (39, 44), (41, 44)]))) (zR r36_9))))
def r36_10 := [zM 48 0, zE 49 48, zF 50 (.mksl 1 8 [(.lit (.int .i64 0))] (.t 49) (.t 49)), zM 11 50]
def r36_11 := [zM 51 0, zE 52 51, zC 53 .sub 52 1, zM 12 53]
def r36_12 := [zM 54 12, zC 55 .geq 54 0]
def r36_13 := [zM 59 0, zM 60 12, zI 61 5 59 60, zA 62 0 61, zD 63 62, zL 64 false 41 [63], zM 58 64, zX 65 58 0, zX 66 58 1, zM 13 65, zM 14 66]
def r36_14 := [zM 67 11, zM 68 12, zM 69 13, zA 70 4 3, zF 71 (.idxAddr (some 4) 1 (.t 70) (.t 69)), zD 72 71, zI 73 1 67 68, zS (.store 1 (.t 73) (.t 72))]
def r36_15 := [zM 74 8, zM 75 12, zI 76 1 74 75, zD 77 76, zE 78 77, zK 79 0]
def r36_16 := [zB 80 .lss 79 78]
def r36_17 := [zI 81 5 77 79, zV 82 true 5 81, zF 16 (.alloc [(.lit (.int .i64 0)), (.lit (.int .i64 0)), (.lit (.int .i64 0)), (.lit (.int .i64 0)), (.lit (.int .i8 0))]), zS (.store 5 (.t 16) (.t 82))]
def r36_18 := [zM 83 11, zM 84 12, zM 85 11, zM 86 12, zI 87 1 85 86, zD 88 87, zA 89 2 16, zD 90 89, zM 91 11, zA 92 1 16, zD 93 92, zI 94 1 91 93, zD 95 94, zB 96 .add 90 95, zF 97 (.maxs [(.t 88), (.t 96)]), zI 98 1 83 84, zS (.store 1 (.t 98) (.t 97))]
def r36_19 := [zC 99 .add 79 1, zM 79 99]
def l36_1 : ACode := (.seq (zR r36_16) (.seq (.cond (.t 80) .skip (.exit 4)) (.seq (.block 5 (.seq (zR r36_17) (zR r36_18))) (zR r36_19))))
def r36_20 := [zM 56 12, zC 57 .sub 56 1, zM 12 57]
def l36_2 : ACode := (.seq (.seq (zR r36_12) (.cond (.t 55) .skip (.exit 2))) (.seq (.block 3 (.seq (zR r36_13) (.seq (zR r36_14) (.seq (zR r36_15) (.block 4 (.loop l36_1)))))) (zR r36_20)))
def r36_21 := [zM 100 11, zM 4 100, zK 5 0]
def ac36 : ACode := (.seq (zR r36_0) (.seq (zR r36_1) (.seq (.seq (zR r36_2) (.cond (.t 24) (.seq (zR r36_3) .ret) .skip)) (.seq (zR r36_4) (.seq (.seq (zR r36_5) (.block 0 (.loop l36_0))) (.seq (zR r36_10) (.seq (.seq (zR r36_11) (.block 2 (.loop l36_2))) (.seq (zR r36_21) .ret))))))))
def re36 : List AOp := [(.mv (.t 4)), (.mv (.t 5))]
theorem cf36 : cFn Try.prog 36 = some (101, ac36, re36) := by kernel_rfl
def r38_0 := [zF 3 (.box (.t 1)), zF 4 (.mv (.c .nil)), zK 5 0]
def r38_1 := [zM 9 0, zV 10 true 13 3, zL 11 false 36 [9, 10], zM 8 11, zX 12 8 0, zX 13 8 1, zM 6 12, zM 7 13]
def r38_2 := [zM 14 7, zC 15 .neq 14 0]
def r38_3 := [zM 16 7, zF 4 (.mv (.c .nil)), zM 5 16]
def r38_4 := [zM 17 6, zF 18 (.call false (.c (.fn 73 [])) [(.t 17), (.c (.fn 74 []))]), zM 4 18, zK 5 0]
def ac38 : ACode := (.seq (zR r38_0) (.seq (zR r38_1) (.seq (.seq (zR r38_2) (.cond (.t 15) (.seq (zR r38_3) .ret) .skip)) (.seq (zR r38_4) .ret))))
def re38 : List AOp := [(.mv (.t 4)), (.mv (.t 5))]
theorem cf38 : cFn Try.prog 38 = some (19, ac38, re38) := by kernel_rfl
def r40_0 := [zF 3 (.box (.t 1)), zF 4 (.mv (.c .nil)), zK 5 0]
def r40_1 := [zM 8 0, zV 9 true 13 3, zL 10 false 64 [8, 9], zM 6 10]
def r40_2 := [zM 11 6, zC 12 .neq 11 0]
def r40_3 := [zM 13 6, zF 4 (.mv (.c .nil)), zM 5 13]
def r40_4 := [zM 14 0, zV 15 true 13 3, zL 16 false 65 [14, 15], zM 7 16]
def r40_5 := [zM 17 7, zL 18 false 66 [17]]
def r40_6 := [zM 19 7, zJ 20 19, zA 21 16 20, zD 22 21, zM 4 22, zK 5 0]
def ac40 : ACode := (.seq (zR r40_0) (.seq (.seq (zR r40_1) (.seq (zR r40_2) (.cond (.t 12) (.seq (zR r40_3) .ret) .skip))) (.seq (zR r40_4) (.seq (zR r40_5) (.seq (zR r40_6) .ret)))))
def re40 : List AOp := [(.mv (.t 4)), (.mv (.t 5))]
theorem cf40 : cFn Try.prog 40 = some (23, ac40, re40) := by kernel_rfl
def r41_0 := [zK 2 0, zO 3 false]
def r41_1 := [zM 7 0, zL 8 false 75 [7], zM 6 8, zX 9 6 0, zX 10 6 1, ⟨(some 4), (.alloc [(.lit (.string ⟨#[]⟩)), (.lit (.int .i8 0)), (.lit (.bool false)), (.lit (.bool false)), (.lit (.bool false)), (.lit (.bool false)), (.lit (.bool false)), (.lit (.bool false))]), none⟩, zS (.store 8 (.t 4) (.t 9)), zM 5 10]
def r41_2 := [zM 11 5, zF 12 (.un .not (.t 11)), zM 13 12, zG 14 13 false (.fieldAddr 1 (.t 4)), zU 15 14 13 false, zG 16 13 false (.bin .lss (.t 15) (.c (.lit (.int .i8 0)))), zQ 17 13 16]
def r41_3 := [zK 2 0, zO 3 false]
def r41_4 := [zA 18 1 4, zD 19 18, zF 20 (.conv .i64 (.t 19)), zM 2 20, zO 3 true]
def ac41 : ACode := (.seq (zR r41_0) (.seq (zR r41_1) (.seq (.seq (zR r41_2) (.cond (.t 17) (.seq (zR r41_3) .ret) .skip)) (.seq (zR r41_4) .ret))))
def re41 : List AOp := [(.mv (.t 2)), (.mv (.t 3))]
theorem cf41 : cFn Try.prog 41 = some (21, ac41, re41) := by kernel_rfl
def r42_0 := [zF 1 (.box (.t 0)), zK 2 0]
def r42_1 := [zF 3 (.mv (.c (.fn 76 [])))]
def r42_2 := [zK 5 0]
def r42_3 := [zC 6 .lss 5 4]
def r42_4 := [zM 7 5, zM 4 7]
def r42_5 := [zM 8 3, zM 9 4, zA 10 0 1, zF 11 (.idxAddr (some 4) 1 (.t 10) (.t 9)), zD 12 11, zF 13 (.call false (.t 8) [(.t 12), (zN 0), (zN 8)]), zF 14 (.un .not (.t 13)), zM 15 14, zH 16 3 15 false, zH 17 4 15 false, zG 18 15 false (.fieldAddr 4 (.t 1)), zG 19 15 false (.idxAddr (some 4) 1 (.t 18) (.t 17)), zU 20 19 15 false, zG 21 15 false (.call false (.t 16) [(.t 20), (zN 1), (zN 8)]), zG 22 15 false (.un .not (.t 21)), zQ 23 15 22, zM 24 23, zH 25 3 24 false, zH 26 4 24 false, zG 27 24 false (.fieldAddr 8 (.t 1)), zG 28 24 false (.idxAddr (some 4) 1 (.t 27) (.t 26)), zU 29 28 24 false, zG 30 24 false (.call false (.t 25) [(.t 29), (zN 1), (zN 4)]), zG 31 24 false (.un .not (.t 30)), zQ 32 24 31]
def r42_6 := [zK 2 20]
def r42_7 := [zC 33 .add 5 1, zM 5 33]
def l42_0 : ACode := (.seq (zR r42_3) (.seq (.cond (.t 6) .skip (.exit 0)) (.seq (.block 1 (.seq (zR r42_4) (.seq (zR r42_5) (.cond (.t 32) (.seq (zR r42_6) .ret) .skip)))) (zR r42_7))))
def r42_8 := [zM 34 3, zA 35 12 1, zD 36 35, zF 37 (.call false (.t 34) [(.t 36), (zN 0), (zN 4)]), zF 38 (.un .not (.t 37))]
def r42_9 := [zK 2 20]
def r42_10 := [zK 2 0]
def ac42 : ACode := (.seq (zR r42_0) (.seq (zR r42_1) (.seq (.seq (zR r42_2) (.block 0 (.loop l42_0))) (.seq (.seq (zR r42_8) (.cond (.t 38) (.seq (zR r42_9) .ret) .skip)) (.seq (zR r42_10) .ret)))))
def re42 : List AOp := [(.mv (.t 2))]
theorem cf42 : cFn Try.prog 42 = some (39, ac42, re42) := by kernel_rfl
def r43_0 := [zO 0 false]
def r43_1 := [zF 8 (.build [(.lit (.int .i64 0)), (.lit (.int .i64 0)), (.lit (.int .i64 0)), (.lit (.int .i64 0))] [(0, (1, (zN 1))), (1, (1, (zN 1))), (2, (1, (zN 1))), (3, (1, (zN 1)))]), zF 9 (.build [(.lit (.int .i64 0)), (.lit (.int .i64 0)), (.lit (.int .i64 0)), (.lit (.int .i64 0))] [(0, (1, (zN 1))), (1, (1, (zN 3))), (2, (1, (zN 2))), (3, (1, (zN 1)))]), zF 10 (.build [(.lit (.int .i64 0)), (.lit (.int .i64 0)), (.lit (.int .i64 0)), (.lit (.int .i64 0))] [(0, (1, (zN 1))), (1, (1, (zN 2))), (2, (1, (zN 1))), (3, (1, (zN 1)))]), zF 11 (.build [(.lit (.int .i64 0)), (.lit (.int .i64 0)), (.lit (.int .i64 0)), (.lit (.int .i64 0)), (.lit (.int .i64 0)), (.lit (.int .i64 0)), (.lit (.int .i64 0)), (.lit (.int .i64 0)), (.lit (.int .i64 0)), (.lit (.int .i64 0)), (.lit (.int .i64 0)), (.lit (.int .i64 0)), (.lit (.int .i64 0))] [(0, (4, (.t 8))), (4, (4, (.t 9))), (8, (4, (.t 10)))]), zF 1 (.alloc [(.lit (.int .i64 0)), (.lit (.int .i64 0)), (.lit (.int .i64 0)), (.lit (.int .i64 0)), (.lit (.int .i64 0)), (.lit (.int .i64 0)), (.lit (.int .i64 0)), (.lit (.int .i64 0)), (.lit (.int .i64 0)), (.lit (.int .i64 0)), (.lit (.int .i64 0)), (.lit (.int .i64 0)), (.lit (.int .i64 0))]), zS (.store 13 (.t 1) (.t 11))]
def r43_2 := [zF 12 (.build [(.lit (.int .i8 0)), (.lit (.int .u8 0)), (.lit (.int .u8 0)), (.lit (.int .u8 0)), (.lit (.int .i64 0))] [(0, (1, (.c (.lit (.int .i8 12))))), (1, (1, (.c (.lit (.int .u8 1))))), (2, (1, (.c (.lit (.int .u8 2))))), (3, (1, (.c (.lit (.int .u8 3)))))]), zF 13 (.build [(.lit (.int .i8 0)), (.lit (.int .u8 0)), (.lit (.int .u8 0)), (.lit (.int .u8 0)), (.lit (.int .i64 0))] [(0, (1, (.c (.lit (.int .i8 12))))), (1, (1, (.c (.lit (.int .u8 4))))), (2, (1, (.c (.lit (.int .u8 2))))), (3, (1, (.c (.lit (.int .u8 2)))))]), zF 14 (.build [(.lit (.int .i8 0)), (.lit (.int .u8 0)), (.lit (.int .u8 0)), (.lit (.int .u8 0)), (.lit (.int .i64 0))] [(0, (1, (.c (.lit (.int .i8 12))))), (1, (1, (.c (.lit (.int .u8 5))))), (2, (1, (.c (.lit (.int .u8 2))))), (3, (1, (.c (.lit (.int .u8 2)))))]), zF 15 (.buildSl 5 3 [(.lit (.int .i8 0)), (.lit (.int .u8 0)), (.lit (.int .u8 0)), (.lit (.int .u8 0)), (.lit (.int .i64 0)), (.lit (.int .i8 0)), (.lit (.int .u8 0)), (.lit (.int .u8 0)), (.lit (.int .u8 0)), (.lit (.int .i64 0)), (.lit (.int .i8 0)), (.lit (.int .u8 0)), (.lit (.int .u8 0)), (.lit (.int .u8 0)), (.lit (.int .i64 0))] [(0, (5, (.t 12))), (5, (5, (.t 13))), (10, (5, (.t 14)))]), zM 2 15]
def r43_3 := [zM 17 2, zV 18 true 13 1, zL 19 false 44 [17, 18], zM 16 19, zX 20 16 0, zX 21 16 1, zM 3 20, zM 4 21]
def r43_4 := [zV 22 true 13 1, zF 5 (.alloc [(.lit (.int .i64 0)), (.lit (.int .i64 0)), (.lit (.int .i64 0)), (.lit (.int .i64 0)), (.lit (.int .i64 0)), (.lit (.int .i64 0)), (.lit (.int .i64 0)), (.lit (.int .i64 0)), (.lit (.int .i64 0)), (.lit (.int .i64 0)), (.lit (.int .i64 0)), (.lit (.int .i64 0)), (.lit (.int .i64 0))]), zS (.store 13 (.t 5) (.t 22))]
def r43_5 := [zA 23 0 5, zF 24 (.idxAddr (some 4) 1 (.t 23) (zN 1)), zS (.store 1 (.t 24) (zN 0))]
def r43_6 := [zM 26 2, zV 27 true 13 5, zL 28 false 44 [26, 27], zM 25 28, zX 29 25 0, zX 30 25 1, zM 6 29, zM 7 30]
def r43_7 := [zM 31 4, zC 32 .eql 31 0, zM 33 32, zH 34 3 33 true, zG 35 33 true (.buildSl 1 3 [(.lit (.int .i64 0)), (.lit (.int .i64 0)), (.lit (.int .i64 0))] [(0, (1, (zN 0))), (1, (1, (zN 2))), (2, (1, (zN 4)))]), zG 36 33 true (.call false (.c (.fn 34 [])) [(.t 34), (.t 35)]), zP 37 33 36, zM 38 37, zH 39 2 38 true, zG 40 38 true (.load true 13 (.t 1)), zH 41 3 38 true, zG 42 38 true (.call false (.c (.fn 46 [])) [(.t 39), (.t 40), (.t 41)]), zP 43 38 42, zM 44 43, zH 45 2 44 true, zG 46 44 true (.load true 13 (.t 1)), zG 47 44 true (.buildSl 1 3 [(.lit (.int .i64 0)), (.lit (.int .i64 0)), (.lit (.int .i64 0))] [(0, (1, (zN 0))), (1, (1, (zN 1))), (2, (1, (zN 4)))]), zG 48 44 true (.call false (.c (.fn 46 [])) [(.t 45), (.t 46), (.t 47)]), zG 49 44 true (.un .not (.t 48)), zP 50 44 49, zM 51 50, zH 52 7 51 true, zG 53 51 true (.bin .eql (.t 52) (zN 21)), zP 54 51 53, zM 0 54]
def ac43 : ACode := (.seq (zR r43_0) (.seq (zR r43_1) (.seq (zR r43_2) (.seq (zR r43_3) (.seq (zR r43_4) (.seq (zR r43_5) (.seq (zR r43_6) (.seq (zR r43_7) .ret))))))))
def re43 : List AOp := [(.mv (.t 0))]
theorem cf43 : cFn Try.prog 43 = some (55, ac43, re43) := by kernel_rfl
def r44_0 := [zF 3 (.box (.t 1)), zF 4 (.mv (.c .nil)), zK 5 0]
def r44_1 := [zM 16 0, zV 17 true 13 3, zL 18 false 38 [16, 17], zM 15 18, zX 19 15 0, zX 20 15 1, zM 6 19, zM 7 20]
def r44_2 := [zM 21 7, zC 22 .neq 21 0]
def r44_3 := [zM 23 7, zF 4 (.mv (.c .nil)), zM 5 23]
def r44_4 := [zM 24 0, zV 25 true 13 3, zL 26 false 77 [24, 25]]
def r44_5 := [zF 4 (.mv (.c .nil)), zK 5 21]
def r44_6 := [zM 27 0, zV 28 true 13 3, zL 29 false 78 [27, 28], zM 8 29]
def r44_7 := [zM 30 8, zF 31 (.mkbf 79 [(.t 30)]), zM 9 31]
def r44_8 := [zM 32 8, zJ 33 32, zA 34 16 33, zD 35 34, zF 36 (.mkbf 80 [(.t 35)]), zM 10 36]
def r44_9 := [zM 37 0, zE 38 37, zK 11 0, zM 12 38]
def r44_10 := [zM 39 12, zC 40 .gtr 39 0]
def r44_11 := [zM 43 6, zE 44 43, zK 45 0]
def r44_12 := [zB 46 .lss 45 44]
def r44_13 := [zI 47 1 43 45, zD 48 47, zM 14 48]
def r44_14 := [zM 49 8, zJ 50 49, zA 51 15 50, zD 52 51, zM 53 14, zI 54 1 52 53, zD 55 54, zC 56 .geq 55 0, zM 57 56, zH 58 9 57 false, zH 59 14 57 false, zH 60 11 57 false, zG 61 57 false (.call false (.t 58) [(.t 59), (.t 60)]), zG 62 57 false (.un .not (.t 61)), zQ 63 57 62, zM 64 63, zH 65 10 64 false, zH 66 0 64 false, zH 67 14 64 false, zW 68 5 66 67 64 false, zG 69 64 false (.load true 5 (.t 68)), zG 70 64 false (.call false (.c (.fn 81 [])) [(.t 69)]), zH 71 11 64 false, zG 72 64 false (.call false (.t 65) [(.t 70), (.t 71)]), zG 73 64 false (.un .not (.t 72)), zQ 74 64 73]
def r44_15 := [zM 75 8, zJ 76 75, zA 77 15 76, zD 78 77, zM 79 14, zM 80 11, zI 81 1 78 79, zS (.store 1 (.t 81) (.t 80))]
def r44_16 := [zM 82 12, zC 83 .sub 82 1, zM 12 83]
def r44_17 := [zM 84 12, zC 85 .gtr 84 0]
def r44_18 := [zC 86 .add 45 1, zM 45 86]
def l44_0 : ACode := (.seq (zR r44_12) (.seq (.cond (.t 46) .skip (.exit 2)) (.seq (.block 3 (.seq (zR r44_13) (.seq (.seq (zR r44_14) (.cond (.t 74) (.exit 3) .skip)) (.seq (zR r44_15) (.seq (zR r44_16) (.seq (zR r44_17) (.cond (.t 85) (.exit 1000000) .skip))))))) (zR r44_18))))
def l44_1 : ACode := (.block 1000000 (.seq (.seq (zR r44_11) (.block 2 (.loop l44_0))) (.exit 2000000)))
def r44_19 := [zM 41 11, zC 42 .add 41 1, zM 11 42]
def l44_2 : ACode := (.seq (.seq (zR r44_10) (.cond (.t 40) .skip (.exit 0))) (.seq (.block 1 (.block 2000000 (.loop l44_1))) (zR r44_19)))
def r44_20 := [zM 87 8, zJ 88 87, zA 89 15 88, zD 90 89, zM 4 90, zK 5 0]
def ac44 : ACode := (.seq (zR r44_0) (.seq (zR r44_1) (.seq (.seq (zR r44_2) (.cond (.t 22) (.seq (zR r44_3) .ret) .skip)) (.seq (.seq (zR r44_4) (.cond (.t 26) (.seq (zR r44_5) .ret) .skip)) (.seq (zR r44_6) (.seq (zR r44_7) (.seq (zR r44_8) (.seq (.seq (zR r44_9) (.block 0 (.loop l44_2))) (.seq (zR r44_20) .ret)))))))))
def re44 : List AOp := [(.mv (.t 4)), (.mv (.t 5))]
theorem cf44 : cFn Try.prog 44 = some (91, ac44, re44) := by kernel_rfl
def r46_0 := [zF 4 (.box (.t 1)), zO 6 false]
def r46_1 := [zM 15 0, zV 16 true 13 4, zL 17 false 40 [15, 16], zM 14 17, zX 18 14 0, zX 19 14 1, zM 7 18, zM 8 19]
def r46_2 := [zM 20 8, zC 21 .neq 20 0, zM 22 21, zH 23 0 22 false, zG 24 22 false (.load true 13 (.t 4)), zG 25 22 false (.call false (.c (.fn 77 [])) [(.t 23), (.t 24)]), zQ 26 22 25, zM 27 26, zH 28 2 27 false, zG 29 27 false (.len none (.t 28)), zH 30 0 27 false, zG 31 27 false (.len none (.t 30)), zY 32 .neq 29 31 27 false, zQ 33 27 32]
def r46_3 := [zO 6 false]
def r46_4 := [zM 34 0, zV 35 true 13 4, zL 36 false 78 [34, 35], zM 9 36]
def r46_5 := [zM 37 2, zE 38 37, zK 39 0]
def r46_6 := [zB 40 .lss 39 38]
def r46_7 := [zM 41 39, zI 42 1 37 39, zD 43 42, zM 10 41, zM 11 43]
def r46_8 := [zM 44 11, zC 45 .lss 44 0, zM 46 45, zH 47 11 46 false, zG 48 46 false (.bin .gtr (.t 47) (zN 65536)), zQ 49 46 48]
def r46_9 := [zO 6 false]
def r46_10 := [zM 50 9, zJ 51 50, zA 52 15 51, zD 53 52, zM 54 10, zM 55 11, zI 56 1 53 54, zS (.store 1 (.t 56) (.t 55))]
def r46_11 := [zC 57 .add 39 1, zM 39 57]
def l46_0 : ACode := (.seq (zR r46_6) (.seq (.cond (.t 40) .skip (.exit 0)) (.seq (.block 1 (.seq (zR r46_7) (.seq (.seq (zR r46_8) (.cond (.t 49) (.seq (zR r46_9) .ret) .skip)) (zR r46_10)))) (zR r46_11))))
def r46_12 := [zM 58 2, zE 59 58, zK 60 0]
def r46_13 := [zB 61 .lss 60 59]
def r46_14 := [zM 62 60, zI 63 1 58 60, zD 64 63, zM 12 62, zM 13 64]
def r46_15 := [zM 65 9, zM 66 12, zM 67 13, zL 68 false 79 [65, 66, 67], zF 69 (.un .not (.t 68)), zM 70 69, zH 71 9 70 false, zG 72 70 false (.nilchk (.t 71)), zG 73 70 false (.fieldAddr 16 (.t 72)), zU 74 73 70 false, zH 75 0 70 false, zH 76 12 70 false, zW 77 5 75 76 70 false, zG 78 70 false (.load true 5 (.t 77)), zG 79 70 false (.call true (.c (.fn 81 [])) [(.t 78)]), zH 80 13 70 false, zG 81 70 false (.call false (.c (.fn 80 [])) [(.t 74), (.t 79), (.t 80)]), zG 82 70 false (.un .not (.t 81)), zQ 83 70 82]
def r46_16 := [zO 6 false]
def r46_17 := [zC 84 .add 60 1, zM 60 84]
def l46_1 : ACode := (.seq (zR r46_13) (.seq (.cond (.t 61) .skip (.exit 2)) (.seq (.block 3 (.seq (zR r46_14) (.seq (zR r46_15) (.cond (.t 83) (.seq (zR r46_16) .ret) .skip)))) (zR r46_17))))
def r46_18 := [zO 6 true]
def ac46 : ACode := (.seq (zR r46_0) (.seq (.seq (zR r46_1) (.seq (zR r46_2) (.cond (.t 33) (.seq (zR r46_3) .ret) .skip))) (.seq (zR r46_4) (.seq (.seq (zR r46_5) (.block 0 (.loop l46_0))) (.seq (.seq (zR r46_12) (.block 2 (.loop l46_1))) (.seq (zR r46_18) .ret))))))
def re46 : List AOp := [(.mv (.t 6))]
theorem cf46 : cFn Try.prog 46 = some (85, ac46, re46) := by kernel_rfl
def r48_0 := [zF 6 (.box (.t 1)), zK 10 0]
def r48_1 := [zK 11 0]
def r48_2 := [zK 12 0]
def r48_3 := [zM 15 12, zM 16 0, zE 17 16, zB 18 .lss 15 17]
def r48_4 := [zM 22 0, zM 23 12, zI 24 5 22 23, zA 25 0 24, zD 26 25, zL 27 false 41 [26], zM 21 27, zX 28 21 0, zX 29 21 1, zM 13 28, zM 14 29]
def r48_5 := [zM 30 13, zM 31 3, zB 32 .eql 30 31, zM 33 32, zH 34 2 33 true, zH 35 12 33 true, zW 36 1 34 35 33 true, zU 37 36 33 true, zH 38 4 33 true, zY 39 .leq 37 38 33 true, zP 40 33 39, zM 41 40, zH 42 4 41 true, zH 43 2 41 true, zH 44 12 41 true, zW 45 1 43 44 41 true, zU 46 45 41 true, zY 47 .sub 42 46 41 true, zH 48 13 41 true, zG 49 41 true (.fieldAddr 8 (.t 6)), zG 50 41 true (.idxAddr (some 4) 1 (.t 49) (.t 48)), zU 51 50 41 true, zY 52 .lss 47 51 41 true, zP 53 41 52]
def r48_6 := [zM 54 11, zC 55 .add 54 1, zM 11 55]
def r48_7 := [zM 19 12, zC 20 .add 19 1, zM 12 20]
def l48_0 : ACode := (.seq (.seq (zR r48_3) (.cond (.t 18) .skip (.exit 0))) (.seq (.block 1 (.seq (zR r48_4) (.seq (zR r48_5) (.cond (.t 53) (zR r48_6) .skip)))) (zR r48_7)))
def r48_8 := [zM 56 11, zM 10 56]
def ac48 : ACode := (.seq (zR r48_0) (.seq (zR r48_1) (.seq (.seq (zR r48_2) (.block 0 (.loop l48_0))) (.seq (zR r48_8) .ret))))
def re48 : List AOp := [(.mv (.t 10))]
theorem cf48 : cFn Try.prog 48 = some (57, ac48, re48) := by kernel_rfl
def r52_0 := [zF 1 (.box (.t 0)), zF 2 (.mv (.c (.lit (.int .u8 0)))), zO 3 false]
def r52_1 := [zA 7 0 1, zD 8 7, zL 9 false 75 [8], zM 6 9, zX 10 6 0, zX 11 6 1, ⟨(some 4), (.alloc [(.lit (.string ⟨#[]⟩)), (.lit (.int .i8 0)), (.lit (.bool false)), (.lit (.bool false)), (.lit (.bool false)), (.lit (.bool false)), (.lit (.bool false)), (.lit (.bool false))]), none⟩, zS (.store 8 (.t 4) (.t 10)), zM 5 11]
def r52_2 := [zA 12 2 4, zD 13 12, zF 14 (.un .not (.t 13)), zM 15 14, zG 16 15 false (.load true 5 (.t 1)), zG 17 15 false (.call false (.c (.fn 87 [])) [(.t 16)]), zG 18 15 false (.bin .neq (.t 17) (zN 0)), zQ 19 15 18]
def r52_3 := [zF 2 (.mv (.c (.lit (.int .u8 0)))), zO 3 false]
def r52_4 := [zA 20 1 1, zD 21 20, zM 2 21, zO 3 true]
def ac52 : ACode := (.seq (zR r52_0) (.seq (zR r52_1) (.seq (.seq (zR r52_2) (.cond (.t 19) (.seq (zR r52_3) .ret) .skip)) (.seq (zR r52_4) .ret))))
def re52 : List AOp := [(.mv (.t 2)), (.mv (.t 3))]
theorem cf52 : cFn Try.prog 52 = some (22, ac52, re52) := by kernel_rfl
def r54_0 := [zF 1 (.box (.t 0)), zF 2 (.mv (.c .nil))]
def r54_1 := [zA 7 0 1, zD 8 7, zL 9 false 75 [8], zM 6 9, zX 10 6 0, zX 11 6 1, ⟨(some 3), (.alloc [(.lit (.string ⟨#[]⟩)), (.lit (.int .i8 0)), (.lit (.bool false)), (.lit (.bool false)), (.lit (.bool false)), (.lit (.bool false)), (.lit (.bool false)), (.lit (.bool false))]), none⟩, zS (.store 8 (.t 3) (.t 10)), zM 4 11]
def r54_2 := [zV 12 true 5 1, zL 13 false 87 [12], zC 14 .neq 13 0]
def r54_3 := [zF 2 (.mv (.c .nil))]
def r54_4 := [zA 15 2 1, zD 16 15, zA 17 3 1, zD 18 17, zF 19 (.buildSl 1 2 [(.lit (.int .u8 0)), (.lit (.int .u8 0))] [(0, (1, (.t 16))), (1, (1, (.t 18)))]), zM 5 19]
def r54_5 := [zA 21 3 3, zD 22 21, zM 23 22, zG 24 23 true (.fieldAddr 4 (.t 3)), zU 25 24 23 true, zP 26 23 25, zM 27 26, zG 28 27 true (.fieldAddr 2 (.t 1)), zU 29 28 27 true, zG 30 27 true (.fieldAddr 3 (.t 1)), zU 31 30 27 true, zY 32 .neq 29 31 27 true, zP 33 27 32, zM 20 33]
def r54_6 := [zM 34 5, zM 2 34]
def r54_7 := [zA 36 3 3, zD 37 36, zM 35 37]
def r54_8 := [zM 38 5, zF 39 (.slice none 1 (.t 38) none (some (zN 1)) (some (zN 1))), zM 2 39]
def r54_9 := [zA 41 4 3, zD 42 41, zM 40 42]
def r54_10 := [zM 43 5, zF 44 (.slice none 1 (.t 43) (some (zN 1)) (some (zN 2)) (some (zN 2))), zM 2 44]
def r54_11 := [zF 2 (.mv (.c .nil))]
def ac54 : ACode := (.seq (zR r54_0) (.seq (zR r54_1) (.seq (.seq (zR r54_2) (.cond (.t 14) (.seq (zR r54_3) .ret) .skip)) (.seq (zR r54_4) (.seq (.block 0 (.seq (zR r54_5) (.cond (.t 20) (.seq (zR r54_6) .ret) (.seq (zR r54_7) (.cond (.t 35) (.seq (zR r54_8) .ret) (.seq (zR r54_9) (.cond (.t 40) (.seq (zR r54_10) .ret) .skip))))))) (.seq (zR r54_11) .ret))))))
def re54 : List AOp := [(.mv (.t 2))]
theorem cf54 : cFn Try.prog 54 = some (45, ac54, re54) := by kernel_rfl
def r64_0 := [zF 3 (.box (.t 1)), zK 4 0]
def r64_1 := [zV 8 true 13 3, zL 9 false 42 [8], zM 5 9]
def r64_2 := [zM 10 5, zC 11 .neq 10 0]
def r64_3 := [zM 12 5, zM 4 12]
def r64_4 := [zM 13 0, zE 14 13, zC 15 .gtr 14 1024]
def r64_5 := [zK 4 3]
def r64_6 := [zM 16 0, zE 17 16, zK 18 0]
def r64_7 := [zB 19 .lss 18 17]
def r64_8 := [zI 20 5 16 18, zV 21 true 5 20, zF 7 (.alloc [(.lit (.int .i8 0)), (.lit (.int .u8 0)), (.lit (.int .u8 0)), (.lit (.int .u8 0)), (.lit (.int .i64 0))]), zS (.store 5 (.t 7) (.t 21))]
def r64_9 := [zA 22 0 7, zD 23 22, zF 24 (.bin .lss (.t 23) (.c (.lit (.int .i8 1)))), zM 25 24, zG 26 25 false (.fieldAddr 0 (.t 7)), zU 27 26 25 false, zG 28 25 false (.bin .gtr (.t 27) (.c (.lit (.int .i8 17)))), zQ 29 25 28, zM 30 29, zG 31 30 false (.load true 5 (.t 7)), zG 32 30 false (.call false (.c (.fn 87 [])) [(.t 31)]), zG 33 30 false (.bin .neq (.t 32) (zN 0)), zQ 34 30 33]
def r64_10 := [zK 4 30]
def r64_11 := [zC 35 .add 18 1, zM 18 35]
def l64_0 : ACode := (.seq (zR r64_7) (.seq (.cond (.t 19) .skip (.exit 0)) (.seq (.block 1 (.seq (zR r64_8) (.seq (zR r64_9) (.cond (.t 34) (.seq (zR r64_10) .ret) .skip)))) (zR r64_11))))
def r64_12 := [zK 4 0]
def ac64 : ACode := (.seq (zR r64_0) (.seq (.seq (zR r64_1) (.seq (zR r64_2) (.cond (.t 11) (.seq (zR r64_3) .ret) .skip))) (.seq (.seq (zR r64_4) (.cond (.t 15) (.seq (zR r64_5) .ret) .skip)) (.seq (.seq (zR r64_6) (.block 0 (.loop l64_0))) (.seq (zR r64_12) .ret)))))
def re64 : List AOp := [(.mv (.t 4))]
theorem cf64 : cFn Try.prog 64 = some (36, ac64, re64) := by kernel_rfl
def r65_0 := [zF 3 (.box (.t 1)), zF 4 (.mv (.c (.lit (.pointer none))))]
def r65_1 := [zM 9 0, zV 10 true 13 3, zF 11 (.build [.nil, (.lit (.int .i64 0)), (.lit (.int .i64 0)), (.lit (.int .i64 0)), (.lit (.int .i64 0)), (.lit (.int .i64 0)), (.lit (.int .i64 0)), (.lit (.int .i64 0)), (.lit (.int .i64 0)), (.lit (.int .i64 0)), (.lit (.int .i64 0)), (.lit (.int .i64 0)), (.lit (.int .i64 0)), (.lit (.int .i64 0)), .nil, .nil, .nil] [(0, (1, (.t 9))), (1, (13, (.t 10)))]), zF 12 (.box (.t 11)), zM 5 12]
def r65_2 := [zM 13 0, zE 14 13, zK 15 0]
def r65_3 := [zB 16 .lss 15 14]
def r65_4 := [zM 17 15, zM 6 17]
def r65_5 := [zM 18 5, zM 19 5, zJ 20 19, zA 21 14 20, zD 22 21, zM 23 0, zM 24 6, zI 25 5 23 24, zV 26 true 5 25, zL 27 true 54 [26], zF 28 (.buildSl 1 1 [.nil] [(0, (1, (.t 27)))]), zF 29 (.append 1 24 (.t 22) (.t 28)), zJ 30 18, zA 31 14 30, zS (.store 1 (.t 31) (.t 29))]
def r65_6 := [zM 33 0, zM 34 6, zI 35 5 33 34, zV 36 true 5 35, zL 37 false 52 [36], zM 32 37, zX 38 32 0, zX 39 32 1, zM 7 38, zM 8 39]
def r65_7 := [zM 40 5, zM 41 5, zJ 42 41, zA 43 15 42, zD 44 43, zF 45 (.buildSl 1 1 [(.lit (.int .i64 0))] [(0, (1, (zN (-1))))]), zF 46 (.append 1 8 (.t 44) (.t 45)), zJ 47 40, zA 48 15 47, zS (.store 1 (.t 48) (.t 46))]
def r65_8 := [zM 49 8]
def r65_9 := [zM 50 5, zJ 51 50, zA 52 15 51, zD 53 52, zM 54 6, zM 55 7, zF 56 (.conv .i64 (.t 55)), zI 57 1 53 54, zS (.store 1 (.t 57) (.t 56))]
def r65_10 := [zC 58 .add 15 1, zM 15 58]
def l65_0 : ACode := (.seq (zR r65_3) (.seq (.cond (.t 16) .skip (.exit 0)) (.seq (.block 1 (.seq (zR r65_4) (.seq (.ops r65_5 [(21, 28)]) (.seq (zR r65_6) (.seq (zR r65_7) (.seq (zR r65_8) (.cond (.t 49) (zR r65_9) .skip))))))) (zR r65_10))))
def r65_11 := [zM 59 5, zM 4 59]
def ac65 : ACode := (.seq (zR r65_0) (.seq (zR r65_1) (.seq (.seq (zR r65_2) (.block 0 (.loop l65_0))) (.seq (zR r65_11) .ret))))
def re65 : List AOp := [(.mv (.t 4))]
theorem cf65 : cFn Try.prog 65 = some (60, ac65, re65) := by kernel_rfl
def r66_0 := [zF 2 (.alloc (List.replicate 32 (.lit (.int .i64 0))))]
def r66_1 := [zM 5 0, zJ 6 5, zA 7 0 6, zD 8 7, zE 9 8, zK 10 0]
def r66_2 := [zB 11 .lss 10 9]
def r66_3 := [zM 12 10, zM 3 12]
def r66_4 := [zM 13 3, zK 14 0]
def r66_5 := [zB 15 .lss 14 13]
def r66_6 := [zM 16 14, zM 4 16]
def r66_7 := [zM 17 0, zM 18 4, zM 19 3, zL 20 false 96 [17, 18, 19, 2]]
def r66_8 := [zM 21 0, zM 22 4, zM 23 3, zM 24 0, zM 25 4, zL 26 false 98 [24, 25], zF 27 (.build [(.lit (.int .i64 0)), (.lit (.int .i64 0)), (.lit (.int .i64 0)), (.lit (.int .i64 0)), (.lit (.int .i8 0))] [(2, (1, (.t 26))), (4, (1, (.c (.lit (.int .i8 0)))))]), zF 28 (.buildSl 5 1 [(.lit (.int .i64 0)), (.lit (.int .i64 0)), (.lit (.int .i64 0)), (.lit (.int .i64 0)), (.lit (.int .i8 0))] [(0, (5, (.t 27)))]), zF 29 (.call false (.c (.fn 97 [])) [(.t 21), (.t 22), (.t 23), (zN 0), (.t 28)])]
def r66_9 := [zM 30 0, zM 31 4, zM 32 3, zM 33 0, zJ 34 33, zA 35 0 34, zD 36 35, zM 37 4, zM 38 3, zL 39 false 100 [36, 37, 38], zF 40 (.call false (.c (.fn 99 [])) [(.t 30), (.t 31), (.t 32), (zN 0), (.t 39)])]
def r66_10 := [zC 41 .add 14 1, zM 14 41]
def l66_0 : ACode := (.seq (zR r66_5) (.seq (.cond (.t 15) .skip (.exit 2)) (.seq (.block 3 (.seq (zR r66_6) (.seq (.seq (zR r66_7) (.cond (.t 20) (zR r66_8) .skip)) (zR r66_9)))) (zR r66_10))))
def r66_11 := [zM 42 0, zJ 43 42, zA 44 15 43, zD 45 44, zM 46 3, zI 47 1 45 46, zD 48 47, zC 49 .geq 48 0]
def r66_12 := [zM 50 0, zJ 51 50, zA 52 15 51, zD 53 52, zM 54 3, zI 55 1 53 54, zD 56 55, zM 57 3, zC 58 .add 57 1, zF 59 (.idxAddr (some 32) 1 (.t 2) (.t 56)), zS (.store 1 (.t 59) (.t 58))]
def r66_13 := [zC 60 .add 10 1, zM 10 60]
def l66_1 : ACode := (.seq (zR r66_2) (.seq (.cond (.t 11) .skip (.exit 0)) (.seq (.block 1 (.seq (zR r66_3) (.seq (.seq (zR r66_4) (.block 2 (.loop l66_0))) (.seq (zR r66_11) (.cond (.t 49) (zR r66_12) .skip))))) (zR r66_13))))
def ac66 : ACode := (.seq (zR r66_0) (.seq (zR r66_1) (.block 0 (.loop l66_1))))
def re66 : List AOp := []
theorem cf66 : cFn Try.prog 66 = some (61, ac66, re66) := by kernel_rfl
def r73_0 := [zF 2 (.box (.t 0)), zF 3 (.box (.t 1)), zF 4 (.mv (.c .nil))]
def r73_1 := [zD 7 2, zE 8 7, zF 9 (.mksl 1 8 [(.lit (.int .i64 0))] (.t 8) (.t 8)), zM 5 9]
def r73_2 := [zM 10 5, zE 11 10, zK 12 0]
def r73_3 := [zB 13 .lss 12 11]
def r73_4 := [zM 14 12, zM 6 14]
def r73_5 := [zM 15 5, zM 16 6, zM 17 6, zI 18 1 15 16, zS (.store 1 (.t 18) (.t 17))]
def r73_6 := [zC 19 .add 12 1, zM 12 19]
def l73_0 : ACode := (.seq (zR r73_3) (.seq (.cond (.t 13) .skip (.exit 0)) (.seq (.block 1 (.seq (zR r73_4) (zR r73_5))) (zR r73_6))))
def r73_7 := [zM 20 5, zF 21 (.mkfn 104 [(.t 3), (.t 2)]), zL 22 false 103 [20, 21]]
def r73_8 := [zM 23 5, zM 4 23]
def ac73 : ACode := (.seq (zR r73_0) (.seq (zR r73_1) (.seq (.seq (zR r73_2) (.block 0 (.loop l73_0))) (.seq (zR r73_7) (.seq (zR r73_8) .ret)))))
def re73 : List AOp := [(.mv (.t 4))]
theorem cf73 : cFn Try.prog 73 = some (24, ac73, re73) := by kernel_rfl
def r74_0 := [zK 4 0]
def r74_1 := [zM 5 1, zM 6 0, zB 7 .sub 5 6, zM 4 7]
def ac74 : ACode := (.seq (zR r74_0) (.seq (zR r74_1) .ret))
def re74 : List AOp := [(.mv (.t 4))]
theorem cf74 : cFn Try.prog 74 = some (8, ac74, re74) := by kernel_rfl
def r75_0 : List yW := [⟨(some 2), (.alloc [(.lit (.string ⟨#[]⟩)), (.lit (.int .i8 0)), (.lit (.bool false)), (.lit (.bool false)), (.lit (.bool false)), (.lit (.bool false)), (.lit (.bool false)), (.lit (.bool false))]), none⟩, zO 3 false]
def r75_1 := [zM 5 0, zF 6 (.bin .lss (.t 5) (.c (.lit (.int .i8 0)))), zM 7 6, zH 8 0 7 false, zG 9 7 false (.bin .geq (.t 8) (.c (.lit (.int .i8 24)))), zQ 10 7 9]
def r75_2 : List yW := [⟨(some 11), (.build [(.lit (.string ⟨#[]⟩)), (.lit (.int .i8 0)), (.lit (.bool false)), (.lit (.bool false)), (.lit (.bool false)), (.lit (.bool false)), (.lit (.bool false)), (.lit (.bool false))] []), none⟩, zS (.store 8 (.t 2) (.t 11)), zO 3 false]
def r75_3 := [zL 12 false 105 [], zM 13 0, zF 14 (.idx true 24 8 (.t 12) (.t 13)), ⟨(some 4), (.alloc [(.lit (.string ⟨#[]⟩)), (.lit (.int .i8 0)), (.lit (.bool false)), (.lit (.bool false)), (.lit (.bool false)), (.lit (.bool false)), (.lit (.bool false)), (.lit (.bool false))]), none⟩, zS (.store 8 (.t 4) (.t 14))]
def r75_4 := [zV 15 true 8 4, zA 16 7 4, zD 17 16, zS (.store 8 (.t 2) (.t 15)), zM 3 17]
def ac75 : ACode := (.seq (zR r75_0) (.seq (.seq (zR r75_1) (.cond (.t 10) (.seq (zR r75_2) .ret) .skip)) (.seq (zR r75_3) (.seq (.ops r75_4 [(16, 2)]) .ret))))
def re75 : List AOp := [(.load true 8 (.t 2)), (.mv (.t 3))]
theorem cf75 : cFn Try.prog 75 = some (18, ac75, re75) := by kernel_rfl
def r76_0 := [zO 6 false]
def r76_1 := [zM 7 1, zM 8 0, zB 9 .leq 7 8, zM 10 9, zH 11 0 10 true, zH 12 2 10 true, zY 13 .leq 11 12 10 true, zP 14 10 13, zM 6 14]
def ac76 : ACode := (.seq (zR r76_0) (.seq (zR r76_1) .ret))
def re76 : List AOp := [(.mv (.t 6))]
theorem cf76 : cFn Try.prog 76 = some (15, ac76, re76) := by kernel_rfl
def r77_0 := [zF 3 (.box (.t 1)), zO 4 false]
def r77_1 := [zM 7 0, zE 8 7, zK 9 0]
def r77_2 := [zB 10 .lss 9 8]
def r77_3 := [zI 11 5 7 9, zV 12 true 5 11, zF 6 (.alloc [(.lit (.int .i8 0)), (.lit (.int .u8 0)), (.lit (.int .u8 0)), (.lit (.int .u8 0)), (.lit (.int .i64 0))]), zS (.store 5 (.t 6) (.t 12))]
def r77_4 := [zV 13 true 5 6, zL 14 false 81 [13], zA 15 0 3, zF 16 (.idxAddr (some 4) 1 (.t 15) (.t 14)), zD 17 16, zC 18 .eql 17 0]
def r77_5 := [zO 4 true]
def r77_6 := [zC 19 .add 9 1, zM 9 19]
def l77_0 : ACode := (.seq (zR r77_2) (.seq (.cond (.t 10) .skip (.exit 0)) (.seq (.block 1 (.seq (zR r77_3) (.seq (zR r77_4) (.cond (.t 18) (.seq (zR r77_5) .ret) .skip)))) (zR r77_6))))
def r77_7 := [zO 4 false]
def ac77 : ACode := (.seq (zR r77_0) (.seq (.seq (zR r77_1) (.block 0 (.loop l77_0))) (.seq (zR r77_7) .ret)))
def re77 : List AOp := [(.mv (.t 4))]
theorem cf77 : cFn Try.prog 77 = some (20, ac77, re77) := by kernel_rfl
def r78_0 := [zF 3 (.box (.t 1)), zF 4 (.mv (.c (.lit (.pointer none))))]
def r78_1 := [zM 11 0, zV 12 true 13 3, zM 13 0, zE 14 13, zF 15 (.mksl 1 24 [.nil] (.t 14) (.t 14)), zM 16 0, zE 17 16, zF 18 (.mksl 1 8 [(.lit (.int .i64 0))] (.t 17) (.t 17)), zF 19 (.build [.nil, (.lit (.int .i64 0)), (.lit (.int .i64 0)), (.lit (.int .i64 0)), (.lit (.int .i64 0)), (.lit (.int .i64 0)), (.lit (.int .i64 0)), (.lit (.int .i64 0)), (.lit (.int .i64 0)), (.lit (.int .i64 0)), (.lit (.int .i64 0)), (.lit (.int .i64 0)), (.lit (.int .i64 0)), (.lit (.int .i64 0)), .nil, .nil, (.lit (.pointer none))] [(0, (1, (.t 11))), (1, (13, (.t 12))), (14, (1, (.t 15))), (15, (1, (.t 18)))]), zF 20 (.box (.t 19)), zM 5 20]
def r78_2 := [zM 22 0, zV 23 true 13 3, zL 24 false 40 [22, 23], zM 21 24, zX 25 21 0, zX 26 21 1, zM 6 25, zM 7 26]
def r78_3 := [zM 27 6, zE 28 27, zK 29 0]
def r78_4 := [zB 30 .lss 29 28]
def r78_5 := [zI 31 5 27 29, zV 32 true 5 31, zF 9 (.alloc [(.lit (.int .i64 0)), (.lit (.int .i64 0)), (.lit (.int .i64 0)), (.lit (.int .i64 0)), (.lit (.int .i8 0))]), zS (.store 5 (.t 9) (.t 32))]
def r78_6 := [zM 33 5, zJ 34 33, zA 35 14 34, zD 36 35, zA 37 1 9, zD 38 37, zM 39 5, zJ 40 39, zA 41 14 40, zD 42 41, zA 43 1 9, zD 44 43, zI 45 1 42 44, zD 46 45, zV 47 true 5 9, zF 48 (.buildSl 5 1 [(.lit (.int .i64 0)), (.lit (.int .i64 0)), (.lit (.int .i64 0)), (.lit (.int .i64 0)), (.lit (.int .i8 0))] [(0, (5, (.t 47)))]), zF 49 (.append 5 40 (.t 46) (.t 48)), zI 50 1 36 38, zS (.store 1 (.t 50) (.t 49))]
def r78_7 := [zC 51 .add 29 1, zM 29 51]
def l78_0 : ACode := (.seq (zR r78_4) (.seq (.cond (.t 30) .skip (.exit 0)) (.seq (.block 1 (.seq (zR r78_5) (.ops r78_6 [(35, 48), (35, 49), (35, 46), (37, 48), (37, 49), (37, 46), (41, 48), (43, 48), (45, 48)]))) (zR r78_7))))
def r78_8 := [zM 52 5, zJ 53 52, zA 54 15 53, zD 55 54, zE 56 55, zK 57 0]
def r78_9 := [zB 58 .lss 57 56]
def r78_10 := [zM 59 57, zM 10 59]
def r78_11 := [zM 60 5, zJ 61 60, zA 62 15 61, zD 63 62, zM 64 10, zI 65 1 63 64, zS (.store 1 (.t 65) (zN (-1)))]
def r78_12 := [zC 66 .add 57 1, zM 57 66]
def l78_1 : ACode := (.seq (zR r78_9) (.seq (.cond (.t 58) .skip (.exit 2)) (.seq (.block 3 (.seq (zR r78_10) (zR r78_11))) (zR r78_12))))
def r78_13 := [zM 68 5, zV 69 true 13 3, zL 70 false 106 [69], zM 67 70, zX 71 67 0, zX 72 67 1, zJ 73 68, zA 74 16 73, zS (.store 1 (.t 74) (.t 71))]
def r78_14 := [zM 75 5, zM 4 75]
def ac78 : ACode := (.seq (zR r78_0) (.seq (.ops r78_1 [(3, 15), (3, 18)]) (.seq (zR r78_2) (.seq (.seq (zR r78_3) (.block 0 (.loop l78_0))) (.seq (.seq (zR r78_8) (.block 2 (.loop l78_1))) (.seq (zR r78_13) (.seq (zR r78_14) .ret)))))))
def re78 : List AOp := [(.mv (.t 4))]
theorem cf78 : cFn Try.prog 78 = some (76, ac78, re78) := by kernel_rfl
def r79_0 := [zO 6 false]
def r79_1 := [zM 10 0, zJ 11 10, zA 12 14 11, zD 13 12, zM 14 1, zI 15 1 13 14, zD 16 15, zE 17 16, zK 18 0]
def r79_2 := [zB 19 .lss 18 17]
def r79_3 := [zI 20 5 16 18, zV 21 true 5 20, zF 8 (.alloc [(.lit (.int .i64 0)), (.lit (.int .i64 0)), (.lit (.int .i64 0)), (.lit (.int .i64 0)), (.lit (.int .i8 0))]), zS (.store 5 (.t 8) (.t 21))]
def r79_4 := [zM 22 0, zJ 23 22, zA 24 15 23, zD 25 24, zA 26 0 8, zD 27 26, zI 28 1 25 27, zD 29 28, zM 9 29]
def r79_5 := [zM 30 9, zC 31 .lss 30 0, zM 32 31, zH 33 9 32 false, zG 34 32 false (.fieldAddr 2 (.t 8)), zU 35 34 32 false, zY 36 .add 33 35 32 false, zH 37 2 32 false, zY 38 .gtr 36 37 32 false, zQ 39 32 38]
def r79_6 := [zO 6 false]
def r79_7 := [zC 40 .add 18 1, zM 18 40]
def l79_0 : ACode := (.seq (zR r79_2) (.seq (.cond (.t 19) .skip (.exit 0)) (.seq (.block 1 (.seq (zR r79_3) (.seq (zR r79_4) (.seq (zR r79_5) (.cond (.t 39) (.seq (zR r79_6) .ret) .skip))))) (zR r79_7))))
def r79_8 := [zO 6 true]
def ac79 : ACode := (.seq (zR r79_0) (.seq (.seq (zR r79_1) (.block 0 (.loop l79_0))) (.seq (zR r79_8) .ret)))
def re79 : List AOp := [(.mv (.t 6))]
theorem cf79 : cFn Try.prog 79 = some (41, ac79, re79) := by kernel_rfl
def r81_0 := [zF 1 (.box (.t 0)), zK 2 0]
def r81_1 := [zA 6 0 1, zD 7 6, zL 8 false 41 [7], zM 5 8, zX 9 5 0, zX 10 5 1, zM 3 9, zM 4 10]
def r81_2 := [zM 11 3, zM 2 11]
def ac81 : ACode := (.seq (zR r81_0) (.seq (zR r81_1) (.seq (zR r81_2) .ret)))
def re81 : List AOp := [(.mv (.t 2))]
theorem cf81 : cFn Try.prog 81 = some (12, ac81, re81) := by kernel_rfl
def r87_0 := [zF 1 (.box (.t 0)), zK 2 0]
def r87_1 := [zA 6 0 1, zD 7 6, zL 8 false 75 [7], zM 5 8, zX 9 5 0, zX 10 5 1, ⟨(some 3), (.alloc [(.lit (.string ⟨#[]⟩)), (.lit (.int .i8 0)), (.lit (.bool false)), (.lit (.bool false)), (.lit (.bool false)), (.lit (.bool false)), (.lit (.bool false)), (.lit (.bool false))]), none⟩, zS (.store 8 (.t 3) (.t 9)), zM 4 10]
def r87_2 := [zM 12 4, zF 13 (.un .not (.t 12)), zM 11 13]
def r87_3 := [zA 14 1 1, zD 15 14, zF 16 (.bin .gtr (.t 15) (.c (.lit (.int .u8 31)))), zM 11 16]
def r87_4 := [zA 17 2 1, zD 18 17, zF 19 (.bin .gtr (.t 18) (.c (.lit (.int .u8 31)))), zM 11 19]
def r87_5 := [zA 20 3 1, zD 21 20, zF 22 (.bin .gtr (.t 21) (.c (.lit (.int .u8 31)))), zM 11 22]
def r87_6 := [zA 23 4 1, zD 24 23, zF 25 (.call false (.c (.fn 110 [])) [(.t 24), (zN 32)]), zF 26 (.un .not (.t 25)), zM 11 26]
def r87_7 := [zK 2 30]
def r87_8 := [zA 28 2 3, zD 29 28, zF 30 (.un .not (.t 29)), zM 31 30, zG 32 31 true (.fieldAddr 1 (.t 1)), zU 33 32 31 true, zG 34 31 true (.bin .neq (.t 33) (.c (.lit (.int .u8 0)))), zP 35 31 34, zM 27 35]
def r87_9 := [zA 36 3 3, zD 37 36, zF 38 (.un .not (.t 37)), zM 39 38, zG 40 39 true (.fieldAddr 2 (.t 1)), zU 41 40 39 true, zG 42 39 true (.bin .neq (.t 41) (.c (.lit (.int .u8 0)))), zP 43 39 42, zM 27 43]
def r87_10 := [zA 44 4 3, zD 45 44, zF 46 (.un .not (.t 45)), zM 47 46, zG 48 47 true (.fieldAddr 5 (.t 3)), zU 49 48 47 true, zG 50 47 true (.un .not (.t 49)), zP 51 47 50, zM 52 51, zG 53 52 true (.fieldAddr 3 (.t 1)), zU 54 53 52 true, zG 55 52 true (.bin .neq (.t 54) (.c (.lit (.int .u8 0)))), zP 56 52 55, zM 27 56]
def r87_11 := [zA 57 6 3, zD 58 57, zF 59 (.un .not (.t 58)), zM 60 59, zG 61 60 true (.fieldAddr 4 (.t 1)), zU 62 61 60 true, zG 63 60 true (.bin .neq (.t 62) (zN 0)), zP 64 60 63, zM 27 64]
def r87_12 := [zK 2 30]
def r87_13 := [zK 2 0]
def ac87 : ACode := (.seq (zR r87_0) (.seq (zR r87_1) (.seq (.block 0 (.seq (.seq (zR r87_2) (.cond (.t 11) .skip (.seq (zR r87_3) (.cond (.t 11) .skip (.seq (zR r87_4) (.cond (.t 11) .skip (.seq (zR r87_5) (.cond (.t 11) .skip (zR r87_6))))))))) (.cond (.t 11) (.seq (zR r87_7) .ret) (.seq (.seq (zR r87_8) (.cond (.t 27) .skip (.seq (zR r87_9) (.cond (.t 27) .skip (.seq (zR r87_10) (.cond (.t 27) .skip (zR r87_11))))))) (.cond (.t 27) (.seq (zR r87_12) .ret) .skip))))) (.seq (zR r87_13) .ret))))
def re87 : List AOp := [(.mv (.t 2))]
theorem cf87 : cFn Try.prog 87 = some (65, ac87, re87) := by kernel_rfl
def r96_0 := [zO 8 false]
def r96_1 := [zM 11 0, zJ 12 11, zA 13 14 12, zD 14 13, zM 15 2, zI 16 1 14 15, zD 17 16, zE 18 17, zK 19 0]
def r96_2 := [zB 20 .lss 19 18]
def r96_3 := [zI 21 1 17 19, zD 22 21, zM 10 22]
def r96_4 := [zM 23 3, zM 24 10, zJ 25 23, zF 26 (.idxAddr (some 32) 1 (.t 25) (.t 24)), zD 27 26, zM 28 1, zC 29 .add 28 1, zB 30 .eql 27 29]
def r96_5 := [zO 8 true]
def r96_6 := [zC 31 .add 19 1, zM 19 31]
def l96_0 : ACode := (.seq (zR r96_2) (.seq (.cond (.t 20) .skip (.exit 0)) (.seq (.block 1 (.seq (zR r96_3) (.seq (zR r96_4) (.cond (.t 30) (.seq (zR r96_5) .ret) .skip)))) (zR r96_6))))
def r96_7 := [zO 8 false]
def ac96 : ACode := (.seq (zR r96_0) (.seq (.seq (zR r96_1) (.block 0 (.loop l96_0))) (.seq (zR r96_7) .ret)))
def re96 : List AOp := [(.mv (.t 8))]
theorem cf96 : cFn Try.prog 96 = some (32, ac96, re96) := by kernel_rfl
def r97_0 := [zM 12 4, zE 13 12, zK 14 0]
def r97_1 := [zB 15 .lss 14 13]
def r97_2 := [zI 16 5 12 14, zV 17 true 5 16, zF 11 (.alloc [(.lit (.int .i64 0)), (.lit (.int .i64 0)), (.lit (.int .i64 0)), (.lit (.int .i64 0)), (.lit (.int .i8 0))]), zS (.store 5 (.t 11) (.t 17))]
def r97_3 := [zM 18 1, zM 19 2, zM 20 3, zA 21 0 11, zS (.store 1 (.t 21) (.t 18)), zA 22 1 11, zS (.store 1 (.t 22) (.t 19)), zA 23 3 11, zS (.store 1 (.t 23) (.t 20))]
def r97_4 := [zM 24 0, zM 25 0, zJ 26 25, zA 27 16 26, zD 28 27, zV 29 true 5 11, zF 30 (.buildSl 5 1 [(.lit (.int .i64 0)), (.lit (.int .i64 0)), (.lit (.int .i64 0)), (.lit (.int .i64 0)), (.lit (.int .i8 0))] [(0, (5, (.t 29)))]), zF 31 (.append 5 40 (.t 28) (.t 30)), zJ 32 24, zA 33 16 32, zS (.store 1 (.t 33) (.t 31))]
def r97_5 := [zC 34 .add 14 1, zM 14 34]
def l97_0 : ACode := (.seq (zR r97_1) (.seq (.cond (.t 15) .skip (.exit 0)) (.seq (.block 1 (.seq (zR r97_2) (.seq (zR r97_3) (.ops r97_4 [(27, 30)])))) (zR r97_5))))
def ac97 : ACode := (.seq (zR r97_0) (.block 0 (.loop l97_0)))
def re97 : List AOp := []
theorem cf97 : cFn Try.prog 97 = some (35, ac97, re97) := by kernel_rfl
def r98_0 := [zK 4 0]
def r98_1 := [zM 8 0, zJ 9 8, zA 10 0 9, zD 11 10, zM 12 1, zI 13 5 11 12, zA 14 0 13, zD 15 14, zL 16 false 41 [15], zM 7 16, zX 17 7 0, zX 18 7 1, zM 5 17, zM 6 18]
def r98_2 := [zM 19 0, zM 20 5, zJ 21 19, zA 22 1 21, zA 23 4 22, zF 24 (.idxAddr (some 4) 1 (.t 23) (.t 20)), zD 25 24, zM 4 25]
def ac98 : ACode := (.seq (zR r98_0) (.seq (zR r98_1) (.seq (zR r98_2) .ret)))
def re98 : List AOp := [(.mv (.t 4))]
theorem cf98 : cFn Try.prog 98 = some (26, ac98, re98) := by kernel_rfl
def r99_0 := [zM 13 0, zJ 14 13, zA 15 15 14, zD 16 15, zM 17 2, zI 18 1 16 17, zD 19 18, zC 20 .geq 19 0, zM 21 20, zH 22 0 21 true, zH 23 1 21 true, zH 24 0 21 true, zG 25 21 true (.nilchk (.t 24)), zG 26 21 true (.fieldAddr 15 (.t 25)), zU 27 26 21 true, zH 28 2 21 true, zW 29 1 27 28 21 true, zU 30 29 21 true, zG 31 21 true (.call false (.c (.fn 117 [])) [(.t 22), (.t 23), (.t 30)]), zP 32 21 31]
def r99_1 := [zM 33 0, zM 34 1, zM 35 2, zM 36 3, zF 37 (.build [(.lit (.int .i64 0)), (.lit (.int .i64 0)), (.lit (.int .i64 0)), (.lit (.int .i64 0)), (.lit (.int .i8 0))] [(4, (1, (.c (.lit (.int .i8 1)))))]), zF 38 (.buildSl 5 1 [(.lit (.int .i64 0)), (.lit (.int .i64 0)), (.lit (.int .i64 0)), (.lit (.int .i64 0)), (.lit (.int .i8 0))] [(0, (5, (.t 37)))]), zL 39 false 97 [33, 34, 35, 36, 38]]
def r99_2 := [zM 40 0, zJ 41 40, zA 42 15 41, zD 43 42, zM 44 2, zI 45 1 43 44, zD 46 45, zC 47 .geq 46 0, zM 48 47, zH 49 0 48 true, zG 50 48 true (.nilchk (.t 49)), zG 51 48 true (.fieldAddr 15 (.t 50)), zU 52 51 48 true, zH 53 1 48 true, zW 54 1 52 53 48 true, zU 55 54 48 true, zH 56 0 48 true, zG 57 48 true (.nilchk (.t 56)), zG 58 48 true (.fieldAddr 15 (.t 57)), zU 59 58 48 true, zH 60 2 48 true, zW 61 1 59 60 48 true, zU 62 61 48 true, zY 63 .eql 55 62 48 true, zP 64 48 63]
def r99_3 := [zM 65 0, zM 66 1, zM 67 2, zM 68 3, zM 69 0, zM 70 1, zL 71 false 98 [69, 70], zM 72 0, zM 73 2, zL 74 false 98 [72, 73], zB 75 .sub 71 74, zC 76 .add 75 1, zF 77 (.maxs [(zN 0), (.t 76)]), zF 78 (.build [(.lit (.int .i64 0)), (.lit (.int .i64 0)), (.lit (.int .i64 0)), (.lit (.int .i64 0)), (.lit (.int .i8 0))] [(2, (1, (.t 77))), (4, (1, (.c (.lit (.int .i8 2)))))]), zF 79 (.buildSl 5 1 [(.lit (.int .i64 0)), (.lit (.int .i64 0)), (.lit (.int .i64 0)), (.lit (.int .i64 0)), (.lit (.int .i8 0))] [(0, (5, (.t 78)))]), zL 80 false 97 [65, 66, 67, 68, 79]]
def r99_4 := [zM 81 0, zJ 82 81, zA 83 0 82, zD 84 83, zM 85 1, zI 86 5 84 85, zA 87 0 86, zD 88 87, zF 89 (.bin .eql (.t 88) (.c (.lit (.int .i8 16)))), zM 90 0, zJ 91 90, zA 92 0 91, zD 93 92, zM 94 2, zI 95 5 93 94, zA 96 0 95, zD 97 96, zF 98 (.bin .eql (.t 97) (.c (.lit (.int .i8 16)))), zM 10 89, zM 11 98]
def r99_5 := [zM 99 4, zM 100 99, zH 101 10 100 true, zH 102 101 100 true, zH 103 11 102 false, zG 104 100 true (.pick (.t 102) (.c (.lit (.bool true))) (.t 103)), zP 105 100 104]
def r99_6 := [zF 106 (.build [(.lit (.int .i64 0)), (.lit (.int .i64 0)), (.lit (.int .i64 0)), (.lit (.int .i64 0)), (.lit (.int .i8 0))] [(4, (1, (.c (.lit (.int .i8 3)))))]), zF 12 (.alloc [(.lit (.int .i64 0)), (.lit (.int .i64 0)), (.lit (.int .i64 0)), (.lit (.int .i64 0)), (.lit (.int .i8 0))]), zS (.store 5 (.t 12) (.t 106))]
def r99_7 := [zM 108 10, zM 109 108, zH 110 11 109 true, zP 111 109 110, zM 107 111]
def r99_8 := [zA 112 2 12, zS (.store 1 (.t 112) (zN 1))]
def r99_9 := [zM 114 10, zM 113 114]
def r99_10 := [zM 115 0, zJ 116 115, zA 117 1 116, zA 118 4 117, zF 119 (.idxAddr (some 4) 1 (.t 118) (zN 2)), zD 120 119, zA 121 2 12, zS (.store 1 (.t 121) (.t 120))]
def r99_11 := [zM 122 0, zM 123 1, zM 124 2, zM 125 3, zV 126 true 5 12, zF 127 (.buildSl 5 1 [(.lit (.int .i64 0)), (.lit (.int .i64 0)), (.lit (.int .i64 0)), (.lit (.int .i64 0)), (.lit (.int .i8 0))] [(0, (5, (.t 126)))]), zL 128 false 97 [122, 123, 124, 125, 127]]
def r99_12 := [zM 129 0, zJ 130 129, zA 131 0 130, zD 132 131, zM 133 1, zI 134 5 132 133, zV 135 true 5 134, zL 136 false 118 [135], zM 137 136, zH 138 0 137 true, zG 139 137 true (.nilchk (.t 138)), zG 140 137 true (.fieldAddr 0 (.t 139)), zU 141 140 137 true, zH 142 2 137 true, zW 143 5 141 142 137 true, zG 144 137 true (.load true 5 (.t 143)), zG 145 137 true (.call false (.c (.fn 118 [])) [(.t 144)]), zP 146 137 145]
def r99_13 := [zM 147 0, zM 148 1, zM 149 2, zM 150 3, zF 151 (.build [(.lit (.int .i64 0)), (.lit (.int .i64 0)), (.lit (.int .i64 0)), (.lit (.int .i64 0)), (.lit (.int .i8 0))] [(2, (1, (zN 1))), (4, (1, (.c (.lit (.int .i8 4)))))]), zF 152 (.buildSl 5 1 [(.lit (.int .i64 0)), (.lit (.int .i64 0)), (.lit (.int .i64 0)), (.lit (.int .i64 0)), (.lit (.int .i8 0))] [(0, (5, (.t 151)))]), zL 153 false 97 [147, 148, 149, 150, 152]]
def ac99 : ACode := (.seq (.seq (zR r99_0) (.cond (.t 32) (zR r99_1) .skip)) (.seq (.seq (zR r99_2) (.cond (.t 64) (zR r99_3) .skip)) (.seq (zR r99_4) (.seq (.seq (zR r99_5) (.cond (.t 105) (.seq (zR r99_6) (.seq (.block 0 (.seq (zR r99_7) (.cond (.t 107) (zR r99_8) (.seq (zR r99_9) (.cond (.t 113) (zR r99_10) .skip))))) (zR r99_11))) .skip)) (.seq (zR r99_12) (.cond (.t 146) (zR r99_13) .skip))))))
def re99 : List AOp := []
theorem cf99 : cFn Try.prog 99 = some (154, ac99, re99) := by kernel_rfl
def r100_0 := [zO 6 false]
def r100_1 := [zM 7 1, zF 8 (.bin .leq (zN 0) (.t 7)), zM 9 8, zH 10 1 9 true, zH 11 2 9 true, zY 12 .lss 10 11 9 true, zP 13 9 12, zM 14 13, zH 15 2 14 true, zH 16 0 14 true, zG 17 14 true (.len none (.t 16)), zY 18 .lss 15 17 14 true, zP 19 14 18, zM 20 19, zH 21 0 20 true, zH 22 1 20 true, zH 23 2 20 true, zH 24 0 20 true, zH 25 1 20 true, zH 26 2 20 true, zG 27 20 true (.slice none 5 (.t 24) (some (.t 25)) (some (.t 26)) none), zG 28 20 true (.call false (.c (.fn 119 [])) [(.t 21), (.t 22), (.t 23), (.t 27)]), zP 29 20 28, zM 6 29]
def ac100 : ACode := (.seq (zR r100_0) (.seq (zR r100_1) .ret))
def re100 : List AOp := [(.mv (.t 6))]
theorem cf100 : cFn Try.prog 100 = some (30, ac100, re100) := by kernel_rfl
def r103_0 := [zM 4 0, zM 5 0, zE 6 5, zM 7 1, zL 8 false 120 [4, 6, 7]]
def ac103 : ACode := (zR r103_0)
def re103 : List AOp := []
theorem cf103 : cFn Try.prog 103 = some (9, ac103, re103) := by kernel_rfl
def r104_0 := [zK 6 0]
def r104_1 := [zD 7 2, zD 8 3, zM 9 0, zI 10 1 8 9, zD 11 10, zD 12 3, zM 13 1, zI 14 1 12 13, zD 15 14, zF 16 (.call true (.t 7) [(.t 11), (.t 15)]), zM 6 16]
def ac104 : ACode := (.seq (zR r104_0) (.seq (zR r104_1) .ret))
def re104 : List AOp := [(.mv (.t 6))]
theorem cf104 : cFn Try.prog 104 = some (17, ac104, re104) := by kernel_rfl
def r105_0 : List yW := [⟨(some 0), (.alloc [(.lit (.string ⟨#[]⟩)), (.lit (.int .i8 0)), (.lit (.bool false)), (.lit (.bool false)), (.lit (.bool false)), (.lit (.bool false)), (.lit (.bool false)), (.lit (.bool false)), (.lit (.string ⟨#[]⟩)), (.lit (.int .i8 0)), (.lit (.bool false)), (.lit (.bool false)), (.lit (.bool false)), (.lit (.bool false)), (.lit (.bool false)), (.lit (.bool false)), (.lit (.string ⟨#[]⟩)), (.lit (.int .i8 0)), (.lit (.bool false)), (.lit (.bool false)), (.lit (.bool false)), (.lit (.bool false)), (.lit (.bool false)), (.lit (.bool false)), (.lit (.string ⟨#[]⟩)), (.lit (.int .i8 0)), (.lit (.bool false)), (.lit (.bool false)), (.lit (.bool false)), (.lit (.bool false)), (.lit (.bool false)), (.lit (.bool false)), (.lit (.string ⟨#[]⟩)), (.lit (.int .i8 0)), (.lit (.bool false)), (.lit (.bool false)), (.lit (.bool false)), (.lit (.bool false)), (.lit (.bool false)), (.lit (.bool false)), (.lit (.string ⟨#[]⟩)), (.lit (.int .i8 0)), (.lit (.bool false)), (.lit (.bool false)), (.lit (.bool false)), (.lit (.bool false)), (.lit (.bool false)), (.lit (.bool false)), (.lit (.string ⟨#[]⟩)), (.lit (.int .i8 0)), (.lit (.bool false)), (.lit (.bool false)), (.lit (.bool false)), (.lit (.bool false)), (.lit (.bool false)), (.lit (.bool false)), (.lit (.string ⟨#[]⟩)), (.lit (.int .i8 0)), (.lit (.bool false)), (.lit (.bool false)), (.lit (.bool false)), (.lit (.bool false)), (.lit (.bool false)), (.lit (.bool false)), (.lit (.string ⟨#[]⟩)), (.lit (.int .i8 0)), (.lit (.bool false)), (.lit (.bool false)), (.lit (.bool false)), (.lit (.bool false)), (.lit (.bool false)), (.lit (.bool false)), (.lit (.string ⟨#[]⟩)), (.lit (.int .i8 0)), (.lit (.bool false)), (.lit (.bool false)), (.lit (.bool false)), (.lit (.bool false)), (.lit (.bool false)), (.lit (.bool false)), (.lit (.string ⟨#[]⟩)), (.lit (.int .i8 0)), (.lit (.bool false)), (.lit (.bool false)), (.lit (.bool false)), (.lit (.bool false)), (.lit (.bool false)), (.lit (.bool false)), (.lit (.string ⟨#[]⟩)), (.lit (.int .i8 0)), (.lit (.bool false)), (.lit (.bool false)), (.lit (.bool false)), (.lit (.bool false)), (.lit (.bool false)), (.lit (.bool false)), (.lit (.string ⟨#[]⟩)), (.lit (.int .i8 0)), (.lit (.bool false)), (.lit (.bool false)), (.lit (.bool false)), (.lit (.bool false)), (.lit (.bool false)), (.lit (.bool false)), (.lit (.string ⟨#[]⟩)), (.lit (.int .i8 0)), (.lit (.bool false)), (.lit (.bool false)), (.lit (.bool false)), (.lit (.bool false)), (.lit (.bool false)), (.lit (.bool false)), (.lit (.string ⟨#[]⟩)), (.lit (.int .i8 0)), (.lit (.bool false)), (.lit (.bool false)), (.lit (.bool false)), (.lit (.bool false)), (.lit (.bool false)), (.lit (.bool false)), (.lit (.string ⟨#[]⟩)), (.lit (.int .i8 0)), (.lit (.bool false)), (.lit (.bool false)), (.lit (.bool false)), (.lit (.bool false)), (.lit (.bool false)), (.lit (.bool false)), (.lit (.string ⟨#[]⟩)), (.lit (.int .i8 0)), (.lit (.bool false)), (.lit (.bool false)), (.lit (.bool false)), (.lit (.bool false)), (.lit (.bool false)), (.lit (.bool false)), (.lit (.string ⟨#[]⟩)), (.lit (.int .i8 0)), (.lit (.bool false)), (.lit (.bool false)), (.lit (.bool false)), (.lit (.bool false)), (.lit (.bool false)), (.lit (.bool false)), (.lit (.string ⟨#[]⟩)), (.lit (.int .i8 0)), (.lit (.bool false)), (.lit (.bool false)), (.lit (.bool false)), (.lit (.bool false)), (.lit (.bool false)), (.lit (.bool false)), (.lit (.string ⟨#[]⟩)), (.lit (.int .i8 0)), (.lit (.bool false)), (.lit (.bool false)), (.lit (.bool false)), (.lit (.bool false)), (.lit (.bool false)), (.lit (.bool false)), (.lit (.string ⟨#[]⟩)), (.lit (.int .i8 0)), (.lit (.bool false)), (.lit (.bool false)), (.lit (.bool false)), (.lit (.bool false)), (.lit (.bool false)), (.lit (.bool false)), (.lit (.string ⟨#[]⟩)), (.lit (.int .i8 0)), (.lit (.bool false)), (.lit (.bool false)), (.lit (.bool false)), (.lit (.bool false)), (.lit (.bool false)), (.lit (.bool false)), (.lit (.string ⟨#[]⟩)), (.lit (.int .i8 0)), (.lit (.bool false)), (.lit (.bool false)), (.lit (.bool false)), (.lit (.bool false)), (.lit (.bool false)), (.lit (.bool false)), (.lit (.string ⟨#[]⟩)), (.lit (.int .i8 0)), (.lit (.bool false)), (.lit (.bool false)), (.lit (.bool false)), (.lit (.bool false)), (.lit (.bool false)), (.lit (.bool false))]), none⟩]
def r105_1 := [zF 1 (.mv (.c (.fn 121 [])))]
def r105_2 : List yW := [⟨(some 2), (.build [(.lit (.string ⟨#[]⟩)), (.lit (.int .i8 0)), (.lit (.bool false)), (.lit (.bool false)), (.lit (.bool false)), (.lit (.bool false)), (.lit (.bool false)), (.lit (.bool false))] [(0, (1, (.c (.lit (.string ⟨#[110, 111, 112]⟩))))), (1, (1, (.c (.lit (.int .i8 (-1)))))), (7, (1, (.c (.lit (.bool true)))))]), none⟩, ⟨(some 3), (.build [(.lit (.string ⟨#[]⟩)), (.lit (.int .i8 0)), (.lit (.bool false)), (.lit (.bool false)), (.lit (.bool false)), (.lit (.bool false)), (.lit (.bool false)), (.lit (.bool false))] [(0, (1, (.c (.lit (.string ⟨#[99, 111, 110, 115, 116]⟩))))), (1, (1, (.c (.lit (.int .i8 0))))), (2, (1, (.c (.lit (.bool true))))), (3, (1, (.c (.lit (.bool false))))), (4, (1, (.c (.lit (.bool false))))), (5, (1, (.c (.lit (.bool false))))), (6, (1, (.c (.lit (.bool true))))), (7, (1, (.c (.lit (.bool true)))))]), none⟩, zM 4 1, ⟨(some 5), (.call false (.t 4) [(.c (.lit (.string ⟨#[97, 100, 100]⟩))), (.c (.lit (.int .i8 0)))]), none⟩, zM 6 1, ⟨(some 7), (.call false (.t 6) [(.c (.lit (.string ⟨#[115, 117, 98]⟩))), (.c (.lit (.int .i8 0)))]), none⟩, zM 8 1, ⟨(some 9), (.call false (.t 8) [(.c (.lit (.string ⟨#[97, 110, 100]⟩))), (.c (.lit (.int .i8 0)))]), none⟩, zM 10 1, ⟨(some 11), (.call false (.t 10) [(.c (.lit (.string ⟨#[111, 114]⟩))), (.c (.lit (.int .i8 0)))]), none⟩, zM 12 1, ⟨(some 13), (.call false (.t 12) [(.c (.lit (.string ⟨#[120, 111, 114]⟩))), (.c (.lit (.int .i8 0)))]), none⟩, zM 14 1, ⟨(some 15), (.call false (.t 14) [(.c (.lit (.string ⟨#[115, 104, 108]⟩))), (.c (.lit (.int .i8 0)))]), none⟩, zM 16 1, ⟨(some 17), (.call false (.t 16) [(.c (.lit (.string ⟨#[115, 104, 114]⟩))), (.c (.lit (.int .i8 0)))]), none⟩, zM 18 1, ⟨(some 19), (.call false (.t 18) [(.c (.lit (.string ⟨#[108, 101, 115, 115]⟩))), (.c (.lit (.int .i8 0)))]), none⟩, zM 20 1, ⟨(some 21), (.call false (.t 20) [(.c (.lit (.string ⟨#[101, 113, 117, 97, 108]⟩))), (.c (.lit (.int .i8 0)))]), none⟩, ⟨(some 22), (.build [(.lit (.string ⟨#[]⟩)), (.lit (.int .i8 0)), (.lit (.bool false)), (.lit (.bool false)), (.lit (.bool false)), (.lit (.bool false)), (.lit (.bool false)), (.lit (.bool false))] [(0, (1, (.c (.lit (.string ⟨#[109, 111, 118, 101]⟩))))), (1, (1, (.c (.lit (.int .i8 0))))), (2, (1, (.c (.lit (.bool true))))), (3, (1, (.c (.lit (.bool true))))), (4, (1, (.c (.lit (.bool false))))), (5, (1, (.c (.lit (.bool false))))), (6, (1, (.c (.lit (.bool false))))), (7, (1, (.c (.lit (.bool true)))))]), none⟩, zM 23 1, ⟨(some 24), (.call false (.t 23) [(.c (.lit (.string ⟨#[116, 105, 109, 101, 115]⟩))), (.c (.lit (.int .i8 1)))]), none⟩, zM 25 1, ⟨(some 26), (.call false (.t 25) [(.c (.lit (.string ⟨#[100, 105, 118, 105, 100, 101]⟩))), (.c (.lit (.int .i8 1)))]), none⟩, zM 27 1, ⟨(some 28), (.call false (.t 27) [(.c (.lit (.string ⟨#[114, 101, 115, 116]⟩))), (.c (.lit (.int .i8 1)))]), none⟩, ⟨(some 29), (.build [(.lit (.string ⟨#[]⟩)), (.lit (.int .i8 0)), (.lit (.bool false)), (.lit (.bool false)), (.lit (.bool false)), (.lit (.bool false)), (.lit (.bool false)), (.lit (.bool false))] [(0, (1, (.c (.lit (.string ⟨#[108, 111, 97, 100]⟩))))), (1, (1, (.c (.lit (.int .i8 2))))), (2, (1, (.c (.lit (.bool true))))), (3, (1, (.c (.lit (.bool true))))), (4, (1, (.c (.lit (.bool false))))), (5, (1, (.c (.lit (.bool false))))), (6, (1, (.c (.lit (.bool true))))), (7, (1, (.c (.lit (.bool true)))))]), none⟩, ⟨(some 30), (.build [(.lit (.string ⟨#[]⟩)), (.lit (.int .i8 0)), (.lit (.bool false)), (.lit (.bool false)), (.lit (.bool false)), (.lit (.bool false)), (.lit (.bool false)), (.lit (.bool false))] [(0, (1, (.c (.lit (.string ⟨#[115, 116, 111, 114, 101]⟩))))), (1, (1, (.c (.lit (.int .i8 2))))), (2, (1, (.c (.lit (.bool false))))), (3, (1, (.c (.lit (.bool true))))), (4, (1, (.c (.lit (.bool true))))), (5, (1, (.c (.lit (.bool false))))), (6, (1, (.c (.lit (.bool true))))), (7, (1, (.c (.lit (.bool true)))))]), none⟩, ⟨(some 31), (.build [(.lit (.string ⟨#[]⟩)), (.lit (.int .i8 0)), (.lit (.bool false)), (.lit (.bool false)), (.lit (.bool false)), (.lit (.bool false)), (.lit (.bool false)), (.lit (.bool false))] [(0, (1, (.c (.lit (.string ⟨#[112, 114, 105, 110, 116]⟩))))), (1, (1, (.c (.lit (.int .i8 2))))), (2, (1, (.c (.lit (.bool false))))), (3, (1, (.c (.lit (.bool true))))), (4, (1, (.c (.lit (.bool false))))), (5, (1, (.c (.lit (.bool false))))), (6, (1, (.c (.lit (.bool false))))), (7, (1, (.c (.lit (.bool true)))))]), none⟩, ⟨(some 32), (.build [(.lit (.string ⟨#[]⟩)), (.lit (.int .i8 0)), (.lit (.bool false)), (.lit (.bool false)), (.lit (.bool false)), (.lit (.bool false)), (.lit (.bool false)), (.lit (.bool false))] [(0, (1, (.c (.lit (.string ⟨#[106, 117, 109, 112]⟩))))), (1, (1, (.c (.lit (.int .i8 3))))), (2, (1, (.c (.lit (.bool false))))), (3, (1, (.c (.lit (.bool false))))), (4, (1, (.c (.lit (.bool false))))), (5, (1, (.c (.lit (.bool false))))), (6, (1, (.c (.lit (.bool true))))), (7, (1, (.c (.lit (.bool true)))))]), none⟩, ⟨(some 33), (.build [(.lit (.string ⟨#[]⟩)), (.lit (.int .i8 0)), (.lit (.bool false)), (.lit (.bool false)), (.lit (.bool false)), (.lit (.bool false)), (.lit (.bool false)), (.lit (.bool false))] [(0, (1, (.c (.lit (.string ⟨#[98, 114, 97, 110, 99, 104]⟩))))), (1, (1, (.c (.lit (.int .i8 3))))), (2, (1, (.c (.lit (.bool false))))), (3, (1, (.c (.lit (.bool true))))), (4, (1, (.c (.lit (.bool false))))), (5, (1, (.c (.lit (.bool false))))), (6, (1, (.c (.lit (.bool true))))), (7, (1, (.c (.lit (.bool true)))))]), none⟩, ⟨(some 34), (.build [(.lit (.string ⟨#[]⟩)), (.lit (.int .i8 0)), (.lit (.bool false)), (.lit (.bool false)), (.lit (.bool false)), (.lit (.bool false)), (.lit (.bool false)), (.lit (.bool false))] [(0, (1, (.c (.lit (.string ⟨#[104, 97, 108, 116]⟩))))), (1, (1, (.c (.lit (.int .i8 3))))), (2, (1, (.c (.lit (.bool false))))), (3, (1, (.c (.lit (.bool true))))), (4, (1, (.c (.lit (.bool false))))), (5, (1, (.c (.lit (.bool false))))), (6, (1, (.c (.lit (.bool false))))), (7, (1, (.c (.lit (.bool true)))))]), none⟩, ⟨(some 35), (.build [(.lit (.string ⟨#[]⟩)), (.lit (.int .i8 0)), (.lit (.bool false)), (.lit (.bool false)), (.lit (.bool false)), (.lit (.bool false)), (.lit (.bool false)), (.lit (.bool false))] [(0, (1, (.c (.lit (.string ⟨#[99, 111, 117, 110, 116]⟩))))), (1, (1, (.c (.lit (.int .i8 3))))), (2, (1, (.c (.lit (.bool false))))), (3, (1, (.c (.lit (.bool true))))), (4, (1, (.c (.lit (.bool false))))), (5, (1, (.c (.lit (.bool false))))), (6, (1, (.c (.lit (.bool true))))), (7, (1, (.c (.lit (.bool true)))))]), none⟩, ⟨(some 36), (.build [(.lit (.string ⟨#[]⟩)), (.lit (.int .i8 0)), (.lit (.bool false)), (.lit (.bool false)), (.lit (.bool false)), (.lit (.bool false)), (.lit (.bool false)), (.lit (.bool false))] [(0, (1, (.c (.lit (.string ⟨#[115, 104, 111, 114, 116]⟩))))), (1, (1, (.c (.lit (.int .i8 3))))), (2, (1, (.c (.lit (.bool false))))), (3, (1, (.c (.lit (.bool true))))), (4, (1, (.c (.lit (.bool false))))), (5, (1, (.c (.lit (.bool true))))), (6, (1, (.c (.lit (.bool true))))), (7, (1, (.c (.lit (.bool true)))))]), none⟩, ⟨(some 37), (.build [(.lit (.string ⟨#[]⟩)), (.lit (.int .i8 0)), (.lit (.bool false)), (.lit (.bool false)), (.lit (.bool false)), (.lit (.bool false)), (.lit (.bool false)), (.lit (.bool false))] [(0, (1, (.c (.lit (.string ⟨#[97, 103, 97, 105, 110]⟩))))), (1, (1, (.c (.lit (.int .i8 3))))), (2, (1, (.c (.lit (.bool false))))), (3, (1, (.c (.lit (.bool false))))), (4, (1, (.c (.lit (.bool false))))), (5, (1, (.c (.lit (.bool false))))), (6, (1, (.c (.lit (.bool true))))), (7, (1, (.c (.lit (.bool true)))))]), none⟩, ⟨(some 38), (.build [(.lit (.string ⟨#[]⟩)), (.lit (.int .i8 0)), (.lit (.bool false)), (.lit (.bool false)), (.lit (.bool false)), (.lit (.bool false)), (.lit (.bool false)), (.lit (.bool false)), (.lit (.string ⟨#[]⟩)), (.lit (.int .i8 0)), (.lit (.bool false)), (.lit (.bool false)), (.lit (.bool false)), (.lit (.bool false)), (.lit (.bool false)), (.lit (.bool false)), (.lit (.string ⟨#[]⟩)), (.lit (.int .i8 0)), (.lit (.bool false)), (.lit (.bool false)), (.lit (.bool false)), (.lit (.bool false)), (.lit (.bool false)), (.lit (.bool false)), (.lit (.string ⟨#[]⟩)), (.lit (.int .i8 0)), (.lit (.bool false)), (.lit (.bool false)), (.lit (.bool false)), (.lit (.bool false)), (.lit (.bool false)), (.lit (.bool false)), (.lit (.string ⟨#[]⟩)), (.lit (.int .i8 0)), (.lit (.bool false)), (.lit (.bool false)), (.lit (.bool false)), (.lit (.bool false)), (.lit (.bool false)), (.lit (.bool false)), (.lit (.string ⟨#[]⟩)), (.lit (.int .i8 0)), (.lit (.bool false)), (.lit (.bool false)), (.lit (.bool false)), (.lit (.bool false)), (.lit (.bool false)), (.lit (.bool false)), (.lit (.string ⟨#[]⟩)), (.lit (.int .i8 0)), (.lit (.bool false)), (.lit (.bool false)), (.lit (.bool false)), (.lit (.bool false)), (.lit (.bool false)), (.lit (.bool false)), (.lit (.string ⟨#[]⟩)), (.lit (.int .i8 0)), (.lit (.bool false)), (.lit (.bool false)), (.lit (.bool false)), (.lit (.bool false)), (.lit (.bool false)), (.lit (.bool false)), (.lit (.string ⟨#[]⟩)), (.lit (.int .i8 0)), (.lit (.bool false)), (.lit (.bool false)), (.lit (.bool false)), (.lit (.bool false)), (.lit (.bool false)), (.lit (.bool false)), (.lit (.string ⟨#[]⟩)), (.lit (.int .i8 0)), (.lit (.bool false)), (.lit (.bool false)), (.lit (.bool false)), (.lit (.bool false)), (.lit (.bool false)), (.lit (.bool false)), (.lit (.string ⟨#[]⟩)), (.lit (.int .i8 0)), (.lit (.bool false)), (.lit (.bool false)), (.lit (.bool false)), (.lit (.bool false)), (.lit (.bool false)), (.lit (.bool false)), (.lit (.string ⟨#[]⟩)), (.lit (.int .i8 0)), (.lit (.bool false)), (.lit (.bool false)), (.lit (.bool false)), (.lit (.bool false)), (.lit (.bool false)), (.lit (.bool false)), (.lit (.string ⟨#[]⟩)), (.lit (.int .i8 0)), (.lit (.bool false)), (.lit (.bool false)), (.lit (.bool false)), (.lit (.bool false)), (.lit (.bool false)), (.lit (.bool false)), (.lit (.string ⟨#[]⟩)), (.lit (.int .i8 0)), (.lit (.bool false)), (.lit (.bool false)), (.lit (.bool false)), (.lit (.bool false)), (.lit (.bool false)), (.lit (.bool false)), (.lit (.string ⟨#[]⟩)), (.lit (.int .i8 0)), (.lit (.bool false)), (.lit (.bool false)), (.lit (.bool false)), (.lit (.bool false)), (.lit (.bool false)), (.lit (.bool false)), (.lit (.string ⟨#[]⟩)), (.lit (.int .i8 0)), (.lit (.bool false)), (.lit (.bool false)), (.lit (.bool false)), (.lit (.bool false)), (.lit (.bool false)), (.lit (.bool false)), (.lit (.string ⟨#[]⟩)), (.lit (.int .i8 0)), (.lit (.bool false)), (.lit (.bool false)), (.lit (.bool false)), (.lit (.bool false)), (.lit (.bool false)), (.lit (.bool false)), (.lit (.string ⟨#[]⟩)), (.lit (.int .i8 0)), (.lit (.bool false)), (.lit (.bool false)), (.lit (.bool false)), (.lit (.bool false)), (.lit (.bool false)), (.lit (.bool false)), (.lit (.string ⟨#[]⟩)), (.lit (.int .i8 0)), (.lit (.bool false)), (.lit (.bool false)), (.lit (.bool false)), (.lit (.bool false)), (.lit (.bool false)), (.lit (.bool false)), (.lit (.string ⟨#[]⟩)), (.lit (.int .i8 0)), (.lit (.bool false)), (.lit (.bool false)), (.lit (.bool false)), (.lit (.bool false)), (.lit (.bool false)), (.lit (.bool false)), (.lit (.string ⟨#[]⟩)), (.lit (.int .i8 0)), (.lit (.bool false)), (.lit (.bool false)), (.lit (.bool false)), (.lit (.bool false)), (.lit (.bool false)), (.lit (.bool false)), (.lit (.string ⟨#[]⟩)), (.lit (.int .i8 0)), (.lit (.bool false)), (.lit (.bool false)), (.lit (.bool false)), (.lit (.bool false)), (.lit (.bool false)), (.lit (.bool false)), (.lit (.string ⟨#[]⟩)), (.lit (.int .i8 0)), (.lit (.bool false)), (.lit (.bool false)), (.lit (.bool false)), (.lit (.bool false)), (.lit (.bool false)), (.lit (.bool false)), (.lit (.string ⟨#[]⟩)), (.lit (.int .i8 0)), (.lit (.bool false)), (.lit (.bool false)), (.lit (.bool false)), (.lit (.bool false)), (.lit (.bool false)), (.lit (.bool false))] [(0, (8, (.t 2))), (8, (8, (.t 3))), (16, (8, (.t 5))), (24, (8, (.t 7))), (32, (8, (.t 9))), (40, (8, (.t 11))), (48, (8, (.t 13))), (56, (8, (.t 15))), (64, (8, (.t 17))), (72, (8, (.t 19))), (80, (8, (.t 21))), (88, (8, (.t 22))), (96, (8, (.t 24))), (104, (8, (.t 26))), (112, (8, (.t 28))), (120, (8, (.t 29))), (128, (8, (.t 30))), (136, (8, (.t 31))), (144, (8, (.t 32))), (152, (8, (.t 33))), (160, (8, (.t 34))), (168, (8, (.t 35))), (176, (8, (.t 36))), (184, (8, (.t 37)))]), none⟩, zS (.store 192 (.t 0) (.t 38))]
def ac105 : ACode := (.seq (zR r105_0) (.seq (zR r105_1) (.seq (zR r105_2) .ret)))
def re105 : List AOp := [(.load true 192 (.t 0))]
theorem cf105 : cFn Try.prog 105 = some (39, ac105, re105) := by kernel_rfl
def r110_0 := [zO 4 false]
def r110_1 := [zM 5 0, zF 6 (.conv .u64 (.t 5)), zM 7 1, zL 8 false 123 [6, 7], zM 9 0, zB 10 .eql 8 9, zM 4 10]
def ac110 : ACode := (.seq (zR r110_0) (.seq (zR r110_1) .ret))
def re110 : List AOp := [(.mv (.t 4))]
theorem cf110 : cFn Try.prog 110 = some (11, ac110, re110) := by kernel_rfl
def r117_0 := [zO 6 false]
def r117_1 := [zM 9 0, zJ 10 9, zA 11 14 10, zD 12 11, zM 13 1, zI 14 1 12 13, zD 15 14, zE 16 15, zK 17 0]
def r117_2 := [zB 18 .lss 17 16]
def r117_3 := [zI 19 1 15 17, zD 20 19, zM 8 20]
def r117_4 := [zM 21 8, zF 22 (.conv .i64 (.t 21)), zM 23 2, zB 24 .eql 22 23]
def r117_5 := [zO 6 true]
def r117_6 := [zC 25 .add 17 1, zM 17 25]
def l117_0 : ACode := (.seq (zR r117_2) (.seq (.cond (.t 18) .skip (.exit 0)) (.seq (.block 1 (.seq (zR r117_3) (.seq (zR r117_4) (.cond (.t 24) (.seq (zR r117_5) .ret) .skip)))) (zR r117_6))))
def r117_7 := [zO 6 false]
def ac117 : ACode := (.seq (zR r117_0) (.seq (.seq (zR r117_1) (.block 0 (.loop l117_0))) (.seq (zR r117_7) .ret)))
def re117 : List AOp := [(.mv (.t 6))]
theorem cf117 : cFn Try.prog 117 = some (26, ac117, re117) := by kernel_rfl
def r118_0 := [zF 1 (.box (.t 0)), zO 2 false]
def r118_1 := [zA 3 0 1, zD 4 3, zF 5 (.bin .eql (.t 4) (.c (.lit (.int .i8 17)))), zM 6 5, zG 7 6 false (.fieldAddr 0 (.t 1)), zU 8 7 6 false, zG 9 6 false (.bin .eql (.t 8) (.c (.lit (.int .i8 13)))), zQ 10 6 9, zM 11 10, zG 12 11 false (.fieldAddr 0 (.t 1)), zU 13 12 11 false, zG 14 11 false (.bin .eql (.t 13) (.c (.lit (.int .i8 14)))), zQ 15 11 14, zM 2 15]
def ac118 : ACode := (.seq (zR r118_0) (.seq (zR r118_1) .ret))
def re118 : List AOp := [(.mv (.t 2))]
theorem cf118 : cFn Try.prog 118 = some (16, ac118, re118) := by kernel_rfl
def r119_0 := [zF 7 (.box (.t 3)), zO 8 false]
def r119_1 := [zM 12 0, zM 13 1, zI 14 5 12 13, zV 15 true 5 14, zM 16 0, zM 17 2, zI 18 5 16 17, zV 19 true 5 18, zF 9 (.alloc [(.lit (.int .i8 0)), (.lit (.int .u8 0)), (.lit (.int .u8 0)), (.lit (.int .u8 0)), (.lit (.int .i64 0))]), zF 10 (.alloc [(.lit (.int .i8 0)), (.lit (.int .u8 0)), (.lit (.int .u8 0)), (.lit (.int .u8 0)), (.lit (.int .i64 0))]), zS (.store 5 (.t 9) (.t 15)), zS (.store 5 (.t 10) (.t 19))]
def r119_2 := [zV 20 true 5 9, zL 21 false 124 [20], zF 22 (.un .not (.t 21)), zM 23 22, zG 24 23 false (.load true 5 (.t 10)), zG 25 23 false (.call false (.c (.fn 124 [])) [(.t 24)]), zG 26 23 false (.un .not (.t 25)), zQ 27 23 26, zM 28 27, zG 29 28 false (.fieldAddr 0 (.t 9)), zU 30 29 28 false, zG 31 28 false (.bin .eql (.t 30) (.c (.lit (.int .i8 15)))), zH 32 31 28 false, zG 33 32 true (.fieldAddr 0 (.t 10)), zU 34 33 32 true, zG 35 32 true (.bin .eql (.t 34) (.c (.lit (.int .i8 15)))), zG 36 28 false (.pick (.t 32) (.t 35) (.c (.lit (.bool false)))), zQ 37 28 36]
def r119_3 := [zO 8 false]
def r119_4 := [zF 38 (.mkfn 125 [(.t 7)]), zM 11 38]
def r119_5 := [zA 39 2 9, zD 40 39, zA 41 2 10, zD 42 41, zB 43 .neq 40 42, zM 44 43, zG 45 44 false (.fieldAddr 4 (.t 9)), zU 46 45 44 false, zG 47 44 false (.conv .u8 (.t 46)), zG 48 44 false (.fieldAddr 4 (.t 10)), zU 49 48 44 false, zG 50 44 false (.conv .u8 (.t 49)), zY 51 .eql 47 50 44 false, zQ 52 44 51, zM 53 52, zH 54 11 53 false, zG 55 53 false (.fieldAddr 2 (.t 9)), zU 56 55 53 false, zG 57 53 false (.call false (.t 54) [(.t 56)]), zQ 58 53 57, zM 8 58]
def ac119 : ACode := (.seq (zR r119_0) (.seq (.ops r119_1 [(14, 9), (14, 10), (18, 9), (18, 10)]) (.seq (.seq (zR r119_2) (.cond (.t 37) (.seq (zR r119_3) .ret) .skip)) (.seq (zR r119_4) (.seq (zR r119_5) .ret)))))
def re119 : List AOp := [(.mv (.t 8))]
theorem cf119 : cFn Try.prog 119 = some (59, ac119, re119) := by kernel_rfl
def r120_0 := [zK 6 20]
def r120_1 := [zM 10 6, zK 7 0, zM 8 10]
def r120_2 := [zM 11 8, zM 12 1, zB 13 .leq 11 12]
def r120_3 := [zM 14 0, zM 15 7, zM 16 8, zM 17 2, zL 18 false 126 [14, 15, 16, 17]]
def r120_4 := [zM 19 8, zM 7 19]
def r120_5 := [zM 20 8, zM 21 6, zB 22 .add 20 21, zM 8 22]
def l120_0 : ACode := (.seq (.seq (zR r120_2) (.cond (.t 13) .skip (.exit 0))) (.block 1 (.seq (zR r120_3) (.seq (zR r120_4) (zR r120_5)))))
def r120_6 := [zM 23 0, zM 24 7, zM 25 1, zM 26 2, zL 27 false 126 [23, 24, 25, 26]]
def r120_7 := [zM 28 6, zM 29 1, zB 30 .lss 28 29]
def r120_8 := [zM 31 6, zF 32 (.bin .mul (zN 2) (.t 31)), zK 7 0, zM 8 32]
def r120_9 := [zM 33 8, zM 34 1, zB 35 .leq 33 34]
def r120_10 := [zM 36 0, zM 37 7, zM 38 7, zM 39 6, zB 40 .add 38 39, zM 41 8, zM 42 2, zL 43 false 127 [36, 37, 40, 41, 42]]
def r120_11 := [zM 44 8, zM 7 44]
def r120_12 := [zM 45 8, zM 46 6, zF 47 (.bin .mul (zN 2) (.t 46)), zB 48 .add 45 47, zM 8 48]
def l120_1 : ACode := (.seq (.seq (zR r120_9) (.cond (.t 35) .skip (.exit 4))) (.block 5 (.seq (zR r120_10) (.seq (zR r120_11) (zR r120_12)))))
def r120_13 := [zM 49 7, zM 50 6, zB 51 .add 49 50, zM 9 51]
def r120_14 := [zM 52 9, zM 53 1, zB 54 .lss 52 53]
def r120_15 := [zM 55 0, zM 56 7, zM 57 9, zM 58 1, zM 59 2, zL 60 false 127 [55, 56, 57, 58, 59]]
def r120_16 := [zM 61 6, zC 62 .mul 61 2, zM 6 62]
def l120_2 : ACode := (.seq (.seq (zR r120_7) (.cond (.t 30) .skip (.exit 2))) (.block 3 (.seq (zR r120_8) (.seq (.block 4 (.loop l120_1)) (.seq (.seq (zR r120_13) (.seq (zR r120_14) (.cond (.t 54) (zR r120_15) .skip))) (zR r120_16))))))
def ac120 : ACode := (.seq (zR r120_0) (.seq (zR r120_1) (.seq (.block 0 (.loop l120_0)) (.seq (zR r120_6) (.block 2 (.loop l120_2))))))
def re120 : List AOp := []
theorem cf120 : cFn Try.prog 120 = some (63, ac120, re120) := by kernel_rfl
def r121_0 : List yW := [⟨(some 4), (.alloc [(.lit (.string ⟨#[]⟩)), (.lit (.int .i8 0)), (.lit (.bool false)), (.lit (.bool false)), (.lit (.bool false)), (.lit (.bool false)), (.lit (.bool false)), (.lit (.bool false))]), none⟩]
def r121_1 := [zM 5 0, zM 6 1, ⟨(some 7), (.build [(.lit (.string ⟨#[]⟩)), (.lit (.int .i8 0)), (.lit (.bool false)), (.lit (.bool false)), (.lit (.bool false)), (.lit (.bool false)), (.lit (.bool false)), (.lit (.bool false))] [(0, (1, (.t 5))), (1, (1, (.t 6))), (2, (1, (.c (.lit (.bool true))))), (3, (1, (.c (.lit (.bool true))))), (4, (1, (.c (.lit (.bool true))))), (5, (1, (.c (.lit (.bool false))))), (6, (1, (.c (.lit (.bool false))))), (7, (1, (.c (.lit (.bool true)))))]), none⟩, zS (.store 8 (.t 4) (.t 7))]
def ac121 : ACode := (.seq (zR r121_0) (.seq (zR r121_1) .ret))
def re121 : List AOp := [(.load true 8 (.t 4))]
theorem cf121 : cFn Try.prog 121 = some (8, ac121, re121) := by kernel_rfl
def r122_0 := [zF 2 (.box (.t 0)), zK 4 0]
def r122_1 := [zM 5 1, zM 4 5]
def ac122 : ACode := (.seq (zR r122_0) (.seq (zR r122_1) .ret))
def re122 : List AOp := [(.mv (.t 4))]
theorem cf122 : cFn Try.prog 122 = some (6, ac122, re122) := by kernel_rfl
def r123_0 := [zK 4 0]
def r123_1 := [zM 6 1, zF 7 (.maxs [(.t 6), (zN 1)]), zF 8 (.mins [(.t 7), (zN 64)]), zF 9 (.bin .sub (zN 64) (.t 8)), zF 10 (.conv .u8 (.t 9)), zM 5 10]
def r123_2 := [zM 11 0, zM 12 5, zB 13 .shl 11 12, zF 14 (.conv .i64 (.t 13)), zM 15 5, zB 16 .shr 14 15, zM 4 16]
def ac123 : ACode := (.seq (zR r123_0) (.seq (zR r123_1) (.seq (zR r123_2) .ret)))
def re123 : List AOp := [(.mv (.t 4))]
theorem cf123 : cFn Try.prog 123 = some (17, ac123, re123) := by kernel_rfl
def r124_0 := [zF 1 (.box (.t 0)), zO 2 false]
def r124_1 := [zA 3 0 1, zD 4 3, zF 5 (.bin .eql (.t 4) (.c (.lit (.int .i8 15)))), zM 6 5, zG 7 6 false (.fieldAddr 0 (.t 1)), zU 8 7 6 false, zG 9 6 false (.bin .eql (.t 8) (.c (.lit (.int .i8 16)))), zQ 10 6 9, zM 11 10, zG 12 11 true (.load true 5 (.t 1)), zG 13 11 true (.call false (.c (.fn 87 [])) [(.t 12)]), zG 14 11 true (.bin .eql (.t 13) (zN 0)), zP 15 11 14, zM 2 15]
def ac124 : ACode := (.seq (zR r124_0) (.seq (zR r124_1) .ret))
def re124 : List AOp := [(.mv (.t 2))]
theorem cf124 : cFn Try.prog 124 = some (16, ac124, re124) := by kernel_rfl
def r125_0 := [zO 3 false]
def r125_1 := [zD 8 1, zE 9 8, zK 10 0]
def r125_2 := [zB 11 .lss 10 9]
def r125_3 := [zI 12 5 8 10, zV 13 true 5 12, zF 5 (.alloc [(.lit (.int .i8 0)), (.lit (.int .u8 0)), (.lit (.int .u8 0)), (.lit (.int .u8 0)), (.lit (.int .i64 0))]), zS (.store 5 (.t 5) (.t 13))]
def r125_4 := [zV 15 true 5 5, zL 16 false 52 [15], zM 14 16, zX 17 14 0, zX 18 14 1, zM 6 17, zM 7 18]
def r125_5 := [zM 19 7, zM 20 19, zH 21 6 20 true, zH 22 0 20 true, zY 23 .eql 21 22 20 true, zP 24 20 23]
def r125_6 := [zO 3 true]
def r125_7 := [zC 25 .add 10 1, zM 10 25]
def l125_0 : ACode := (.seq (zR r125_2) (.seq (.cond (.t 11) .skip (.exit 0)) (.seq (.block 1 (.seq (zR r125_3) (.seq (zR r125_4) (.seq (zR r125_5) (.cond (.t 24) (.seq (zR r125_6) .ret) .skip))))) (zR r125_7))))
def r125_8 := [zO 3 false]
def ac125 : ACode := (.seq (zR r125_0) (.seq (.seq (zR r125_1) (.block 0 (.loop l125_0))) (.seq (zR r125_8) .ret)))
def re125 : List AOp := [(.mv (.t 3))]
theorem cf125 : cFn Try.prog 125 = some (26, ac125, re125) := by kernel_rfl
def r126_0 := [zM 10 1, zC 11 .add 10 1, zM 8 11]
def r126_1 := [zM 12 8, zM 13 2, zB 14 .lss 12 13]
def r126_2 := [zM 17 8, zM 9 17]
def r126_3 := [zM 18 9, zM 19 1, zB 20 .gtr 18 19, zM 21 20, zH 22 3 21 true, zH 23 0 21 true, zH 24 9 21 true, zW 25 1 23 24 21 true, zU 26 25 21 true, zH 27 0 21 true, zH 28 9 21 true, zG 29 21 true (.bin .sub (.t 28) (zN 1)), zW 30 1 27 29 21 true, zU 31 30 21 true, zG 32 21 true (.call true (.t 22) [(.t 26), (.t 31)]), zG 33 21 true (.bin .lss (.t 32) (zN 0)), zP 34 21 33]
def r126_4 := [zM 37 0, zM 38 9, zM 39 0, zM 40 9, zC 41 .sub 40 1, zM 42 0, zM 43 9, zC 44 .sub 43 1, zI 45 1 42 44, zD 46 45, zM 47 0, zM 48 9, zI 49 1 47 48, zD 50 49, zI 51 1 37 38, zS (.store 1 (.t 51) (.t 46)), zI 52 1 39 41, zS (.store 1 (.t 52) (.t 50))]
def r126_5 := [zM 35 9, zC 36 .sub 35 1, zM 9 36]
def l126_0 : ACode := (.seq (.seq (zR r126_3) (.cond (.t 34) .skip (.exit 2))) (.seq (.block 3 (zR r126_4)) (zR r126_5)))
def r126_6 := [zM 15 8, zC 16 .add 15 1, zM 8 16]
def l126_1 : ACode := (.seq (.seq (zR r126_1) (.cond (.t 14) .skip (.exit 0))) (.seq (.block 1 (.seq (zR r126_2) (.block 2 (.loop l126_0)))) (zR r126_6)))
def ac126 : ACode := (.seq (zR r126_0) (.block 0 (.loop l126_1)))
def re126 : List AOp := []
theorem cf126 : cFn Try.prog 126 = some (53, ac126, re126) := by kernel_rfl
def r127_0 := [zM 25 2, zM 26 1, zB 27 .sub 25 26, zC 28 .eql 27 1]
def r127_1 := [zM 29 2, zM 10 29]
def r127_2 := [zM 30 3, zM 11 30]
def r127_3 := [zM 31 10, zM 32 11, zB 33 .lss 31 32]
def r127_4 := [zM 34 10, zM 35 11, zB 36 .add 34 35, zF 37 (.conv .u64 (.t 36)), zF 38 (.bin .shr (.t 37) (.c (.lit (.int .u64 1)))), zF 39 (.conv .i64 (.t 38)), zM 12 39]
def r127_5 := [zM 40 4, zM 41 0, zM 42 12, zI 43 1 41 42, zD 44 43, zM 45 0, zM 46 1, zI 47 1 45 46, zD 48 47, zF 49 (.call true (.t 40) [(.t 44), (.t 48)]), zC 50 .lss 49 0]
def r127_6 := [zM 51 12, zC 52 .add 51 1, zM 10 52]
def r127_7 := [zM 53 12, zM 11 53]
def l127_0 : ACode := (.seq (.seq (zR r127_3) (.cond (.t 33) .skip (.exit 0))) (.block 1 (.seq (zR r127_4) (.seq (zR r127_5) (.cond (.t 50) (zR r127_6) (zR r127_7))))))
def r127_8 := [zM 54 1, zM 13 54]
def r127_9 := [zM 55 13, zM 56 10, zC 57 .sub 56 1, zB 58 .lss 55 57]
def r127_10 := [zM 61 0, zM 62 13, zM 63 0, zM 64 13, zC 65 .add 64 1, zM 66 0, zM 67 13, zC 68 .add 67 1, zI 69 1 66 68, zD 70 69, zM 71 0, zM 72 13, zI 73 1 71 72, zD 74 73, zI 75 1 61 62, zS (.store 1 (.t 75) (.t 70)), zI 76 1 63 65, zS (.store 1 (.t 76) (.t 74))]
def r127_11 := [zM 59 13, zC 60 .add 59 1, zM 13 60]
def l127_1 : ACode := (.seq (.seq (zR r127_9) (.cond (.t 58) .skip (.exit 2))) (.seq (.block 3 (zR r127_10)) (zR r127_11)))
def r127_12 := [zM 77 3, zM 78 2, zB 79 .sub 77 78, zC 80 .eql 79 1]
def r127_13 := [zM 81 1, zM 14 81]
def r127_14 := [zM 82 2, zM 15 82]
def r127_15 := [zM 83 14, zM 84 15, zB 85 .lss 83 84]
def r127_16 := [zM 86 14, zM 87 15, zB 88 .add 86 87, zF 89 (.conv .u64 (.t 88)), zF 90 (.bin .shr (.t 89) (.c (.lit (.int .u64 1)))), zF 91 (.conv .i64 (.t 90)), zM 16 91]
def r127_17 := [zM 92 4, zM 93 0, zM 94 2, zI 95 1 93 94, zD 96 95, zM 97 0, zM 98 16, zI 99 1 97 98, zD 100 99, zF 101 (.call true (.t 92) [(.t 96), (.t 100)]), zC 102 .lss 101 0, zF 103 (.un .not (.t 102))]
def r127_18 := [zM 104 16, zC 105 .add 104 1, zM 14 105]
def r127_19 := [zM 106 16, zM 15 106]
def l127_2 : ACode := (.seq (.seq (zR r127_15) (.cond (.t 85) .skip (.exit 4))) (.block 5 (.seq (zR r127_16) (.seq (zR r127_17) (.cond (.t 103) (zR r127_18) (zR r127_19))))))
def r127_20 := [zM 107 2, zM 17 107]
def r127_21 := [zM 108 17, zM 109 14, zB 110 .gtr 108 109]
def r127_22 := [zM 113 0, zM 114 17, zM 115 0, zM 116 17, zC 117 .sub 116 1, zM 118 0, zM 119 17, zC 120 .sub 119 1, zI 121 1 118 120, zD 122 121, zM 123 0, zM 124 17, zI 125 1 123 124, zD 126 125, zI 127 1 113 114, zS (.store 1 (.t 127) (.t 122)), zI 128 1 115 117, zS (.store 1 (.t 128) (.t 126))]
def r127_23 := [zM 111 17, zC 112 .sub 111 1, zM 17 112]
def l127_3 : ACode := (.seq (.seq (zR r127_21) (.cond (.t 110) .skip (.exit 6))) (.seq (.block 7 (zR r127_22)) (zR r127_23)))
def r127_24 := [zM 129 1, zM 130 3, zB 131 .add 129 130, zF 132 (.conv .u64 (.t 131)), zF 133 (.bin .shr (.t 132) (.c (.lit (.int .u64 1)))), zF 134 (.conv .i64 (.t 133)), zM 18 134]
def r127_25 := [zM 135 18, zM 136 2, zB 137 .add 135 136, zM 19 137]
def r127_26 := [zK 20 0, zK 21 0]
def r127_27 := [zM 138 2, zM 139 18, zB 140 .gtr 138 139]
def r127_28 := [zM 141 19, zM 142 3, zB 143 .sub 141 142, zM 20 143]
def r127_29 := [zM 144 18, zM 21 144]
def r127_30 := [zM 145 1, zM 20 145]
def r127_31 := [zM 146 2, zM 21 146]
def r127_32 := [zM 147 19, zC 148 .sub 147 1, zM 22 148]
def r127_33 := [zM 149 20, zM 150 21, zB 151 .lss 149 150]
def r127_34 := [zM 152 20, zM 153 21, zB 154 .add 152 153, zF 155 (.conv .u64 (.t 154)), zF 156 (.bin .shr (.t 155) (.c (.lit (.int .u64 1)))), zF 157 (.conv .i64 (.t 156)), zM 23 157]
def r127_35 := [zM 158 4, zM 159 0, zM 160 22, zM 161 23, zB 162 .sub 160 161, zI 163 1 159 162, zD 164 163, zM 165 0, zM 166 23, zI 167 1 165 166, zD 168 167, zF 169 (.call true (.t 158) [(.t 164), (.t 168)]), zC 170 .lss 169 0, zF 171 (.un .not (.t 170))]
def r127_36 := [zM 172 23, zC 173 .add 172 1, zM 20 173]
def r127_37 := [zM 174 23, zM 21 174]
def l127_4 : ACode := (.seq (.seq (zR r127_33) (.cond (.t 151) .skip (.exit 8))) (.block 9 (.seq (zR r127_34) (.seq (zR r127_35) (.cond (.t 171) (zR r127_36) (zR r127_37))))))
def r127_38 := [zM 175 19, zM 176 20, zB 177 .sub 175 176, zM 24 177]
def r127_39 := [zM 178 20, zM 179 2, zB 180 .lss 178 179, zM 181 180, zH 182 2 181 true, zH 183 24 181 true, zY 184 .lss 182 183 181 true, zP 185 181 184]
def r127_40 := [zM 186 0, zM 187 20, zM 188 2, zM 189 24, zM 190 4, zL 191 false 128 [186, 187, 188, 189, 190]]
def r127_41 := [zM 192 1, zM 193 20, zB 194 .lss 192 193, zM 195 194, zH 196 20 195 true, zH 197 18 195 true, zY 198 .lss 196 197 195 true, zP 199 195 198]
def r127_42 := [zM 200 0, zM 201 1, zM 202 20, zM 203 18, zM 204 4, zL 205 false 127 [200, 201, 202, 203, 204]]
def r127_43 := [zM 206 18, zM 207 24, zB 208 .lss 206 207, zM 209 208, zH 210 24 209 true, zH 211 3 209 true, zY 212 .lss 210 211 209 true, zP 213 209 212]
def r127_44 := [zM 214 0, zM 215 18, zM 216 24, zM 217 3, zM 218 4, zL 219 false 127 [214, 215, 216, 217, 218]]
def ac127 : ACode := (.seq (.seq (zR r127_0) (.cond (.t 28) (.seq (zR r127_1) (.seq (zR r127_2) (.seq (.block 0 (.loop l127_0)) (.seq (.seq (zR r127_8) (.block 2 (.loop l127_1))) .ret)))) .skip)) (.seq (.seq (zR r127_12) (.cond (.t 80) (.seq (zR r127_13) (.seq (zR r127_14) (.seq (.block 4 (.loop l127_2)) (.seq (.seq (zR r127_20) (.block 6 (.loop l127_3))) .ret)))) .skip)) (.seq (zR r127_24) (.seq (zR r127_25) (.seq (zR r127_26) (.seq (.seq (zR r127_27) (.cond (.t 140) (.seq (zR r127_28) (zR r127_29)) (.seq (zR r127_30) (zR r127_31)))) (.seq (zR r127_32) (.seq (.block 8 (.loop l127_4)) (.seq (zR r127_38) (.seq (.seq (zR r127_39) (.cond (.t 185) (zR r127_40) .skip)) (.seq (.seq (zR r127_41) (.cond (.t 199) (zR r127_42) .skip)) (.seq (zR r127_43) (.cond (.t 213) (zR r127_44) .skip)))))))))))))
def re127 : List AOp := []
theorem cf127 : cFn Try.prog 127 = some (220, ac127, re127) := by kernel_rfl
def r128_0 := [zM 12 2, zM 13 1, zB 14 .sub 12 13, zM 10 14]
def r128_1 := [zM 15 3, zM 16 2, zB 17 .sub 15 16, zM 11 17]
def r128_2 := [zM 18 10, zM 19 11, zB 20 .neq 18 19]
def r128_3 := [zM 21 10, zM 22 11, zB 23 .gtr 21 22]
def r128_4 := [zM 24 0, zM 25 2, zM 26 10, zB 27 .sub 25 26, zM 28 2, zM 29 11, zM 30 4, zL 31 false 129 [24, 27, 28, 29, 30]]
def r128_5 := [zM 32 10, zM 33 11, zB 34 .sub 32 33, zM 10 34]
def r128_6 := [zM 35 0, zM 36 2, zM 37 10, zB 38 .sub 36 37, zM 39 2, zM 40 11, zB 41 .add 39 40, zM 42 10, zB 43 .sub 41 42, zM 44 10, zM 45 4, zL 46 false 129 [35, 38, 43, 44, 45]]
def r128_7 := [zM 47 11, zM 48 10, zB 49 .sub 47 48, zM 11 49]
def l128_0 : ACode := (.seq (.seq (zR r128_2) (.cond (.t 20) .skip (.exit 0))) (.block 1 (.seq (zR r128_3) (.cond (.t 23) (.seq (zR r128_4) (zR r128_5)) (.seq (zR r128_6) (zR r128_7))))))
def r128_8 := [zM 50 0, zM 51 2, zM 52 10, zB 53 .sub 51 52, zM 54 2, zM 55 10, zM 56 4, zL 57 false 129 [50, 53, 54, 55, 56]]
def ac128 : ACode := (.seq (zR r128_0) (.seq (zR r128_1) (.seq (.block 0 (.loop l128_0)) (zR r128_8))))
def re128 : List AOp := []
theorem cf128 : cFn Try.prog 128 = some (58, ac128, re128) := by kernel_rfl
def r129_0 := [zK 10 0]
def r129_1 := [zM 11 10, zM 12 3, zB 13 .lss 11 12]
def r129_2 := [zM 16 0, zM 17 1, zM 18 10, zB 19 .add 17 18, zM 20 0, zM 21 2, zM 22 10, zB 23 .add 21 22, zM 24 0, zM 25 2, zM 26 10, zB 27 .add 25 26, zI 28 1 24 27, zD 29 28, zM 30 0, zM 31 1, zM 32 10, zB 33 .add 31 32, zI 34 1 30 33, zD 35 34, zI 36 1 16 19, zS (.store 1 (.t 36) (.t 29)), zI 37 1 20 23, zS (.store 1 (.t 37) (.t 35))]
def r129_3 := [zM 14 10, zC 15 .add 14 1, zM 10 15]
def l129_0 : ACode := (.seq (.seq (zR r129_1) (.cond (.t 13) .skip (.exit 0))) (.seq (.block 1 (zR r129_2)) (zR r129_3)))
def ac129 : ACode := (.seq (zR r129_0) (.block 0 (.loop l129_0)))
def re129 : List AOp := []
theorem cf129 : cFn Try.prog 129 = some (38, ac129, re129) := by kernel_rfl
def r80_0 := [zO 6 false]
def r80_1 := [zM 9 0, zM 10 1, zM 11 2, zL 12 false 107 [9, 10, 11], zF 13 (.un .not (.t 12))]
def r80_2 := [zO 6 false]
def r80_3 := [zM 14 0, zM 15 1, zM 16 2, zL 17 false 108 [14, 15, 16], zF 18 (.mop .range [(.t 17)])]
def r80_4 := [zF 19 (.mop .next [(.t 18)]), zX 20 19 0]
def r80_5 := [zF 21 (.mop .entry [(.t 18)]), zX 22 21 0, zX 23 21 1, zF 7 (.alloc [(.lit (.int .i64 0)), (.lit (.int .i64 0))]), zF 8 (.alloc [(.lit (.int .i64 0))]), zS (.store 2 (.t 7) (.t 22)), zS (.store 1 (.t 8) (.t 23))]
def r80_6 := [zM 24 0, zJ 25 24, zA 26 15 25, zD 27 26, zV 28 true 2 7, zM 29 0, zJ 30 29, zA 31 15 30, zD 32 31, zV 33 true 2 7, zF 34 (.mop (.look true [(0, 0), (1, 0)] 2 (.agg [(.lit (.int .i64 0))])) [(.t 32), (.t 33)]), zF 35 (.field false 0 1 (.t 34)), zA 36 0 8, zD 37 36, zB 38 .add 35 37, zF 39 (.build [(.lit (.int .i64 0))] [(0, (1, (.t 38)))]), zS (.mop (.put true [(0, 0), (1, 0)] 2) [(.t 27), (.t 28), (.t 39)])]
def l80_0 : ACode := (.seq (zR r80_4) (.seq (.cond (.t 20) .skip (.exit 0)) (.block 1 (.seq (zR r80_5) (zR r80_6)))))
def r80_7 := [zO 6 true]
def ac80 : ACode := (.seq (zR r80_0) (.seq (.seq (zR r80_1) (.cond (.t 13) (.seq (zR r80_2) .ret) .skip)) (.seq (.seq (zR r80_3) (.block 0 (.loop l80_0))) (.seq (zR r80_7) .ret))))
def re80 : List AOp := [(.mv (.t 6))]
theorem cf80 : cFn Try.prog 80 = some (40, ac80, re80) := by kernel_rfl
def r106_0 := [zF 1 (.box (.t 0)), zF 2 (.mv (.c (.lit (.pointer none)))), zK 3 0]
def r106_1 := [zV 5 true 13 1, zL 6 false 42 [5], zM 4 6]
def r106_2 := [zM 7 4, zC 8 .neq 7 0]
def r106_3 := [zM 9 4, zF 2 (.mv (.c (.lit (.pointer none)))), zM 3 9]
def r106_4 := [zV 10 true 13 1, zF 11 (.build [] []), zF 12 (.mkbf 122 [(.t 11)]), zF 13 (.mop .mk []), zF 14 (.build [(.lit (.int .i64 0)), (.lit (.int .i64 0)), (.lit (.int .i64 0)), (.lit (.int .i64 0)), (.lit (.int .i64 0)), (.lit (.int .i64 0)), (.lit (.int .i64 0)), (.lit (.int .i64 0)), (.lit (.int .i64 0)), (.lit (.int .i64 0)), (.lit (.int .i64 0)), (.lit (.int .i64 0)), (.lit (.int .i64 0)), (.lit .nilFunc), (.lit (.bool false)), (.lit (.map none))] [(0, (13, (.t 10))), (13, (1, (.t 12))), (15, (1, (.t 13)))]), zF 15 (.box (.t 14)), zM 2 15, zK 3 0]
def ac106 : ACode := (.seq (zR r106_0) (.seq (.seq (zR r106_1) (.seq (zR r106_2) (.cond (.t 8) (.seq (zR r106_3) .ret) .skip))) (.seq (zR r106_4) .ret)))
def re106 : List AOp := [(.mv (.t 2)), (.mv (.t 3))]
theorem cf106 : cFn Try.prog 106 = some (16, ac106, re106) := by kernel_rfl
def r107_0 := [zO 6 false]
def r107_1 := [zM 9 0, zF 10 (.peq false (.t 9) (.c (.lit (.pointer none)))), zM 11 10, zH 12 1 11 false, zG 13 11 false (.bin .lss (.t 12) (zN 0)), zQ 14 11 13, zM 15 14, zH 16 1 15 false, zG 17 15 false (.bin .geq (.t 16) (zN 4)), zQ 18 15 17, zM 19 18, zH 20 0 19 false, zG 21 19 false (.nilchk (.t 20)), zG 22 19 false (.fieldAddr 14 (.t 21)), zU 23 22 19 false, zG 24 19 false (.un .not (.t 23)), zH 25 24 19 false, zH 26 2 25 true, zG 27 25 true (.bin .lss (.t 26) (zN 0)), zH 28 27 25 true, zH 29 2 28 false, zG 30 28 false (.bin .gtr (.t 29) (zN 65536)), zG 31 25 true (.pick (.t 28) (.c (.lit (.bool true))) (.t 30)), zG 32 19 false (.pick (.t 25) (.t 31) (.c (.lit (.bool false)))), zQ 33 19 32]
def r107_2 := [zO 6 false]
def r107_3 := [zM 34 0, zM 35 1, zM 36 2, zL 37 false 108 [34, 35, 36], zF 38 (.mop .range [(.t 37)])]
def r107_4 := [zF 39 (.mop .next [(.t 38)]), zX 40 39 0]
def r107_5 := [zF 41 (.mop .entry [(.t 38)]), zX 42 41 0, zX 43 41 1, zF 7 (.alloc [(.lit (.int .i64 0)), (.lit (.int .i64 0))]), zF 8 (.alloc [(.lit (.int .i64 0))]), zS (.store 2 (.t 7) (.t 42)), zS (.store 1 (.t 8) (.t 43))]
def r107_6 := [zM 44 0, zJ 45 44, zA 46 15 45, zD 47 46, zV 48 true 2 7, zF 49 (.mop (.look true [(0, 0), (1, 0)] 2 (.agg [(.lit (.int .i64 0))])) [(.t 47), (.t 48)]), zF 50 (.field false 0 1 (.t 49)), zA 51 0 8, zD 52 51, zB 53 .add 50 52, zM 54 0, zM 55 1, zJ 56 54, zA 57 0 56, zA 58 0 57, zF 59 (.idxAddr (some 4) 1 (.t 58) (.t 55)), zD 60 59, zB 61 .gtr 53 60]
def r107_7 := [zO 6 false]
def l107_0 : ACode := (.seq (zR r107_4) (.seq (.cond (.t 40) .skip (.exit 0)) (.block 1 (.seq (zR r107_5) (.seq (zR r107_6) (.cond (.t 61) (.seq (zR r107_7) .ret) .skip))))))
def r107_8 := [zO 6 true]
def ac107 : ACode := (.seq (zR r107_0) (.seq (.seq (zR r107_1) (.cond (.t 33) (.seq (zR r107_2) .ret) .skip)) (.seq (.seq (zR r107_3) (.block 0 (.loop l107_0))) (.seq (zR r107_8) .ret))))
def re107 : List AOp := [(.mv (.t 6))]
theorem cf107 : cFn Try.prog 107 = some (62, ac107, re107) := by kernel_rfl
def r108_0 := [zF 6 (.mv (.c (.lit (.map none))))]
def r108_1 := [zF 11 (.mop .mk []), zM 7 11]
def r108_2 := [zM 12 0, zJ 13 12, zA 14 13 13, zD 15 14, zM 16 2, zF 17 (.call false (.t 15) [(.t 16)]), zM 8 17]
def r108_3 := [zM 18 0, zM 19 1, zJ 20 18, zA 21 0 20, zA 22 8 21, zF 23 (.idxAddr (some 4) 1 (.t 22) (.t 19)), zD 24 23, zK 25 0]
def r108_4 := [zB 26 .lss 25 24]
def r108_5 := [zM 27 25, zM 9 27]
def r108_6 := [zM 28 1, zM 29 0, zJ 30 29, zA 31 13 30, zD 32 31, zM 33 8, zM 34 9, zB 35 .add 33 34, zF 36 (.call false (.t 32) [(.t 35)]), zF 37 (.build [(.lit (.int .i64 0)), (.lit (.int .i64 0))] [(0, (1, (.t 28))), (1, (1, (.t 36)))]), zF 10 (.alloc [(.lit (.int .i64 0)), (.lit (.int .i64 0))]), zS (.store 2 (.t 10) (.t 37))]
def r108_7 := [zM 38 7, zV 39 true 2 10, zM 40 7, zV 41 true 2 10, zF 42 (.mop (.look true [(0, 0), (1, 0)] 2 (.agg [(.lit (.int .i64 0))])) [(.t 40), (.t 41)]), zF 43 (.field false 0 1 (.t 42)), zC 44 .add 43 1, zF 45 (.build [(.lit (.int .i64 0))] [(0, (1, (.t 44)))]), zS (.mop (.put true [(0, 0), (1, 0)] 2) [(.t 38), (.t 39), (.t 45)])]
def r108_8 := [zC 46 .add 25 1, zM 25 46]
def l108_0 : ACode := (.seq (zR r108_4) (.seq (.cond (.t 26) .skip (.exit 0)) (.seq (.block 1 (.seq (zR r108_5) (.seq (zR r108_6) (zR r108_7)))) (zR r108_8))))
def r108_9 := [zM 47 7, zM 6 47]
def ac108 : ACode := (.seq (zR r108_0) (.seq (zR r108_1) (.seq (zR r108_2) (.seq (.seq (zR r108_3) (.block 0 (.loop l108_0))) (.seq (zR r108_9) .ret)))))
def re108 : List AOp := [(.mv (.t 6))]
theorem cf108 : cFn Try.prog 108 = some (48, ac108, re108) := by kernel_rfl
attribute [push_cast] r13_0 r13_1 r13_2 r13_3 r13_4 r13_5 r13_6 r13_7 r13_8 r13_9 r13_10 r13_11 r13_12 r13_13 r13_14 r13_15 r13_16 r13_17 r13_18 r13_19 r13_20 r13_21 r13_22 r13_23
   r13_24 r13_25 r13_26 r13_27 r13_28 r13_29 r14_0 r14_1 r14_2 r14_3 r14_4 r14_5 r14_6 r14_7 r14_8 r14_9 r14_10 r14_11 r14_12 r14_13 r14_14 r14_15 r14_16 r14_17 r14_18 r14_19 r14_20
   r14_21 r14_22 r14_23 r34_0 r34_1 r34_2 r34_3 r34_4 r34_5 r34_6 r34_7 r34_8 r36_0 r36_1 r36_2 r36_3 r36_4 r36_5 r36_6 r36_7 r36_8 r36_9 r36_10 r36_11 r36_12 r36_13 r36_14 r36_15
   r36_16 r36_17 r36_18 r36_19 r36_20 r36_21 r38_0 r38_1 r38_2 r38_3 r38_4 r40_0 r40_1 r40_2 r40_3 r40_4 r40_5 r40_6 r41_0 r41_1 r41_2 r41_3 r41_4 r42_0 r42_1 r42_2 r42_3 r42_4
   r42_5 r42_6 r42_7 r42_8 r42_9 r42_10 r43_0 r43_1 r43_2 r43_3 r43_4 r43_5 r43_6 r43_7 r44_0 r44_1 r44_2 r44_3 r44_4 r44_5 r44_6 r44_7 r44_8 r44_9 r44_10 r44_11 r44_12 r44_13
   r44_14 r44_15 r44_16 r44_17 r44_18 r44_19 r44_20 r46_0 r46_1 r46_2 r46_3 r46_4 r46_5 r46_6 r46_7 r46_8 r46_9 r46_10 r46_11 r46_12 r46_13 r46_14 r46_15 r46_16 r46_17 r46_18 r48_0
   r48_1 r48_2 r48_3 r48_4 r48_5 r48_6 r48_7 r48_8 r52_0 r52_1 r52_2 r52_3 r52_4 r54_0 r54_1 r54_2 r54_3 r54_4 r54_5 r54_6 r54_7 r54_8 r54_9 r54_10 r54_11 r64_0 r64_1 r64_2 r64_3
   r64_4 r64_5 r64_6 r64_7 r64_8 r64_9 r64_10 r64_11 r64_12 r65_0 r65_1 r65_2 r65_3 r65_4 r65_5 r65_6 r65_7 r65_8 r65_9 r65_10 r65_11 r66_0 r66_1 r66_2 r66_3 r66_4 r66_5 r66_6 r66_7
   r66_8 r66_9 r66_10 r66_11 r66_12 r66_13 r73_0 r73_1 r73_2 r73_3 r73_4 r73_5 r73_6 r73_7 r73_8 r74_0 r74_1 r75_0 r75_1 r75_2 r75_3 r75_4 r76_0 r76_1 r77_0 r77_1 r77_2 r77_3 r77_4
   r77_5 r77_6 r77_7 r78_0 r78_1 r78_2 r78_3 r78_4 r78_5 r78_6 r78_7 r78_8 r78_9 r78_10 r78_11 r78_12 r78_13 r78_14 r79_0 r79_1 r79_2 r79_3 r79_4 r79_5 r79_6 r79_7 r79_8 r81_0 r81_1
   r81_2 r87_0 r87_1 r87_2 r87_3 r87_4 r87_5 r87_6 r87_7 r87_8 r87_9 r87_10 r87_11 r87_12 r87_13 r96_0 r96_1 r96_2 r96_3 r96_4 r96_5 r96_6 r96_7 r97_0 r97_1 r97_2 r97_3 r97_4 r97_5
   r98_0 r98_1 r98_2 r99_0 r99_1 r99_2 r99_3 r99_4 r99_5 r99_6 r99_7 r99_8 r99_9 r99_10 r99_11 r99_12 r99_13 r100_0 r100_1 r103_0 r104_0 r104_1 r105_0 r105_1 r105_2 r110_0 r110_1
   r117_0 r117_1 r117_2 r117_3 r117_4 r117_5 r117_6 r117_7 r118_0 r118_1 r119_0 r119_1 r119_2 r119_3 r119_4 r119_5 r120_0 r120_1 r120_2 r120_3 r120_4 r120_5 r120_6 r120_7 r120_8
   r120_9 r120_10 r120_11 r120_12 r120_13 r120_14 r120_15 r120_16 r121_0 r121_1 r122_0 r122_1 r123_0 r123_1 r123_2 r124_0 r124_1 r125_0 r125_1 r125_2 r125_3 r125_4 r125_5 r125_6
   r125_7 r125_8 r126_0 r126_1 r126_2 r126_3 r126_4 r126_5 r126_6 r127_0 r127_1 r127_2 r127_3 r127_4 r127_5 r127_6 r127_7 r127_8 r127_9 r127_10 r127_11 r127_12 r127_13 r127_14
   r127_15 r127_16 r127_17 r127_18 r127_19 r127_20 r127_21 r127_22 r127_23 r127_24 r127_25 r127_26 r127_27 r127_28 r127_29 r127_30 r127_31 r127_32 r127_33 r127_34 r127_35 r127_36
   r127_37 r127_38 r127_39 r127_40 r127_41 r127_42 r127_43 r127_44 r128_0 r128_1 r128_2 r128_3 r128_4 r128_5 r128_6 r128_7 r128_8 r129_0 r129_1 r129_2 r129_3 r80_0 r80_1 r80_2 r80_3
   r80_4 r80_5 r80_6 r80_7 r106_0 r106_1 r106_2 r106_3 r106_4 r107_0 r107_1 r107_2 r107_3 r107_4 r107_5 r107_6 r107_7 r107_8 r108_0 r108_1 r108_2 r108_3 r108_4 r108_5 r108_6 r108_7
   r108_8 r108_9
end Go.Proofs.Hx
